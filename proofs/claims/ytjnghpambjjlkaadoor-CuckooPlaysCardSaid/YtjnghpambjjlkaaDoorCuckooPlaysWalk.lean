/-
  CuckooPlays: the walk.
-/
import Derived.Test.YtjnghpambjjlkaaDoorCuckooPlaysOps
import Derived.Test.YtjnghpambjjlkaaDoorSameInts
import Derived.Test.YtjnghpambjjlkaaDoorIn
import Derived.Test.YtjnghpambjjlkaaDoorLift
import Derived.Deep.RegionWith
import Derived.Deep.RegionHeld3
namespace Go.Proofs.YtjnghpambjjlkaaDoor
open Go.RowKit

def PlaysRel (w : World) (base b bx n : Nat) (i : Value) (wr : World) : Prop :=
  ∃ (k : Nat) (c : List Int) (m : Int) (gA cA gB cB : Nat), k ≤ n ∧ i = .int .i64 k ∧ NAt wr b c m ∧ NInv c m ∧ Blk wr bx 35 [.slice (some ⟨gA, 0, none⟩) 11 cA, .slice (some ⟨gB, 0, none⟩) 11 cB] ∧ KN wr base c gA cA gB cB ∧ Below w.heap.size w wr

set_option maxHeartbeats 4000000 in
set_option maxRecDepth 100000 in
theorem cuckooPlays_walk (a0 : Option Addr) (c0 : Nat) (l0 : List Int) (x1 : Int) (w : World) (h0 : IntsIn w w.heap.size a0 l0) (e0 : ∀ y ∈ l0, I64 y) (_ : Reached l0) (h1 : I64 x1) (hg : Handle w) :
    Calls Tryd.prog 4 #[.slice a0 l0.length c0, .int .i64 x1] w fun e w' => e = .returned (.bool true) ∧ Below w.heap.size w w' := by
  have h1 := h1.bd
  have HE := Lib.hid e0; have HX1 := Lib.hid h1; have H0 := Lib.hid h0; have HG := Lib.hid hg; clear e0 h1 h0 hg
  have hw0 := HG.out.lt
  obtain ⟨n, hn⟩ : ∃ n, n = l0.length := ⟨_, rfl⟩
  rw [← hn]
  have HN := Lib.hid hn.symm; clear hn
  go_enter Tryd.func4, Tryd.ntmps4
  go_wp2_with fail
  refine (nestsNew _).mono ?_
  rintro e w1 ⟨rfl, hs1, hb1⟩
  have hbl1 := hs1.top.lt
  have HS1 := Lib.hid hs1; have HB1 := Lib.hid hb1; clear hs1 hb1
  obtain ⟨b, hb⟩ : ∃ b, b = w.heap.size := ⟨_, rfl⟩
  rw [← hb] at HS1 hbl1 ⊢
  have hwb : w.heap.size ≤ b := by omega
  clear hb
  go_wp2_with fail
  refine (kNewNests _).mono ?_
  rintro e w2 ⟨gA, cA, gB, cB, rfl, hkn, hb2⟩
  have HKN := Lib.hid hkn; have HB2 := Lib.hid hb2; clear hkn hb2
  have HS2 := Lib.hid (HS1.out.keep (Keep.of_below (F := []) HB2.out (Nat.le_refl _)) (by simp))
  obtain ⟨base, hbase⟩ : ∃ base, base = w1.heap.size := ⟨_, rfl⟩
  rw [← hbase] at HKN
  have hbb : b < base := by omega
  have hbw2 : base ≤ w2.heap.size := by have := HB2.out.size; omega
  have HBW : Hid (Below w.heap.size w w2) := Lib.hid (HB1.out.trans (HB2.out.mono HB1.out.size))
  clear hbase hbl1
  go_wp2
  obtain ⟨bx, hbx⟩ : ∃ bx, bx = w2.heap.size := ⟨_, rfl⟩
  have HBX := Lib.hid (Blk.new w2 35 [.slice (some ⟨gA, 0, none⟩) 11 cA, .slice (some ⟨gB, 0, none⟩) 11 cB])
  rw [← hbx] at HBX ⊢
  have hbxb : base ≤ bx := by omega
  have HBXW := Lib.hid hbx
  clear hbx
  go_loopw [7, 8, 9, 10, 11] (fun i _ _ _ _ wr => PlaysRel w base b bx n i wr) (fun i _ _ _ _ _ => n - (intOf i).toNat)
  case atStart => exact ⟨0, _, _, gA, cA, gB, cB, by omega, rfl, HS2.out.keep ((Keep.refl [] w2).alloc _) (by simp), n0_inv, HBX.out, HKN.out.keepF ((Keep.refl [] w2).alloc _) (by simp), HBW.out.alloc HBW.out.size _⟩
  case round =>
    obtain ⟨k, c, m, gA, cA, gB, cB, hk, rfl, hs, hinv, hbx, hkn, hbel⟩ := hrel
    have HS := Lib.hid hs; have HI := Lib.hid hinv; have HBX' := Lib.hid hbx; have HKN' := Lib.hid hkn; have HB := Lib.hid hbel
    have hx0 := hbx.cell_ (i := 0) rfl
    have hx1 := hbx.cell_ (i := 1) rfl
    have hxf0 := hbx.free 0
    have hxf1 := hbx.free 1
    have hbxl := hbx.lt
    have hwr := hbel.size
    clear hs hinv hbx hkn hbel
    have HGR := Lib.hid (HG.out.below HB.out hw0)
    by_cases hex : k < n ∧ k < 60
    · obtain ⟨hlt, h60⟩ := hex
      have hlti : (k : Int) < (n : Int) := by omega
      have h60i : (k : Int) < 60 := by omega
      have hk0 : (0 : Int) ≤ (k : Int) := by omega
      have hkl : k < l0.length := by rw [HN.out]; exact hlt
      obtain ⟨bs, os, rfl, hbs, hcs⟩ := H0.out.at_ hkl
      have hbd := (HE.out _ (List.getElem_mem hkl)).bd
      obtain ⟨x, hx⟩ : ∃ x, x = l0[k] := ⟨_, rfl⟩
      rw [← hx] at hcs hbd
      obtain ⟨hbd0, hbd1⟩ := hbd
      have hcy : ∀ wx, Below w.heap.size w wx → wx.cell? ⟨bs, os + k, none⟩ = some (.int .i64 x) := fun wx hk => (hk.cell (p := ⟨bs, os + k, none⟩) hbs).trans hcs
      have HCY := Lib.hid hcy
      have hcr := hcy _ HB.out
      clear hx hcs hcy
      have hbs1 : bs < wr.heap.size := by omega
      have hbs2 : bs ≠ wr.heap.size := by omega
      have hbx2 : bx ≠ wr.heap.size := by omega
      by_cases hx0' : 0 ≤ x
      · have HBD : Hid (-9223372036854775808 ≤ x ∧ x ≤ 9223372036854775807) := Lib.hid ⟨hbd0, hbd1⟩

        go_wp2
        have hxk : ∀ wx, Keep [] wr wx → wx.cell? ⟨bx, 0, none⟩ = some (.slice (some ⟨gA, 0, none⟩) 11 cA) ∧ wx.cell? ⟨bx, 1, none⟩ = some (.slice (some ⟨gB, 0, none⟩) 11 cB) ∧ wx.cell? ⟨bs, os + k, none⟩ = some (.int .i64 x) := fun wx hk =>
          ⟨(hk.cell (p := ⟨bx, 0, none⟩) hbxl (by simp)).trans hx0, (hk.cell (p := ⟨bx, 1, none⟩) hbxl (by simp)).trans hx1, (hk.cell (p := ⟨bs, os + k, none⟩) hbs1 (by simp)).trans hcr⟩
        have HXK := Lib.hid hxk; clear hxk
        go_region_held3 (fun w' => w'.cell? ⟨bx, 0, none⟩ = some (.slice (some ⟨gA, 0, none⟩) 11 cA) ∧ w'.cell? ⟨bx, 1, none⟩ = some (.slice (some ⟨gB, 0, none⟩) 11 cB) ∧ w'.cell? ⟨bs, os + k, none⟩ = some (.int .i64 x))
          (first | exact HXK.out _ ((Keep.refl _ _).drew) | exact HXK.out _ (((Keep.refl _ _).drew).alloc _) | exact HXK.out _ (((Keep.refl _ _).alloc _).drew) | exact HXK.out _ HK3.out | exact HXK.out _ (HK3.out.alloc _) | exact HXK.out _ ((HK3.out.set (p := ⟨wr.heap.size, 0, none⟩) (fun h => absurd h (Nat.lt_irrefl _)) _).set (p := ⟨wr.heap.size, 1, none⟩) (fun h => absurd h (Nat.lt_irrefl _)) _) | fail)
          (first
          | (go_at_call 16; refine (kAddNest gA cA gB cB base c m x _ ?_ HI.out ?_ HBD.out).mono ?_; exact HKN'.out.keepF (F := []) (by first | exact (Keep.refl _ _).drew | exact ((Keep.refl _ _).drew).alloc _ | exact ((Keep.refl _ _).alloc _).drew) (by simp); (simp; omega); rintro e w3 ⟨gA', cA', gB', cB', rfl, hkn3, hb3⟩; (try (have hyb := ((Blk.new wr 35 [.slice none 0 0, .slice none 0 0]).drew).below hb3 (by simp); have hy0 := hyb.cell_ (i := 0) rfl; have hy1 := hyb.cell_ (i := 1) rfl; have hyf0 := hyb.free 0; have hyf1 := hyb.free 1; have HYB := Lib.hid hyb; clear hyb)); have HKN3 := Lib.hid hkn3; have HB3 := Lib.hid hb3; have HK3 : Hid (Keep [] wr w3) := (by first | exact Lib.hid (((Keep.refl [] wr).drew).trans (Keep.of_below hb3 (Nat.le_refl _))) | exact Lib.hid ((((Keep.refl [] wr).drew).alloc _).trans (Keep.of_below hb3 (Nat.le_refl _)))); clear hkn3 hb3))
        all_goals
          first
            | (obtain ⟨wz, e1⟩ : ∃ wz, wz = (w3.setCell ⟨wr.heap.size, 0, none⟩ (.slice (some ⟨gA', 0, none⟩) 11 cA')).setCell ⟨wr.heap.size, 1, none⟩ (.slice (some ⟨gB', 0, none⟩) 11 cB') := ⟨_, rfl⟩
               rw [← e1]
               have hyz : Blk wz wr.heap.size 35 [.slice (some ⟨gA', 0, none⟩) 11 cA', .slice (some ⟨gB', 0, none⟩) 11 cB'] := by rw [e1]; exact (HYB.out.set 0 (.slice (some ⟨gA', 0, none⟩) 11 cA')).set 1 (.slice (some ⟨gB', 0, none⟩) 11 cB')
               have hkz : Keep [] wr wz := by rw [e1]; exact (HK3.out.set (p := ⟨wr.heap.size, 0, none⟩) (fun h => absurd h (Nat.lt_irrefl _)) _).set (p := ⟨wr.heap.size, 1, none⟩) (fun h => absurd h (Nat.lt_irrefl _)) _
               have hks : Keep [wr.heap.size] w3 wz := by rw [e1]; exact ((Keep.refl _ w3).set (fun _ => by simp) _).set (fun _ => by simp) _
               have hknz : KN wz base (addR c x) gA' cA' gB' cB' := ⟨HKN3.out.A.keepN hks HKN3.out.gA_lt.1 (by simpa using (HKN3.out.far HYB.out).1), HKN3.out.B.keepN hks HKN3.out.gB_lt.1 (by simpa using (HKN3.out.far HYB.out).2), HKN3.out.len⟩
               obtain ⟨yb, e2⟩ : ∃ yb, yb = wr.heap.size := ⟨_, rfl⟩
               rw [← e2] at hyz ⊢
               clear e1 e2 hks hy0 hy1 hyf0 hyf1)
            | (obtain ⟨wz, e1⟩ : ∃ wz, wz = w3.alloc (.cells #[.slice (some ⟨gA', 0, none⟩) 11 cA', .slice (some ⟨gB', 0, none⟩) 11 cB'] 35) := ⟨_, rfl⟩
               rw [← e1]
               have hyz : Blk wz w3.heap.size 35 [.slice (some ⟨gA', 0, none⟩) 11 cA', .slice (some ⟨gB', 0, none⟩) 11 cB'] := by rw [e1]; exact Blk.new w3 35 [.slice (some ⟨gA', 0, none⟩) 11 cA', .slice (some ⟨gB', 0, none⟩) 11 cB']
               have hkz : Keep [] wr wz := by rw [e1]; exact HK3.out.alloc _
               have hknz : KN wz base (addR c x) gA' cA' gB' cB' := by rw [e1]; exact HKN3.out.keepF ((Keep.refl [] w3).alloc _) (by simp)
               obtain ⟨yb, e2⟩ : ∃ yb, yb = w3.heap.size := ⟨_, rfl⟩
               rw [← e2] at hyz ⊢
               clear e1 e2)
          have HYZ := Lib.hid hyz; have HKZ := Lib.hid hkz; have HKNZ := Lib.hid hknz
          have hyz0 := hyz.cell_ (i := 0) rfl
          have hyz1 := hyz.cell_ (i := 1) rfl
          have hbxz := HBX'.out.keep hkz (by simp)
          have HBXZ := Lib.hid hbxz
          have hsz := HS.out.keep hkz (by simp)
          have HSZ := Lib.hid hsz
          have hcrz := (hkz.cell (p := ⟨bs, os + k, none⟩) hbs1 (by simp)).trans hcr
          clear hx0 hx1 hxf0 hxf1
          have hx0 := hbxz.cell_ (i := 0) rfl
          have hx1 := hbxz.cell_ (i := 1) rfl
          have hxf0 := hbxz.free 0
          have hxf1 := hbxz.free 1
          have hbbx : b ≠ bx := by omega
          clear hyz hkz hknz hbxz hsz
          go_wp2_with fail
          have hw5 : ∃ w5, w5 = (wz.setCell ⟨bx, 0, none⟩ (.slice (some ⟨gA', 0, none⟩) 11 cA')).setCell ⟨bx, 1, none⟩ (.slice (some ⟨gB', 0, none⟩) 11 cB') := ⟨_, rfl⟩
          obtain ⟨w5, e5⟩ := hw5
          have hk5 : Keep [bx] wz w5 := by rw [e5]; exact ((Keep.refl _ wz).set (fun _ => by simp) _).set (fun _ => by simp) _
          have hbx5 : Blk w5 bx 35 [.slice (some ⟨gA', 0, none⟩) 11 cA', .slice (some ⟨gB', 0, none⟩) 11 cB'] := by rw [e5]; exact (HBXZ.out.set 0 (.slice (some ⟨gA', 0, none⟩) 11 cA')).set 1 (.slice (some ⟨gB', 0, none⟩) 11 cB')
          have hfar := HKNZ.out.far HBXZ.out
          have hkn5 : KN w5 base (addR c x) gA' cA' gB' cB' := ⟨HKNZ.out.A.keepN hk5 HKNZ.out.gA_lt.1 (by simpa using hfar.1), HKNZ.out.B.keepN hk5 HKNZ.out.gB_lt.1 (by simpa using hfar.2), HKNZ.out.len⟩
          have hs5 := HSZ.out.keep hk5 (by simpa using hbbx)
          have hbel5 : Below w.heap.size w w5 := (HB.out.trans (HKZ.out.below HB.out.size (by simp))).trans (hk5.below (by have := HKZ.out.size; omega) (by simp; omega))
          rw [← e5]
          have HBX5 := Lib.hid hbx5; have HKN5 := Lib.hid hkn5; have HS5 := Lib.hid hs5; have HBEL5 := Lib.hid hbel5
          clear e5 hk5 hbx5 hfar hkn5 hs5 hbel5 hx0 hx1 hxf0 hxf1 hyz0 hyz1 hcrz hcr
          have hcr := HCY.out _ HBEL5.out
          refine (nAdd_all b c m x _ ?_ HI.out).mono ?_
          · exact HS5.out
          rintro e w6 ⟨v6, m6, rfl, her, hs6, hi6, hk6⟩
          have hbel6 : Below w.heap.size w w6 := HBEL5.out.trans (hk6.below HBEL5.out.size (by simpa using hwb))
          have hbx6 := HBX5.out.keep hk6 (by simpa using hbbx.symm)
          have hkn6 := HKN5.out.keepF hk6 (by simpa using hbb)
          have HER := Lib.hid her; have HS6 := Lib.hid hs6; have HI6 := Lib.hid hi6; have HBEL6 := Lib.hid hbel6; have HBX6 := Lib.hid hbx6; have HKN6 := Lib.hid hkn6
          clear her hs6 hi6 hk6 hbel6 hbx6 hkn6 hcr
          go_wp2_with fail
          refine (eError_is v6 (addE c x) _ HER.out (HG.out.below HBEL6.out hw0)).mono ?_
          rintro e w7 ⟨rfl, hb7⟩
          have HK7 : Hid (Keep [] w6 w7) := Lib.hid (Keep.of_below hb7 (Nat.le_refl _))
          have hbx7 := HBX6.out.keep HK7.out (by simp)
          have hx0 := hbx7.cell_ (i := 0) rfl
          have hx1 := hbx7.cell_ (i := 1) rfl
          have hbxl7 := hbx7.lt
          have HBX7 := Lib.hid hbx7; have HS7 := Lib.hid (HS6.out.keep HK7.out (by simp)); have HKN7 := Lib.hid (HKN6.out.keepF HK7.out (by simp))
          have HBEL7 : Hid (Below w.heap.size w w7) := Lib.hid (HBEL6.out.trans (HK7.out.below HBEL6.out.size (by simp)))
          have hxq : ∀ wx, Keep [] w7 wx → wx.cell? ⟨bx, 0, none⟩ = some (.slice (some ⟨gA', 0, none⟩) 11 cA') ∧ wx.cell? ⟨bx, 1, none⟩ = some (.slice (some ⟨gB', 0, none⟩) 11 cB') := fun wx hk => ⟨(hk.cell (p := ⟨bx, 0, none⟩) hbxl7 (by simp)).trans hx0, (hk.cell (p := ⟨bx, 1, none⟩) hbxl7 (by simp)).trans hx1⟩
          have HXQ := Lib.hid hxq
          obtain ⟨cR, hcR⟩ : ∃ cR, cR = (addR c x) := ⟨_, rfl⟩
          rw [← hcR] at HKN7 HS7 HI6
          clear hcR HKN6 HS6 HBX6 HBX5 HKN5 HS5 HKNZ HSZ HBXZ HKN3
          have HLA := Lib.hid (rowV_len (c := cR) (r := 0) HKN7.out.len (by decide)); have HLB := Lib.hid (rowV_len (c := cR) (r := 1) HKN7.out.len (by decide))
          clear hb7 hbx7 hxq
          go_wp2
          go_region_held3 (fun w' => w'.cell? ⟨bx, 0, none⟩ = some (.slice (some ⟨gA', 0, none⟩) 11 cA') ∧ w'.cell? ⟨bx, 1, none⟩ = some (.slice (some ⟨gB', 0, none⟩) 11 cB'))
            (first | exact HXQ.out _ ((Keep.refl _ _).drew) | exact HXQ.out _ HK8.out | exact HXQ.out _ (HK8.out.drewN _) | exact HXQ.out _ HK9.out | exact HXQ.out _ (HK9.out.drewN _) | fail)
            (first
            | (go_at_call_of 14 (Value.int IntKind.i64 0); refine (nRow0 b cR m6 _ ?_ HI6.out.fine).mono ?_; exact HS7.out.keep (F := []) ((Keep.refl _ _).drew) (by simp); rintro e w8 ⟨g8, cap8, rfl, hin8, hb8⟩; have HIN8 := Lib.hid hin8; have HK8 : Hid (Keep [] w7 w8) := Lib.hid (((Keep.refl [] w7).drew).trans (Keep.of_below hb8 (Nat.le_refl _))); clear hin8 hb8)
            | (go_at_call_of 18 (Value.slice (some ⟨g8, 0, none⟩) 11 cap8); refine (ints_same _ _ 11 _ _ _ _ (rowV cR 0) _ HLA.out HIN8.out (HKN7.out.keepF HK8.out (by simp)).inA (by decide)).mono ?_; rintro e w' ⟨rfl, q8, rfl⟩)
            | (go_at_call_of 14 (Value.int IntKind.i64 1); refine (nRow1 b cR m6 _ ?_ HI6.out.fine).mono ?_; exact HS7.out.keep (F := []) (HK8.out.drewN _) (by simp); rintro e w9 ⟨g9, cap9, rfl, hin9, hb9⟩; have HIN9 := Lib.hid hin9; have HK9 : Hid (Keep [] w7 w9) := Lib.hid ((HK8.out.drewN _).trans (Keep.of_below hb9 (Nat.le_refl _))); clear hin9 hb9)
            | (go_at_call_of 18 (Value.slice (some ⟨g9, 0, none⟩) 11 cap9); refine (ints_same _ _ 11 _ _ _ _ (rowV cR 1) _ HLB.out HIN9.out (HKN7.out.keepF HK9.out (by simp)).inB (by decide)).mono ?_; rintro e w' ⟨rfl, q9, rfl⟩))
          go_wp2
          go_roundw
          case rel => exact ⟨k + 1, cR, m6, gA', cA', gB', cB', by omega, by simp, HS7.out.keep (F := []) (HK9.out.drewN _) (by simp), HI6.out, HBX7.out.keep (F := []) (HK9.out.drewN _) (by simp), HKN7.out.keepF (F := []) (HK9.out.drewN _) (by simp), HBEL7.out.trans ((HK9.out.drewN _).below HBEL7.out.size (by simp))⟩
          case measure => simp [intOf]; omega
      · have HBD : Hid (-9223372036854775808 ≤ x ∧ x ≤ 9223372036854775807) := Lib.hid ⟨hbd0, hbd1⟩
        have hsub : IntKind.i64.wrap (-1 - x) = -1 - x := IntWalk.i64_in _ (by omega)
        go_wp2
        have hxk : ∀ wx, Keep [] wr wx → wx.cell? ⟨bx, 0, none⟩ = some (.slice (some ⟨gA, 0, none⟩) 11 cA) ∧ wx.cell? ⟨bx, 1, none⟩ = some (.slice (some ⟨gB, 0, none⟩) 11 cB) ∧ wx.cell? ⟨bs, os + k, none⟩ = some (.int .i64 x) := fun wx hk =>
          ⟨(hk.cell (p := ⟨bx, 0, none⟩) hbxl (by simp)).trans hx0, (hk.cell (p := ⟨bx, 1, none⟩) hbxl (by simp)).trans hx1, (hk.cell (p := ⟨bs, os + k, none⟩) hbs1 (by simp)).trans hcr⟩
        have HXK := Lib.hid hxk; clear hxk
        go_region_held3 (fun w' => w'.cell? ⟨bx, 0, none⟩ = some (.slice (some ⟨gA, 0, none⟩) 11 cA) ∧ w'.cell? ⟨bx, 1, none⟩ = some (.slice (some ⟨gB, 0, none⟩) 11 cB) ∧ w'.cell? ⟨bs, os + k, none⟩ = some (.int .i64 x))
          (first | exact HXK.out _ ((Keep.refl _ _).drew) | exact HXK.out _ (((Keep.refl _ _).drew).alloc _) | exact HXK.out _ (((Keep.refl _ _).alloc _).drew) | exact HXK.out _ HK3.out | exact HXK.out _ (HK3.out.alloc _) | exact HXK.out _ ((HK3.out.set (p := ⟨wr.heap.size, 0, none⟩) (fun h => absurd h (Nat.lt_irrefl _)) _).set (p := ⟨wr.heap.size, 1, none⟩) (fun h => absurd h (Nat.lt_irrefl _)) _) | fail)
          (first
          | (go_at_call 17; refine (kDropNest_all gA cA gB cB base c (-1 - x) _ ?_ ?_).mono ?_; exact HKN'.out.keepF (F := []) (by first | exact (Keep.refl _ _).drew | exact ((Keep.refl _ _).drew).alloc _ | exact ((Keep.refl _ _).alloc _).drew) (by simp); (simp; omega); rintro e w3 ⟨gA', cA', gB', cB', rfl, hkn3, hb3⟩; (try (have hyb := ((Blk.new wr 35 [.slice none 0 0, .slice none 0 0]).drew).below hb3 (by simp); have hy0 := hyb.cell_ (i := 0) rfl; have hy1 := hyb.cell_ (i := 1) rfl; have hyf0 := hyb.free 0; have hyf1 := hyb.free 1; have HYB := Lib.hid hyb; clear hyb)); have HKN3 := Lib.hid hkn3; have HB3 := Lib.hid hb3; have HK3 : Hid (Keep [] wr w3) := (by first | exact Lib.hid (((Keep.refl [] wr).drew).trans (Keep.of_below hb3 (Nat.le_refl _))) | exact Lib.hid ((((Keep.refl [] wr).drew).alloc _).trans (Keep.of_below hb3 (Nat.le_refl _)))); clear hkn3 hb3))
        all_goals
          first
            | (obtain ⟨wz, e1⟩ : ∃ wz, wz = (w3.setCell ⟨wr.heap.size, 0, none⟩ (.slice (some ⟨gA', 0, none⟩) 11 cA')).setCell ⟨wr.heap.size, 1, none⟩ (.slice (some ⟨gB', 0, none⟩) 11 cB') := ⟨_, rfl⟩
               rw [← e1]
               have hyz : Blk wz wr.heap.size 35 [.slice (some ⟨gA', 0, none⟩) 11 cA', .slice (some ⟨gB', 0, none⟩) 11 cB'] := by rw [e1]; exact (HYB.out.set 0 (.slice (some ⟨gA', 0, none⟩) 11 cA')).set 1 (.slice (some ⟨gB', 0, none⟩) 11 cB')
               have hkz : Keep [] wr wz := by rw [e1]; exact (HK3.out.set (p := ⟨wr.heap.size, 0, none⟩) (fun h => absurd h (Nat.lt_irrefl _)) _).set (p := ⟨wr.heap.size, 1, none⟩) (fun h => absurd h (Nat.lt_irrefl _)) _
               have hks : Keep [wr.heap.size] w3 wz := by rw [e1]; exact ((Keep.refl _ w3).set (fun _ => by simp) _).set (fun _ => by simp) _
               have hknz : KN wz base (dropRx c (-1 - x)) gA' cA' gB' cB' := ⟨HKN3.out.A.keepN hks HKN3.out.gA_lt.1 (by simpa using (HKN3.out.far HYB.out).1), HKN3.out.B.keepN hks HKN3.out.gB_lt.1 (by simpa using (HKN3.out.far HYB.out).2), HKN3.out.len⟩
               obtain ⟨yb, e2⟩ : ∃ yb, yb = wr.heap.size := ⟨_, rfl⟩
               rw [← e2] at hyz ⊢
               clear e1 e2 hks hy0 hy1 hyf0 hyf1)
            | (obtain ⟨wz, e1⟩ : ∃ wz, wz = w3.alloc (.cells #[.slice (some ⟨gA', 0, none⟩) 11 cA', .slice (some ⟨gB', 0, none⟩) 11 cB'] 35) := ⟨_, rfl⟩
               rw [← e1]
               have hyz : Blk wz w3.heap.size 35 [.slice (some ⟨gA', 0, none⟩) 11 cA', .slice (some ⟨gB', 0, none⟩) 11 cB'] := by rw [e1]; exact Blk.new w3 35 [.slice (some ⟨gA', 0, none⟩) 11 cA', .slice (some ⟨gB', 0, none⟩) 11 cB']
               have hkz : Keep [] wr wz := by rw [e1]; exact HK3.out.alloc _
               have hknz : KN wz base (dropRx c (-1 - x)) gA' cA' gB' cB' := by rw [e1]; exact HKN3.out.keepF ((Keep.refl [] w3).alloc _) (by simp)
               obtain ⟨yb, e2⟩ : ∃ yb, yb = w3.heap.size := ⟨_, rfl⟩
               rw [← e2] at hyz ⊢
               clear e1 e2)
          have HYZ := Lib.hid hyz; have HKZ := Lib.hid hkz; have HKNZ := Lib.hid hknz
          have hyz0 := hyz.cell_ (i := 0) rfl
          have hyz1 := hyz.cell_ (i := 1) rfl
          have hbxz := HBX'.out.keep hkz (by simp)
          have HBXZ := Lib.hid hbxz
          have hsz := HS.out.keep hkz (by simp)
          have HSZ := Lib.hid hsz
          have hcrz := (hkz.cell (p := ⟨bs, os + k, none⟩) hbs1 (by simp)).trans hcr
          clear hx0 hx1 hxf0 hxf1
          have hx0 := hbxz.cell_ (i := 0) rfl
          have hx1 := hbxz.cell_ (i := 1) rfl
          have hxf0 := hbxz.free 0
          have hxf1 := hbxz.free 1
          have hbbx : b ≠ bx := by omega
          clear hyz hkz hknz hbxz hsz
          go_wp2_with fail
          have hw5 : ∃ w5, w5 = (wz.setCell ⟨bx, 0, none⟩ (.slice (some ⟨gA', 0, none⟩) 11 cA')).setCell ⟨bx, 1, none⟩ (.slice (some ⟨gB', 0, none⟩) 11 cB') := ⟨_, rfl⟩
          obtain ⟨w5, e5⟩ := hw5
          have hk5 : Keep [bx] wz w5 := by rw [e5]; exact ((Keep.refl _ wz).set (fun _ => by simp) _).set (fun _ => by simp) _
          have hbx5 : Blk w5 bx 35 [.slice (some ⟨gA', 0, none⟩) 11 cA', .slice (some ⟨gB', 0, none⟩) 11 cB'] := by rw [e5]; exact (HBXZ.out.set 0 (.slice (some ⟨gA', 0, none⟩) 11 cA')).set 1 (.slice (some ⟨gB', 0, none⟩) 11 cB')
          have hfar := HKNZ.out.far HBXZ.out
          have hkn5 : KN w5 base (dropRx c (-1 - x)) gA' cA' gB' cB' := ⟨HKNZ.out.A.keepN hk5 HKNZ.out.gA_lt.1 (by simpa using hfar.1), HKNZ.out.B.keepN hk5 HKNZ.out.gB_lt.1 (by simpa using hfar.2), HKNZ.out.len⟩
          have hs5 := HSZ.out.keep hk5 (by simpa using hbbx)
          have hbel5 : Below w.heap.size w w5 := (HB.out.trans (HKZ.out.below HB.out.size (by simp))).trans (hk5.below (by have := HKZ.out.size; omega) (by simp; omega))
          rw [← e5]
          have HBX5 := Lib.hid hbx5; have HKN5 := Lib.hid hkn5; have HS5 := Lib.hid hs5; have HBEL5 := Lib.hid hbel5
          clear e5 hk5 hbx5 hfar hkn5 hs5 hbel5 hx0 hx1 hxf0 hxf1 hyz0 hyz1 hcrz hcr
          have hcr := HCY.out _ HBEL5.out
          refine (nDrop_all b c m (-1 - x) _ ?_ HI.out).mono ?_
          · exact HS5.out
          rintro e w6 ⟨v6, m6, rfl, her, hs6, hi6, hk6⟩
          have hbel6 : Below w.heap.size w w6 := HBEL5.out.trans (hk6.below HBEL5.out.size (by simpa using hwb))
          have hbx6 := HBX5.out.keep hk6 (by simpa using hbbx.symm)
          have hkn6 := HKN5.out.keepF hk6 (by simpa using hbb)
          have HER := Lib.hid her; have HS6 := Lib.hid hs6; have HI6 := Lib.hid hi6; have HBEL6 := Lib.hid hbel6; have HBX6 := Lib.hid hbx6; have HKN6 := Lib.hid hkn6
          clear her hs6 hi6 hk6 hbel6 hbx6 hkn6 hcr
          go_wp2_with fail
          refine (eError_is v6 (dropEx c (-1 - x)) _ HER.out (HG.out.below HBEL6.out hw0)).mono ?_
          rintro e w7 ⟨rfl, hb7⟩
          have HK7 : Hid (Keep [] w6 w7) := Lib.hid (Keep.of_below hb7 (Nat.le_refl _))
          have hbx7 := HBX6.out.keep HK7.out (by simp)
          have hx0 := hbx7.cell_ (i := 0) rfl
          have hx1 := hbx7.cell_ (i := 1) rfl
          have hbxl7 := hbx7.lt
          have HBX7 := Lib.hid hbx7; have HS7 := Lib.hid (HS6.out.keep HK7.out (by simp)); have HKN7 := Lib.hid (HKN6.out.keepF HK7.out (by simp))
          have HBEL7 : Hid (Below w.heap.size w w7) := Lib.hid (HBEL6.out.trans (HK7.out.below HBEL6.out.size (by simp)))
          have hxq : ∀ wx, Keep [] w7 wx → wx.cell? ⟨bx, 0, none⟩ = some (.slice (some ⟨gA', 0, none⟩) 11 cA') ∧ wx.cell? ⟨bx, 1, none⟩ = some (.slice (some ⟨gB', 0, none⟩) 11 cB') := fun wx hk => ⟨(hk.cell (p := ⟨bx, 0, none⟩) hbxl7 (by simp)).trans hx0, (hk.cell (p := ⟨bx, 1, none⟩) hbxl7 (by simp)).trans hx1⟩
          have HXQ := Lib.hid hxq
          obtain ⟨cR, hcR⟩ : ∃ cR, cR = (dropRx c (-1 - x)) := ⟨_, rfl⟩
          rw [← hcR] at HKN7 HS7 HI6
          clear hcR HKN6 HS6 HBX6 HBX5 HKN5 HS5 HKNZ HSZ HBXZ HKN3
          have HLA := Lib.hid (rowV_len (c := cR) (r := 0) HKN7.out.len (by decide)); have HLB := Lib.hid (rowV_len (c := cR) (r := 1) HKN7.out.len (by decide))
          clear hb7 hbx7 hxq
          go_wp2
          go_region_held3 (fun w' => w'.cell? ⟨bx, 0, none⟩ = some (.slice (some ⟨gA', 0, none⟩) 11 cA') ∧ w'.cell? ⟨bx, 1, none⟩ = some (.slice (some ⟨gB', 0, none⟩) 11 cB'))
            (first | exact HXQ.out _ ((Keep.refl _ _).drew) | exact HXQ.out _ HK8.out | exact HXQ.out _ (HK8.out.drewN _) | exact HXQ.out _ HK9.out | exact HXQ.out _ (HK9.out.drewN _) | fail)
            (first
            | (go_at_call_of 14 (Value.int IntKind.i64 0); refine (nRow0 b cR m6 _ ?_ HI6.out.fine).mono ?_; exact HS7.out.keep (F := []) ((Keep.refl _ _).drew) (by simp); rintro e w8 ⟨g8, cap8, rfl, hin8, hb8⟩; have HIN8 := Lib.hid hin8; have HK8 : Hid (Keep [] w7 w8) := Lib.hid (((Keep.refl [] w7).drew).trans (Keep.of_below hb8 (Nat.le_refl _))); clear hin8 hb8)
            | (go_at_call_of 18 (Value.slice (some ⟨g8, 0, none⟩) 11 cap8); refine (ints_same _ _ 11 _ _ _ _ (rowV cR 0) _ HLA.out HIN8.out (HKN7.out.keepF HK8.out (by simp)).inA (by decide)).mono ?_; rintro e w' ⟨rfl, q8, rfl⟩)
            | (go_at_call_of 14 (Value.int IntKind.i64 1); refine (nRow1 b cR m6 _ ?_ HI6.out.fine).mono ?_; exact HS7.out.keep (F := []) (HK8.out.drewN _) (by simp); rintro e w9 ⟨g9, cap9, rfl, hin9, hb9⟩; have HIN9 := Lib.hid hin9; have HK9 : Hid (Keep [] w7 w9) := Lib.hid ((HK8.out.drewN _).trans (Keep.of_below hb9 (Nat.le_refl _))); clear hin9 hb9)
            | (go_at_call_of 18 (Value.slice (some ⟨g9, 0, none⟩) 11 cap9); refine (ints_same _ _ 11 _ _ _ _ (rowV cR 1) _ HLB.out HIN9.out (HKN7.out.keepF HK9.out (by simp)).inB (by decide)).mono ?_; rintro e w' ⟨rfl, q9, rfl⟩))
          go_wp2
          go_roundw
          case rel => exact ⟨k + 1, cR, m6, gA', cA', gB', cB', by omega, by simp, HS7.out.keep (F := []) (HK9.out.drewN _) (by simp), HI6.out, HBX7.out.keep (F := []) (HK9.out.drewN _) (by simp), HKN7.out.keepF (F := []) (HK9.out.drewN _) (by simp), HBEL7.out.trans ((HK9.out.drewN _).below HBEL7.out.size (by simp))⟩
          case measure => simp [intOf]; omega
    · have hex2 : n ≤ k ∨ (k < n ∧ 60 ≤ k) := by omega
      clear hex
      obtain ⟨hv, hhv⟩ : ∃ hv, hasI c x1 = hv := ⟨_, rfl⟩
      have HHV := Lib.hid hhv
      clear hhv
      have hxq : ∀ wx, Keep [] wr wx → wx.cell? ⟨bx, 0, none⟩ = some (.slice (some ⟨gA, 0, none⟩) 11 cA) ∧ wx.cell? ⟨bx, 1, none⟩ = some (.slice (some ⟨gB, 0, none⟩) 11 cB) := fun wx hk => ⟨(hk.cell (p := ⟨bx, 0, none⟩) hbxl (by simp)).trans hx0, (hk.cell (p := ⟨bx, 1, none⟩) hbxl (by simp)).trans hx1⟩
      have HXQ := Lib.hid hxq
      clear hxq
      rcases hex2 with hex | ⟨hex, hex2⟩
      all_goals
        first
          | (have h1 : ¬ (k : Int) < (n : Int) := by omega
             go_wp2)
          | (have h1 : (k : Int) < (n : Int) := by omega
             have h2 : ¬ (k : Int) < 60 := by omega
             go_wp2)
        go_region_held3 (fun w' => w'.cell? ⟨bx, 0, none⟩ = some (.slice (some ⟨gA, 0, none⟩) 11 cA) ∧ w'.cell? ⟨bx, 1, none⟩ = some (.slice (some ⟨gB, 0, none⟩) 11 cB))
          (first | exact HXQ.out _ ((Keep.refl _ _).drew) | exact HXQ.out _ ((Keep.refl _ _).drewN _) | exact HXQ.out _ HK8.out | fail)
          (first
          | (go_at_call 12; refine (nHas_any b c m x1 _ ?_ HI.out.fine HX1.out).mono ?_; exact HS.out.keep (F := []) ((Keep.refl _ _).drew) (by simp); rw [HHV.out]; rintro e w' ⟨rfl, q8, rfl⟩)
          | (go_at_call 19; refine (kInNest gA cA gB cB base c x1 _ ?_ HX1.out).mono ?_; exact HKN'.out.keepF (F := []) ((Keep.refl _ _).drewN _) (by simp); rw [HHV.out]; rintro e w8 ⟨rfl, hb8⟩; have HK8 : Hid (Keep [] wr w8) := Lib.hid (((Keep.refl [] wr).drewN _).trans (Keep.of_below hb8 (Nat.le_refl _))); clear hb8)
          | (go_at_call 14; refine (nRow_no b _ _ (by omega)).mono ?_; rintro e w' ⟨rfl, rfl⟩))
        go_wp2
        go_ret
        exact ⟨by first | rfl | simp, HB.out.trans (HK8.out.below HB.out.size (by simp))⟩
end Go.Proofs.YtjnghpambjjlkaaDoor
