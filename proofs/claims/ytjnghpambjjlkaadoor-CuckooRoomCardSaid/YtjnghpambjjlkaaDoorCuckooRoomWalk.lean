/-
  CuckooRoom: the walk.
-/
import Derived.Test.YtjnghpambjjlkaaDoorCuckooTwoOps
import Derived.Test.YtjnghpambjjlkaaDoorIn
import Derived.Test.YtjnghpambjjlkaaDoorLift
import Derived.Test.YtjnghpambjjlkaaDoorTold2
import Derived.Deep.RegionWith
namespace Go.Proofs.YtjnghpambjjlkaaDoor
open Go.RowKit

def RoomRel (w : World) (b n : Nat) (i : Value) (wr : World) : Prop :=
  ∃ (k : Nat) (c : List Int) (m : Int), k ≤ n ∧ k ≤ 60 ∧ i = .int .i64 k ∧ NAt wr b c m ∧ NInv c m ∧ Below w.heap.size w wr

/-- Add of a key that is not there, in range, when there is room. -/
def AddRoom (w : World) (b : Nat) (c : List Int) (m : Int) (k : Nat) (e : Ending) (w' : World) : Prop :=
  (∃ c' m', e = .returned .nilIface ∧ NAt w' b c' m' ∧ NInv c' m' ∧ (k : Int) ∈ live c' ∧ Keep [b] w w') ∨ (e = .returned (errv 7) ∧ NAt w' b c m ∧ c.getD (k % 11) 0 ≠ 0 ∧ Keep [b] w w')
theorem nAdd_room (b : Nat) (c : List Int) (m : Int) (k : Nat) (w : World) (hs : NAt w b c m) (hi : NInv c m) (hk : (k : Int) ≤ 1000000) (hx : ¬ (k : Int) ∈ live c) (hm : m ≠ 16) :
    Calls Tryd.prog 9 #[.pointer (some ⟨b, 0, none⟩), .int .i64 k] w (AddRoom w b c m k) := by
  have hh : hasI c k = false := by rw [hi.hasE]; simpa using hx
  have hle := hi.le
  refine (nAdd_go b c m k w hs hi.fine hk hh (by have := hi.cnt; omega) (by omega)).mono ?_
  rintro e w' (⟨c', hd, rfl, hn, hkk⟩ | ⟨hd, rfl, hn, hkk⟩)
  · obtain ⟨h3, h4⟩ := hi.add (by omega) hh (by omega) hd
    exact .inl ⟨c', _, rfl, hn, h3, h4.mem_iff.2 List.mem_cons_self, hkk⟩
  · refine .inr ⟨rfl, hn, fun h0 => ?_, hkk⟩
    rw [drive] at hd
    have e : spot k (0 % 2) = k % 11 := by unfold spot nst; simp
    rw [e, h0, if_pos (by decide)] at hd
    cases hd
def DropIn (w : World) (b : Nat) (x : Int) (e : Ending) (w' : World) : Prop :=
  ∃ c' m', e = .returned .nilIface ∧ NAt w' b c' m' ∧ NInv c' m' ∧ ¬ x ∈ live c' ∧ Keep [b] w w'
theorem nDrop_in (b : Nat) (c : List Int) (m : Int) (k : Nat) (w : World) (hs : NAt w b c m) (hi : NInv c m) (hk : (k : Int) ≤ 1000000) (hx : (k : Int) ∈ live c) :
    Calls Tryd.prog 10 #[.pointer (some ⟨b, 0, none⟩), .int .i64 k] w (DropIn w b k) := by
  refine (nDrop_go b c m k w hs hk (by have := hi.cnt; omega) hi.le).mono ?_
  rintro e w' (⟨c', hd, rfl, hn, hkk⟩ | ⟨hd, _⟩)
  · obtain ⟨h3, h4⟩ := hi.drop hd
    have := h4.nodup_iff.2 hi.nd
    exact ⟨c', _, rfl, hn, h3, (List.nodup_cons.1 this).1, hkk⟩
  · exfalso
    have hh := hi.hasE k
    rw [show decide ((k : Int) ∈ live c) = true by simpa using hx] at hh
    unfold hasI at hh
    rw [show ((k : Int)).toNat = k by omega] at hh
    unfold dropC at hd
    by_cases e0 : c.getD (spot k 0) 0 = (k : Int) + 1
    · rw [if_pos e0] at hd; cases hd
    · rw [if_neg e0] at hd
      by_cases e1 : c.getD (spot k 1) 0 = (k : Int) + 1
      · rw [if_pos e1] at hd; cases hd
      · rw [show decide (c.getD (spot k 0) 0 = (k : Int) + 1) = false by simpa only [decide_eq_false_iff_not] using e0, show decide (c.getD (spot k 1) 0 = (k : Int) + 1) = false by simpa only [decide_eq_false_iff_not] using e1] at hh
        simp at hh

theorem nHas_is (b : Nat) (c : List Int) (m x : Int) (w : World) (bv : Bool) (hb : decide (x ∈ live c) = bv) (hs : NAt w b c m) (hi : NInv c m) (hx : -9223372036854775808 ≤ x ∧ x ≤ 9223372036854775807) :
    Calls Tryd.prog 12 #[.pointer (some ⟨b, 0, none⟩), .int .i64 x] w fun e w' => e = .returned (.bool bv) ∧ ∃ q, w' = w.drewN q := by
  rw [← hb]; exact nHas_two b c m x w hs hi hx

theorem nz_le2 (c : List Int) (k : Nat) : nz c k ≤ k + k := by
  unfold nz
  have h1 := List.length_filter_le (fun x : Int => decide (x ≠ 0)) (c.take k)
  have h2 := List.length_filter_le (fun x : Int => decide (x ≠ 0)) ((c.drop 11).take k)
  have h3 : (c.take k).length ≤ k := List.length_take_le _ _
  have h4 : ((c.drop 11).take k).length ≤ k := List.length_take_le _ _
  omega

set_option maxHeartbeats 4000000 in
set_option maxRecDepth 100000 in
theorem cuckooRoom_walk (a0 : Option Addr) (c0 : Nat) (l0 : List Int) (x1 : Int) (w : World) (h0 : IntsIn w w.heap.size a0 l0) (e0 : ∀ y ∈ l0, I64 y) (_ : Reached l0) (h1 : I64 x1) (hg : Handle w) :
    Calls Tryd.prog 3 #[.slice a0 l0.length c0, .int .i64 x1] w fun e w' => e = .returned (.bool true) ∧ Below w.heap.size w w' := by
  have h1 := h1.bd
  have HE := Lib.hid e0; have HX1 := Lib.hid h1; have H0 := Lib.hid h0; have HG := Lib.hid hg; clear e0 h1 h0 hg
  have hw0 := HG.out.lt
  obtain ⟨n, hn⟩ : ∃ n, n = l0.length := ⟨_, rfl⟩
  rw [← hn]
  have HN := Lib.hid hn; clear hn
  go_enter Tryd.func3, Tryd.ntmps3
  go_wp2_with fail
  refine (cuckooFact_any _).mono ?_
  rintro e wf ⟨rfl, hbf⟩
  go_wp2_with fail
  refine (nestsNew _).mono ?_
  rintro e w1 ⟨rfl, hs1, hb1⟩
  have hw1 := hb1.size
  have hwf := hbf.size
  have hbel1 : Below w.heap.size w w1 := hbf.trans (hb1.mono hwf)
  have HS1 := Lib.hid hs1; have HB1 := Lib.hid hbel1; clear hs1 hb1 hbf hbel1
  obtain ⟨b, hb⟩ : ∃ b, b = wf.heap.size := ⟨_, rfl⟩
  rw [← hb] at HS1 ⊢
  have hwb : w.heap.size ≤ b := by omega
  clear hb
  go_wp2
  go_loopw [7] (fun i wr => RoomRel w b n i wr) (fun i _ => n - (intOf i).toNat)
  case atStart => exact ⟨0, _, _, by omega, by omega, rfl, HS1.out, n0_inv, HB1.out⟩
  case round =>
    obtain ⟨k, c, m, hk, hk60, rfl, hs, hinv, hbel⟩ := hrel
    have HS := Lib.hid hs; have HI := Lib.hid hinv; have HB := Lib.hid hbel
    clear hs hinv hbel
    by_cases hlt : k < n ∧ k < 60
    · obtain ⟨hlt, hlt6⟩ := hlt
      obtain ⟨bx, off, rfl, hbB, hc⟩ := H0.out.at_ (show k < l0.length by rw [← HN.out]; exact hlt)
      have hcw := (HB.out.cell (p := ⟨bx, off + k, none⟩) hbB).trans hc
      have hI := HE.out _ (List.getElem_mem (show k < l0.length by rw [← HN.out]; exact hlt))
      obtain ⟨x, hx⟩ : ∃ x, x = l0[k]'(by rw [← HN.out]; exact hlt) := ⟨_, rfl⟩
      rw [← hx] at hcw hI
      clear hx hc
      have hI := hI.bd
      obtain ⟨hxl, hxh⟩ := hI
      have hk60' : (k : Int) < 60 := by omega
      have hkn : (k : Int) < (n : Int) := by omega
      have hk0 : (0 : Int) ≤ (k : Int) := by omega
      have hnext : ∀ c' m' w2, NAt w2 b c' m' → NInv c' m' → Keep [b] wr w2 → RoomRel w b n (.int .i64 ((k : Int) + 1)) w2 := fun c' m' w2 a1 a2 a3 =>
        ⟨k + 1, c', m', hlt, hlt6, by simp, a1, a2, HB.out.trans (a3.below HB.out.size (by simp; omega))⟩
      have HX := Lib.hid hnext; clear hnext
      by_cases hx0 : 0 ≤ x
      · go_wp2_with fail
        refine (nAdd_two _ c m x _ HS.out HI.out).mono ?_
        rintro e w2 (⟨c', m', rfl, hs2, hi2, hp2, hk2⟩ | ⟨en, rfl, hs2, hk2⟩)
        · have HR := Lib.hid (HX.out _ _ _ hs2 hi2 hk2); clear hs2 hi2 hp2 hk2
          go_wp2
          go_roundw
          case rel => exact HR.out
          case measure => simp [intOf]; omega
        · have HR := Lib.hid (HX.out _ _ _ hs2 HI.out hk2); clear hs2 hk2
          go_wp2
          go_roundw
          case rel => exact HR.out
          case measure => simp [intOf]; omega
      · obtain ⟨y, hy⟩ : ∃ y, y = -1 - x := ⟨_, rfl⟩
        have hsub : IntKind.i64.wrap (-1 - x) = y := by rw [hy]; exact IntWalk.i64_in _ (by omega)
        have hy2 : -1 - x = y := hy.symm
        clear hy
        go_wp2_with fail
        refine (nDrop_two _ c m y _ HS.out HI.out).mono ?_
        rintro e w2 (⟨c', m', rfl, hs2, hi2, hp2, hk2⟩ | ⟨en, rfl, hs2, hk2⟩)
        · have HR := Lib.hid (HX.out _ _ _ hs2 hi2 hk2); clear hs2 hi2 hp2 hk2
          go_wp2
          go_roundw
          case rel => exact HR.out
          case measure => simp [intOf]; omega
        · have HR := Lib.hid (HX.out _ _ _ hs2 HI.out hk2); clear hs2 hk2
          go_wp2
          go_roundw
          case rel => exact HR.out
          case measure => simp [intOf]; omega
    · have hex : ¬ (k : Int) < (n : Int) ∨ ((k : Int) < (n : Int) ∧ ¬ (k : Int) < 60) := by omega
      clear hlt
      have HGR := Lib.hid (HG.out.below HB.out hw0)
      by_cases hr : 0 ≤ x1 ∧ x1 ≤ 1000000
      · obtain ⟨hr1, hr2⟩ := hr
        obtain ⟨kk, rfl⟩ := Int.eq_ofNat_of_zero_le hr1
        by_cases hmem : (kk : Int) ∈ live c
        focus
          have HD := Lib.hid (show decide ((kk : Int) ∈ live c) = true by simpa using hmem)
          have HM := Lib.hid hmem; clear hmem
          rcases hex with hex | ⟨hex, hex2⟩
          all_goals
            go_wp2_with fail
            refine (in_yes kk 0 1000000 _ hr1 hr2).mono ?_
            rintro e w2 ⟨rfl, rfl⟩
            go_wp2_with fail
            refine (nHas_two _ c m kk _ HS.out HI.out HX1.out).mono ?_
            rintro e w2 ⟨rfl, q, rfl⟩
            rw [HD.out]
            go_wp2_with fail
            refine (nDrop_in _ c m kk _ (HS.out.drewN q) HI.out hr2 HM.out).mono ?_
            rintro e w3 ⟨ct, mt, rfl, hs3, hi3, hx3, hk3⟩
            have HIT := Lib.hid hi3; have HXT := Lib.hid (show decide ((kk : Int) ∈ live ct) = false by simpa using hx3)
            have HS3 := Lib.hid hs3; have HK3 := Lib.hid hk3
            clear hs3 hi3 hx3 hk3
            go_wp2_with fail
            refine (nHas_two _ ct mt kk _ HS3.out HIT.out HX1.out).mono ?_
            rintro e w4 ⟨rfl, q4, rfl⟩
            rw [HXT.out]
            obtain ⟨wt, hwt⟩ : ∃ wt : World, wt = w3.drewN q4 := ⟨_, rfl⟩
            have hst : NAt wt b ct mt := by rw [hwt]; exact HS3.out.drewN q4
            have hbt : Below w.heap.size w wt := by
              rw [hwt]
              exact (HB.out.trans (((Keep.refl [] wr).drewN q).below HB.out.size (by simp))).trans ((HK3.out.drewN q4).below HB.out.size (by simp; omega))
            rw [← hwt]
            have HST := Lib.hid hst; have HBT := Lib.hid hbt
            clear hwt hst hbt HS3 HK3 HD HM HS HI HB HGR
            go_wp2_with fail
        rotate_left 2
        focus
          have HXT := Lib.hid (show decide ((kk : Int) ∈ live c) = false by simpa using hmem)
          clear hmem
          rcases hex with hex | ⟨hex, hex2⟩
          all_goals
            go_wp2_with fail
            refine (in_yes kk 0 1000000 _ hr1 hr2).mono ?_
            rintro e w2 ⟨rfl, rfl⟩
            go_wp2_with fail
            refine (nHas_two _ c m kk _ HS.out HI.out HX1.out).mono ?_
            rintro e w2 ⟨rfl, q, rfl⟩
            rw [HXT.out]
            obtain ⟨wt, hwt⟩ : ∃ wt : World, wt = wr.drewN q := ⟨_, rfl⟩
            have hst : NAt wt b c m := by rw [hwt]; exact HS.out.drewN q
            have hbt : Below w.heap.size w wt := by
              rw [hwt]
              exact (HB.out.trans (((Keep.refl [] wr).drewN q).below HB.out.size (by simp)))
            rw [← hwt]
            obtain ⟨ct, hct⟩ : ∃ ct, ct = c := ⟨_, rfl⟩
            obtain ⟨mt, hmt⟩ : ∃ mt, mt = m := ⟨_, rfl⟩
            rw [← hct] at HI HXT hst
            rw [← hmt] at HI hst
            have HIT := HI
            have HST := Lib.hid hst; have HBT := Lib.hid hbt
            clear hwt hst hbt HS HI HB HGR hct hmt
            go_wp2_with fail
        all_goals
          have HF := Lib.hid HIT.out.fine
          refine (nRow_go _ ct mt 0 _ HST.out HF.out (by decide)).mono ?_
          rintro e w2 ⟨ga, capa, cura, rfl, hga, hblka, hcura, hba⟩
          have HS2 := Lib.hid (HST.out.keep (Keep.of_below (F := []) hba (Nat.le_refl _)) (by simp))
          have HBA := Lib.hid hblka; have HCA := Lib.hid hcura; have HBL := Lib.hid hba
          have hsz2 := hba.size
          have hbg : b < ga := by have := HST.out.top.lt; omega
          clear hblka hcura hba
          go_wp2_with fail
          refine (nRow_go _ ct mt 1 _ HS2.out HF.out (by decide)).mono ?_
          rintro e ws ⟨gb, capb, curb, rfl, hgb, hblkb, hcurb, hbb⟩
          have hsz3 := hbb.size
          have HSS := Lib.hid (HS2.out.keep (Keep.of_below (F := []) hbb (Nat.le_refl _)) (by simp))
          have HBAQ := Lib.hid (HBA.out.keep (Keep.of_below (F := []) hbb (Nat.le_refl _)) (by simp))
          have HBBQ := Lib.hid hblkb; have HCB := Lib.hid hcurb
          have HBS : Hid (Below w.heap.size w ws) := Lib.hid (HBT.out.trans ((HBL.out.mono HBT.out.size).trans (hbb.mono (by have := HBT.out.size; omega))))
          clear hblkb hcurb hbb HBL HBA HS2 HST HBT
          go_wp2
          go_loopw [10, 11] (fun many i wy => ∃ k : Nat, k ≤ 11 ∧ i = .int .i64 k ∧ many = .int .i64 (nz ct k : Nat) ∧ ws = wy) (fun _ i _ => 11 - (intOf i).toNat)
          case atStart => exact ⟨0, by omega, rfl, by simp [nz_zero], rfl⟩
          case round =>
            obtain ⟨j, hj, rfl, rfl, rfl⟩ := hrel
            obtain ⟨s, hs⟩ : ∃ s, s = nz ct j := ⟨_, rfl⟩
            by_cases hlt : j < 11
            · have hlt' : (j : Int) < 11 := by omega
              have hj0 : (0 : Int) ≤ (j : Int) := by omega
              have hca := HBAQ.out.cell_ (HCA.out j hlt)
              have hcb := HBBQ.out.cell_ (HCB.out j hlt)
              rw [show 0 * 11 + j = j by omega] at hca
              rw [show 1 * 11 + j = 11 + j by omega] at hcb
              have fa := HF.out j (by omega)
              have fb := HF.out (11 + j) (by omega)
              have hsle : s ≤ 22 := by have := nz_le2 ct j; omega
              have HNZ := Lib.hid (nz_succ HIT.out.len hlt)
              rw [← hs] at HNZ ⊢
              obtain ⟨xa, hxa⟩ : ∃ xa, xa = ct.getD j 0 := ⟨_, rfl⟩
              obtain ⟨xb, hxb⟩ : ∃ xb, xb = ct.getD (11 + j) 0 := ⟨_, rfl⟩
              rw [← hxa] at hca fa HNZ
              rw [← hxb] at hcb fb HNZ
              clear hxa hxb
              obtain ⟨fa0, fa1⟩ := fa
              obtain ⟨fb0, fb1⟩ := fb
              have HSN := Lib.hid hs; clear hs
              by_cases za : xa = 0
              · subst za
                by_cases zb : xb = 0
                · subst zb
                  go_wp2
                  go_roundw
                  case rel => exact ⟨j + 1, hlt, by simp, congrArg (Value.int .i64) (by have h := HNZ.out; simp at h; omega), by trivial⟩
                  case measure => simp [intOf]; omega
                · have g2 : 1 ≤ xb := by omega
                  go_wp2
                  go_roundw
                  case rel => exact ⟨j + 1, hlt, by simp, congrArg (Value.int .i64) (by have h := HNZ.out; simp [zb] at h; omega), by trivial⟩
                  case measure => simp [intOf]; omega
              · have g2 : 1 ≤ xa := by omega
                by_cases zb : xb = 0
                · subst zb
                  go_wp2
                  go_roundw
                  case rel => exact ⟨j + 1, hlt, by simp, congrArg (Value.int .i64) (by have h := HNZ.out; simp [za] at h; omega), by trivial⟩
                  case measure => simp [intOf]; omega
                · have g3 : 1 ≤ xb := by omega
                  go_wp2
                  go_roundw
                  case rel => exact ⟨j + 1, hlt, by simp, congrArg (Value.int .i64) (by have h := HNZ.out; simp [za, zb] at h; omega), by trivial⟩
                  case measure => simp [intOf]; omega
            · have hlt' : ¬ (j : Int) < 11 := by omega
              obtain rfl : j = 11 := by omega
              have hsl : mt = (s : Int) := by rw [hs, nz_all HIT.out.len]; exact HIT.out.cnt
              rw [← hs]
              clear hs
              have hgs := HG.out.below HBS.out hw0
              have HGS := Lib.hid hgs; clear hgs
              have HXM : Hid (¬ (kk : Int) ∈ live ct) := Lib.hid (by simpa using HXT.out)
              have HML := Lib.hid hsl
              by_cases h16 : s = 16
              · subst h16
                clear hsl
                go_wp2_with fail
                refine (nAdd_full _ ct mt kk _ HSS.out HF.out hr1 hr2 (by rw [HIT.out.hasE]; exact HXT.out) (by rw [HML.out]; rfl)).mono ?_
                rintro e w5 ⟨rfl, q5, rfl⟩
                go_wp2_with fail
                refine (eError_some 4 4 _ (HGS.out.keep ((Keep.refl [] _).drewN _) (by simp))).mono ?_
                rintro e w6 ⟨rfl, hb6⟩
                have HB6 := Lib.hid hb6; clear hb6
                go_wp2
                go_ret
                exact ⟨by simp, (HBS.out.trans (((Keep.refl [] ws).drewN q5).below HBS.out.size (by simp))).trans (HB6.out.mono HBS.out.size)⟩
              · have h16i : ¬ (s : Int) = 16 := by omega
                obtain ⟨p, hp⟩ : ∃ p, p = kk % 11 := ⟨_, rfl⟩
                have hp11 : p < 11 := by omega
                have hpi : (kk : Int) % 11 = (p : Int) := by omega
                have hp1 : (p : Int) < 11 := by omega
                have hp0 : (0 : Int) ≤ (p : Int) := by omega
                have hfx := HF.out p (by omega)
                clear hsl
                go_wp2_with fail
                refine (nAdd_room _ ct mt kk _ HSS.out HIT.out hr2 HXM.out (by rw [HML.out]; exact h16i)).mono ?_
                rintro e w5 (⟨c5, m5, rfl, hs5, hi5, hx5, hk5⟩ | ⟨rfl, hs5, hne5, hk5⟩)
                · have hca := (HBAQ.out.keep hk5 (by simp; omega)).cell_ (HCA.out p hp11)
                  rw [show 0 * 11 + p = p by omega] at hca
                  obtain ⟨xa, hxa⟩ : ∃ xa, xa = ct.getD p 0 := ⟨_, rfl⟩
                  rw [← hxa] at hca hfx
                  obtain ⟨hf0, hf1⟩ := hfx
                  have HS5 := Lib.hid hs5; have HI5 := Lib.hid hi5; have HX5 := Lib.hid (show decide ((kk : Int) ∈ live c5) = true by simpa using hx5); have HK5 := Lib.hid hk5
                  have HP := Lib.hid hp
                  clear hs5 hi5 hx5 hk5 hxa hp
                  by_cases za : xa = 0
                  · subst za
                    go_wp2
                    go_quiet ((go_at_call 12; exact quiet_drew (nHas_is _ c5 m5 kk _ true HX5.out (HS5.out.drewN _) HI5.out HX1.out)))
                    go_wp2
                    go_ret
                    exact ⟨by simp, HBS.out.trans ((HK5.out.drewN _).below HBS.out.size (by simp; omega))⟩
                  · have g2 : 1 ≤ xa := by omega
                    go_wp2
                    go_quiet ((go_at_call 12; exact quiet_drew (nHas_is _ c5 m5 kk _ true HX5.out (HS5.out.drewN _) HI5.out HX1.out)))
                    go_wp2
                    go_ret
                    exact ⟨by simp, HBS.out.trans ((HK5.out.drewN _).below HBS.out.size (by simp; omega))⟩
                · have hca := (HBAQ.out.keep hk5 (by simp; omega)).cell_ (HCA.out p hp11)
                  rw [show 0 * 11 + p = p by omega] at hca
                  rw [← hp] at hne5
                  obtain ⟨xa, hxa⟩ : ∃ xa, xa = ct.getD p 0 := ⟨_, rfl⟩
                  rw [← hxa] at hca hfx hne5
                  obtain ⟨hf0, hf1⟩ := hfx
                  have HS5 := Lib.hid hs5; have HK5 := Lib.hid hk5
                  have HP := Lib.hid hp
                  have HGE := Lib.hid (HGS.out.keep hk5 (by simp; omega))
                  have g2 : 1 ≤ xa := by omega
                  clear hs5 hk5 hxa hp hne5
                  go_wp2
                  go_region_with (first
                    | (go_at_call 12; refine (nHas_is _ ct mt kk _ false HXT.out ?_ HIT.out HX1.out).mono ?_; exact ⟨HS5.out.top, HS5.out.len⟩; rintro e w6 ⟨rfl, q6, rfl⟩)
                    | (go_at_call 13; refine (eError_some 7 7 _ ?_).mono ?_; exact HGE.out; rintro e w7 ⟨rfl, hb7⟩; have HB7 := Lib.hid hb7; clear hb7))
                  all_goals
                    go_wp2
                    go_ret
                    exact ⟨by first | rfl | exact ret_eq rfl | (simp [Act.put]; done) | (simp [go_sem]; done) | (simp; rfl), (HBS.out.trans ((HK5.out.drewN _).below HBS.out.size (by simp; omega))).trans (HB7.out.mono (by have := HBS.out.size; have := HK5.out.size; simp; omega))⟩
      · have hnm : decide (x1 ∈ live c) = false := by
          simp only [decide_eq_false_iff_not]
          intro hm
          obtain ⟨i, hi, hne, e⟩ := (mem_live HI.out.len x1).1 hm
          have := HI.out.fine i hi
          omega
        have HNM := Lib.hid hnm; clear hnm
        have hr' : x1 < 0 ∨ 1000000 < x1 := by omega
        have HR' := Lib.hid hr'; clear hr' hr
        rcases hex with hex | ⟨hex, hex2⟩
        all_goals
          go_wp2_with fail
          refine (in_no x1 0 1000000 _ HR'.out).mono ?_
          rintro e w2 ⟨rfl, rfl⟩
          go_wp2_with fail
          refine (nHas_two _ c m x1 _ HS.out HI.out HX1.out).mono ?_
          rintro e w2 ⟨rfl, q, rfl⟩
          rw [HNM.out]
          go_wp2_with fail
          refine (nAdd_range _ x1 _ HR'.out).mono ?_
          rintro e w2 ⟨rfl, rfl⟩
          go_wp2_with fail
          refine (eError_some 1 1 _ (HGR.out.keep ((Keep.refl [] _).drewN q) (by simp))).mono ?_
          rintro e w2 ⟨rfl, hb2⟩
          have HB2 := Lib.hid hb2; clear hb2
          go_wp2
          go_ret
          exact ⟨by simp, (HB.out.trans (((Keep.refl [] wr).drewN q).below HB.out.size (by simp))).trans (HB2.out.mono HB.out.size)⟩
end Go.Proofs.YtjnghpambjjlkaaDoor
