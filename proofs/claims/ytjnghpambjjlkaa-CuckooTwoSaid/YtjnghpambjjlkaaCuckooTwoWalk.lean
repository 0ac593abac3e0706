/-
  CuckooTwo: the walk.
-/
import Derived.Test.YtjnghpambjjlkaaCuckooTwoOps
import Derived.Test.YtjnghpambjjlkaaLift
namespace Go.Proofs.Ytjnghpambjjlkaa
open Go.RowKit

theorem OwnInts.keepF {w w' : World} {F : List Nat} {base : Nat} {v : Value} {xs : List Int} (h : OwnInts w base v xs) (hk : Keep F w w') (hF : ∀ x ∈ F, x < base) : OwnInts w' base v xs := by
  refine h.keep (fun g hg => ?_)
  have hl := World.ownsRow.lt h g hg
  exact hk.block g hl.2 (fun hm => by have := hF g hm; omega)

theorem row0 {c : List Int} {m : Int} {k : Nat} (h : NInv c m) (hk : k < 11) (hx : c.getD k 0 ≠ 0) : (c.getD k 0 - 1) % 11 = k ∧ c.getD k 0 - 1 ∈ live c := by
  have hf := h.fine k (by omega)
  have hp := h.pos k (by omega) hx
  rw [show k / 11 = 0 by omega] at hp
  unfold spot nst at hp
  rw [if_pos rfl] at hp
  exact ⟨by omega, (mem_live h.len _).2 ⟨k, by omega, hx, rfl⟩⟩
theorem row1 {c : List Int} {m : Int} {k : Nat} (h : NInv c m) (hk : k < 11) (hx : c.getD (11 + k) 0 ≠ 0) : (c.getD (11 + k) 0 - 1) / 11 % 11 = k ∧ c.getD (11 + k) 0 - 1 ∈ live c := by
  have hf := h.fine (11 + k) (by omega)
  have hp := h.pos (11 + k) (by omega) hx
  rw [show (11 + k) / 11 = 1 by omega] at hp
  unfold spot nst at hp
  rw [if_neg (by decide)] at hp
  exact ⟨by omega, (mem_live h.len _).2 ⟨11 + k, by omega, hx, rfl⟩⟩

theorem nz_le (c : List Int) (k : Nat) : nz c k ≤ k + k := by
  unfold nz
  have h1 := List.length_filter_le (fun x : Int => decide (x ≠ 0)) (c.take k)
  have h2 := List.length_filter_le (fun x : Int => decide (x ≠ 0)) ((c.drop 11).take k)
  have h3 : (c.take k).length ≤ k := List.length_take_le _ _
  have h4 : ((c.drop 11).take k).length ≤ k := List.length_take_le _ _
  omega

def TwoRel (w : World) (b base n : Nat) (v i : Value) (wr : World) : Prop :=
  ∃ (k : Nat) (c : List Int) (m : Int) (has : List Int), k ≤ n ∧ k ≤ 60 ∧ i = .int .i64 k ∧ has.length ≤ k ∧ NAt wr b c m ∧ NInv c m ∧ (live c).Perm has ∧ OwnInts wr base v has ∧ Below w.heap.size w wr ∧ base ≤ wr.heap.size

set_option maxHeartbeats 4000000 in
set_option maxRecDepth 100000 in
theorem cuckooTwo_walk (a0 : Option Addr) (c0 : Nat) (l0 : List Int) (x1 : Int) (w : World) (h0 : IntsIn w w.heap.size a0 l0) (e0 : ∀ y ∈ l0, I64 y) (m0 : Reached l0) (h1 : I64 x1) :
    Calls Try.prog 3 #[.slice a0 l0.length c0, .int .i64 x1] w fun e w' => e = .returned (.bool true) ∧ Below w.heap.size w w' := by
  have h1 := h1.bd
  have HE := Lib.hid e0; have HX1 := Lib.hid h1; have H0 := Lib.hid h0; clear e0 h1 h0 m0
  obtain ⟨n, hn⟩ : ∃ n, n = l0.length := ⟨_, rfl⟩
  rw [← hn]
  have HN := Lib.hid hn; clear hn
  obtain ⟨i0, hi, hz0, hz1, hz2⟩ := info_parts info_int
  go_enter Try.func3, Try.ntmps3
  go_wp2_with fail
  refine (cuckooFact_any _).mono ?_
  rintro e wf ⟨rfl, hbf⟩
  go_wp2_with fail
  refine (nestsNew _).mono ?_
  rintro e w1 ⟨rfl, hs1, hb1⟩
  have hw1 := hb1.size
  have hwf := hbf.size
  have hblt : wf.heap.size < w1.heap.size := hs1.top.lt
  have hbel1 : Below w.heap.size w w1 := hbf.trans (hb1.mono hwf)
  have HS1 := Lib.hid hs1; have HB1 := Lib.hid hbel1; clear hs1 hb1 hbf hbel1
  go_wp2
  go_loopw [7, 8] (fun v i wr => TwoRel w wf.heap.size w1.heap.size n v i wr) (fun _ i _ => n - (intOf i).toNat)
  case atStart => exact ⟨0, _, _, [], by omega, by omega, rfl, by simp, HS1.out, n0_inv, by decide, OwnInts.nil _ _, HB1.out, Nat.le_refl _⟩
  case round =>
    obtain ⟨k, c, m, has, hk, hk60, rfl, hhl, hs, hinv, hperm, hown, hbel, hbase⟩ := hrel
    have HS := Lib.hid hs; have HI := Lib.hid hinv; have HP := Lib.hid hperm; have HO := Lib.hid hown; have HB := Lib.hid hbel
    obtain ⟨av, cv, rfl, hinv2⟩ := hown.shape
    have HIN := Lib.hid hinv2
    clear hs hinv hperm hown hbel hinv2
    obtain ⟨hl, hhlen⟩ : ∃ hl, hl = has.length := ⟨_, rfl⟩
    rw [← hhlen] at hhl ⊢
    rw [← hhlen] at HO
    have hhas : has.length ≤ 60 := by omega
    have HHL := Lib.hid hhlen; clear hhlen
    by_cases hlt : k < n ∧ k < 60
    · obtain ⟨hlt, hlt6⟩ := hlt
      obtain ⟨bx, off, rfl, hbB, hc⟩ := H0.out.at_ (show k < l0.length by rw [← HN.out]; exact hlt)
      have hcw := (HB.out.cell (p := ⟨bx, off + k, none⟩) hbB).trans hc
      have hI := HE.out _ (List.getElem_mem (show k < l0.length by rw [← HN.out]; exact hlt))
      obtain ⟨x, hx⟩ : ∃ x, x = l0[k]'(by rw [← HN.out]; exact hlt) := ⟨_, rfl⟩
      rw [← hx] at hcw hI
      clear hx hc
      have hI := hI.bd
      obtain ⟨hxl, hxh⟩ := hI
      have hk60' : (k : Int) < 60 := by omega
      have hkn : (k : Int) < (n : Int) := by omega
      have hk0 : (0 : Int) ≤ (k : Int) := by omega
      by_cases hx0 : 0 ≤ x
      · go_wp2_with fail
        refine (nAdd_two _ c m x _ HS.out HI.out).mono ?_
        rintro e w2 (⟨c', m', rfl, hs2, hi2, hp2, hk2⟩ | ⟨en, rfl, hs2, hk2⟩)
        · have HS2 := Lib.hid hs2; have HI2 := Lib.hid hi2; have HP2 := Lib.hid hp2; have HK2 := Lib.hid hk2
          have hbx : bx < w2.heap.size := by have := HB.out.size; have := hk2.size; omega
          have hcw2 : w2.cell? ⟨bx, off + k, none⟩ = some (.int .i64 x) := (hk2.cell (p := ⟨bx, off + k, none⟩) (by have := HB.out.size; show bx < _; omega) (by simp; omega)).trans hcw
          have hsz2 := hk2.size
          have hown2 := HO.out.keepF hk2 (by simp; exact hblt)
          have HO2 := Lib.hid hown2
          clear hs2 hi2 hp2 hk2 hcw hown2
          unfold OwnInts at HO2
          go_wp2_with (at_builtin; refine wpList_append_own _ rfl _ _ 22 rfl w1.heap.size 3 i0 (.int .i64 0) 1 8 Try.underlying22 hi hz0 hz1 hz2 rfl (by decide) _ _ _ rfl (HO2.out.alloc _) ⟨w2.heap.size, 0, none⟩ 1 1 [.int .i64 x] rfl rfl (by intro p u hp; match p, hp with | 0, hp => simp at hp; subst hp; simp [Addr.add]) (by intro u hu; simp at hu; subst hu; rfl) (by unfold maxLen; omega) (by omega) (by simp; omega) ?_; intro v' w3 hown' hgrow hlies)
          go_roundw
          case rel =>
            have e1 : Below w.heap.size w w3 := ((HB.out.trans (HK2.out.below HB.out.size (by simp; omega))).alloc (by omega) _).grown hgrow (by simp; omega) (fun x hx => by have := (HO2.out.lt x hx).1; omega)
            have e2 := hgrow.size
            refine ⟨k + 1, c', m', has ++ [x], hlt, hlt6, by simp, by have := HHL.out; simp; omega, ?_, HI2.out, ?_, ?_, e1, by simp at e2; omega⟩
            · refine ⟨(HS2.out.top.alloc _).grown hgrow (fun hg => ?_), HS2.out.len⟩
              have := (HO2.out.lt _ hg.symm).1; omega
            · exact (HP2.out.trans (HP.out.cons x)).trans (List.perm_append_singleton x has).symm
            · unfold OwnInts; simpa [ints] using hown'
          case measure => simp [intOf]; omega
        · have HS2 := Lib.hid hs2; have HK2 := Lib.hid hk2
          have hsz2 := hk2.size
          clear hs2 hk2
          go_wp2
          go_roundw
          case rel => exact ⟨k + 1, c, m, has, hlt, hlt6, by simp, by have := HHL.out; omega, HS2.out, HI.out, HP.out, HO.out.keepF HK2.out (by simp; exact hblt), HB.out.trans (HK2.out.below HB.out.size (by simp; omega)), by omega⟩
          case measure => simp [intOf]; omega
      · have hneg : ¬ 0 ≤ x := hx0
        obtain ⟨y, hy⟩ : ∃ y, y = -1 - x := ⟨_, rfl⟩
        have hsub : IntKind.i64.wrap (-1 - x) = y := by rw [hy]; exact IntWalk.i64_in _ (by omega)
        have hy2 : -1 - x = y := hy.symm
        have HYB : Hid (-9223372036854775808 ≤ y ∧ y ≤ 9223372036854775807) := Lib.hid (by omega)
        clear hy
        go_wp2_with fail
        refine (nDrop_two _ c m y _ HS.out HI.out).mono ?_
        rintro e w2 (⟨c', m', rfl, hs2, hi2, hp2, hk2⟩ | ⟨en, rfl, hs2, hk2⟩)
        · have HS2 := Lib.hid hs2; have HI2 := Lib.hid hi2; have HP2 := Lib.hid hp2; have HK2 := Lib.hid hk2
          have hcw2 : w2.cell? ⟨bx, off + k, none⟩ = some (.int .i64 x) := (hk2.cell (p := ⟨bx, off + k, none⟩) (by have := HB.out.size; show bx < _; omega) (by simp; omega)).trans hcw
          have hsz2 := hk2.size
          have HO2 := Lib.hid (HO.out.keepF hk2 (by simp; exact hblt))
          have hin2 : IntsIn w2 w2.heap.size av has := by
            obtain ⟨av', cv', e, hh⟩ := HO2.out.shape
            simp only [Value.slice.injEq] at e
            obtain ⟨rfl, _, _⟩ := e
            exact hh
          have HIN2 := Lib.hid hin2
          have hmem : y ∈ has := HP.out.mem_iff.1 (HP2.out.mem_iff.1 (List.mem_cons_self))
          have HM := Lib.hid (show decide (y ∈ has) = true by simpa using hmem)
          have HPE : Hid ((live c').Perm (has.erase y)) := Lib.hid (by
            have := (HP2.out.trans HP.out).erase y
            simpa using this)
          clear hs2 hi2 hp2 hk2 hcw hin2 hmem
          have hcw := hcw2
          clear hcw2
          go_wp2_with fail
          refine (rHas av hl cv _ has y _ HHL.out.symm HIN2.out (by omega)).mono ?_
          rintro e w3 ⟨rfl, rfl⟩
          rw [HM.out]
          go_wp2_with fail
          refine (rWithout av hl cv _ has y _ HHL.out.symm HIN2.out (Nat.le_refl _) (by omega)).mono ?_
          rintro e w3 ⟨v3, rfl, hown3, hb3⟩
          have HO3 := Lib.hid hown3; have HB3 := Lib.hid hb3; clear hown3 hb3
          go_wp2
          go_roundw
          case rel =>
            have hsz3 := HB3.out.size
            have hel : (has.erase y).length ≤ has.length := List.length_erase_le
            exact ⟨k + 1, c', m', has.erase y, hlt, hlt6, by simp, by have := HHL.out; omega, HS2.out.keep (Keep.of_below (F := []) HB3.out (Nat.le_refl _)) (by simp), HI2.out, HPE.out, HO3.out.base (by omega),
              HB.out.trans ((HK2.out.below HB.out.size (by simp; omega)).trans (HB3.out.mono (by have := HB.out.size; omega))), by omega⟩
          case measure => simp [intOf]; omega
        · have HS2 := Lib.hid hs2; have HK2 := Lib.hid hk2
          have hsz2 := hk2.size
          clear hs2 hk2
          go_wp2
          go_roundw
          case rel => exact ⟨k + 1, c, m, has, hlt, hlt6, by simp, by have := HHL.out; omega, HS2.out, HI.out, HP.out, HO.out.keepF HK2.out (by simp; exact hblt), HB.out.trans (HK2.out.below HB.out.size (by simp; omega)), by omega⟩
          case measure => simp [intOf]; omega
    · have hex : ¬ (k : Int) < (n : Int) ∨ ((k : Int) < (n : Int) ∧ ¬ (k : Int) < 60) := by omega
      clear hlt
      have hhl2 : (hl : Int) ≤ 60 := by omega
      have HF := Lib.hid HI.out.fine
      rcases hex with hex | ⟨hex, hex2⟩
      all_goals
        go_wp2_with fail
        refine (nRow_go _ c m 0 _ HS.out HF.out (by decide)).mono ?_
        rintro e w2 ⟨ga, capa, cura, rfl, hga, hblka, hcura, hba⟩
        have HS2 := Lib.hid (HS.out.keep (Keep.of_below (F := []) hba (Nat.le_refl _)) (by simp))
        have HBA := Lib.hid hblka; have HCA := Lib.hid hcura; have HBL := Lib.hid hba
        have hsz2 := hba.size
        clear hblka hcura hba
        go_wp2_with fail
        refine (nRow_go _ c m 1 _ HS2.out HF.out (by decide)).mono ?_
        rintro e w3 ⟨gb, capb, curb, rfl, hgb, hblkb, hcurb, hbb⟩
        have hsz3 := hbb.size
        have HS3 := Lib.hid (HS2.out.keep (Keep.of_below (F := []) hbb (Nat.le_refl _)) (by simp))
        have HBA3 := Lib.hid (HBA.out.keep (Keep.of_below (F := []) hbb (Nat.le_refl _)) (by simp))
        have HBB := Lib.hid hblkb; have HCB := Lib.hid hcurb
        have HK3 : Hid (Keep [] wr w3) := Lib.hid ((Keep.of_below (F := []) HBL.out (Nat.le_refl _)).trans (Keep.of_below (F := []) hbb (Nat.le_refl _)))
        clear hblkb hcurb hbb HBL HBA HS2
        have HIN3 : Hid (IntsIn w3 wr.heap.size av has) := Lib.hid (HIN.out.keep (fun k hk => HK3.out.block k hk (by simp)))
        go_wp2_with fail
        refine (nHas_two _ c m x1 _ HS3.out HI.out HX1.out).mono ?_
        rintro e w4 ⟨rfl, q, rfl⟩
        obtain ⟨bv, hbv⟩ : ∃ bv, bv = decide (x1 ∈ has) := ⟨_, rfl⟩
        rw [show decide (x1 ∈ live c) = bv by rw [hbv, decide_eq_decide]; exact HP.out.mem_iff]
        have HBV := Lib.hid hbv; clear hbv
        go_wp2_with fail
        refine (rHas av hl cv _ has x1 _ HHL.out.symm (HIN3.out.drewN _) (by omega)).mono ?_
        rintro e w5 ⟨rfl, rfl⟩
        rw [← HBV.out]
        obtain ⟨wq, hwq⟩ : ∃ wq : World, wq = w3.drewN q := ⟨_, rfl⟩
        have hsq : NAt wq wf.heap.size c m := by rw [hwq]; exact HS3.out.drewN q
        have hinq : IntsIn wq wr.heap.size av has := by rw [hwq]; exact HIN3.out.drewN q
        have hbaq : Blk wq ga 3 cura := by rw [hwq]; exact HBA3.out.drewN q
        have hbbq : Blk wq gb 3 curb := by rw [hwq]; exact HBB.out.drewN q
        have hbelq : Below w.heap.size w wq := by rw [hwq]; exact HB.out.trans ((HK3.out.drewN q).below HB.out.size (by simp))
        have hszq : w3.heap.size ≤ wq.heap.size := by rw [hwq]; exact Nat.le_refl _
        rw [← hwq]
        have HSQ := Lib.hid hsq; have HINQ := Lib.hid hinq; have HBAQ := Lib.hid hbaq; have HBBQ := Lib.hid hbbq; have HBELQ := Lib.hid hbelq
        clear hwq hsq hinq hbaq hbbq hbelq HS3 HIN3 HBA3 HBB HK3 HS HIN HO HB HBV
        cases bv
        all_goals
          go_wp2
          go_loopw [11, 12] (fun many i wy => ∃ k : Nat, k ≤ 11 ∧ i = .int .i64 k ∧ many = .int .i64 (nz c k : Nat) ∧ wq = wy) (fun _ i _ => 11 - (intOf i).toNat)
          case atStart => exact ⟨0, by omega, rfl, by simp [nz_zero], rfl⟩
          case round =>
            obtain ⟨j, hj, rfl, rfl, rfl⟩ := hrel
            obtain ⟨s, hs⟩ : ∃ s, s = nz c j := ⟨_, rfl⟩
            by_cases hlt : j < 11
            · have hlt' : (j : Int) < 11 := by omega
              have hj0 : (0 : Int) ≤ (j : Int) := by omega
              have hca := HBAQ.out.cell_ (HCA.out j hlt)
              have hcb := HBBQ.out.cell_ (HCB.out j hlt)
              rw [show 0 * 11 + j = j by omega] at hca
              rw [show 1 * 11 + j = 11 + j by omega] at hcb
              have fa := HI.out.fine j (by omega)
              have fb := HI.out.fine (11 + j) (by omega)
              have hsle : s ≤ 22 := by have := nz_le c j; omega
              have HNZ := Lib.hid (nz_succ HI.out.len hlt)
              rw [← hs] at HNZ ⊢
              have ra := fun h => row0 (k := j) HI.out hlt h
              have rb := fun h => row1 (k := j) HI.out hlt h
              have pa : ∀ z, z ∈ live c → decide (z ∈ has) = true := fun z hz => by simpa using HP.out.mem_iff.1 hz
              obtain ⟨xa, hxa⟩ : ∃ xa, xa = c.getD j 0 := ⟨_, rfl⟩
              obtain ⟨xb, hxb⟩ : ∃ xb, xb = c.getD (11 + j) 0 := ⟨_, rfl⟩
              rw [← hxa] at hca fa HNZ ra
              rw [← hxb] at hcb fb HNZ rb
              clear hxa hxb
              obtain ⟨fa0, fa1⟩ := fa
              obtain ⟨fb0, fb1⟩ := fb
              have RA := Lib.hid ra; have RB := Lib.hid rb; have PA := Lib.hid pa; clear ra rb pa
              have HS := Lib.hid hs; clear hs
              by_cases za : xa = 0
              · subst za
                by_cases zb : xb = 0
                · subst zb
                  go_wp2
                  go_roundw
                  case rel => exact ⟨j + 1, hlt, by simp, congrArg (Value.int .i64) (by have h := HNZ.out; simp at h; omega), by trivial⟩
                  case measure => simp [intOf]; omega
                · obtain ⟨rb1, rb2⟩ := RB.out zb
                  have PB := Lib.hid (PA.out _ rb2)
                  clear rb2
                  have g1 : 0 ≤ xb - 1 := by omega
                  have g2 : 1 ≤ xb := by omega
                  go_wp2_with fail
                  refine (rHas av hl cv _ has (xb - 1) _ HHL.out.symm HINQ.out (by omega)).mono ?_
                  rintro e w6 ⟨rfl, rfl⟩
                  rw [PB.out]
                  go_wp2
                  go_roundw
                  case rel => exact ⟨j + 1, hlt, by simp, congrArg (Value.int .i64) (by have h := HNZ.out; simp [zb] at h; omega), by trivial⟩
                  case measure => simp [intOf]; omega
              · obtain ⟨ra1, ra2⟩ := RA.out za
                have PPA := Lib.hid (PA.out _ ra2)
                clear ra2
                have g1 : 0 ≤ xa - 1 := by omega
                have g2 : 1 ≤ xa := by omega
                by_cases zb : xb = 0
                · subst zb
                  go_wp2_with fail
                  refine (rHas av hl cv _ has (xa - 1) _ HHL.out.symm HINQ.out (by omega)).mono ?_
                  rintro e w6 ⟨rfl, rfl⟩
                  rw [PPA.out]
                  go_wp2
                  go_roundw
                  case rel => exact ⟨j + 1, hlt, by simp, congrArg (Value.int .i64) (by have h := HNZ.out; simp [za] at h; omega), by trivial⟩
                  case measure => simp [intOf]; omega
                · obtain ⟨rb1, rb2⟩ := RB.out zb
                  have PB := Lib.hid (PA.out _ rb2)
                  clear rb2
                  have g3 : 0 ≤ xb - 1 := by omega
                  have g4 : 1 ≤ xb := by omega
                  go_wp2_with fail
                  refine (rHas av hl cv _ has (xa - 1) _ HHL.out.symm HINQ.out (by omega)).mono ?_
                  rintro e w6 ⟨rfl, rfl⟩
                  rw [PPA.out]
                  go_wp2_with fail
                  refine (rHas av hl cv _ has (xb - 1) _ HHL.out.symm HINQ.out (by omega)).mono ?_
                  rintro e w6 ⟨rfl, rfl⟩
                  rw [PB.out]
                  go_wp2
                  go_roundw
                  case rel => exact ⟨j + 1, hlt, by simp, congrArg (Value.int .i64) (by have h := HNZ.out; simp [za, zb] at h; omega), by trivial⟩
                  case measure => simp [intOf]; omega
            · have hlt' : ¬ (j : Int) < 11 := by omega
              obtain rfl : j = 11 := by omega
              have hsl : s = hl := by rw [hs, nz_all HI.out.len, HHL.out, HP.out.length_eq]
              rw [← hs]
              subst hsl
              clear hs
              go_wp2
              go_loopw [13] (fun i wy => ∃ k : Nat, k ≤ s ∧ i = .int .i64 k ∧ Keep [] wq wy) (fun i _ => s - (intOf i).toNat)
              case atStart => exact ⟨0, by omega, rfl, Keep.refl _ _⟩
              case round =>
                obtain ⟨p, hp, rfl, hkp⟩ := hrel
                have HKP := Lib.hid hkp; clear hkp
                by_cases hlt2 : p < s
                · have hps : (p : Int) < (s : Int) := by omega
                  have hp0 : (0 : Int) ≤ (p : Int) := by omega
                  have hpl : p < has.length := by rw [← HHL.out]; exact hlt2
                  obtain ⟨bh, offh, rfl, hbh, hch⟩ := HINQ.out.at_ hpl
                  have hch2 := (HKP.out.cell (p := ⟨bh, offh + p, none⟩) (by show bh < _; omega) (by simp)).trans hch
                  obtain ⟨z, hz⟩ : ∃ z, z = has[p] := ⟨_, rfl⟩
                  have hzl : z ∈ live c := by rw [hz]; exact HP.out.mem_iff.2 (List.getElem_mem _)
                  rw [← hz] at hch2
                  clear hz hch
                  have hzb : -9223372036854775808 ≤ z ∧ z ≤ 9223372036854775807 := by
                    obtain ⟨i, hi, _, e⟩ := (mem_live HI.out.len z).1 hzl
                    have := HI.out.fine i hi
                    omega
                  have HZB := Lib.hid hzb
                  have HZL := Lib.hid (show decide (z ∈ live c) = true by simpa using hzl)
                  clear hzl hzb
                  go_wp2_with fail
                  refine (nHas_two _ c m z _ (HSQ.out.keep HKP.out (by simp)) HI.out HZB.out).mono ?_
                  rintro e w6 ⟨rfl, q6, rfl⟩
                  rw [HZL.out]
                  go_wp2
                  go_roundw
                  case rel => exact ⟨p + 1, hlt2, by simp, HKP.out.drewN _⟩
                  case measure => simp [intOf]; omega
                · obtain rfl : p = s := by omega
                  go_wp2
                  go_ret
                  exact ⟨by simp, HBELQ.out.trans (HKP.out.below HBELQ.out.size (by simp))⟩
end Go.Proofs.Ytjnghpambjjlkaa
