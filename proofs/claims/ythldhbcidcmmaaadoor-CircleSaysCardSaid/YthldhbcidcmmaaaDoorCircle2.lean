/-
  The circle: slices.MinFunc with the order of a place, circle.owner, slices.Index, slices.Contains, circle.Check, circle.Owner, by their contracts.
-/
import Derived.Test.YthldhbcidcmmaaaDoorCircle
namespace Go.Proofs.YthldhbcidcmmaaaDoor
open Go.RowKit

def InB (l : List Int) : Prop := ∀ x ∈ l, 0 ≤ x ∧ x ≤ 1000000
theorem foldl_step_mem (p : Int) : ∀ (l : List Int) (m : Int), l.foldl (stepO p) m = m ∨ l.foldl (stepO p) m ∈ l
  | [], m => .inl rfl
  | x :: l, m => by
    simp only [List.foldl_cons]
    rcases foldl_step_mem p l (stepO p m x) with h | h
    · rw [h]
      unfold stepO
      split
      · exact .inr (by simp)
      · exact .inl rfl
    · exact .inr (by simp [h])
theorem ownO_mem (p : Int) {l : List Int} (h : l ≠ []) : ownO p l ∈ l := by
  cases l with
  | nil => exact absurd rfl h
  | cons x l =>
    show l.foldl (stepO p) x ∈ x :: l
    rcases foldl_step_mem p l x with e | e
    · rw [e]; simp
    · simp [e]
theorem ownO_take {p : Int} {l : List Int} {k : Nat} (h0 : 0 < k) (hk : k < l.length) : ownO p (l.take (k + 1)) = stepO p (ownO p (l.take k)) l[k] := by
  rw [List.take_succ_eq_append_getElem hk]
  cases h : l.take k with
  | nil => exfalso; have := congrArg List.length h; rw [List.length_take] at this; simp only [List.length_nil] at this; omega
  | cons x r => simp [ownO, List.foldl_append]
theorem ownO_snoc (p : Int) {l : List Int} (h : l ≠ []) (x : Int) : ownO p (l ++ [x]) = stepO p (ownO p l) x := by
  cases l with
  | nil => exact absurd rfl h
  | cons y r => simp [ownO, List.foldl_append]

def MinRel (w : World) (p : Int) (l : List Int) (m i : Value) (wr : World) : Prop :=
  ∃ k : Nat, 1 ≤ k ∧ k ≤ l.length ∧ i = .int .i64 k ∧ m = .int .i64 (ownO p (l.take k)) ∧ Below w.heap.size w wr
def OwnPost (w : World) (p : Int) (l : List Int) (e : Ending) (w' : World) : Prop := e = .returned (.int .i64 (ownO p l)) ∧ Below w.heap.size w w'

set_option maxHeartbeats 1000000 in
set_option maxRecDepth 100000 in
theorem minFunc_any (p : Int) (ad : Addr) (a : Option Addr) (n c : Nat) (l : List Int) (w : World) (hl : l.length = n) (h : IntsIn w w.heap.size a l) (hc : w.cell? ad = some (.int .i64 p)) (hap : ad.block < w.heap.size) (hp0 : 0 ≤ p) (hp1 : p < 1000) (hb : InB l) (h0 : 0 < n) (hn : n ≤ 1000) :
    Calls Tryd.prog 62 #[.slice a n c, .func (.func 63) #[] #[.pointer (some ad)]] w (OwnPost w p l) := by
  have HL := Lib.hid hl; have HC := Lib.hid hc; have HB := Lib.hid hb; have H := Lib.hid h; clear hl hc hb h
  have hn2 : (n : Int) ≤ 1000 := by omega
  have hn0 : (0 : Int) < (n : Int) := by omega
  have hn1 : ¬ (n : Int) < 1 := by omega
  obtain ⟨b, off, rfl, hbB, hc0⟩ := H.out.at_ (show 0 < l.length by rw [HL.out]; exact h0)
  have hm0 : ownO p (l.take 1) = l[0]'(by rw [HL.out]; exact h0) := by
    have e : l.take 1 = [l[0]'(by rw [HL.out]; exact h0)] := by
      rw [List.take_succ_eq_append_getElem (by rw [HL.out]; exact h0)]; simp
    rw [e]; rfl
  obtain ⟨x0, hx0⟩ : ∃ x, x = l[0]'(by rw [HL.out]; exact h0) := ⟨_, rfl⟩
  rw [← hx0] at hc0 hm0
  rw [Nat.add_zero] at hc0
  have HM0 := Lib.hid hm0; clear hm0 hx0
  go_enter Tryd.func62, Tryd.ntmps62
  go_wp2
  go_loopw [5, 6] (fun m i wr => MinRel w p l m i wr) (fun _ i _ => n - (intOf i).toNat)
  case atStart => exact ⟨1, by omega, by rw [HL.out]; omega, rfl, by rw [HM0.out], Below.refl _ _⟩
  case round =>
    obtain ⟨k, hk1, hk, rfl, rfl, hbel⟩ := hrel
    have HBE := Lib.hid hbel; clear hbel
    have hkn : k ≤ n := by have := HL.out; omega
    obtain ⟨m, hm⟩ : ∃ m, m = ownO p (l.take k) := ⟨_, rfl⟩
    have hmm : m ∈ l := by
      rw [hm]
      refine List.mem_of_mem_take (ownO_mem p (l := l.take k) (fun h => ?_))
      have := congrArg List.length h
      rw [List.length_take] at this; simp only [List.length_nil] at this; omega
    have hmb := HB.out m hmm
    by_cases hlt : k < n
    · have hkl : k < l.length := by rw [HL.out]; exact hlt
      have HT := Lib.hid (ownO_take (p := p) (by omega : 0 < k) hkl)
      have hxb := HB.out _ (List.getElem_mem hkl)
      obtain ⟨b', off', e', hbB', hcx⟩ := H.out.at_ hkl
      simp only [Option.some.injEq, Addr.mk.injEq] at e'
      obtain ⟨rfl, rfl, _⟩ := e'
      obtain ⟨x, hx⟩ : ∃ x, x = l[k] := ⟨_, rfl⟩
      rw [← hx, ← hm] at HT
      rw [← hx] at hxb hcx
      rw [← hm]
      have hcw := (HBE.out.cell (p := ⟨b, off + k, none⟩) hbB').trans hcx
      have hcp := (HBE.out.cell hap).trans HC.out
      have HCP := Lib.hid hcp
      have HMM := Lib.hid hm
      clear hx hm hcx hcp hmm
      obtain ⟨hm0', hm1'⟩ := hmb
      obtain ⟨hx0', hx1'⟩ := hxb
      have hki : (k : Int) < (n : Int) := by omega
      have hk0 : (0 : Int) ≤ (k : Int) := by omega
      obtain ⟨r, hr⟩ : ∃ r, ordI p x m = r := ⟨_, rfl⟩
      have HR := Lib.hid hr; clear hr
      go_wp2_with fail
      refine (ord_any p x m ad _ HCP.out hp0 hp1 hx0' hx1' hm0' hm1').mono ?_
      rintro e w2 ⟨rfl, hb2⟩
      rw [HR.out]
      have hcw2 := (hb2.cell (p := ⟨b, off + k, none⟩) (by have := HBE.out.size; show b < _; omega)).trans hcw
      have HB2 := Lib.hid hb2
      clear hb2 hcw
      by_cases hless : r < 0
      · go_wp2
        go_roundw
        case rel => exact ⟨k + 1, by omega, hkl, by simp, by rw [HT.out]; unfold stepO; rw [HR.out, if_pos hless], HBE.out.trans (HB2.out.mono HBE.out.size)⟩
        case measure => simp [intOf]; omega
      · go_wp2
        go_roundw
        case rel => exact ⟨k + 1, by omega, hkl, by simp, by rw [HT.out]; unfold stepO; rw [HR.out, if_neg (by omega)], HBE.out.trans (HB2.out.mono HBE.out.size)⟩
        case measure => simp [intOf]; omega
    · obtain rfl : k = n := by omega
      have e : l.take k = l := List.take_of_length_le (by rw [HL.out]; exact Nat.le_refl _)
      have HM2 : Hid (m = ownO p l) := Lib.hid (by rw [hm, e])
      rw [← hm]
      clear e hm hmm
      go_wp2
      go_ret
      exact ⟨ret_int HM2.out, HBE.out⟩

theorem owner_any (p : Int) (a : Option Addr) (n c : Nat) (l : List Int) (w : World) (hl : l.length = n) (h : IntsIn w w.heap.size a l) (hp0 : 0 ≤ p) (hp1 : p < 1000) (hb : InB l) (h0 : 0 < n) (hn : n ≤ 1000) :
    Calls Tryd.prog 48 #[.slice a n c, .int .i64 p] w (OwnPost w p l) := by
  have HL := Lib.hid hl; have HB := Lib.hid hb; have H := Lib.hid h; clear hl hb h
  have H2 : Hid (IntsIn (w.alloc (.cells #[.int .i64 p] 3)) (w.alloc (.cells #[.int .i64 p] 3)).heap.size a l) := Lib.hid ((H.out.below ((Below.refl _ w).alloc (Nat.le_refl _) _)).more (by simp))
  go_enter Tryd.func48, Tryd.ntmps48
  go_wp2_with fail
  refine (minFunc_any p ⟨w.heap.size, 0, none⟩ a n c l _ HL.out H2.out (by simp) (by simp) hp0 hp1 HB.out h0 hn).mono ?_
  rintro e w2 ⟨rfl, hb2⟩
  have HB2 := Lib.hid hb2; clear hb2
  go_wp2
  go_ret
  exact ⟨rfl, ((Below.refl _ w).alloc (Nat.le_refl _) _).trans (HB2.out.mono (by simp))⟩

/-! ### Index, Contains -/
def idxI (l : List Int) (x : Int) : Int := if x ∈ l then (l.findIdx (fun y => x == y) : Nat) else -1
theorem index_any (a : Option Addr) (n c B : Nat) (l : List Int) (x : Int) (w : World) (hl : l.length = n) (h : IntsIn w B a l) (hn : n ≤ 1000) :
    Calls Tryd.prog 47 #[.slice a n c, .int .i64 x] w fun e w' => e = .returned (.int .i64 (idxI l x)) ∧ w = w' := by
  have HL := Lib.hid hl; clear hl
  have hn2 : (n : Int) ≤ 1000 := by omega
  go_enter Tryd.func47, Tryd.ntmps47
  go_wp2
  go_loop [5, 8] (fun _ i => ∃ k : Nat, k ≤ n ∧ i = .int .i64 k ∧ ∀ j (hj : j < l.length), j < k → (x == l[j]) = false) (fun _ i => n - (intOf i).toNat)
  case atStart => exact ⟨0, by omega, rfl, fun j hj h => by omega⟩
  case round =>
    obtain ⟨k, hk, rfl, hno⟩ := hrel
    have HNO := Lib.hid hno; clear hno
    by_cases hlt : k < n
    · have hkl : k < l.length := by rw [HL.out]; exact hlt
      obtain ⟨b, off, rfl, hb, hc⟩ := h.at_ hkl
      obtain ⟨y, hy⟩ : ∃ y, y = l[k] := ⟨_, rfl⟩
      rw [← hy] at hc
      have HY := Lib.hid hy
      clear hy
      have hki : (k : Int) < (n : Int) := by omega
      have hk0 : (0 : Int) ≤ (k : Int) := by omega
      by_cases e : x = y
      · subst e
        have hv : idxI l x = (k : Int) := by
          have hfi : l.findIdx (fun y => x == y) = k := by
            rw [List.findIdx_eq hkl]
            exact ⟨by rw [← HY.out]; simp, fun j hj => by simpa using HNO.out j (by omega) hj⟩
          unfold idxI
          rw [if_pos (by rw [HY.out]; exact List.getElem_mem hkl), hfi]
        have HV := Lib.hid hv; clear hv
        go_wp2
        go_ret
        exact ⟨ret_int HV.out.symm, rfl⟩
      · go_wp2
        go_round
        case rel =>
          refine ⟨k + 1, hlt, by simp, fun j hj h => ?_⟩
          rcases Nat.lt_or_ge j k with g | g
          · exact HNO.out j hj g
          · obtain rfl : j = k := by omega
            rw [← HY.out]; simpa using e
        case measure => simp [intOf]; omega
    · obtain rfl : k = n := by omega
      have hv : idxI l x = -1 := by
        unfold idxI
        rw [if_neg]
        intro hm
        obtain ⟨j, hj, rfl⟩ := List.getElem_of_mem hm
        have := HNO.out j hj (by have := HL.out; omega)
        simp at this
      have HV := Lib.hid hv; clear hv
      go_wp2
      go_ret
      exact ⟨ret_int HV.out.symm, rfl⟩
theorem contains_any (a : Option Addr) (n c B : Nat) (l : List Int) (x : Int) (w : World) (hl : l.length = n) (h : IntsIn w B a l) (hn : n ≤ 1000) :
    Calls Tryd.prog 45 #[.slice a n c, .int .i64 x] w fun e w' => e = .returned (.bool (decide (x ∈ l))) ∧ w = w' := by
  have H := Lib.hid h; have HL := Lib.hid hl; clear h hl
  by_cases hm : x ∈ l
  · have hd : decide (x ∈ l) = true := by simpa using hm
    obtain ⟨i, hi⟩ : ∃ i : Nat, idxI l x = (i : Int) := ⟨_, by unfold idxI; rw [if_pos hm]⟩
    have HI := Lib.hid hi
    rw [hd]
    clear hi hm hd
    go_enter Tryd.func45, Tryd.ntmps45
    go_wp2_with fail
    refine (index_any a n c B l x _ HL.out H.out hn).mono ?_
    rintro e w' ⟨rfl, rfl⟩
    rw [HI.out]
    have hi0 : (0 : Int) ≤ (i : Int) := by omega
    go_wp2
    go_ret
    exact ⟨by simp, rfl⟩
  · have hd : decide (x ∈ l) = false := by simpa using hm
    have hi : idxI l x = -1 := by unfold idxI; rw [if_neg hm]
    have HI := Lib.hid hi
    rw [hd]
    clear hi hm hd
    go_enter Tryd.func45, Tryd.ntmps45
    go_wp2_with fail
    refine (index_any a n c B l x _ HL.out H.out hn).mono ?_
    rintro e w' ⟨rfl, rfl⟩
    rw [HI.out]
    go_wp2
    go_ret
    exact ⟨by simp, rfl⟩
end Go.Proofs.YthldhbcidcmmaaaDoor
