/-
  slices.IndexFunc over counts, by its contracts, a closure each. (Printed by gen_heavy.py.)
-/
import Derived.Test.YtnpokcjdnlmheaaDoorHeavy
namespace Go.Proofs.YtnpokcjdnlmheaaDoor
open Go.RowKit

theorem space1_any (key : Int) (p : Addr) (x : Int × Int) (w : World) (hc : w.cell? p = some (.int .i64 key)) (hp : p.block < w.heap.size) :
    Calls Tryd.prog 47 #[.agg #[.int .i64 x.1, .int .i64 x.2], .pointer (some p)] w fun e w' => e = .returned (.bool (x.1 == key)) ∧ Below w.heap.size w w' := by
  have hne : p.block ≠ w.heap.size := by omega
  go_enter Tryd.func47, Tryd.ntmps47
  go_wp2
  go_ret
  exact ⟨rfl, (Below.refl _ _).alloc (Nat.le_refl _) _⟩
theorem keep2_any (x : Int × Int) (w : World) :
    Calls Tryd.prog 46 #[.agg #[.int .i64 x.1, .int .i64 x.2]] w fun e w' => e = .returned (.bool (x.2 == 0)) ∧ Below w.heap.size w w' := by
  go_enter Tryd.func46, Tryd.ntmps46
  go_wp2
  go_ret
  exact ⟨rfl, (Below.refl _ _).alloc (Nat.le_refl _) _⟩

/-- The first place where p holds, or none. -/
def IdxPost (p : Int × Int → Bool) (L : List (Int × Int)) (w : World) (e : Ending) (w' : World) : Prop :=
  Below w.heap.size w w' ∧ ((∃ (i : Nat) (hi : i < L.length), p L[i] = true ∧ (∀ j (hj : j < L.length), j < i → p L[j] = false) ∧ e = .returned (.int .i64 i)) ∨ ((∀ x ∈ L, p x = false) ∧ e = .returned (.int .i64 (-1))))
def IdxRel (p : Int × Int → Bool) (L : List (Int × Int)) (w : World) (i : Value) (wr : World) : Prop :=
  ∃ k : Nat, k ≤ L.length ∧ i = .int .i64 k ∧ (∀ j (hj : j < L.length), j < k → p L[j] = false) ∧ Below w.heap.size w wr

set_option maxHeartbeats 1000000 in
theorem idxKeep (n c g : Nat) (a : Option Addr) (p : Addr) (key : Int) (L : List (Int × Int)) (w : World) (hl : L.length = n) (ha : 0 < n → a = some ⟨g, 0, none⟩) (hg : g < w.heap.size) (hk : KIn w g L) (hn : n ≤ 1000) (hc : w.cell? p = some (.int .i64 key)) (hp : p.block < w.heap.size) :
    Calls Tryd.prog 43 #[.slice a n c, .func (.func 44) #[] #[.pointer (some p)]] w (IdxPost (fun x => x.1 == key) L w) := by
  have HL := Lib.hid hl; have HK := Lib.hid hk; have HA := Lib.hid ha; clear hl hk ha
  have HC := Lib.hid hc; clear hc
  have hn2 : (n : Int) ≤ 1000 := by omega
  go_enter Tryd.func43, Tryd.ntmps43
  go_wp2
  go_loopw [5, 8] (fun _ i wr => IdxRel (fun x => x.1 == key) L w i wr) (fun _ i _ => n - (intOf i).toNat)
  case atStart => exact ⟨0, by omega, rfl, fun j hj h => by omega, Below.refl _ _⟩
  case round =>
    obtain ⟨k, hk, rfl, hno, hbel⟩ := hrel
    have HNO := Lib.hid hno; have HB := Lib.hid hbel; clear hno hbel
    have hkn : k ≤ n := by have := HL.out; omega
    by_cases hlt : k < n
    · have hkl : k < L.length := by rw [HL.out]; exact hlt
      obtain rfl := HA.out (by omega)
      have hx := List.getElem?_eq_getElem hkl
      obtain ⟨x, hxx⟩ : ∃ x, x = L[k] := ⟨_, rfl⟩
      rw [← hxx] at hx
      obtain ⟨hc0, hc1⟩ := HK.out k x hx
      have hd0 := (HB.out.cell (p := ⟨g, k * 2, none⟩) hg).trans hc0
      have hd1 := (HB.out.cell (p := ⟨g, k * 2 + 1, none⟩) hg).trans hc1
      have HXX := Lib.hid hxx
      clear hx hxx hc0 hc1
      have hki : (k : Int) < (n : Int) := by omega
      have hk0 : (0 : Int) ≤ (k : Int) := by omega
      obtain ⟨bv, hbv⟩ : ∃ bv, bv = (x.1 == key) := ⟨_, rfl⟩
      have HBV := Lib.hid hbv; clear hbv
      have HCW := Lib.hid ((HB.out.cell (p := p) hp).trans HC.out)
      go_wp2_with fail
      refine (keep1_any key p x _ HCW.out (by have := HB.out.size; omega)).mono ?_
      rintro e w2 ⟨rfl, hb2⟩
      rw [← HBV.out]
      have HB2 := Lib.hid hb2; clear hb2
      have hbb : Below w.heap.size w w2 := HB.out.trans (HB2.out.mono HB.out.size)
      have HBB := Lib.hid hbb; clear hbb
      cases bv
      · go_wp2
        go_roundw
        case rel =>
          refine ⟨k + 1, hkl, by simp, fun j hj h => ?_, HBB.out⟩
          rcases Nat.lt_or_ge j k with g2 | g2
          · exact HNO.out j hj g2
          · obtain rfl : j = k := by omega
            rw [← HXX.out]; exact HBV.out.symm
        case measure => simp [intOf]; omega
      · go_wp2
        go_ret
        exact ⟨HBB.out, .inl ⟨k, hkl, by rw [← HXX.out]; exact HBV.out.symm, HNO.out, rfl⟩⟩
    · obtain rfl : k = n := by omega
      go_wp2
      go_ret
      refine ⟨HB.out, .inr ⟨fun x hx => ?_, rfl⟩⟩
      obtain ⟨j, hj, rfl⟩ := List.getElem_of_mem hx
      exact HNO.out j hj (by have := HL.out; omega)

set_option maxHeartbeats 1000000 in
theorem idxSpace (n c g : Nat) (a : Option Addr) (p : Addr) (key : Int) (L : List (Int × Int)) (w : World) (hl : L.length = n) (ha : 0 < n → a = some ⟨g, 0, none⟩) (hg : g < w.heap.size) (hk : KIn w g L) (hn : n ≤ 1000) (hc : w.cell? p = some (.int .i64 key)) (hp : p.block < w.heap.size) :
    Calls Tryd.prog 43 #[.slice a n c, .func (.func 47) #[] #[.pointer (some p)]] w (IdxPost (fun x => x.1 == key) L w) := by
  have HL := Lib.hid hl; have HK := Lib.hid hk; have HA := Lib.hid ha; clear hl hk ha
  have HC := Lib.hid hc; clear hc
  have hn2 : (n : Int) ≤ 1000 := by omega
  go_enter Tryd.func43, Tryd.ntmps43
  go_wp2
  go_loopw [5, 8] (fun _ i wr => IdxRel (fun x => x.1 == key) L w i wr) (fun _ i _ => n - (intOf i).toNat)
  case atStart => exact ⟨0, by omega, rfl, fun j hj h => by omega, Below.refl _ _⟩
  case round =>
    obtain ⟨k, hk, rfl, hno, hbel⟩ := hrel
    have HNO := Lib.hid hno; have HB := Lib.hid hbel; clear hno hbel
    have hkn : k ≤ n := by have := HL.out; omega
    by_cases hlt : k < n
    · have hkl : k < L.length := by rw [HL.out]; exact hlt
      obtain rfl := HA.out (by omega)
      have hx := List.getElem?_eq_getElem hkl
      obtain ⟨x, hxx⟩ : ∃ x, x = L[k] := ⟨_, rfl⟩
      rw [← hxx] at hx
      obtain ⟨hc0, hc1⟩ := HK.out k x hx
      have hd0 := (HB.out.cell (p := ⟨g, k * 2, none⟩) hg).trans hc0
      have hd1 := (HB.out.cell (p := ⟨g, k * 2 + 1, none⟩) hg).trans hc1
      have HXX := Lib.hid hxx
      clear hx hxx hc0 hc1
      have hki : (k : Int) < (n : Int) := by omega
      have hk0 : (0 : Int) ≤ (k : Int) := by omega
      obtain ⟨bv, hbv⟩ : ∃ bv, bv = (x.1 == key) := ⟨_, rfl⟩
      have HBV := Lib.hid hbv; clear hbv
      have HCW := Lib.hid ((HB.out.cell (p := p) hp).trans HC.out)
      go_wp2_with fail
      refine (space1_any key p x _ HCW.out (by have := HB.out.size; omega)).mono ?_
      rintro e w2 ⟨rfl, hb2⟩
      rw [← HBV.out]
      have HB2 := Lib.hid hb2; clear hb2
      have hbb : Below w.heap.size w w2 := HB.out.trans (HB2.out.mono HB.out.size)
      have HBB := Lib.hid hbb; clear hbb
      cases bv
      · go_wp2
        go_roundw
        case rel =>
          refine ⟨k + 1, hkl, by simp, fun j hj h => ?_, HBB.out⟩
          rcases Nat.lt_or_ge j k with g2 | g2
          · exact HNO.out j hj g2
          · obtain rfl : j = k := by omega
            rw [← HXX.out]; exact HBV.out.symm
        case measure => simp [intOf]; omega
      · go_wp2
        go_ret
        exact ⟨HBB.out, .inl ⟨k, hkl, by rw [← HXX.out]; exact HBV.out.symm, HNO.out, rfl⟩⟩
    · obtain rfl : k = n := by omega
      go_wp2
      go_ret
      refine ⟨HB.out, .inr ⟨fun x hx => ?_, rfl⟩⟩
      obtain ⟨j, hj, rfl⟩ := List.getElem_of_mem hx
      exact HNO.out j hj (by have := HL.out; omega)

set_option maxHeartbeats 1000000 in
theorem idxZero (n c g : Nat) (a : Option Addr) (L : List (Int × Int)) (w : World) (hl : L.length = n) (ha : 0 < n → a = some ⟨g, 0, none⟩) (hg : g < w.heap.size) (hk : KIn w g L) (hn : n ≤ 1000) :
    Calls Tryd.prog 43 #[.slice a n c, .func (.func 46) #[] #[]] w (IdxPost (fun x => x.2 == 0) L w) := by
  have HL := Lib.hid hl; have HK := Lib.hid hk; have HA := Lib.hid ha; clear hl hk ha
  have hn2 : (n : Int) ≤ 1000 := by omega
  go_enter Tryd.func43, Tryd.ntmps43
  go_wp2
  go_loopw [5, 8] (fun _ i wr => IdxRel (fun x => x.2 == 0) L w i wr) (fun _ i _ => n - (intOf i).toNat)
  case atStart => exact ⟨0, by omega, rfl, fun j hj h => by omega, Below.refl _ _⟩
  case round =>
    obtain ⟨k, hk, rfl, hno, hbel⟩ := hrel
    have HNO := Lib.hid hno; have HB := Lib.hid hbel; clear hno hbel
    have hkn : k ≤ n := by have := HL.out; omega
    by_cases hlt : k < n
    · have hkl : k < L.length := by rw [HL.out]; exact hlt
      obtain rfl := HA.out (by omega)
      have hx := List.getElem?_eq_getElem hkl
      obtain ⟨x, hxx⟩ : ∃ x, x = L[k] := ⟨_, rfl⟩
      rw [← hxx] at hx
      obtain ⟨hc0, hc1⟩ := HK.out k x hx
      have hd0 := (HB.out.cell (p := ⟨g, k * 2, none⟩) hg).trans hc0
      have hd1 := (HB.out.cell (p := ⟨g, k * 2 + 1, none⟩) hg).trans hc1
      have HXX := Lib.hid hxx
      clear hx hxx hc0 hc1
      have hki : (k : Int) < (n : Int) := by omega
      have hk0 : (0 : Int) ≤ (k : Int) := by omega
      obtain ⟨bv, hbv⟩ : ∃ bv, bv = (x.2 == 0) := ⟨_, rfl⟩
      have HBV := Lib.hid hbv; clear hbv
      go_wp2_with fail
      refine (keep2_any x _).mono ?_
      rintro e w2 ⟨rfl, hb2⟩
      rw [← HBV.out]
      have HB2 := Lib.hid hb2; clear hb2
      have hbb : Below w.heap.size w w2 := HB.out.trans (HB2.out.mono HB.out.size)
      have HBB := Lib.hid hbb; clear hbb
      cases bv
      · go_wp2
        go_roundw
        case rel =>
          refine ⟨k + 1, hkl, by simp, fun j hj h => ?_, HBB.out⟩
          rcases Nat.lt_or_ge j k with g2 | g2
          · exact HNO.out j hj g2
          · obtain rfl : j = k := by omega
            rw [← HXX.out]; exact HBV.out.symm
        case measure => simp [intOf]; omega
      · go_wp2
        go_ret
        exact ⟨HBB.out, .inl ⟨k, hkl, by rw [← HXX.out]; exact HBV.out.symm, HNO.out, rfl⟩⟩
    · obtain rfl : k = n := by omega
      go_wp2
      go_ret
      refine ⟨HB.out, .inr ⟨fun x hx => ?_, rfl⟩⟩
      obtain ⟨j, hj, rfl⟩ := List.getElem_of_mem hx
      exact HNO.out j hj (by have := HL.out; omega)
end Go.Proofs.YtnpokcjdnlmheaaDoor
