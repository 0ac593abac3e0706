/-
  The order by falling turns; insertion sort's law (printed by wip/gen_booksort.py out of XRank).
-/
import Derived.Test.YticckfioggeaeaaGreatDoorBookCmp
namespace Go.Proofs.YticckfioggeaeaaGreatDoor
open Go.RowKit

def leR (k : Int → Int) (a b : Int) : Prop := k b ≤ k a
def ordR (k : Int → Int) (a b : Int) : Int := cmpO (k b) (k a)
theorem ordR_neg (k : Int → Int) (a b : Int) : ordR k a b < 0 ↔ ¬ leR k b a := by
  unfold ordR leR cmpO
  split
  · simp; omega
  · split
    · simp; omega
    · simp; omega
theorem leR_total (k : Int → Int) (a b : Int) : leR k a b ∨ leR k b a := by unfold leR; omega
theorem leR_trans {k : Int → Int} {a b c : Int} (h1 : leR k a b) (h2 : leR k b c) : leR k a c := by unfold leR at *; omega

/-! ### insertion sort -/
def Srt (k : Int → Int) (xs : List Int) (i j : Nat) : Prop :=
  (∀ a b (ha : a < xs.length) (hb : b < xs.length), a < b → b ≤ i → a ≠ j → b ≠ j → leR k xs[a] xs[b]) ∧
  (∀ b (hb : b < xs.length) (hj : j < xs.length), j < b → b ≤ i → leR k xs[j] xs[b])
def SortedTo (k : Int → Int) (xs : List Int) (i : Nat) : Prop := ∀ a b (ha : a < xs.length) (hb : b < xs.length), a < b → b < i → leR k xs[a] xs[b]

theorem srt_start {k : Int → Int} {xs : List Int} {i : Nat} (h : SortedTo k xs i) : Srt k xs i i :=
  ⟨fun a b ha hb hab hbi _ hne => h a b ha hb hab (by omega), fun b hb hj h1 h2 => by omega⟩
theorem srt_end0 {k : Int → Int} {xs : List Int} {i : Nat} (h : Srt k xs i 0) : SortedTo k xs (i + 1) := fun a b ha hb hab hbi => by
  by_cases e : a = 0
  · subst e; exact h.2 b hb ha hab (by omega)
  · exact h.1 a b ha hb hab (by omega) e (by omega)
theorem srt_end {k : Int → Int} {xs : List Int} {i j : Nat} (h : Srt k xs i (j + 1)) (hj : j + 1 < xs.length) (hji : j + 1 ≤ i) (hle : leR k (xs[j]'(by omega)) xs[j + 1]) : SortedTo k xs (i + 1) := fun a b ha hb hab hbi => by
  by_cases e : a = j + 1
  · subst e; exact h.2 b hb ha hab (by omega)
  · by_cases e2 : b = j + 1
    · subst e2
      by_cases e3 : a = j
      · subst e3; exact hle
      · exact leR_trans (h.1 a j ha (by omega) (by omega) (by omega) (by omega) (by omega)) hle
    · exact h.1 a b ha hb hab (by omega) e e2
def swp (xs : List Int) (j : Nat) (hj : j + 1 < xs.length) : List Int := (xs.set (j + 1) (xs[j]'(by omega))).set j xs[j + 1]
theorem swp_len (xs : List Int) (j : Nat) (hj : j + 1 < xs.length) : (swp xs j hj).length = xs.length := by simp [swp]
theorem swp_get (xs : List Int) (j : Nat) (hj : j + 1 < xs.length) (a : Nat) (ha : a < xs.length) (ha' : a < (swp xs j hj).length) : (swp xs j hj)[a] = if a = j then xs[j + 1] else if a = j + 1 then xs[j]'(by omega) else xs[a] := by
  have h : (swp xs j hj)[a]? = some (if a = j then xs[j + 1] else if a = j + 1 then xs[j]'(by omega) else xs[a]) := by
    unfold swp
    rw [List.getElem?_set]
    by_cases e : j = a
    · rw [if_pos e, if_pos (by rw [List.length_set]; omega), if_pos e.symm]
    · rw [if_neg e, if_neg (fun h => e h.symm), List.getElem?_set]
      by_cases e2 : j + 1 = a
      · rw [if_pos e2, if_pos (by omega), if_pos e2.symm]
      · rw [if_neg e2, if_neg (fun h => e2 h.symm), List.getElem?_eq_getElem ha]
  rw [List.getElem?_eq_getElem ha'] at h
  exact Option.some.inj h
theorem swp_perm : ∀ (xs : List Int) (j : Nat) (hj : j + 1 < xs.length), (swp xs j hj).Perm xs
  | [], j, hj => by simp at hj
  | [x], j, hj => by simp at hj
  | x :: y :: r, 0, _ => by simpa [swp] using List.Perm.swap x y r
  | x :: y :: r, j + 1, hj => by
    have := swp_perm (y :: r) j (by simpa using hj)
    have e : swp (x :: y :: r) (j + 1) hj = x :: swp (y :: r) j (by simpa using hj) := by simp [swp]
    rw [e]
    exact this.cons x
theorem srt_swap {k : Int → Int} {xs : List Int} {i j : Nat} (h : Srt k xs i (j + 1)) (hj : j + 1 < xs.length) (hle : leR k xs[j + 1] (xs[j]'(by omega))) : Srt k (swp xs j hj) i j := by
  have hl := swp_len xs j hj
  refine ⟨fun a b ha hb hab hbi hna hnb => ?_, fun b hb hjb h1 h2 => ?_⟩
  · rw [hl] at ha hb
    rw [swp_get xs j hj a ha, swp_get xs j hj b hb, if_neg hna, if_neg hnb]
    by_cases e1 : a = j + 1
    · rw [if_pos e1, if_neg (by omega)]
      exact h.1 j b (by omega) hb (by omega) hbi (by omega) (by omega)
    · rw [if_neg e1]
      by_cases e2 : b = j + 1
      · rw [if_pos e2]
        exact h.1 a j ha (by omega) (by omega) (by omega) e1 (by omega)
      · rw [if_neg e2]
        exact h.1 a b ha hb hab hbi e1 e2
  · rw [hl] at hb
    rw [swp_get xs j hj j (by omega), swp_get xs j hj b hb, if_pos rfl, if_neg (by omega)]
    by_cases e2 : b = j + 1
    · rw [if_pos e2]; exact hle
    · rw [if_neg e2]
      exact h.2 b hb hj (by omega) h2
end Go.Proofs.YticckfioggeaeaaGreatDoor
