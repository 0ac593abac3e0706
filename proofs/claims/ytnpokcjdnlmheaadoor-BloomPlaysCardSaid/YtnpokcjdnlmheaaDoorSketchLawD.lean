/-
  Plain laws of sketches: what rows of counters add up to, and what is counted.
-/
import Derived.Test.YtnpokcjdnlmheaaDoorSketchRest
namespace Go.Proofs.YtnpokcjdnlmheaaDoor

/-- Each row is so wide, of no number below 0, and adds up to the sum. -/
def sk0 (depth width : Nat) : List (List Int) := List.replicate depth (List.replicate width 0)
def SkInv (width : Nat) (rows : List (List Int)) (sum : Int) : Prop := (∀ r ∈ rows, r.length = width ∧ (∀ x ∈ r, 0 ≤ x) ∧ r.sum = sum) ∧ 0 ≤ sum

theorem skInv_zero (depth width : Nat) : SkInv width (sk0 depth width) 0 := by
  refine ⟨fun r hr => ?_, by omega⟩
  have := List.eq_of_mem_replicate hr
  subst this
  exact ⟨by simp, fun x hx => by have := List.eq_of_mem_replicate hx; omega, by simp⟩

theorem sum_modify (l : List Int) (h : Nat) (n : Int) (hh : h < l.length) : (l.modify h (· + n)).sum = l.sum + n := by
  induction l generalizing h with
  | nil => simp at hh
  | cons x r ih =>
    cases h with
    | zero => simp [List.modify_cons]; omega
    | succ h => simp [List.modify_cons, ih h (by simpa using hh)]; omega
theorem le_sum (l : List Int) (h0 : ∀ x ∈ l, 0 ≤ x) : 0 ≤ l.sum ∧ ∀ x ∈ l, x ≤ l.sum := by
  induction l with
  | nil => simp
  | cons y r ih =>
    obtain ⟨h1, h2⟩ := ih (fun x hx => h0 x (by simp [hx]))
    have hy := h0 y (by simp)
    refine ⟨by simp; omega, fun x hx => ?_⟩
    rcases List.mem_cons.1 hx with rfl | h
    · simp; omega
    · have := h2 x h; simp; omega

theorem skInv_add {width : Nat} {rows : List (List Int)} {sum key n : Int} (hi : SkInv width rows sum) (hn : 0 ≤ n) (hw : 0 < width) : SkInv width (skAdd key n width rows) (sum + n) := by
  refine ⟨fun r hr => ?_, by have := hi.2; omega⟩
  obtain ⟨i, hl, rfl⟩ := List.mem_iff_getElem.1 hr
  have hl' : i < rows.length := by simpa [skAdd] using hl
  obtain ⟨h1, h2, h3⟩ := hi.1 _ (List.getElem_mem hl')
  have e : (skAdd key n width rows)[i] = rows[i].modify (hashN key i width) (· + n) := by simp [skAdd]
  rw [e]
  refine ⟨by simpa using h1, fun x hx => ?_, ?_⟩
  · obtain ⟨j, hj, rfl⟩ := List.mem_iff_getElem.1 hx
    have hj' : j < rows[i].length := by simpa using hj
    have := h2 _ (List.getElem_mem hj')
    rw [List.getElem_modify]
    split <;> omega
  · rw [sum_modify _ _ _ (by rw [h1]; exact hashN_lt key i width hw), h3]

theorem entry_bd {width : Nat} {rows : List (List Int)} {sum : Int} (hi : SkInv width rows sum) (k h : Nat) : 0 ≤ entry rows k h ∧ entry rows k h ≤ sum := by
  unfold entry
  by_cases hk : k < rows.length
  · have e : rows.getD k [] = rows[k] := by simp [List.getD, List.getElem?_eq_getElem hk]
    obtain ⟨_, h2, h3⟩ := hi.1 _ (List.getElem_mem hk)
    rw [e]
    by_cases hj : h < rows[k].length
    · have e2 : rows[k].getD h 0 = rows[k][h] := by simp [List.getD, List.getElem?_eq_getElem hj]
      rw [e2]
      have := (le_sum _ h2).2 _ (List.getElem_mem hj)
      exact ⟨h2 _ (List.getElem_mem hj), by omega⟩
    · have e2 : rows[k].getD h 0 = 0 := by simp [List.getD, List.getElem?_eq_none (Nat.le_of_not_lt hj)]
      rw [e2]; exact ⟨by omega, hi.2⟩
  · have e : rows.getD k [] = [] := by simp [List.getD, List.getElem?_eq_none (Nat.le_of_not_lt hk)]
    rw [e]; simpa using hi.2
theorem skBd_inv {width : Nat} {rows : List (List Int)} {sum : Int} (hi : SkInv width rows sum) (h : sum ≤ 1000000) : SkBd rows := fun k j => by
  have := entry_bd hi k j; omega

theorem entry_add {width : Nat} {rows : List (List Int)} {sum key n : Int} (hi : SkInv width rows sum) (hn : 0 ≤ n) (hw : 0 < width) (k h : Nat) (hk : k < rows.length) :
    entry rows k h ≤ entry (skAdd key n width rows) k h ∧ entry (skAdd key n width rows) k h ≤ entry rows k h + n ∧ (h = hashN key k width → entry (skAdd key n width rows) k h = entry rows k h + n) := by
  obtain ⟨h1, _, _⟩ := hi.1 _ (List.getElem_mem hk)
  have hh := hashN_lt key k width hw
  have e : entry (skAdd key n width rows) k h = if h = hashN key k width then entry rows k h + n else entry rows k h := by
    simp only [entry, skAdd, List.getD, List.getElem?_mapIdx, List.getElem?_eq_getElem hk, Option.map_some, Option.getD_some, List.getElem?_modify]
    by_cases e : h = hashN key k width
    · subst e
      simp [List.getElem?_eq_getElem (show hashN key k width < rows[k].length by omega)]
    · rw [if_neg e]
      simp [Ne.symm e]
  rw [e]
  split
  · exact ⟨by omega, by omega, fun _ => rfl⟩
  · exact ⟨by omega, by omega, fun h => absurd h (by assumption)⟩

theorem cntTo_other {width : Nat} {rows : List (List Int)} {sum key other n : Int} (hi : SkInv width rows sum) (hn : 0 ≤ n) (hw : 0 < width) (k : Nat) (hk : k ≤ rows.length) :
    cntTo other width rows k ≤ cntTo other width (skAdd key n width rows) k ∧ cntTo other width (skAdd key n width rows) k ≤ cntTo other width rows k + n := by
  induction k with
  | zero => simp [cntTo]; omega
  | succ k ih =>
    obtain ⟨h1, h2⟩ := ih (by omega)
    obtain ⟨h3, h4, _⟩ := entry_add (key := key) hi hn hw k (hashN other k width) hk
    simp only [cntTo]; omega
theorem skAdd_len (key n : Int) (width : Nat) (rows : List (List Int)) : (skAdd key n width rows).length = rows.length := by simp [skAdd]
theorem count_other {width : Nat} {rows : List (List Int)} {sum key other n : Int} (hi : SkInv width rows sum) (hn : 0 ≤ n) (hw : 0 < width) :
    skCount other width rows ≤ skCount other width (skAdd key n width rows) ∧ skCount other width (skAdd key n width rows) ≤ skCount other width rows + n := by
  unfold skCount
  rw [skAdd_len]
  exact cntTo_other hi hn hw _ (Nat.le_refl _)
theorem count_self {width : Nat} {rows : List (List Int)} {sum key n : Int} (hi : SkInv width rows sum) (hn : 0 ≤ n) (hw : 0 < width) (hr : 0 < rows.length) (hs : sum + n ≤ 1000000) :
    skCount key width (skAdd key n width rows) = skCount key width rows + n := by
  have main : ∀ k, k < rows.length → cntTo key width (skAdd key n width rows) (k + 1) = cntTo key width rows (k + 1) + n := by
    intro k hk
    induction k with
    | zero =>
      have h5 := (entry_add (key := key) hi hn hw 0 (hashN key 0 width) hk).2.2 rfl
      have h6 := entry_bd hi 0 (hashN key 0 width)
      simp only [cntTo, h5]; omega
    | succ k ih =>
      have h5 := (entry_add (key := key) hi hn hw (k + 1) (hashN key (k + 1) width) hk).2.2 rfl
      have e1 : cntTo key width (skAdd key n width rows) (k + 1 + 1) = min (cntTo key width (skAdd key n width rows) (k + 1)) (entry (skAdd key n width rows) (k + 1) (hashN key (k + 1) width)) := rfl
      have e2 : cntTo key width rows (k + 1 + 1) = min (cntTo key width rows (k + 1)) (entry rows (k + 1) (hashN key (k + 1) width)) := rfl
      rw [e1, e2, ih (by omega), h5]; omega
  unfold skCount
  rw [skAdd_len]
  obtain ⟨k, hk⟩ : ∃ k, rows.length = k + 1 := ⟨rows.length - 1, by omega⟩
  rw [hk]
  exact main k (by omega)
theorem count_le {width : Nat} {rows : List (List Int)} {sum key : Int} (hi : SkInv width rows sum) (hr : 0 < rows.length) : skCount key width rows ≤ sum := by
  have main : ∀ k, cntTo key width rows (k + 1) ≤ sum := by
    intro k
    have := entry_bd hi k (hashN key k width)
    simp only [cntTo]; omega
  unfold skCount
  obtain ⟨k, hk⟩ : ∃ k, rows.length = k + 1 := ⟨rows.length - 1, by omega⟩
  rw [hk]; exact main k
theorem count_ge {width : Nat} {rows : List (List Int)} {sum : Int} (key : Int) (hi : SkInv width rows sum) : 0 ≤ skCount key width rows := by
  unfold skCount
  generalize rows.length = k
  induction k with
  | zero => simp [cntTo]
  | succ k ih => have := entry_bd hi k (hashN key k width); simp only [cntTo]; omega
end Go.Proofs.YtnpokcjdnlmheaaDoor
