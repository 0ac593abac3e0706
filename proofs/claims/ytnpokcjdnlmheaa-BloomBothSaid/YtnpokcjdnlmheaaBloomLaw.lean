/-
  Plain: which bits a list of keys sets; how many.
-/
import Derived.Test.YtnpokcjdnlmheaaBloomNeverWalk
namespace Go.Proofs.Ytnpokcjdnlmheaa

theorem eq_of_getD {l l' : List Bool} (h : l.length = l'.length) (hd : ∀ i, i < l.length → (l.getD i false = true ↔ l'.getD i false = true)) : l = l' := by
  apply List.ext_getElem h
  intro i h1 h2
  have := hd i h1
  rw [getD_true, getD_true, List.getElem?_eq_getElem h1, List.getElem?_eq_getElem h2] at this
  simp only [Option.some.injEq] at this
  cases e1 : l[i] <;> cases e2 : l'[i] <;> simp_all

theorem setK_iff (key : Int) (n k : Nat) (bits : List Bool) (i : Nat) (hi : i < bits.length) (hn : 0 < n) : (setK key n k bits).getD i false = true ↔ bits.getD i false = true ∨ ∃ j, j < k ∧ hashN key j n = i := by
  induction k with
  | zero => simp [setK]
  | succ k ih =>
    have hl : i < (setK key n k bits).length := by rw [setK_len]; exact hi
    rw [getD_true] at ih ⊢
    simp only [setK, List.getElem?_set]
    by_cases e : hashN key k n = i
    · rw [if_pos e, if_pos (by rw [e]; exact hl)]
      exact ⟨fun _ => .inr ⟨k, by omega, e⟩, fun _ => rfl⟩
    · rw [if_neg e, ih]
      constructor
      · rintro (h | ⟨j, hj, h⟩)
        · exact .inl h
        · exact .inr ⟨j, by omega, h⟩
      · rintro (h | ⟨j, hj, h⟩)
        · exact .inl h
        · refine .inr ⟨j, ?_, h⟩
          rcases Nat.lt_or_ge j k with h' | h'
          · exact h'
          · exact absurd (show hashN key k n = i by rw [← h]; congr 1; omega) e

/-- Some key sets bit i. -/
def Sets (n hashes : Nat) (ks : List Int) (i : Nat) : Prop := ∃ key ∈ ks, (0 ≤ key ∧ key ≤ 1000000) ∧ ∃ j, j < hashes ∧ hashN key j n = i

theorem foldl_iff (n hashes : Nat) (hn : 0 < n) (ks : List Int) (bits : List Bool) (hl : bits.length = n) (i : Nat) (hi : i < n) :
    (ks.foldl (addB hashes) bits).getD i false = true ↔ bits.getD i false = true ∨ Sets n hashes ks i := by
  induction ks generalizing bits with
  | nil => simp [Sets]
  | cons k r ih =>
    rw [List.foldl_cons, ih _ (by rw [addB_len, hl])]
    have : (addB hashes bits k).getD i false = true ↔ bits.getD i false = true ∨ ((0 ≤ k ∧ k ≤ 1000000) ∧ ∃ j, j < hashes ∧ hashN k j n = i) := by
      unfold addB
      split
      · rename_i h
        rw [hl, setK_iff _ _ _ _ _ (by omega) hn]
        simp [h]
      · rename_i h
        simp [h]
    rw [this]
    simp only [Sets, List.mem_cons, exists_eq_or_imp, or_assoc]
theorem fill_iff (n hashes : Nat) (hn : 0 < n) (ks : List Int) (i : Nat) (hi : i < n) : (fillB n hashes ks).getD i false = true ↔ Sets n hashes ks i := by
  unfold fillB
  rw [foldl_iff n hashes hn ks _ (by simp) i hi]
  simp [List.getD, hi]
theorem fill_ext {n hashes : Nat} (hn : 0 < n) {ks ls : List Int} (h : ∀ x, x ∈ ks ↔ x ∈ ls) : fillB n hashes ks = fillB n hashes ls := by
  apply eq_of_getD (by rw [fillB_len, fillB_len])
  intro i hi
  rw [fillB_len] at hi
  rw [fill_iff n hashes hn ks i hi, fill_iff n hashes hn ls i hi]
  simp only [Sets, h]
theorem fill_again {n hashes : Nat} (hn : 0 < n) (ks ls : List Int) (h : ∀ x ∈ ls, x ∈ ks) : ls.foldl (addB hashes) (fillB n hashes ks) = fillB n hashes ks := by
  apply eq_of_getD (by rw [foldl_addB_len])
  intro i hi
  rw [foldl_addB_len, fillB_len] at hi
  rw [foldl_iff n hashes hn ls _ (fillB_len _ _ _) i hi]
  constructor
  · rintro (h1 | ⟨key, hk, h2⟩)
    · exact h1
    · exact (fill_iff n hashes hn ks i hi).2 ⟨key, h key hk, h2⟩
  · exact .inl

theorem setTo_set (bits : List Bool) (i m : Nat) : (setTo (bits.set i true) m).length ≤ (setTo bits m).length + 1 ∧ (m ≤ i → setTo (bits.set i true) m = setTo bits m) := by
  induction m with
  | zero => simp [setTo]
  | succ m ih =>
    obtain ⟨h1, h2⟩ := ih
    by_cases e : i = m
    · subst e
      refine ⟨?_, fun h => by omega⟩
      simp only [setTo]
      rw [h2 (Nat.le_refl _)]
      split <;> split <;> simp <;> omega
    · have hg : (bits.set i true).getD m false = bits.getD m false := by simp [List.getD, List.getElem?_set, e]
      simp only [setTo, hg]
      constructor
      · split
        · simp only [List.length_append, List.length_cons, List.length_nil]; omega
        · exact h1
      · intro h
        rw [h2 (by omega)]
theorem setTo_setK (key : Int) (n k m : Nat) (bits : List Bool) : (setTo (setK key n k bits) m).length ≤ (setTo bits m).length + k := by
  induction k with
  | zero => simp [setK]
  | succ k ih =>
    have := (setTo_set (setK key n k bits) (hashN key k n) m).1
    simp only [setK]; omega
theorem setTo_zero (n m : Nat) : setTo (List.replicate n false) m = [] := by
  induction m with
  | zero => rfl
  | succ m ih =>
    simp only [setTo, ih]
    have : (List.replicate n false).getD m false = false := by
      simp only [List.getD, List.getElem?_replicate]
      split <;> rfl
    rw [if_neg (by rw [this]; decide)]
theorem setTo_foldl (hashes m : Nat) (ks : List Int) (bits : List Bool) : (setTo (ks.foldl (addB hashes) bits) m).length ≤ (setTo bits m).length + hashes * ks.length := by
  induction ks generalizing bits with
  | nil => simp
  | cons k r ih =>
    have h1 := ih (addB hashes bits k)
    have h2 : (setTo (addB hashes bits k) m).length ≤ (setTo bits m).length + hashes := by
      unfold addB
      split
      · exact setTo_setK _ _ _ _ _
      · omega
    rw [List.foldl_cons, List.length_cons, Nat.mul_succ]
    omega
theorem fill_many (n hashes m : Nat) (ks : List Int) : (setTo (fillB n hashes ks) m).length ≤ hashes * ks.length := by
  have := setTo_foldl hashes m ks (List.replicate n false)
  rw [setTo_zero] at this
  simpa [fillB] using this
end Go.Proofs.Ytnpokcjdnlmheaa
