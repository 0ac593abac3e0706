/-
  The plain law of counts that go on from the least: Metwally, Agrawal, El Abbadi. No program in sight.
-/
import Derived.Test.YtnpokcjdnlmheaaDoorHeavyLaw
namespace Go.Proofs.YtnpokcjdnlmheaaDoor

structure SS (keep : Nat) (P : List Int) (L : List (Int × Int)) : Prop where
  un : Unlike L
  low : ∀ x ∈ L, 1 ≤ x.2 ∧ times P x.1 ≤ x.2
  over : ∀ x ∈ L, ∀ y ∈ L, x.2 - times P x.1 ≤ y.2
  out : ∀ k, (∀ x ∈ L, x.1 ≠ k) → ∀ y ∈ L, times P k ≤ y.2
  room : L.length < keep → (∀ x ∈ L, x.2 = times P x.1) ∧ ∀ k, (∀ x ∈ L, x.1 ≠ k) → times P k = 0
  sum : sumC L = P.length
  len : L.length ≤ keep

theorem ss_nil (keep : Nat) : SS keep [] [] := ⟨fun i j x y h => by simp at h, by simp, by simp, by simp, fun _ => ⟨by simp, fun k _ => times_nil k⟩, by simp [sumC], by simp⟩

theorem sumC_le : ∀ (L : List (Int × Int)), (∀ x ∈ L, 0 ≤ x.2) → ∀ x ∈ L, x.2 ≤ sumC L
  | [], _, x, h => by simp at h
  | y :: L, hp, x, h => by
    have hs : 0 ≤ sumC L := by
      have : ∀ M : List (Int × Int), (∀ x ∈ M, 0 ≤ x.2) → 0 ≤ sumC M := by
        intro M
        induction M with
        | nil => intro _; simp [sumC]
        | cons z M ih => intro h; have := ih (fun x hx => h x (by simp [hx])); have := h z (by simp); simp only [sumC]; omega
      exact this L (fun x hx => hp x (by simp [hx]))
    have h0 := hp y (by simp)
    simp only [sumC]
    rcases List.mem_cons.1 h with rfl | h
    · omega
    · have := sumC_le L (fun x hx => hp x (by simp [hx])) x h
      omega
theorem SS.bd {keep : Nat} {P : List Int} {L : List (Int × Int)} (h : SS keep P L) {x : Int × Int} (hx : x ∈ L) : 1 ≤ x.2 ∧ x.2 ≤ P.length := by
  have h1 := h.low x hx
  have h2 := sumC_le L (fun x hx => by have := h.low x hx; omega) x hx
  have := h.sum
  omega

theorem SS.hit {keep : Nat} {P : List Int} {L : List (Int × Int)} (h : SS keep P L) {i : Nat} {x : Int × Int} (hx : L[i]? = some x) : SS keep (P ++ [x.1]) (L.set i (x.1, x.2 + 1)) := by
  have hi : i < L.length := (List.getElem?_eq_some_iff.1 hx).1
  have hxm := List.mem_of_getElem? hx
  have hout : ∀ k, (∀ y ∈ L.set i (x.1, x.2 + 1), y.1 ≠ k) → x.1 ≠ k ∧ ∀ y ∈ L, y.1 ≠ k := fun k hk => by
    have h1 := hk _ (mem_set_new (x := (x.1, x.2 + 1)) hi)
    refine ⟨h1, fun y hy e => ?_⟩
    by_cases g : y.1 = x.1
    · exact h1 (g ▸ e)
    · exact hk y (mem_set_old hx hy g) e
  refine ⟨h.un.set hi (fun j y hy e => h.un j i y x hy hx e), fun y hy => ?_, fun y hy z hz => ?_, fun k hk z hz => ?_, fun hl => ⟨fun y hy => ?_, fun k hk => ?_⟩, ?_, by simpa using h.len⟩
  · rcases mem_set hi hx h.un hy with rfl | ⟨hm, hne⟩
    · have := h.low x hxm
      rw [times_snoc, if_pos rfl]; simp only; omega
    · have := h.low y hm
      rw [times_snoc, if_neg (fun e => hne e.symm)]; omega
  · have hzl : ∃ z' ∈ L, z'.2 ≤ z.2 := by
      rcases mem_set hi hx h.un hz with rfl | ⟨hm, _⟩
      · exact ⟨x, hxm, by simp only; omega⟩
      · exact ⟨z, hm, Int.le_refl _⟩
    obtain ⟨z', hz', hle⟩ := hzl
    rcases mem_set hi hx h.un hy with rfl | ⟨hm, hne⟩
    · have := h.over x hxm z' hz'
      rw [times_snoc, if_pos rfl]; simp only; omega
    · have := h.over y hm z' hz'
      rw [times_snoc, if_neg (fun e => hne e.symm)]; omega
  · obtain ⟨h1, h2⟩ := hout k hk
    rw [times_snoc, if_neg h1]
    rcases mem_set hi hx h.un hz with rfl | ⟨hm, _⟩
    · have := h.out k h2 x hxm; simp only; omega
    · have := h.out k h2 z hm; omega
  · have hr := (h.room (by simpa using hl)).1
    rcases mem_set hi hx h.un hy with rfl | ⟨hm, hne⟩
    · have := hr x hxm
      rw [times_snoc, if_pos rfl]; simp only; omega
    · have := hr y hm
      rw [times_snoc, if_neg (fun e => hne e.symm)]; omega
  · obtain ⟨h1, h2⟩ := hout k hk
    have := (h.room (by simpa using hl)).2 k h2
    rw [times_snoc, if_neg h1]; omega
  · rw [sumC_set L i x _ hx]
    have := h.sum
    simp only [List.length_append, List.length_cons, List.length_nil]
    push_cast
    omega

theorem SS.add {keep : Nat} {P : List Int} {L : List (Int × Int)} (h : SS keep P L) {k : Int} (hk : ∀ x ∈ L, x.1 ≠ k) (hl : L.length < keep) : SS keep (P ++ [k]) (L ++ [(k, 1)]) := by
  obtain ⟨hr1, hr2⟩ := h.room hl
  have hk0 := hr2 k hk
  have hm : ∀ y, y ∈ L ++ [(k, (1 : Int))] → y = (k, 1) ∨ (y ∈ L ∧ k ≠ y.1) := fun y hy => by
    rcases List.mem_append.1 hy with hy | hy
    · exact .inr ⟨hy, fun e => hk y hy e.symm⟩
    · exact .inl (by simpa using hy)
  have hex : ∀ y ∈ L ++ [(k, (1 : Int))], y.2 = times (P ++ [k]) y.1 ∧ 1 ≤ y.2 := fun y hy => by
    rcases hm y hy with rfl | ⟨hy, hne⟩
    · rw [times_snoc, if_pos rfl, hk0]; simp
    · rw [times_snoc, if_neg hne]
      have := hr1 y hy
      have := h.low y hy
      omega
  have hout : ∀ k', (∀ y ∈ L ++ [(k, (1 : Int))], y.1 ≠ k') → times (P ++ [k]) k' = 0 := fun k' hk' => by
    have h1 := hk' (k, 1) (by simp)
    rw [times_snoc, if_neg h1, hr2 k' (fun y hy => hk' y (by simp [hy]))]
    rfl
  refine ⟨h.un.snoc hk, fun y hy => ?_, fun y hy z hz => ?_, fun k' hk' z hz => ?_, fun _ => ⟨fun y hy => (hex y hy).1, hout⟩, ?_, by simp; omega⟩
  · have := hex y hy; omega
  · have := hex y hy; have := hex z hz; omega
  · have := hout k' hk'; have := hex z hz; omega
  · rw [sumC_append]
    have := h.sum
    simp only [sumC, List.length_append, List.length_cons, List.length_nil]
    push_cast
    omega

theorem SS.turn {keep : Nat} {P : List Int} {L : List (Int × Int)} (h : SS keep P L) {k : Int} (hk : ∀ x ∈ L, x.1 ≠ k) (hl : keep ≤ L.length) {i : Nat} {x : Int × Int} (hx : L[i]? = some x) (hmin : ∀ y ∈ L, x.2 ≤ y.2) :
    SS keep (P ++ [k]) (L.set i (k, x.2 + 1)) := by
  have hi : i < L.length := (List.getElem?_eq_some_iff.1 hx).1
  have hxm := List.mem_of_getElem? hx
  have hge : ∀ z ∈ L.set i (k, x.2 + 1), x.2 ≤ z.2 := fun z hz => by
    rcases mem_set hi hx h.un hz with rfl | ⟨hm, _⟩
    · simp only; omega
    · exact hmin z hm
  have hlk := h.out k hk x hxm
  have hnn := times_nonneg P k
  have h1x := h.low x hxm
  refine ⟨h.un.set hi (fun j y hy e => absurd e (hk y (List.mem_of_getElem? hy))), fun y hy => ?_, fun y hy z hz => ?_, fun k' hk' z hz => ?_, fun hl2 => ?_, ?_, by simpa using h.len⟩
  · rcases mem_set hi hx h.un hy with rfl | ⟨hm, _⟩
    · rw [times_snoc, if_pos rfl]; simp only; omega
    · have := h.low y hm
      rw [times_snoc, if_neg (fun e => hk y hm e.symm)]; omega
  · have hz' := hge z hz
    rcases mem_set hi hx h.un hy with rfl | ⟨hm, _⟩
    · rw [times_snoc, if_pos rfl]; simp only; omega
    · have := h.over y hm x hxm
      rw [times_snoc, if_neg (fun e => hk y hm e.symm)]; omega
  · have hz' := hge z hz
    have h1 := hk' _ (mem_set_new (x := (k, x.2 + 1)) hi)
    rw [times_snoc, if_neg h1]
    by_cases e : x.1 = k'
    · subst e; omega
    · have := h.out k' (fun y hy e2 => by
        by_cases g : y.1 = x.1
        · exact e (by rw [← g]; exact e2)
        · exact hk' y (mem_set_old hx hy g) e2) x hxm
      omega
  · rw [List.length_set] at hl2; omega
  · rw [sumC_set L i x _ hx]
    have := h.sum
    simp only [List.length_append, List.length_cons, List.length_nil]
    push_cast
    omega
end Go.Proofs.YtnpokcjdnlmheaaDoor
