/-
  Plain: keys added in any order.
-/
import Derived.Test.YtnpokcjdnlmheaaSketchLaw
namespace Go.Proofs.Ytnpokcjdnlmheaa

def pick (l : List Int) : Option (Int × Int) :=
  match l with
  | [x, y] => if 0 ≤ x ∧ x ≤ 1000000 ∧ 0 ≤ y ∧ y ≤ 1000 then some (x, y) else none
  | _ => none
def skStep (width : Nat) (s : List (List Int) × Int) (l : List Int) : List (List Int) × Int :=
  match pick l with
  | some (x, y) => (skAdd x y width s.1, s.2 + y)
  | none => s
theorem pick_some {l : List Int} {x y : Int} (h : pick l = some (x, y)) : 0 ≤ x ∧ x ≤ 1000000 ∧ 0 ≤ y ∧ y ≤ 1000 := by
  unfold pick at h
  split at h
  · split at h
    · simp only [Option.some.injEq, Prod.mk.injEq] at h
      obtain ⟨rfl, rfl⟩ := h
      assumption
    · cases h
  · cases h
def skRun (depth width : Nat) (ls : List (List Int)) : List (List Int) × Int := ls.foldl (skStep width) (sk0 depth width, 0)

theorem modify_comm (l : List Int) (i j : Nat) (n m : Int) : (l.modify i (· + n)).modify j (· + m) = (l.modify j (· + m)).modify i (· + n) := by
  apply List.ext_getElem?
  intro k
  simp only [List.getElem?_modify]
  cases l[k]? with
  | none => simp
  | some y => by_cases h1 : i = k <;> by_cases h2 : j = k <;> simp [h1, h2] <;> omega
theorem skAdd_comm (a b n m : Int) (width : Nat) (rows : List (List Int)) : skAdd a n width (skAdd b m width rows) = skAdd b m width (skAdd a n width rows) := by
  apply List.ext_getElem?
  intro k
  simp only [skAdd, List.getElem?_mapIdx]
  cases rows[k]? with
  | none => rfl
  | some y => simp [modify_comm]
theorem skStep_comm (width : Nat) (s : List (List Int) × Int) (a b : List Int) : skStep width (skStep width s a) b = skStep width (skStep width s b) a := by
  unfold skStep
  cases pick a with
  | none => rfl
  | some p => cases pick b with
    | none => rfl
    | some q =>
      simp only [Prod.mk.injEq]
      exact ⟨skAdd_comm _ _ _ _ _ _, by omega⟩
theorem foldl_snoc_comm (width : Nat) (s : List (List Int) × Int) (ls : List (List Int)) (a : List Int) : ls.foldl (skStep width) (skStep width s a) = skStep width (ls.foldl (skStep width) s) a := by
  induction ls generalizing s with
  | nil => rfl
  | cons b r ih => simp only [List.foldl_cons]; rw [skStep_comm, ih]
theorem skRun_reverse (depth width : Nat) (ls : List (List Int)) : skRun depth width ls.reverse = skRun depth width ls := by
  unfold skRun
  generalize (sk0 depth width, (0 : Int)) = s
  induction ls generalizing s with
  | nil => rfl
  | cons a r ih => rw [List.reverse_cons, List.foldl_append, ih]; simp only [List.foldl_cons, List.foldl_nil]; exact (foldl_snoc_comm width s r a).symm
theorem skRun_snoc (depth width : Nat) (ls : List (List Int)) (a : List Int) : skRun depth width (ls ++ [a]) = skStep width (skRun depth width ls) a := by simp [skRun]
theorem skStep_inv {width : Nat} {s : List (List Int) × Int} (l : List Int) (hw : 0 < width) (h : SkInv width s.1 s.2) : SkInv width (skStep width s l).1 (skStep width s l).2 ∧ (skStep width s l).2 ≤ s.2 + 1000 ∧ (skStep width s l).1.length = s.1.length := by
  unfold skStep
  cases e : pick l with
  | none => exact ⟨h, by show s.2 ≤ _; omega, rfl⟩
  | some p =>
    have hc := pick_some (x := p.1) (y := p.2) e
    exact ⟨skInv_add h hc.2.2.1 hw, by show s.2 + p.2 ≤ _; omega, skAdd_len _ _ _ _⟩
theorem skRun_inv (depth width : Nat) (hw : 0 < width) (ls : List (List Int)) : SkInv width (skRun depth width ls).1 (skRun depth width ls).2 ∧ (skRun depth width ls).2 ≤ 1000 * ls.length ∧ (skRun depth width ls).1.length = depth := by
  rw [← List.reverse_reverse ls]
  generalize ls.reverse = r
  induction r with
  | nil => exact ⟨skInv_zero _ _, by simp [skRun], by simp [skRun, sk0]⟩
  | cons a r ih =>
    obtain ⟨h1, h2, h3⟩ := ih
    rw [List.reverse_cons, skRun_snoc]
    obtain ⟨g1, g2, g3⟩ := skStep_inv a hw h1
    refine ⟨g1, ?_, by rw [g3, h3]⟩
    simp only [List.length_append, List.length_cons, List.length_nil]
    omega
end Go.Proofs.Ytnpokcjdnlmheaa
