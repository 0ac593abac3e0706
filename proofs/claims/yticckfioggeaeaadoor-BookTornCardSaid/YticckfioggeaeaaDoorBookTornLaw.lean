/-
  BookTorn: plain.
-/
import Derived.Test.YticckfioggeaeaaDoorBookParse
set_option linter.unusedVariables false
set_option linter.unusedSimpArgs false
set_option linter.unnecessarySimpa false
namespace Go.Proofs.YticckfioggeaeaaDoor

theorem logB_app (slots : Nat) : ∀ (a b : List (List Int)) (s : Bk), logB slots s (a ++ b) = logB slots s a ++ logB slots (foldB slots s a) b
  | [], b, s => rfl
  | l :: a, b, s => by
    rw [List.cons_append, logB, logB]
    by_cases h : errStep s l = 0
    · rw [if_pos h, if_pos h, logB_app slots a b, List.cons_append, foldB_cons]
    · rw [if_neg h, if_neg h, logB_app slots a b, foldB_cons, errStep_none h]
theorem logB_one (slots : Nat) (s : Bk) (l : List Int) : logB slots s [l] = if errStep s l = 0 then [l] else [] := by
  rw [logB, logB, logB]
theorem log_take {slots : Nat} {xs : List (List Int)} {j : Nat} (hj : j < xs.length) : (logB slots bk0 (xs.take (j + 1))).length = (logB slots bk0 (xs.take j)).length + (if errStep (foldB slots bk0 (xs.take j)) xs[j] = 0 then 1 else 0) := by
  rw [List.take_succ_eq_append_getElem hj, logB_app, logB_one, List.length_append]
  split <;> simp
theorem fold_take {slots : Nat} {xs : List (List Int)} {j : Nat} (hj : j < xs.length) : foldB slots bk0 (xs.take (j + 1)) = stepB slots (foldB slots bk0 (xs.take j)) xs[j] := by
  unfold foldB
  rw [List.take_succ_eq_append_getElem hj, List.foldl_append]
  rfl
theorem log_prefix (slots : Nat) (xs : List (List Int)) (j k : Nat) (h : j ≤ k) : logB slots bk0 (xs.take j) = (logB slots bk0 (xs.take k)).take (logB slots bk0 (xs.take j)).length := by
  have e : xs.take k = xs.take j ++ (xs.take k).drop j := by
    have := List.take_append_drop j (xs.take k)
    rw [List.take_take, Nat.min_eq_left h] at this
    exact this.symm
  rw [e, logB_app, List.take_left]
/-- What has been done again, when as much has been done as was read, is what was read. -/
theorem torn_end {slots : Nat} {xs : List (List Int)} {j at_ : Nat} (hj : j ≤ 70) (hm : (logB slots bk0 (xs.take j)).length = at_) : foldB slots bk0 (xs.take j) = foldB slots bk0 ((logB slots bk0 (xs.take 70)).take at_) := by
  have h := log_prefix slots xs j 70 hj
  rw [hm] at h
  rw [← h]
  exact (log_fold slots (xs.take j) bk0).1.symm
end Go.Proofs.YticckfioggeaeaaDoor
