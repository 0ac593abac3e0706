/-
  larderwicksame.Error of an error that is the one that was asked for.
-/
import Derived.Test.YticckfioggeaeaaGreatDoorGG
import Derived.Test.YticckfioggeaeaaGreatDoorGA
set_option linter.unusedVariables false
set_option linter.unusedSimpArgs false
set_option linter.unnecessarySimpa false
namespace Go.Proofs.YticckfioggeaeaaGreatDoor
open Go.RowKit

/-- The value v is the error number n (0: none). -/
def ErrN (v : Value) (n : Int) : Prop := (n = 0 ∧ v = .nilIface) ∨ v = errv n
theorem eError_n (v : Value) (n : Int) (w : World) (h : ErrN v n) (hg : Handle w) : Calls Tryz.prog 13 #[v, .int .i64 n] w (ErrorPost w true) := by
  rcases h with ⟨rfl, rfl⟩ | rfl
  · exact eError_nil 0 w
  · have := eError_some n n w hg
    rwa [show (n == n) = true by simp] at this
theorem eError_w (k : Int) (w : World) (hg : Handle w) : Calls Tryz.prog 13 #[errw k, .int .i64 k] w (ErrorPost w true) := by
  refine eError_n _ k w ?_ hg
  unfold errw ErrN
  by_cases h : k = 0
  · rw [if_pos h]; exact .inl ⟨h, rfl⟩
  · rw [if_neg h]; exact .inr rfl
end Go.Proofs.YticckfioggeaeaaGreatDoor
