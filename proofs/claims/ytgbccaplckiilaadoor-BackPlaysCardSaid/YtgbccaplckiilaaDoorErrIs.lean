/-
  larderwicksame.Error of an error that is the one that was asked for.
-/
import Derived.Test.YtgbccaplckiilaaDoorTold2
namespace Go.Proofs.YtgbccaplckiilaaDoor
open Go.RowKit

/-- The value v is the error number n (0: none). -/
def ErrN (v : Value) (n : Int) : Prop := (n = 0 ∧ v = .nilIface) ∨ v = errv n
theorem eError_n (v : Value) (n : Int) (w : World) (h : ErrN v n) (hg : Handle w) : Calls Tryd.prog 6 #[v, .int .i64 n] w (ErrorPost w true) := by
  rcases h with ⟨rfl, rfl⟩ | rfl
  · exact eError_nil 0 w
  · have := eError_some n n w hg
    rwa [show (n == n) = true by simp] at this
end Go.Proofs.YtgbccaplckiilaaDoor
