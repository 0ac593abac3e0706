/-
  An error or none, by its number.
-/
import Derived.Test.YticckfioggeaeaaGreatDoorCore
namespace Go.Proofs.YticckfioggeaeaaGreatDoor

def errw (k : Int) : Value := if k = 0 then .nilIface else errv k
theorem errw_zero : errw 0 = .nilIface := rfl
theorem errw_of {k : Int} (h : k ≠ 0) : errw k = errv k := if_neg h
end Go.Proofs.YticckfioggeaeaaGreatDoor
