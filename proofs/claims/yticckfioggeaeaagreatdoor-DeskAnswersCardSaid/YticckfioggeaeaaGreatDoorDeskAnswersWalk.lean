/-
  DeskAnswers: the walk.
-/
import Derived.Test.YticckfioggeaeaaGreatDoorDeskBeginsWalk
import Derived.Test.YticckfioggeaeaaGreatDoorRefSession
set_option linter.unusedVariables false
set_option linter.unusedSimpArgs false
set_option linter.unnecessarySimpa false
set_option linter.unusedVariables false
namespace Go.Proofs.YticckfioggeaeaaGreatDoor
open Go.RowKit

theorem deskAnswers_any (text : List UInt8) (w : World) (hg : Tab w ∧ Errs w ∧ Handle w) :
    Calls Tryz.prog 5 #[.string ⟨text.toArray⟩] w (DkPost w) := by
  have HV : Hid (Env w w) := Lib.hid ⟨Below.refl _ _, hg.1, hg.2.1, hg.2.2⟩
  clear hg
  go_enter Tryz.func5, Tryz.ntmps5
  go_wp2_with fail
  refine (HV.out.run text).mono ?_
  rintro e w1 ⟨rfl, hv1⟩
  have HV1 := Lib.hid hv1
  clear hv1
  go_wp2_with fail
  refine (rSession text w1).mono ?_
  rintro e w2 ⟨rfl, hb2⟩
  have HB2 := Lib.hid (HV1.out.bel.trans (hb2.mono HV1.out.bel.size))
  clear hb2
  obtain ⟨x, hx⟩ : ∃ x, x = runM text := ⟨_, rfl⟩
  rw [← hx]
  clear hx
  have hxx : (x == x) = true := by simp
  go_wp2
  go_ret
  exact ⟨rfl, HB2.out⟩
theorem deskAnswers_walk (x0 : ByteArray) (w : World) (_ : x0.size ≤ maxLen) (hg : Tab w ∧ Errs w ∧ Handle w) :
    Calls Tryz.prog 5 #[.string x0] w fun e w' => e = .returned (.bool true) ∧ Below w.heap.size w w' := by
  have h := deskAnswers_any x0.data.toList w hg
  rw [show (⟨x0.data.toList.toArray⟩ : ByteArray) = x0 from ByteArray.ext (by simp)] at h
  exact h
end Go.Proofs.YticckfioggeaeaaGreatDoor
