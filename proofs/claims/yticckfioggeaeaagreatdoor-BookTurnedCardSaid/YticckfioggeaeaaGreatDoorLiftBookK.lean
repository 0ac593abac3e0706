/-
  What the listed package-level variables give a walk; a world that meets the condition (three tables).
-/
import Derived.Test.YticckfioggeaeaaGreatDoorLift
import Derived.Test.YticckfioggeaeaaGreatDoorLift2
import Derived.Test.YticckfioggeaeaaGreatDoorBookSum
import Derived.Test.YticckfioggeaeaaGreatDoorTie
import Derived.Test.YticckfioggeaeaaGreatDoorCards
import Derived.ChangeSame
import Derived.ChangeVars
import Derived.JoinedOf
import Derived.RowKit
import Derived.RowKitTokens
import Derived.LaidLaws
import Derived.LaidHandle
import Derived.Lay
import Derived.MakeChecks
import Derived.Stop.Joined
import Derived.Stop.LaidErr
import Derived.Lib.LaidTab
namespace Go.Proofs.YticckfioggeaeaaGreatDoor
open Go.ChangeShapes Go.WideShapes Go.RowKit

def laidK : List (String × DataW Unit) := [("math/bits.deBruijn32tab", Rows.laid_math_bits_deBruijn32tab), ("math/bits.deBruijn64tab", Rows.laid_math_bits_deBruijn64tab), ("internal/strconv.uint64pow10", Rows.laid_internal_strconv_uint64pow10)]
theorem pow_data : (Rows.laid_internal_strconv_uint64pow10 : DataW Unit) = Lib.tabData .u64 Lib.pow10Tab := by kernel_rfl
theorem pow_type : (Tryz.prog.globals[4]?).map (·.type) = some 196 := by kernel_rfl
theorem cells_u64 : Tryz.prog.cellsOf 166 = 1 := by kernel_rfl
theorem cells_pow : Tryz.prog.cellsOf 196 = 20 := by kernel_rfl
theorem tab_of_head {W : World} {r : List (String × DataW Unit)} (h : laidMet Tryz.prog (("internal/strconv.uint64pow10", Rows.laid_internal_strconv_uint64pow10) :: r) W) : Tab W := by
  rw [pow_data] at h
  exact Lib.tabIs_of_head global_tab pow_type Tryz.underlying196 Tryz.underlying166 cells_u64 cells_pow h
theorem tab_of_laidK {W : World} (h : laidMetH Tryz.prog laidK W) : Tab W := by
  rw [MakeChecks.laidMetH_plain _ _ _ (by kernel_rfl)] at h
  exact tab_of_head h.tail.tail
noncomputable def laidWorldK (os : Os) : World := World.laidAll Tryz.prog os laidK
theorem laidWorldK_os (os : Os) : (laidWorldK os).os = os := World.laidAll_os _ _ _
set_option maxRecDepth 100000 in
theorem laidWorldK_shaped (os : Os) : (laidWorldK os).Shaped Tryz.prog := World.shaped_of_ZipB (by kernel_rfl) (by kernel_rfl)
set_option maxRecDepth 100000 in
theorem laidWorldK_met (os : Os) (args : Array Value) : laidMetH Tryz.prog laidK ((laidWorldK os).forCall (fun _ _ => 0) ⟨#[], args, []⟩).memory := by
  rw [MakeChecks.laidMetH_plain _ _ _ (by kernel_rfl)]
  exact laidMet_laidAll _ (by kernel_rfl) (by kernel_rfl)
end Go.Proofs.YticckfioggeaeaaGreatDoor
