/-
  Several texts in one (merged by wip/mergefix.py): LiftBookK, LiftBookT.
-/
import Derived.Test.YticckfioggeaeaaGreatDoorGA
import Derived.Test.YticckfioggeaeaaGreatDoorGE
import Derived.Test.YticckfioggeaeaaGreatDoorTie
import Derived.Test.YticckfioggeaeaaGreatDoorCards
import Derived.ChangeSame
import Derived.ChangeVars
import Derived.JoinedOf
import Derived.RowKit
import Derived.RowKitTokens
import Derived.LaidLaws
import Derived.LaidHandle
import Derived.Lay
import Derived.MakeChecks
import Derived.Stop.Joined
import Derived.Stop.LaidErr
import Derived.Lib.LaidTab
set_option linter.unusedVariables false
set_option linter.unusedSimpArgs false
set_option linter.unnecessarySimpa false
/-
  What the listed package-level variables give a walk; a world that meets the condition (three tables).
-/
namespace Go.Proofs.YticckfioggeaeaaGreatDoor
open Go.ChangeShapes Go.WideShapes Go.RowKit

def laidK : List (String × DataW Unit) := [("math/bits.deBruijn32tab", Rows.laid_math_bits_deBruijn32tab), ("math/bits.deBruijn64tab", Rows.laid_math_bits_deBruijn64tab), ("internal/strconv.uint64pow10", Rows.laid_internal_strconv_uint64pow10)]
theorem pow_data : (Rows.laid_internal_strconv_uint64pow10 : DataW Unit) = Lib.tabData .u64 Lib.pow10Tab := by kernel_rfl
theorem pow_type : (Tryz.prog.globals[4]?).map (·.type) = some 196 := by kernel_rfl
theorem cells_u64 : Tryz.prog.cellsOf 166 = 1 := by kernel_rfl
theorem cells_pow : Tryz.prog.cellsOf 196 = 20 := by kernel_rfl
theorem tab_of_head {W : World} {r : List (String × DataW Unit)} (h : laidMet Tryz.prog (("internal/strconv.uint64pow10", Rows.laid_internal_strconv_uint64pow10) :: r) W) : Tab W := by
  rw [pow_data] at h
  exact Lib.tabIs_of_head global_tab pow_type Tryz.underlying196 Tryz.underlying166 cells_u64 cells_pow h
theorem tab_of_laidK {W : World} (h : laidMetH Tryz.prog laidK W) : Tab W := by
  rw [MakeChecks.laidMetH_plain _ _ _ (by kernel_rfl)] at h
  exact tab_of_head h.tail.tail
noncomputable def laidWorldK (os : Os) : World := World.laidAll Tryz.prog os laidK
theorem laidWorldK_os (os : Os) : (laidWorldK os).os = os := World.laidAll_os _ _ _
set_option maxRecDepth 100000 in
theorem laidWorldK_shaped (os : Os) : (laidWorldK os).Shaped Tryz.prog := World.shaped_of_ZipB (by kernel_rfl) (by kernel_rfl)
set_option maxRecDepth 100000 in
theorem laidWorldK_met (os : Os) (args : Array Value) : laidMetH Tryz.prog laidK ((laidWorldK os).forCall (fun _ _ => 0) ⟨#[], args, []⟩).memory := by
  rw [MakeChecks.laidMetH_plain _ _ _ (by kernel_rfl)]
  exact laidMet_laidAll _ (by kernel_rfl) (by kernel_rfl)
end Go.Proofs.YticckfioggeaeaaGreatDoor

/-
  What the listed package-level variables give a walk; a world that meets the condition (four tables, two sentinels, a pinned table).
-/
namespace Go.Proofs.YticckfioggeaeaaGreatDoor
open Go.ChangeShapes Go.WideShapes Go.RowKit

def laidT : List (String × DataW Unit) := [("math/bits.deBruijn32tab", Rows.laid_math_bits_deBruijn32tab), ("math/bits.deBruijn64tab", Rows.laid_math_bits_deBruijn64tab), ("internal/strconv.uint64pow10", Rows.laid_internal_strconv_uint64pow10), ("unicode/utf8.acceptRanges", Rows.laid_unicode_utf8_acceptRanges), ("strconv.ErrRange", Rows.laid_strconv_ErrRange), ("strconv.ErrSyntax", Rows.laid_strconv_ErrSyntax), ("unicode/utf8.first", Rows.laid_unicode_utf8_first)]
theorem type_syn : (Tryz.prog.globals[2]?).map (·.type) = some 29 := by kernel_rfl
theorem type_rng : (Tryz.prog.globals[3]?).map (·.type) = some 29 := by kernel_rfl
theorem cells_es : Tryz.prog.cellsOf 201 = 1 := by kernel_rfl
theorem cells_str : Tryz.prog.cellsOf 9 = 1 := by kernel_rfl
theorem star_es : "*" ++ "errors.errorString" = "*errors.errorString" := by decide
theorem row_es (u : TypeId) (h : Tryz.prog.typeName? 3 u = some "*errors.errorString") : u = 199 :=
  typeName_ptr_named (nm := "errors.errorString") (by rw [star_es]; kernel_rfl) (by kernel_rfl) (by decide) u (by rw [star_es]; exact h)
theorem errs_of_laidT {W : World} (h : laidMetH Tryz.prog laidT W) : Tab W ∧ Errs W := by
  rw [MakeChecks.laidMetH_plain _ _ _ (by kernel_rfl)] at h
  obtain ⟨a1, _, h1, _⟩ := laid_sentinel h.tail.tail.tail.tail global_rng type_rng Tryz.underlying29 row_es Tryz.underlying199 Tryz.underlying201 rfl rfl Tryz.underlying9 cells_es cells_str
  obtain ⟨a2, _, h2, _⟩ := laid_sentinel h.tail.tail.tail.tail.tail global_syn type_syn Tryz.underlying29 row_es Tryz.underlying199 Tryz.underlying201 rfl rfl Tryz.underlying9 cells_es cells_str
  exact ⟨tab_of_head h.tail.tail, ⟨_, _, h2⟩, ⟨_, _, h1⟩⟩
noncomputable def laidWorldT (os : Os) : World := World.laidAll Tryz.prog os laidT
theorem laidWorldT_os (os : Os) : (laidWorldT os).os = os := World.laidAll_os _ _ _
set_option maxRecDepth 100000 in
theorem laidWorldT_shaped (os : Os) : (laidWorldT os).Shaped Tryz.prog := World.shaped_of_ZipB (by kernel_rfl) (by kernel_rfl)
set_option maxRecDepth 100000 in
theorem laidWorldT_met (os : Os) (args : Array Value) : laidMetH Tryz.prog laidT ((laidWorldT os).forCall (fun _ _ => 0) ⟨#[], args, []⟩).memory := by
  rw [MakeChecks.laidMetH_plain _ _ _ (by kernel_rfl)]
  exact laidMet_laidAll _ (by kernel_rfl) (by kernel_rfl)
end Go.Proofs.YticckfioggeaeaaGreatDoor
