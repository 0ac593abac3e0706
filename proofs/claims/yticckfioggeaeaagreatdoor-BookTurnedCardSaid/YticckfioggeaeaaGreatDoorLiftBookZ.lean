/-
  What the listed package-level variables give a walk; a world that meets the condition (four tables, two sentinels, a pinned table, and a type's handle).
-/
import Derived.Test.YticckfioggeaeaaGreatDoorGF
import Derived.Test.YticckfioggeaeaaGreatDoorGG
set_option linter.unusedVariables false
set_option linter.unusedSimpArgs false
set_option linter.unnecessarySimpa false
namespace Go.Proofs.YticckfioggeaeaaGreatDoor
open Go.ChangeShapes Go.WideShapes Go.RowKit

def laidZ : List (String × DataW Unit) := [("math/bits.deBruijn32tab", Rows.laid_math_bits_deBruijn32tab), ("math/bits.deBruijn64tab", Rows.laid_math_bits_deBruijn64tab), ("internal/strconv.uint64pow10", Rows.laid_internal_strconv_uint64pow10), ("unicode/utf8.acceptRanges", Rows.laid_unicode_utf8_acceptRanges), ("errors.errorType", Rows.laid_errors_errorType), ("strconv.ErrRange", Rows.laid_strconv_ErrRange), ("strconv.ErrSyntax", Rows.laid_strconv_ErrSyntax), ("unicode/utf8.first", Rows.laid_unicode_utf8_first)]
theorem global_et : Tryz.prog.globalNamed "errors.errorType" = some 0 := by kernel_rfl
theorem cut_rt : (Tryz.prog.cutTypes.find? (·.1 == "internal/reflectlite.rtype")).map (·.2) = some 143 := by kernel_rfl
theorem one_row : ((List.range Tryz.prog.types.size).filter fun t => Tryz.prog.rowNamed t [101, 114, 114, 111, 114]) = [29] := by kernel_rfl
theorem all_of_laidZ {W : World} (h : laidMetH Tryz.prog laidZ W) : Tab W ∧ Errs W ∧ Handle W := by
  have h' : laidMet Tryz.prog laidT W ∧ handlesMet Tryz.prog [("errors.errorType", Rows.laid_errors_errorType)] W := h
  have hT : laidMetH Tryz.prog laidT W := by
    rw [MakeChecks.laidMetH_plain _ _ _ (by kernel_rfl)]
    exact h'.1
  obtain ⟨h1, h2⟩ := errs_of_laidT hT
  refine ⟨h1, h2, ?_⟩
  obtain ⟨name, u, ty, e1, e2, e3, e4, e5⟩ := h'.2 _ (List.mem_singleton.2 rfl)
  have en : name = [101, 114, 114, 111, 114] := (Option.some.inj e1).symm
  subst en
  obtain rfl := Option.some.inj (cut_rt.symm.trans e2)
  have hm : ty ∈ (List.range Tryz.prog.types.size).filter fun t => Tryz.prog.rowNamed t [101, 114, 114, 111, 114] := List.mem_filter.2 ⟨List.mem_range.2 e3, e4⟩
  rw [one_row] at hm
  obtain rfl := List.mem_singleton.1 hm
  have hh : typeHandle Tryz.prog 29 = .pointer (some ⟨9, 29, none⟩) := by kernel_rfl
  rw [hh] at e5
  unfold Handle
  simpa using World.var?_cell global_et e5 0
noncomputable def baseP (os : Os) : World :=
  let w0 := World.holding Tryz.prog os ⟨#[], #[], []⟩
  { w0 with heap := w0.heap.modify 0 fun
      | .cells _ t frozen => .cells #[.iface 143 (.agg #[.pointer (some ⟨9, 29, none⟩)])] t frozen
      | o => o }
noncomputable def laidWorldZ (os : Os) : World := (baseP os).layVars Tryz.prog laidT
theorem laidWorldZ_os (os : Os) : (laidWorldZ os).os = os := World.layVars_os _ _ _
set_option maxRecDepth 100000 in
theorem laidWorldZ_shaped (os : Os) : (laidWorldZ os).Shaped Tryz.prog := World.shaped_of_ZipB (by kernel_rfl) (by kernel_rfl)
set_option maxRecDepth 100000 in
theorem laidWorldZ_met (os : Os) (args : Array Value) : laidMetH Tryz.prog laidZ ((laidWorldZ os).forCall (fun _ _ => 0) ⟨#[], args, []⟩).memory := by
  have e1 : (laidT.filter fun x => (laidT.map (·.1)).contains x.1) = laidT := List.filter_eq_self.2 fun x hx => List.contains_iff_mem.2 (List.mem_map.2 ⟨x, hx, rfl⟩)
  have e2 : (laidT.filter fun x => !(laidT.map (·.1)).contains x.1) = [] := List.filter_eq_nil_iff.2 fun x hx => by rw [List.contains_iff_mem.2 (List.mem_map.2 ⟨x, hx, rfl⟩)]; simp
  have h : laidMet Tryz.prog laidT (laidWorldZ os) := laidMet_layVars (w0 := baseP os) (laidT.map (·.1)) [] (by rw [e1]; rfl) (by rw [e1]; kernel_rfl) (by rw [e1]; kernel_rfl) (by rw [e2]; exact LaidIn.none)
  have h2 : laidMet Tryz.prog laidT ((laidWorldZ os).forCall (fun _ _ => 0) ⟨#[], args, []⟩).memory := h.of_heap (by simp [World.memory, World.forCall, Input.heap])
  exact laidMetH_of_parts h2 (by kernel_rfl)
end Go.Proofs.YticckfioggeaeaaGreatDoor
