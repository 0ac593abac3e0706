/-
  What the listed package-level variables give a walk; a world that meets the condition (three tables and a type's handle).
-/
import Derived.Test.YticckfioggeaeaaDoorGF
import Derived.Test.YticckfioggeaeaaDoorTold2B
set_option linter.unusedVariables false
set_option linter.unusedSimpArgs false
set_option linter.unnecessarySimpa false
namespace Go.Proofs.YticckfioggeaeaaDoor
open Go.ChangeShapes Go.WideShapes Go.RowKit

def laidP : List (String × DataW Unit) := [("math/bits.deBruijn32tab", Rows.laid_math_bits_deBruijn32tab), ("math/bits.deBruijn64tab", Rows.laid_math_bits_deBruijn64tab), ("internal/strconv.uint64pow10", Rows.laid_internal_strconv_uint64pow10), ("errors.errorType", Rows.laid_errors_errorType)]
theorem global_et : Tryd.prog.globalNamed "errors.errorType" = some 0 := by kernel_rfl
theorem cut_rt : (Tryd.prog.cutTypes.find? (·.1 == "internal/reflectlite.rtype")).map (·.2) = some 122 := by kernel_rfl
theorem one_row : ((List.range Tryd.prog.types.size).filter fun t => Tryd.prog.rowNamed t [101, 114, 114, 111, 114]) = [26] := by kernel_rfl
theorem tab_of_laidP {W : World} (h : laidMetH Tryd.prog laidP W) : Tab W ∧ Handle W := by
  have h' : laidMet Tryd.prog laidK W ∧ handlesMet Tryd.prog [("errors.errorType", Rows.laid_errors_errorType)] W := h
  refine ⟨tab_of_head h'.1.tail.tail, ?_⟩
  obtain ⟨name, u, ty, e1, e2, e3, e4, e5⟩ := h'.2 _ (List.mem_singleton.2 rfl)
  have en : name = [101, 114, 114, 111, 114] := (Option.some.inj e1).symm
  subst en
  obtain rfl := Option.some.inj (cut_rt.symm.trans e2)
  have hm : ty ∈ (List.range Tryd.prog.types.size).filter fun t => Tryd.prog.rowNamed t [101, 114, 114, 111, 114] := List.mem_filter.2 ⟨List.mem_range.2 e3, e4⟩
  rw [one_row] at hm
  obtain rfl := List.mem_singleton.1 hm
  have hh : typeHandle Tryd.prog 26 = .pointer (some ⟨9, 26, none⟩) := by kernel_rfl
  rw [hh] at e5
  unfold Handle
  simpa using World.var?_cell global_et e5 0
noncomputable def baseP (os : Os) : World :=
  let w0 := World.holding Tryd.prog os ⟨#[], #[], []⟩
  { w0 with heap := w0.heap.modify 0 fun
      | .cells _ t frozen => .cells #[.iface 122 (.agg #[.pointer (some ⟨9, 26, none⟩)])] t frozen
      | o => o }
noncomputable def laidWorldP (os : Os) : World := (baseP os).layVars Tryd.prog laidK
theorem laidWorldP_os (os : Os) : (laidWorldP os).os = os := World.layVars_os _ _ _
set_option maxRecDepth 100000 in
theorem laidWorldP_shaped (os : Os) : (laidWorldP os).Shaped Tryd.prog := World.shaped_of_ZipB (by kernel_rfl) (by kernel_rfl)
set_option maxRecDepth 100000 in
theorem laidWorldP_met (os : Os) (args : Array Value) : laidMetH Tryd.prog laidP ((laidWorldP os).forCall (fun _ _ => 0) ⟨#[], args, []⟩).memory := by
  have e1 : (laidK.filter fun x => (laidK.map (·.1)).contains x.1) = laidK := List.filter_eq_self.2 fun x hx => List.contains_iff_mem.2 (List.mem_map.2 ⟨x, hx, rfl⟩)
  have e2 : (laidK.filter fun x => !(laidK.map (·.1)).contains x.1) = [] := List.filter_eq_nil_iff.2 fun x hx => by rw [List.contains_iff_mem.2 (List.mem_map.2 ⟨x, hx, rfl⟩)]; simp
  have h : laidMet Tryd.prog laidK (laidWorldP os) := laidMet_layVars (w0 := baseP os) (laidK.map (·.1)) [] (by rw [e1]; rfl) (by rw [e1]; kernel_rfl) (by rw [e1]; kernel_rfl) (by rw [e2]; exact LaidIn.none)
  have h2 : laidMet Tryd.prog laidK ((laidWorldP os).forCall (fun _ _ => 0) ⟨#[], args, []⟩).memory := h.of_heap (by simp [World.memory, World.forCall, Input.heap])
  exact laidMetH_of_parts h2 (by kernel_rfl)
end Go.Proofs.YticckfioggeaeaaDoor
