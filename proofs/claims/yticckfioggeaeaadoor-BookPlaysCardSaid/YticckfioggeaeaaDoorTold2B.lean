/-
  plain.Told and larderwicksame.Error, by their contracts.
-/
import Derived.Test.YticckfioggeaeaaDoorToldB
set_option linter.unusedVariables false
set_option linter.unusedSimpArgs false
set_option linter.unnecessarySimpa false
namespace Go.Proofs.YticckfioggeaeaaDoor
open Go.RowKit

/-- The package-level variable that errors.As reads. -/
def Handle (w : World) : Prop := w.cell? ⟨0, 0, none⟩ = some (.iface 122 (.agg #[.pointer (some ⟨9, 26, none⟩)]))
theorem Handle.lt {w : World} (h : Handle w) : 0 < w.heap.size := World.block_lt_of_cell? w _ h
theorem Handle.below {w w' : World} {B : Nat} (h : Handle w) (hb : Below B w w') (hB : 0 < B) : Handle w' := (World.cell?_of_block (w := w) (hb.block 0 hB)).trans h
theorem Handle.keep {w w' : World} {F : List Nat} (h : Handle w) (hk : Keep F w w') (hF : 0 ∉ F) : Handle w' := (World.cell?_of_block (w := w) (hk.block 0 h.lt hF)).trans h

def ToldPost (w : World) (n : Int) (e : Ending) (w' : World) : Prop := e = .returned (.int .i64 n) ∧ Below w.heap.size w w'
theorem told_nil (w : World) : Calls Tryd.prog 24 #[.nilIface] w fun e w' => e = .returned (.int .i64 0) ∧ w = w' := by
  go_enter Tryd.func24, Tryd.ntmps24
  go_wp2
  go_ret
  exact ⟨rfl, rfl⟩
set_option maxHeartbeats 1000000 in
theorem told_some (n : Int) (w : World) (hg : Handle w) : Calls Tryd.prog 24 #[errv n] w (ToldPost w n) := by
  have hlt := hg.lt
  have hgA : (w.alloc (.cells #[.int .i64 0] 51)).cell? ⟨0, 0, none⟩ = some (.iface 122 (.agg #[.pointer (some ⟨9, 26, none⟩)])) := by
    rw [World.cell?_alloc_lt _ _ ⟨0, 0, none⟩ hlt]; exact hg
  have htA : (w.alloc (.cells #[.int .i64 0] 51)).cell? ⟨w.heap.size, 0, none⟩ = some (.int .i64 0) := by simp
  have hfA : (w.alloc (.cells #[.int .i64 0] 51)).frozen? ⟨w.heap.size, 0, none⟩ = false := by simp
  have HG := Lib.hid hgA; have HT := Lib.hid htA; have HF := Lib.hid hfA; clear hgA htA hfA hg
  go_enter Tryd.func24, Tryd.ntmps24
  go_wp2_with fail
  refine (asHit n _ (.int .i64 0) _ HG.out HT.out HF.out).mono ?_
  rintro e w' ⟨rfl, rfl⟩
  go_wp2
  go_ret
  refine ⟨rfl, ?_⟩
  exact (((((Below.refl _ _).alloc (Nat.le_refl _) _).alloc (by simp) _).alloc (by simp; omega) _).alloc (by simp; omega) _).alloc (by simp; omega) _

def ErrorPost (w : World) (b : Bool) (e : Ending) (w' : World) : Prop := e = .returned (.bool b) ∧ Below w.heap.size w w'
theorem eError_nil (k : Int) (w : World) : Calls Tryd.prog 14 #[.nilIface, .int .i64 k] w (ErrorPost w (0 == k)) := by
  go_enter Tryd.func14, Tryd.ntmps14
  go_wp2_with (go_at_call 24; refine (told_nil _).mono ?_; rintro e w' ⟨rfl, rfl⟩)
  go_ret
  exact ⟨rfl, Below.refl _ _⟩
theorem eError_some (n k : Int) (w : World) (hg : Handle w) : Calls Tryd.prog 14 #[errv n, .int .i64 k] w (ErrorPost w (n == k)) := by
  have HG := Lib.hid hg; clear hg
  go_enter Tryd.func14, Tryd.ntmps14
  go_wp2_with fail
  refine (told_some n _ HG.out).mono ?_
  rintro e w1 ⟨rfl, hb⟩
  have HB := Lib.hid hb; clear hb
  go_wp2
  go_ret
  exact ⟨rfl, HB.out⟩
end Go.Proofs.YticckfioggeaeaaDoor
