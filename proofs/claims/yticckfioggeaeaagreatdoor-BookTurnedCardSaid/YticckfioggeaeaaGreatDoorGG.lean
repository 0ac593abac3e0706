/-
  Several texts in one (merged by wip/mergefix.py): Told2B, DeskTold.
-/
import Derived.Test.YticckfioggeaeaaGreatDoorToldB
import Derived.Test.YticckfioggeaeaaGreatDoorGA
import Derived.Test.YticckfioggeaeaaGreatDoorGB
set_option linter.unusedVariables false
set_option linter.unusedSimpArgs false
set_option linter.unnecessarySimpa false
/-
  plain.Told and larderwicksame.Error, by their contracts.
-/
namespace Go.Proofs.YticckfioggeaeaaGreatDoor
open Go.RowKit

/-- The package-level variable that errors.As reads. -/
def Handle (w : World) : Prop := w.cell? ⟨0, 0, none⟩ = some (.iface 143 (.agg #[.pointer (some ⟨9, 29, none⟩)]))
theorem Handle.lt {w : World} (h : Handle w) : 0 < w.heap.size := World.block_lt_of_cell? w _ h
theorem Handle.below {w w' : World} {B : Nat} (h : Handle w) (hb : Below B w w') (hB : 0 < B) : Handle w' := (World.cell?_of_block (w := w) (hb.block 0 hB)).trans h
theorem Handle.keep {w w' : World} {F : List Nat} (h : Handle w) (hk : Keep F w w') (hF : 0 ∉ F) : Handle w' := (World.cell?_of_block (w := w) (hk.block 0 h.lt hF)).trans h

def ToldPost (w : World) (n : Int) (e : Ending) (w' : World) : Prop := e = .returned (.int .i64 n) ∧ Below w.heap.size w w'
theorem told_nil (w : World) : Calls Tryz.prog 34 #[.nilIface] w fun e w' => e = .returned (.int .i64 0) ∧ w = w' := by
  go_enter Tryz.func34, Tryz.ntmps34
  go_wp2
  go_ret
  exact ⟨rfl, rfl⟩
set_option maxHeartbeats 1000000 in
theorem told_some (n : Int) (w : World) (hg : Handle w) : Calls Tryz.prog 34 #[errv n] w (ToldPost w n) := by
  have hlt := hg.lt
  have hgA : (w.alloc (.cells #[.int .i64 0] 61)).cell? ⟨0, 0, none⟩ = some (.iface 143 (.agg #[.pointer (some ⟨9, 29, none⟩)])) := by
    rw [World.cell?_alloc_lt _ _ ⟨0, 0, none⟩ hlt]; exact hg
  have htA : (w.alloc (.cells #[.int .i64 0] 61)).cell? ⟨w.heap.size, 0, none⟩ = some (.int .i64 0) := by simp
  have hfA : (w.alloc (.cells #[.int .i64 0] 61)).frozen? ⟨w.heap.size, 0, none⟩ = false := by simp
  have HG := Lib.hid hgA; have HT := Lib.hid htA; have HF := Lib.hid hfA; clear hgA htA hfA hg
  go_enter Tryz.func34, Tryz.ntmps34
  go_wp2_with fail
  refine (asHit n _ (.int .i64 0) _ HG.out HT.out HF.out).mono ?_
  rintro e w' ⟨rfl, rfl⟩
  go_wp2
  go_ret
  refine ⟨rfl, ?_⟩
  exact (((((Below.refl _ _).alloc (Nat.le_refl _) _).alloc (by simp) _).alloc (by simp; omega) _).alloc (by simp; omega) _).alloc (by simp; omega) _

def ErrorPost (w : World) (b : Bool) (e : Ending) (w' : World) : Prop := e = .returned (.bool b) ∧ Below w.heap.size w w'
theorem eError_nil (k : Int) (w : World) : Calls Tryz.prog 13 #[.nilIface, .int .i64 k] w (ErrorPost w (0 == k)) := by
  go_enter Tryz.func13, Tryz.ntmps13
  go_wp2_with (go_at_call 34; refine (told_nil _).mono ?_; rintro e w' ⟨rfl, rfl⟩)
  go_ret
  exact ⟨rfl, Below.refl _ _⟩
theorem eError_some (n k : Int) (w : World) (hg : Handle w) : Calls Tryz.prog 13 #[errv n, .int .i64 k] w (ErrorPost w (n == k)) := by
  have HG := Lib.hid hg; clear hg
  go_enter Tryz.func13, Tryz.ntmps13
  go_wp2_with fail
  refine (told_some n _ HG.out).mono ?_
  rintro e w1 ⟨rfl, hb⟩
  have HB := Lib.hid hb; clear hb
  go_wp2
  go_ret
  exact ⟨rfl, HB.out⟩
end Go.Proofs.YticckfioggeaeaaGreatDoor

/-
  The names of errors: api.Errno's Error, desk.told, the reference's called, by their contracts.
-/
set_option linter.unusedVariables false
namespace Go.Proofs.YticckfioggeaeaaGreatDoor
open Go.RowKit

/-- The errors of a session. -/
def someE (n : Int) : Prop := n = 1 ∨ n = 2 ∨ n = 4 ∨ n = 5 ∨ n = 6
set_option maxRecDepth 100000 in
theorem errno_name (n : Int) (h : someE n) (w : World) : Calls Tryz.prog 66 #[.int .i64 n] w fun e w' => e = .returned (.string ⟨(nameOf n).toArray⟩) ∧ w = w' := by
  rcases h with rfl | rfl | rfl | rfl | rfl
  all_goals
    go_enter Tryz.func66, Tryz.ntmps66
    go_wp2
    go_ret
    exact ⟨rfl, rfl⟩
def NamePost (w : World) (n : Int) (e : Ending) (w' : World) : Prop := e = .returned (.string ⟨(nameOf n).toArray⟩) ∧ Below w.heap.size w w'
set_option maxRecDepth 100000 in
theorem as_nil (t : Addr) (w : World) : Calls Tryz.prog 62 #[.nilIface, .iface 102 (.pointer (some t))] w fun e w' => e = .returned (.bool false) ∧ w = w' := by
  go_enter Tryz.func62, Tryz.ntmps62
  go_wp2
  go_ret
  exact ⟨rfl, rfl⟩
set_option maxRecDepth 100000 in
theorem dtold_nil (w : World) : Calls Tryz.prog 38 #[.nilIface] w (NamePost w 0) := by
  go_enter Tryz.func38, Tryz.ntmps38
  go_wp2_with fail
  refine (as_nil _ _).mono ?_
  rintro e w' ⟨rfl, rfl⟩
  go_wp2
  go_ret
  exact ⟨rfl, (Below.refl _ _).alloc (Nat.le_refl _) _⟩
set_option maxHeartbeats 1000000 in
set_option maxRecDepth 100000 in
theorem dtold_some (n : Int) (h : someE n) (w : World) (hg : Handle w) : Calls Tryz.prog 38 #[errv n] w (NamePost w n) := by
  have hlt := hg.lt
  have hgA : (w.alloc (.cells #[.int .i64 0] 61)).cell? ⟨0, 0, none⟩ = some (.iface 143 (.agg #[.pointer (some ⟨9, 29, none⟩)])) := by
    rw [World.cell?_alloc_lt _ _ ⟨0, 0, none⟩ hlt]; exact hg
  have htA : (w.alloc (.cells #[.int .i64 0] 61)).cell? ⟨w.heap.size, 0, none⟩ = some (.int .i64 0) := by simp
  have hfA : (w.alloc (.cells #[.int .i64 0] 61)).frozen? ⟨w.heap.size, 0, none⟩ = false := by simp
  have HG := Lib.hid hgA; have HT := Lib.hid htA; have HF := Lib.hid hfA; have HN := Lib.hid h
  clear hgA htA hfA hg h
  go_enter Tryz.func38, Tryz.ntmps38
  go_wp2_with fail
  refine (asHit n _ (.int .i64 0) _ HG.out HT.out HF.out).mono ?_
  rintro e w' ⟨rfl, rfl⟩
  go_wp2_with (go_at_call 66; refine (errno_name n HN.out _).mono ?_; rintro e w' ⟨rfl, rfl⟩)
  go_ret
  refine ⟨rfl, ?_⟩
  exact (((((Below.refl _ _).alloc (Nat.le_refl _) _).alloc (by simp) _).alloc (by simp; omega) _).alloc (by simp; omega) _).alloc (by simp; omega) _
theorem dtold_w (n : Int) (h : n = 0 ∨ someE n) (w : World) (hg : Handle w) : Calls Tryz.prog 38 #[errw n] w (NamePost w n) := by
  rcases h with rfl | h
  · exact dtold_nil w
  · rw [errw_of (by unfold someE at h; omega)]
    exact dtold_some n h w hg
set_option maxRecDepth 100000 in
theorem rcalled (n : Int) (h : n = 0 ∨ someE n) (w : World) : Calls Tryz.prog 74 #[.int .i64 n] w fun e w' => e = .returned (.string ⟨(nameOf n).toArray⟩) ∧ w = w' := by
  by_cases h0 : n = 0
  · subst h0
    go_enter Tryz.func74, Tryz.ntmps74
    go_wp2
    go_ret
    exact ⟨rfl, rfl⟩
  · have hs := h.resolve_left h0
    have hq : (n == 0) = false := beq_eq_false_iff_ne.2 h0
    clear h
    go_enter Tryz.func74, Tryz.ntmps74
    go_wp2_with (go_at_call 66; refine (errno_name n hs _).mono ?_; rintro e w' ⟨rfl, rfl⟩)
    go_ret
    exact ⟨rfl, rfl⟩
end Go.Proofs.YticckfioggeaeaaGreatDoor
