/-
  Nests: how they lie in memory; New, nest, Has, Add, by their contracts.
-/
import Derived.Test.YthldhbcidcmmaaaDoorClone
import Derived.Deep.MidRow
import Derived.StillTailTactics
import Derived.RegionTactic
import Derived.Outline
namespace Go.Proofs.YthldhbcidcmmaaaDoor
open Go.RowKit

def nst (k r : Nat) : Nat := if r = 0 then k % 11 else k / 11 % 11
def spot (k r : Nat) : Nat := r * 11 + nst k r
theorem nst_lt (k r : Nat) : nst k r < 11 := by unfold nst; split <;> omega
theorem spot_lt {k r : Nat} (h : r < 2) : spot k r < 22 := by have := nst_lt k r; unfold spot; omega

/-- Nests at block b: twice 11 cells, and how many. -/
structure NAt (w : World) (b : Nat) (c : List Int) (m : Int) : Prop where
  top : Blk w b 59 (ints c ++ [.int .i64 m])
  len : c.length = 22

section
variable {w w' : World} {b : Nat} {c : List Int} {m : Int} {F : List Nat}
theorem NAt.keep (h : NAt w b c m) (hk : Keep F w w') (hF : b ∉ F) : NAt w' b c m := ⟨h.top.keep hk hF, h.len⟩
theorem NAt.drewN (h : NAt w b c m) (q : Nat) : NAt (w.drewN q) b c m := ⟨h.top, h.len⟩
theorem NAt.cell_ (h : NAt w b c m) {i : Nat} (hi : i < 22) : w.cell? ⟨b, i, none⟩ = some (.int .i64 (c.getD i 0)) ∧ w.frozen? ⟨b, i, none⟩ = false := by
  refine ⟨h.top.cell_ ?_, h.top.free i⟩
  have hl := h.len
  rw [List.getElem?_append_left (by rw [ints_len, hl]; exact hi)]
  exact ints_get (by simp [List.getD, List.getElem?_eq_getElem (show i < c.length by omega)])
theorem NAt.many_ (h : NAt w b c m) : w.cell? ⟨b, 22, none⟩ = some (.int .i64 m) ∧ w.frozen? ⟨b, 22, none⟩ = false := by
  refine ⟨h.top.cell_ ?_, h.top.free 22⟩
  rw [List.getElem?_append_right (by rw [ints_len, h.len]; omega), ints_len, h.len]; rfl
theorem NAt.set (h : NAt w b c m) {i : Nat} (hi : i < 22) (x : Int) : NAt (w.setCell ⟨b, i, none⟩ (.int .i64 x)) b (c.set i x) m := by
  refine ⟨?_, by simpa using h.len⟩
  have := h.top.set i (.int .i64 x)
  rw [List.set_append_left _ _ (by rw [ints_len, h.len]; exact hi), ints_set] at this
  exact this
theorem NAt.setM (h : NAt w b c m) (x : Int) : NAt (w.setCell ⟨b, 22, none⟩ (.int .i64 x)) b c x := by
  refine ⟨?_, h.len⟩
  have := h.top.set 22 (.int .i64 x)
  rw [List.set_append_right _ _ (by rw [ints_len, h.len]; omega), ints_len, h.len] at this
  exact this
end

theorem nestsNew (w : World) : Calls Tryd.prog 6 #[] w fun e w' => e = .returned (.pointer (some ⟨w.heap.size, 0, none⟩)) ∧ NAt w' w.heap.size (List.replicate 22 0) 0 ∧ Below w.heap.size w w' := by
  go_enter Tryd.func6, Tryd.ntmps6
  go_wp2
  go_ret
  exact ⟨rfl, ⟨Blk.new w 59 (ints (List.replicate 22 0) ++ [.int .i64 0]), by simp⟩, (Below.refl _ _).alloc (Nat.le_refl _) _⟩

theorem nest0 (k : Nat) (w : World) : Calls Tryd.prog 33 #[.int .i64 k, .int .i64 0] w fun e w' => e = .returned (.int .i64 (nst k 0 : Nat)) ∧ w = w' := by
  have h0 : (0 : Int) ≤ (k : Int) := by omega
  go_enter Tryd.func33, Tryd.ntmps33
  go_wp2
  go_ret
  exact ⟨ret_int (by unfold nst; rw [if_pos rfl]; omega), rfl⟩
theorem nest1 (k : Nat) (w : World) (hk : (k : Int) ≤ 9223372036854775807) : Calls Tryd.prog 33 #[.int .i64 k, .int .i64 1] w fun e w' => e = .returned (.int .i64 (nst k 1 : Nat)) ∧ w = w' := by
  have h0 : (0 : Int) ≤ (k : Int) := by omega
  go_enter Tryd.func33, Tryd.ntmps33
  go_wp2
  go_ret
  exact ⟨ret_int (by unfold nst; rw [if_neg (by decide)]; omega), rfl⟩
theorem nest_any (k r : Nat) (w : World) (hr : r < 2) (hk : (k : Int) ≤ 9223372036854775807) : Calls Tryd.prog 33 #[.int .i64 k, .int .i64 r] w fun e w' => e = .returned (.int .i64 (nst k r : Nat)) ∧ w = w' := by
  rcases (show r = 0 ∨ r = 1 by omega) with rfl | rfl
  · exact nest0 k w
  · exact nest1 k w hk

theorem nest0_eq {p : Nat} (k : Nat) (hp : p = nst k 0) (w : World) : Calls Tryd.prog 33 #[.int .i64 k, .int .i64 0] w fun e w' => e = .returned (.int .i64 p) ∧ w = w' := by rw [hp]; exact nest0 k w
theorem nest1_eq {p : Nat} (k : Nat) (hk : (k : Int) ≤ 9223372036854775807) (hp : p = nst k 1) (w : World) : Calls Tryd.prog 33 #[.int .i64 k, .int .i64 1] w fun e w' => e = .returned (.int .i64 p) ∧ w = w' := by rw [hp]; exact nest1 k w hk

theorem nest_eq {p : Nat} (k r : Nat) (hr : r < 2) (hk : (k : Int) ≤ 9223372036854775807) (hp : p = nst k r) (w : World) : Calls Tryd.prog 33 #[.int .i64 k, .int .i64 r] w fun e w' => e = .returned (.int .i64 p) ∧ w = w' := by rw [hp]; exact nest_any k r w hr hk
theorem nHas_low (b : Nat) (x : Int) (w : World) (h : x < 0) : Calls Tryd.prog 12 #[.pointer (some ⟨b, 0, none⟩), .int .i64 x] w fun e w' => e = .returned (.bool false) ∧ ∃ q, w' = w.drewN q := by
  have h0 : decide ((0 : Int) ≤ x) = false := by simpa using h
  go_enter Tryd.func12, Tryd.ntmps12
  go_wp2
  go_quiet (fail)
  go_wp2
  go_ret
  exact ⟨rfl, _, rfl⟩
end Go.Proofs.YthldhbcidcmmaaaDoor
