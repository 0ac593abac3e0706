/-
  book.keys's comparison, by its contract.
-/
import Derived.Test.YticckfioggeaeaaGreatDoorBookMap3
import Derived.Deep.RegionWith
import Derived.Deep.RegionHeld3
namespace Go.Proofs.YticckfioggeaeaaGreatDoor
open Go.RowKit

/-- The turn of a key. -/
def turnOf (M : List Ent) (x : Int) : Int := match M.find? (fun p => p.1 == x) with | some p => p.2.2 | none => 0
theorem turnOf_mem {M : List Ent} (hn : (M.map (·.1)).Nodup) {p : Ent} (hp : p ∈ M) : turnOf M p.1 = p.2.2 := by
  unfold turnOf
  cases hf : M.find? (fun q => q.1 == p.1) with
  | none =>
    have := List.find?_eq_none.1 hf p hp
    simp at this
  | some q =>
    have h1 := List.mem_of_find?_eq_some hf
    have h2 := List.find?_some hf
    simp at h2
    rw [ent_one hn h1 hp h2]
def cmpO (a b : Int) : Int := if a < b then -1 else if b < a then 1 else 0
theorem compare_any (a b : Int) (w : World) : Calls Tryz.prog 65 #[.int .i64 a, .int .i64 b] w fun e w' => e = .returned (.int .i64 (cmpO a b)) ∧ w = w' := by
  by_cases h1 : a < b
  · have HR : Hid (cmpO a b = -1) := Lib.hid (by unfold cmpO; rw [if_pos h1])
    go_enter Tryz.func65, Tryz.ntmps65
    go_wp2
    go_ret
    exact ⟨ret_int HR.out.symm, rfl⟩
  · by_cases h2 : b < a
    · have HR : Hid (cmpO a b = 1) := Lib.hid (by unfold cmpO; rw [if_neg h1, if_pos h2])
      go_enter Tryz.func65, Tryz.ntmps65
      go_wp2
      go_ret
      exact ⟨ret_int HR.out.symm, rfl⟩
    · have HR : Hid (cmpO a b = 0) := Lib.hid (by unfold cmpO; rw [if_neg h1, if_neg h2])
      go_enter Tryz.func65, Tryz.ntmps65
      go_wp2
      go_ret
      exact ⟨ret_int HR.out.symm, rfl⟩
theorem run_turn (v t : Int) (w : World) : (Instr.field 86 (.agg #[.int .i64 v, .int .i64 t]) 1).run Tryz.prog w = .ok (.int .i64 t) w := by
  unfold Instr.field
  simp [run_underlying Tryz.underlying86, Result.andThen, asAgg, part]
theorem run_value (v t : Int) (w : World) : (Instr.field 86 (.agg #[.int .i64 v, .int .i64 t]) 0).run Tryz.prog w = .ok (.int .i64 v) w := by
  unfold Instr.field
  simp [run_underlying Tryz.underlying86, Result.andThen, asAgg, part]
/-- The store and the box that the comparison sees. -/
structure CmpAt (w : World) (bx b g : Nat) (M : List Ent) : Prop where
  box : w.cell? ⟨bx, 0, none⟩ = some (.pointer (some ⟨b, 0, none⟩))
  at_ : w.cell? ⟨b, 1, none⟩ = some (.map (some g))
  map : MapAt w g M
set_option maxHeartbeats 4000000 in
set_option maxRecDepth 100000 in
theorem keys1_any (bx b g : Nat) (M : List Ent) (x y : Int) (w : World) (h : CmpAt w bx b g M) (hx : x ∈ M.map (·.1)) (hy : y ∈ M.map (·.1)) :
    Calls Tryz.prog 64 #[.int .i64 x, .int .i64 y, .pointer (some ⟨bx, 0, none⟩)] w fun e w' => e = .returned (.int .i64 (cmpO (turnOf M y) (turnOf M x))) ∧ ∃ q, w' = w.drewN q := by
  obtain ⟨p, hp, rfl⟩ := List.mem_map.1 hx
  obtain ⟨p', hp', rfl⟩ := List.mem_map.1 hy
  have hn := h.map.nodup
  rw [turnOf_mem hn hp, turnOf_mem hn hp']
  obtain ⟨x, vx, tx⟩ := p
  obtain ⟨y, vy, ty⟩ := p'
  have hlx := fun q => (look_is (h.map.keep (w' := w.drewN q) rfl) hp).2
  have hly := fun q => (look_is (h.map.keep (w' := w.drewN q) rfl) hp').2
  have hl0 := (look_is h.map hp).2
  have hl1 := (look_is h.map hp').2
  have hfx := fun q => run_turn vx tx (w.drewN q)
  have hfy := fun q => run_turn vy ty (w.drewN q)
  have hgx := run_turn vx tx w
  have hgy := run_turn vy ty w
  have hc1 := h.box
  have hc2 := h.at_
  clear h hx hy hn hp hp'
  go_enter Tryz.func64, Tryz.ntmps64
  go_wp2
  go_quiet ((go_at_call 65; exact quiet_eq (compare_any _ _ _)))
  go_wp2
  go_ret
  exact ⟨rfl, _, rfl⟩
end Go.Proofs.YticckfioggeaeaaGreatDoor
