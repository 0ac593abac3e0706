/-
  The reference's NewLender, by its contract.
-/
import Derived.Test.YtjnghpambjjlkaaDoorLeaseRef
import Derived.BigRegion
namespace Go.Proofs.YtjnghpambjjlkaaDoor
open Go.RowKit

theorem lLS {w : World} {n : Nat} : LS (w.alloc (.cells (ints (List.replicate n 0)).toArray 3)) w.heap.size n (List.replicate n 0) := by
  have := LS.new w (List.replicate n 0)
  simpa using this
theorem lLSA {w : World} {r o2 : Obj} {n : Nat} : LS (((w.alloc r).alloc (.cells (ints (List.replicate n 0)).toArray 3)).alloc o2) (w.heap.size + 1) n (List.replicate n 0) := by
  have := lLS (w := w.alloc r) (n := n)
  rw [World.size_alloc] at this
  exact this.keep0 ((Keep.refl _ _).alloc _)
theorem lLSB {w : World} {r o1 : Obj} {n : Nat} : LS (((w.alloc r).alloc o1).alloc (.cells (ints (List.replicate n 0)).toArray 3)) (w.heap.size + 1 + 1) n (List.replicate n 0) := by
  have := lLS (w := (w.alloc r).alloc o1) (n := n)
  rw [World.size_alloc, World.size_alloc] at this
  exact this

set_option maxHeartbeats 2000000 in
set_option maxRecDepth 100000 in
theorem kNewLender (n : Nat) (t : Int) (w : World) (h1 : 1 ≤ n) (hn : n ≤ 4) : Calls Tryd.prog 21 #[.int .i64 n, .int .i64 t] w (LPost w n (k0 n t)) := by
  have hmkN : ∀ wx : World, Sem.run Tryd.prog (Instr.makeSlice 22 (.int .i64 n) (.int .i64 n)) wx = .ok (.slice (some ⟨wx.heap.size, 0, none⟩) n n) (wx.alloc (.cells (ints (List.replicate n 0)).toArray 3)) := fun wx => run_make_blk (P := Tryd.prog) 22 3 (.int .i64 0) 8 Tryd.underlying22 info_int rfl n (by omega) (by omega) wx |>.trans (by rw [show ints (List.replicate n 0) = List.replicate n (.int .i64 0) by simp [ints]])
  go_enter Tryd.func21, Tryd.ntmps21
  go_wp2_with fail
  go_region
  all_goals
    go_wp2
    (try simp only [Exit.inBlock, Exit.then])
    refine bodyPost_ret (results_cell1 rfl _ _ w.heap.size 46 _ _ rfl (((Blk.new w 46 _).alloc _).alloc _).drew Tryd.underlying46 rfl info_klender) rfl ?_
    refine ⟨_, _, _, _, rfl, ⟨?_, ?_⟩, (((Below.refl _ w).alloc (Nat.le_refl _) _).alloc (by simp) _).alloc (by simp; omega) _ |>.drew⟩
    all_goals first
      | exact (lLSA).keep0 (Keep.refl _ _).drew
      | exact (lLSB).keep0 (Keep.refl _ _).drew
end Go.Proofs.YtjnghpambjjlkaaDoor
