/-
  The reference's NewCaches, by its contract.
-/
import Derived.Test.YtjnghpambjjlkaaDoorCohereRef
import Derived.BigRegion
namespace Go.Proofs.YtjnghpambjjlkaaDoor
open Go.RowKit

theorem ev0 (N : Nat) (n : Nat) (h : N = 4 * n) : ev (List.replicate (8 * n) 0) = List.replicate N 0 := by
  apply List.ext_getElem
  · simp [ev_len]; omega
  intro i h1 h2
  simp only [ev, List.length_replicate, List.getElem_map, List.getElem_range, List.getD, List.getElem?_replicate, List.getElem_replicate]
  split <;> rfl
theorem od0 (N : Nat) (n : Nat) (h : N = 4 * n) : od (List.replicate (8 * n) 0) = List.replicate N 0 := by
  apply List.ext_getElem
  · simp [od_len]; omega
  intro i h1 h2
  simp only [od, List.length_replicate, List.getElem_map, List.getElem_range, List.getD, List.getElem?_replicate, List.getElem_replicate]
  split <;> rfl

theorem LS.new' {w : World} (l : List Int) {N : Nat} (h : l.length = N) : LS (w.alloc (.cells (ints l).toArray 3)) w.heap.size N l := by subst h; exact LS.new w l
theorem kc0 {w : World} {n N gm gs gv : Nat} (hN : N = 4 * n) (h1 : LS w gm 4 (List.replicate 4 0)) (h2 : LS w gs N (List.replicate N 0)) (h3 : LS w gv N (List.replicate N 0)) : KC w n N (c0 n) gm gs gv :=
  ⟨h1, by show LS w gs N (ev (List.replicate (8 * n) 0)); rw [ev0 N n hN]; exact h2, by show LS w gv N (od (List.replicate (8 * n) 0)); rw [od0 N n hN]; exact h3, by simp [c0], hN⟩

theorem lsA {w : World} {r o2 o3 : Obj} {l : List Int} {N : Nat} (h : l.length = N) : LS ((((w.alloc r).alloc (.cells (ints l).toArray 3)).alloc o2).alloc o3) (w.heap.size + 1) N l := by
  have := LS.new' (w := w.alloc r) l h
  rw [World.size_alloc] at this
  exact this.keep0 (((Keep.refl _ _).alloc _).alloc _)
theorem lsB {w : World} {r o1 o3 : Obj} {l : List Int} {N : Nat} (h : l.length = N) : LS ((((w.alloc r).alloc o1).alloc (.cells (ints l).toArray 3)).alloc o3) (w.heap.size + 1 + 1) N l := by
  have := LS.new' (w := (w.alloc r).alloc o1) l h
  rw [World.size_alloc, World.size_alloc] at this
  exact this.keep0 ((Keep.refl _ _).alloc _)
theorem lsC {w : World} {r o1 o2 : Obj} {l : List Int} {N : Nat} (h : l.length = N) : LS ((((w.alloc r).alloc o1).alloc o2).alloc (.cells (ints l).toArray 3)) (w.heap.size + 1 + 1 + 1) N l := by
  have := LS.new' (w := ((w.alloc r).alloc o1).alloc o2) l h
  rw [World.size_alloc, World.size_alloc, World.size_alloc] at this
  exact this

set_option maxHeartbeats 2000000 in
set_option maxRecDepth 100000 in
theorem kNewCaches (n N : Nat) (w : World) (hN : N = 4 * n) (h1 : 1 ≤ n) (hn : n ≤ 4) : Calls Tryd.prog 33 #[.int .i64 n] w (KPost w n N (c0 n)) := by
  have hmk4 : ∀ wx : World, Sem.run Tryd.prog (Instr.makeSlice 22 (.int .i64 4) (.int .i64 4)) wx = .ok (.slice (some ⟨wx.heap.size, 0, none⟩) 4 4) (wx.alloc (.cells (ints (List.replicate 4 0)).toArray 3)) := fun wx => run_make_blk (P := Tryd.prog) 22 3 (.int .i64 0) 8 Tryd.underlying22 info_int rfl 4 (by omega) (by omega) wx
  have hmkN : ∀ wx : World, Sem.run Tryd.prog (Instr.makeSlice 22 (.int .i64 N) (.int .i64 N)) wx = .ok (.slice (some ⟨wx.heap.size, 0, none⟩) N N) (wx.alloc (.cells (ints (List.replicate N 0)).toArray 3)) := fun wx => run_make_blk (P := Tryd.prog) 22 3 (.int .i64 0) 8 Tryd.underlying22 info_int rfl N (by omega) (by omega) wx |>.trans (by rw [show ints (List.replicate N 0) = List.replicate N (.int .i64 0) by simp [ints]])
  have hni : (4 : Int) * (n : Int) = (N : Int) := by omega
  have hwN : IntKind.i64.wrap (N : Int) = (N : Int) := IntWalk.i64_in _ (by omega)
  have HNN := Lib.hid hN; clear hN
  go_enter Tryd.func33, Tryd.ntmps33
  go_wp2_with fail
  go_region
  all_goals
    go_wp2
    (try simp only [Exit.inBlock, Exit.then])
    refine bodyPost_ret (results_cell1 rfl _ _ w.heap.size 66 _ _ rfl ((((Blk.new w 66 _).alloc _).alloc _).alloc _).drew Tryd.underlying66 rfl info_kcaches) rfl ?_
    refine ⟨_, _, _, _, _, _, rfl, kc0 HNN.out ?_ ?_ ?_, ((((Below.refl _ w).alloc (Nat.le_refl _) _).alloc (by simp) _).alloc (by simp; omega) _).alloc (by simp; omega) _ |>.drew⟩
    all_goals first
      | exact (lsA (by simp)).keep0 (Keep.refl _ _).drew
      | exact (lsB (by simp)).keep0 (Keep.refl _ _).drew
      | exact (lsC (by simp)).keep0 (Keep.refl _ _).drew
end Go.Proofs.YtjnghpambjjlkaaDoor
