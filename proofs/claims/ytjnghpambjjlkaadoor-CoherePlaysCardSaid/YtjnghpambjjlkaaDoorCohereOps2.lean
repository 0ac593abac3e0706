/-
  Caches: Memory and State, by their contracts.
-/
import Derived.Test.YtjnghpambjjlkaaDoorCohereOps
namespace Go.Proofs.YtjnghpambjjlkaaDoor
open Go.RowKit

theorem memory_any (b g n k : Nat) (s : Cs) (w : World) (hs : CAt w b g n s) (h4 : (k : Int) ≤ 3) : Calls Tryd.prog 41 #[.pointer (some ⟨b, 0, none⟩), .int .i64 k] w fun e w' => e = .returned (.int .i64 (s.me k)) ∧ w = w' := by
  have hm := (hs.mem_ (k := k) (by omega)).1
  have hk0 : (0 : Int) ≤ (k : Int) := by omega
  have hk4 : (k : Int) < 4 := by omega
  obtain ⟨y, hy⟩ : ∃ y, y = s.me k := ⟨_, rfl⟩
  have hm' : w.cell? ⟨b, k, none⟩ = some (.int .i64 y) := by rw [hy]; exact hm
  rw [← hy]
  clear hm hy
  go_enter Tryd.func41, Tryd.ntmps41
  go_wp2_with (go_at_call 43; refine (within_yes _ _ _ _ (by omega) (by omega)).mono ?_; rintro e w' ⟨rfl, rfl⟩)
  go_ret
  exact ⟨rfl, rfl⟩

def StatePost (w : World) (p k : Nat) (s : Cs) (e : Ending) (w' : World) : Prop := e = .returned (.tuple #[.int .i64 (s.st p k), .int .i64 (s.va p k)]) ∧ Keep [] w w'

set_option maxRecDepth 100000 in
theorem state_any (b g n p k : Nat) (s : Cs) (w : World) (hs : CAt w b g n s) (hn : (n : Int) ≤ 4) (h2 : (p : Int) < n) (h4 : (k : Int) ≤ 3) :
    Calls Tryd.prog 40 #[.pointer (some ⟨b, 0, none⟩), .int .i64 p, .int .i64 k] w (StatePost w p k s) := by
  have hp0 : (0 : Int) ≤ (p : Int) := by omega
  have hk0 : (0 : Int) ≤ (k : Int) := by omega
  have hk4 : (k : Int) < 4 := by omega
  have hcl := hs.lines_
  have hs0 := (hs.line_ (i := p * 8 + k * 2) (by omega)).1
  have hv0 := (hs.line_ (i := p * 8 + k * 2 + 1) (by omega)).1
  have HP : Hid (s.st p k = s.ls.getD (p * 8 + k * 2) 0 ∧ s.va p k = s.ls.getD (p * 8 + k * 2 + 1) 0) := Lib.hid ⟨rfl, rfl⟩
  obtain ⟨x, hx⟩ : ∃ x, x = s.ls.getD (p * 8 + k * 2) 0 := ⟨_, rfl⟩
  obtain ⟨y, hy⟩ : ∃ y, y = s.ls.getD (p * 8 + k * 2 + 1) 0 := ⟨_, rfl⟩
  rw [← hx] at hs0 HP
  rw [← hy] at hv0 HP
  clear hx hy
  have HS := Lib.hid hs; clear hs
  go_enter Tryd.func40, Tryd.ntmps40
  go_wp2_with (go_at_call 51; refine (check_yes b g n s p k _ HS.out hn hp0 h2 hk0 h4).mono ?_; rintro e w' ⟨rfl, rfl⟩)
  go_quiet (fail)
  go_wp2
  go_ret2
  refine ⟨ret2_ints HP.out.1.symm HP.out.2.symm, ?_⟩
  exact (((Keep.refl [] w).alloc _).drewN _)
end Go.Proofs.YtjnghpambjjlkaaDoor
