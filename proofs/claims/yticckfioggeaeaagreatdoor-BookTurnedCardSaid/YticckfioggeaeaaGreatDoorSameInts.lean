/-
  larderwicksame.Ints of two lists that are the same, by its contract.
-/
import Derived.Test.YticckfioggeaeaaGreatDoorCore
import Derived.Deep.QuietTactic
import Derived.BigQuiet
namespace Go.Proofs.YticckfioggeaeaaGreatDoor
open Go.RowKit

theorem drewN_drew (w : World) (n : Nat) : (w.drewN n).drew = w.drewN (n + 1) := by simp [World.drewN, World.drew, Nat.add_assoc]
theorem drewN_drewN (w : World) (n m : Nat) : (w.drewN n).drewN m = w.drewN (n + m) := by simp [World.drewN, Nat.add_assoc]

set_option maxRecDepth 100000 in
theorem ints_same (a a' : Option Addr) (n c c' B B' : Nat) (xs : List Int) (w : World) (hl : xs.length = n) (h : IntsIn w B a xs) (h' : IntsIn w B' a' xs) (hn : n ≤ maxLen) :
    Calls Tryz.prog 15 #[.slice a n c, .slice a' n c'] w fun e w' => e = .returned (.bool true) ∧ ∃ q, w' = w.drewN q := by
  have HN := Lib.hid hn; clear hn
  go_enter Tryz.func15, Tryz.ntmps15
  go_wp2
  go_loopw [5] (fun i wr => ∃ k q : Nat, k ≤ n ∧ i = .int .i64 k ∧ wr = w.drewN q) (fun i _ => n - (intOf i).toNat)
  case atStart => exact ⟨0, 0, Nat.zero_le _, rfl, by simp [World.drewN]⟩
  case round =>
    obtain ⟨k, q, hk, rfl, hwr⟩ := hrel
    by_cases hlt : k < n
    · obtain ⟨b, off, rfl, hb, hc⟩ := h.at_ (by omega : k < xs.length)
      obtain ⟨b', off', rfl, hb', hc'⟩ := h'.at_ (by omega : k < xs.length)
      have hc1 : wr.cell? ⟨b, off + k, none⟩ = some (.int .i64 xs[k]) := by rw [hwr]; exact hc
      have hc2 : wr.cell? ⟨b', off' + k, none⟩ = some (.int .i64 xs[k]) := by rw [hwr]; exact hc'
      clear hc hc'
      obtain ⟨x, hx⟩ : ∃ x, x = xs[k] := ⟨_, rfl⟩
      rw [← hx] at hc1 hc2
      clear hx
      have HW := Lib.hid hwr; clear hwr
      have hk0 : (0 : Int) ≤ (k : Int) := by omega
      have hkn : (k : Int) < (n : Int) := by omega
      have hb63 : k < 9223372036854775807 := by have := HN.out; unfold maxLen at this; omega
      go_wp2
      go_quiet (fail)
      go_wp2
      go_roundw
      case rel => exact ⟨k + 1, _, hlt, by go_num, by rw [HW.out]; exact drewN_drewN _ _ _⟩
      case measure => simp [intOf]; omega
    · have HW := Lib.hid hwr; clear hwr
      go_wp2
      go_ret
      exact ⟨rfl, q, HW.out⟩

/-- .. as a plain step. -/
theorem ints_same_keep (a a' : Option Addr) (n c c' B B' : Nat) (xs : List Int) (w : World) (hl : xs.length = n) (h : IntsIn w B a xs) (h' : IntsIn w B' a' xs) (hn : n ≤ maxLen) :
    Calls Tryz.prog 15 #[.slice a n c, .slice a' n c'] w fun e w' => e = .returned (.bool true) ∧ Keep [] w w' := by
  refine (ints_same a a' n c c' B B' xs w hl h h' hn).mono ?_
  rintro e w' ⟨h1, q, rfl⟩
  exact ⟨h1, (Keep.refl _ _).drewN q⟩
end Go.Proofs.YticckfioggeaeaaGreatDoor
