/-
  larderwicksame.Turned, by its contract: the list the other way round, in new memory.
-/
import Derived.Test.YthldhbcidcmmaaaCore
import Derived.Outline
namespace Go.Proofs.Ythldhbcidcmmaaa
open Go.RowKit

def TurnedPost (w : World) (xs : List Int) (e : Ending) (w' : World) : Prop := ∃ v, e = .returned v ∧ OwnInts w' w.heap.size v xs.reverse ∧ Below w.heap.size w w'

set_option maxRecDepth 100000 in
theorem turned_any (a : Option Addr) (n c B : Nat) (xs : List Int) (w : World) (hl : xs.length = n) (h : IntsIn w B a xs) (hB : B ≤ w.heap.size) (hn : n * 8 ≤ 140737488351232) :
    Calls Try.prog 29 #[.slice a n c] w (TurnedPost w xs) := by
  have HL := Lib.hid hl; clear hl
  have hn2 : (n : Int) ≤ 20000000000000 := by omega
  have HN := Lib.hid hn; clear hn
  obtain ⟨i0, hi, hz0, hz1, hz2⟩ := info_parts info_int
  go_enter Try.func29, Try.ntmps29
  go_wp2
  go_loopw [3, 4] (fun v i wr => ∃ k : Nat, k ≤ n ∧ i = .int .i64 ((n : Int) - 1 - k) ∧ wr.ownsRow w.heap.size 3 1 v k (ints (xs.reverse.take k)) ∧ Below w.heap.size w wr) (fun _ i _ => ((intOf i) + 1).toNat)
  case atStart => exact ⟨0, Nat.zero_le _, by simp, World.ownsRow_nil _ _ _ _, Below.refl _ _⟩
  case round =>
    obtain ⟨k, hk, rfl, hown, hbel⟩ := hrel
    have hsz := hbel.size
    by_cases hlt : k < n
    · obtain ⟨j, hj⟩ : ∃ j : Nat, (n : Int) - 1 - (k : Int) = (j : Int) := ⟨n - 1 - k, by omega⟩
      have hjl : j < xs.length := by rw [HL.out]; omega
      obtain ⟨b, off, rfl, hbB, hc⟩ := h.at_ hjl
      have hcw := (hbel.cell (p := ⟨b, off + j, none⟩) (by show b < _; omega)).trans hc
      have HT : Hid (xs.reverse.take (k + 1) = xs.reverse.take k ++ [xs[j]]) := Lib.hid (by
        have hkl : k < xs.reverse.length := by rw [List.length_reverse, HL.out]; exact hlt
        rw [List.take_succ_eq_append_getElem hkl, List.getElem_reverse]
        congr 3
        rw [HL.out]; omega)
      obtain ⟨x, hx⟩ : ∃ x, x = xs[j] := ⟨_, rfl⟩
      rw [← hx] at hcw HT
      clear hc hx hjl
      have hj0 : (j : Int) < (n : Int) := by omega
      have hj1 : (0 : Int) ≤ (j : Int) := by omega
      go_wp2_with (at_builtin; refine wpList_append_own _ rfl _ _ 22 rfl w.heap.size 3 i0 (.int .i64 0) 1 8 Try.underlying22 hi hz0 hz1 hz2 rfl (by decide) _ _ _ rfl (hown.alloc _) ⟨wr.heap.size, 0, none⟩ 1 1 [.int .i64 x] rfl rfl (by intro p u hp; match p, hp with | 0, hp => simp at hp; subst hp; simp [Addr.add]) (by intro u hu; simp at hu; subst hu; rfl) (by unfold maxLen; omega) (by have := HN.out; omega) (by simp; omega) ?_; intro v' w1 hown' hgrow _)
      go_roundw
      case rel => exact ⟨k + 1, hlt, congrArg (Value.int .i64) (by omega), by rw [HT.out]; simpa [ints] using hown', (hbel.alloc hsz _).grown hgrow (by simp; omega) (fun x hx => (hown.lt x hx).1)⟩
      case measure => simp [intOf]; omega
    · obtain rfl : k = n := by omega
      have hneg : (k : Int) - 1 - (k : Int) = -1 := by omega
      go_wp2
      go_ret
      refine ⟨_, rfl, ?_, hbel⟩
      have e : xs.reverse.take k = xs.reverse := List.take_of_length_le (by rw [List.length_reverse, HL.out]; omega)
      rw [e] at hown
      unfold OwnInts
      rw [List.length_reverse, HL.out]
      exact hown
end Go.Proofs.Ythldhbcidcmmaaa
