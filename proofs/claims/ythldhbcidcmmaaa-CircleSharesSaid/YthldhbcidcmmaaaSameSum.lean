/-
  larderwicksame.Sum, by its contract: numbers from 0 on whose sum is small.
-/
import Derived.Test.YthldhbcidcmmaaaCore
import Derived.Outline
namespace Go.Proofs.Ythldhbcidcmmaaa
open Go.RowKit

theorem take_sum_le (xs : List Int) (h0 : ∀ x ∈ xs, 0 ≤ x) (k : Nat) : 0 ≤ (xs.take k).sum ∧ (xs.take k).sum ≤ xs.sum := by
  induction xs generalizing k with
  | nil => simp
  | cons x r ih =>
    have hx := h0 x (by simp)
    have hr := fun y hy => h0 y (List.mem_cons_of_mem _ hy)
    cases k with
    | zero => have := ih hr r.length; simp at this ⊢; omega
    | succ k => have := ih hr k; simp; omega

theorem sum_snoc (l : List Int) (x : Int) : (l ++ [x]).sum = l.sum + x := by
  induction l with
  | nil => simp
  | cons y r ih => simp only [List.cons_append, List.sum_cons, ih]; omega

theorem take_sum_succ (xs : List Int) (k : Nat) (h : k < xs.length) : (xs.take (k + 1)).sum = (xs.take k).sum + xs[k] := by
  rw [List.take_succ_eq_append_getElem h, sum_snoc]

set_option maxRecDepth 100000 in
theorem sum_small (a : Option Addr) (n c B : Nat) (xs : List Int) (w : World) (hl : xs.length = n) (h : IntsIn w B a xs) (h0 : ∀ x ∈ xs, 0 ≤ x) (hs : xs.sum ≤ 1000000) (hn : (n : Int) ≤ 1000000) :
    Calls Try.prog 14 #[.slice a n c] w fun e w' => e = .returned (.int .i64 xs.sum) ∧ w = w' := by
  go_enter Try.func14, Try.ntmps14
  go_wp2
  go_loop [3, 4] (fun t i => ∃ k : Nat, k ≤ n ∧ i = .int .i64 k ∧ t = .int .i64 (xs.take k).sum) (fun _ i => n - (intOf i).toNat)
  case atStart => exact ⟨0, Nat.zero_le _, rfl, by simp⟩
  case round =>
    obtain ⟨k, hk, rfl, rfl⟩ := hrel
    by_cases hlt : k < n
    · obtain ⟨b, off, rfl, hb, hc⟩ := h.at_ (by omega : k < xs.length)
      have hs1 := take_sum_le xs h0 k
      have hs2 := take_sum_le xs h0 (k + 1)
      have hst := take_sum_succ xs k (by omega)
      obtain ⟨x, hx⟩ : ∃ x, x = xs[k]'(by omega) := ⟨_, rfl⟩
      rw [← hx] at hc hst
      clear hx
      obtain ⟨t, ht⟩ : ∃ t, t = (xs.take k).sum := ⟨_, rfl⟩
      obtain ⟨t2, ht2⟩ : ∃ t2, t2 = (xs.take (k + 1)).sum := ⟨_, rfl⟩
      rw [← ht] at hs1 hst ⊢
      rw [← ht2] at hs2 hst
      have hx0 : 0 ≤ t + x ∧ t + x ≤ 1000000 := by omega
      obtain ⟨hx1, hx2⟩ := hx0
      have HT := Lib.hid ht2; clear ht2
      have HST := Lib.hid hst; clear hst
      clear hs1 hs2 ht hs
      go_wp2
      go_round
      case rel => exact ⟨k + 1, hlt, by go_num, congrArg (Value.int .i64) (by rw [← HT.out, HST.out])⟩
      case measure => simp [intOf]; omega
    · go_wp2
      go_ret
      exact ⟨ret_int (by rw [List.take_of_length_le (by omega)]), rfl⟩
end Go.Proofs.Ythldhbcidcmmaaa
