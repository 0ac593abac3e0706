/-
  The reference's Times; larderwicksame.Kepts; by their contracts.
-/
import Derived.Test.YtnpokcjdnlmheaaDoorHeavyLaw
namespace Go.Proofs.YtnpokcjdnlmheaaDoor
open Go.RowKit

theorem times_take {l : List Int} {k : Nat} (x : Int) (h : k < l.length) : times (l.take (k + 1)) x = times (l.take k) x + if l[k] = x then 1 else 0 := by
  rw [List.take_succ_eq_append_getElem h, times_snoc]

theorem times_any (a : Option Addr) (n c B : Nat) (l : List Int) (x : Int) (w : World) (hl : l.length = n) (h : IntsIn w B a l) (hn : n ≤ 100000000000) :
    Calls Tryd.prog 30 #[.slice a n c, .int .i64 x] w fun e w' => e = .returned (.int .i64 (times l x)) ∧ w = w' := by
  have HL := Lib.hid hl; clear hl
  have hn2 : (n : Int) ≤ 100000000000 := by omega
  go_enter Tryd.func30, Tryd.ntmps30
  go_wp2
  go_loop [5, 6] (fun m i => ∃ k : Nat, k ≤ n ∧ i = .int .i64 k ∧ m = .int .i64 (times (l.take k) x)) (fun _ i => n - (intOf i).toNat)
  case atStart => exact ⟨0, by omega, rfl, rfl⟩
  case round =>
    obtain ⟨k, hk, rfl, rfl⟩ := hrel
    have hb := times_le (l.take k) x
    have hb0 := times_nonneg (l.take k) x
    have hb2 : times (l.take k) x ≤ k := by rw [List.length_take] at hb; omega
    clear hb
    by_cases hlt : k < n
    · have hkl : k < l.length := by rw [HL.out]; exact hlt
      obtain ⟨b, off, rfl, hbB, hc⟩ := h.at_ hkl
      have HS := Lib.hid (times_take x hkl)
      obtain ⟨y, hy⟩ : ∃ y, y = l[k] := ⟨_, rfl⟩
      obtain ⟨t, ht⟩ : ∃ t, t = times (l.take k) x := ⟨_, rfl⟩
      rw [← hy, ← ht] at HS
      rw [← hy] at hc
      rw [← ht] at hb0 hb2 ⊢
      clear hy ht
      have hki : (k : Int) < (n : Int) := by omega
      have hk0 : (0 : Int) ≤ (k : Int) := by omega
      by_cases e : y = x
      · subst e
        go_wp2
        go_round
        case rel => exact ⟨k + 1, hlt, by simp, congrArg (Value.int .i64) (by rw [HS.out]; simp)⟩
        case measure => simp [intOf]; omega
      · go_wp2
        go_round
        case rel => exact ⟨k + 1, hlt, by simp, congrArg (Value.int .i64) (by rw [HS.out, if_neg e]; omega)⟩
        case measure => simp [intOf]; omega
    · obtain rfl : k = n := by omega
      have e : l.take k = l := List.take_of_length_le (by rw [HL.out]; exact Nat.le_refl _)
      rw [e] at hb0 hb2 ⊢
      obtain ⟨t, ht⟩ : ∃ t, t = times l x := ⟨_, rfl⟩
      rw [← ht]
      have HT := Lib.hid ht
      clear e ht hb0 hb2
      go_wp2
      go_ret
      exact ⟨ret_int HT.out, rfl⟩
end Go.Proofs.YtnpokcjdnlmheaaDoor
