/-
  bloom.Hash, Both of none, by their contracts.
-/
import Derived.Test.YtnpokcjdnlmheaaDoorBloomPl
namespace Go.Proofs.YtnpokcjdnlmheaaDoor
open Go.RowKit

theorem both_nil (b g : Nat) (bl : List Bool) (h : Nat) (w : World) (_ : FilterAt w b g bl h) :
    Calls Tryd.prog 23 #[.pointer (some ⟨b, 0, none⟩), .pointer none] w fun e w' => e = .returned (errv 3) ∧ Keep [] w w' := by
  go_enter Tryd.func23, Tryd.ntmps23
  go_wp2
  go_quiet (fail)
  go_wp2
  go_ret
  exact ⟨rfl, (Keep.refl _ _).drewN _⟩

theorem bhash_yes (key : Int) (k m : Nat) (w : World) (hk : k < 4) (h1 : 0 ≤ key) (h2 : key ≤ 1000000) (h3 : 1 ≤ (m : Int)) (h4 : (m : Int) ≤ 128) :
    Calls Tryd.prog 16 #[.int .i64 key, .int .i64 k, .int .i64 m] w fun e w' => e = .returned (.tuple #[.int .i64 (hashN key k m : Nat), .nilIface]) ∧ w = w' := by
  have hk0 : (0 : Int) ≤ (k : Int) := by omega
  have hk3 : (k : Int) ≤ 3 := by omega
  go_enter Tryd.func16, Tryd.ntmps16
  go_wp2_with (first
    | (go_at_call 36; refine (check_yes _ _ h1 h2).mono ?_; rintro e w' ⟨rfl, rfl⟩)
    | (go_at_call 32; refine (within_yes _ _ _ _ (by omega) (by omega)).mono ?_; rintro e w' ⟨rfl, rfl⟩)
    | (go_at_call 37; refine (hash_any key k m _ hk h1 h2 h3 h4).mono ?_; rintro e w' ⟨rfl, rfl⟩))
  go_ret2
  exact ⟨rfl, rfl⟩
theorem bhash_no (key i m : Int) (w : World) (h : ¬ (0 ≤ key ∧ key ≤ 1000000 ∧ 0 ≤ i ∧ i ≤ 3 ∧ 1 ≤ m ∧ m ≤ 128)) :
    Calls Tryd.prog 16 #[.int .i64 key, .int .i64 i, .int .i64 m] w fun e w' => e = .returned (.tuple #[.int .i64 0, errv 1]) ∧ w = w' := by
  have hc : (key < 0 ∨ 1000000 < key) ∨ ((0 ≤ key ∧ key ≤ 1000000) ∧ (i < 0 ∨ 3 < i)) ∨ ((0 ≤ key ∧ key ≤ 1000000) ∧ (0 ≤ i ∧ i ≤ 3) ∧ (m < 1 ∨ 128 < m)) := by omega
  clear h
  rcases hc with h | ⟨h, h'⟩ | ⟨h, h', h''⟩
  all_goals
    go_enter Tryd.func16, Tryd.ntmps16
    go_wp2_with (first
      | (go_at_call 36; refine (check_yes _ _ (by omega) (by omega)).mono ?_; rintro e w' ⟨rfl, rfl⟩)
      | (go_at_call 36; refine (check_no _ _ (by omega)).mono ?_; rintro e w' ⟨rfl, rfl⟩)
      | (go_at_call 32; refine (within_yes _ _ _ _ (by omega) (by omega)).mono ?_; rintro e w' ⟨rfl, rfl⟩)
      | (go_at_call 32; refine (within_no _ _ _ _ (by omega)).mono ?_; rintro e w' ⟨rfl, rfl⟩))
    go_ret2
    exact ⟨rfl, rfl⟩

/-- bloom.Hash, and what is wrong. -/
def hOk (key i m : Int) : Prop := 0 ≤ key ∧ key ≤ 1000000 ∧ 0 ≤ i ∧ i ≤ 3 ∧ 1 ≤ m ∧ m ≤ 128
instance (key i m : Int) : Decidable (hOk key i m) := by unfold hOk; infer_instance
def hV (key i m : Int) : Int := if hOk key i m then (hashN key i.toNat m.toNat : Nat) else 0
def hE (key i m : Int) : Int := if hOk key i m then 0 else 1
theorem bhash_any (key i m : Int) (w : World) :
    Calls Tryd.prog 16 #[.int .i64 key, .int .i64 i, .int .i64 m] w fun e w' => (∃ er, e = .returned (.tuple #[.int .i64 (hV key i m), er]) ∧ ErrN er (hE key i m)) ∧ w = w' := by
  by_cases h : hOk key i m
  · obtain ⟨q1, q2, q3, q4, q5, q6⟩ := h
    obtain ⟨k, rfl⟩ := Int.eq_ofNat_of_zero_le q3
    obtain ⟨n, rfl⟩ := Int.eq_ofNat_of_zero_le (show 0 ≤ m by omega)
    refine (bhash_yes key k n w (by omega) q1 q2 q5 q6).mono ?_
    rintro e w' ⟨rfl, rfl⟩
    have hok : hOk key k n := ⟨q1, q2, q3, q4, q5, q6⟩
    refine ⟨⟨.nilIface, ?_, .inl ⟨by unfold hE; rw [if_pos hok], rfl⟩⟩, rfl⟩
    unfold hV; rw [if_pos hok, Int.toNat_natCast, Int.toNat_natCast]
  · refine (bhash_no key i m w h).mono ?_
    rintro e w' ⟨rfl, rfl⟩
    exact ⟨⟨errv 1, by unfold hV; rw [if_neg h], .inr (by unfold hE; rw [if_neg h])⟩, rfl⟩
end Go.Proofs.YtnpokcjdnlmheaaDoor
