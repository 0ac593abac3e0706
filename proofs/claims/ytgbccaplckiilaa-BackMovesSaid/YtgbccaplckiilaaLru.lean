/-
  lru.Run's helpers: core.All, core.Reqs, slices.Index of ints, larderwicksame.Misses, by their contracts.
-/
import Derived.Test.YtgbccaplckiilaaBackHeld
import Derived.Test.YtgbccaplckiilaaIntIns2
import Derived.Test.YtgbccaplckiilaaLruLaw
import Derived.Deep.QuietTactic
import Derived.BigQuiet
namespace Go.Proofs.Ytgbccaplckiilaa
open Go.RowKit

set_option maxRecDepth 100000 in
theorem all_yes (a : Option Addr) (n c B : Nat) (lo hi : Int) (xs : List Int) (w : World) (hl : xs.length = n) (h : IntsIn w B a xs) (hr : ∀ x ∈ xs, lo ≤ x ∧ x ≤ hi) (hn : n ≤ 1000) :
    Calls Try.prog 42 #[.slice a n c, .int .i64 lo, .int .i64 hi] w fun e w' => e = .returned (.bool true) ∧ w = w' := by
  go_enter Try.func42, Try.ntmps42
  go_wp2
  go_loop [8, 11] (fun _ i => ∃ k : Nat, k ≤ n ∧ i = .int .i64 k) (fun _ i => n - (intOf i).toNat)
  case atStart => exact ⟨0, Nat.zero_le _, rfl⟩
  case round =>
    obtain ⟨k, hk, rfl⟩ := hrel
    by_cases hlt : k < n
    · obtain ⟨b, off, rfl, hb, hc⟩ := h.at_ (by omega : k < xs.length)
      have hx2 := hr xs[k] (List.getElem_mem _)
      obtain ⟨x, hx⟩ : ∃ x, x = xs[k]'(by omega) := ⟨_, rfl⟩
      rw [← hx] at hc hx2
      clear hx
      obtain ⟨hx2, hx3⟩ := hx2
      have hk0 : (0 : Int) ≤ (k : Int) := by omega
      have hkn : (k : Int) < (n : Int) := by omega
      go_wp2_with (go_at_call 28; refine (within_yes _ _ _ _ hx2 hx3).mono ?_; rintro e w' ⟨rfl, rfl⟩)
      go_round
      case rel => exact ⟨k + 1, hlt, by go_num⟩
      case measure => simp [intOf]; omega
    · go_wp2
      go_ret
      exact ⟨rfl, rfl⟩

theorem reqs_yes (a : Option Addr) (n c B : Nat) (slots : Int) (xs : List Int) (w : World) (hl : xs.length = n) (h : IntsIn w B a xs) (hr : ∀ x ∈ xs, 0 ≤ x ∧ x ≤ 15) (hn : n ≤ 40) (h1 : 1 ≤ slots) (h8 : slots ≤ 8) :
    Calls Try.prog 34 #[.slice a n c, .int .i64 slots] w fun e w' => e = .returned .nilIface ∧ w = w' := by
  go_enter Try.func34, Try.ntmps34
  go_wp2_with (first
    | (go_at_call 42; refine (all_yes _ _ _ B _ _ xs _ hl h hr (by omega)).mono ?_; rintro e w' ⟨rfl, rfl⟩)
    | (go_at_call 28; refine (within_yes _ _ _ _ h1 h8).mono ?_; rintro e w' ⟨rfl, rfl⟩))
  go_ret
  exact ⟨rfl, rfl⟩

/-- Where p stands first in L; -1: nowhere. -/
def idxI (L : List Int) (p : Int) : Int := if p ∈ L then (L.idxOf p : Nat) else -1
theorem idxI_at {L : List Int} {p : Int} {i : Nat} (hb : ∀ j, j < i → L[j]? ≠ some p) (h : L[i]? = some p) : idxI L p = i ∧ L.eraseIdx i = L.erase p := by
  have hm : p ∈ L := List.mem_of_getElem? h
  have hi := (List.getElem?_eq_some_iff.1 h).1
  have e : L.idxOf p = i := by
    have hlt := List.idxOf_lt_length_of_mem hm
    have hg : L[L.idxOf p]? = some p := by rw [List.getElem?_eq_getElem hlt, List.getElem_idxOf hlt]
    rcases Nat.lt_trichotomy (L.idxOf p) i with h1 | h1 | h1
    · exact absurd hg (hb _ h1)
    · exact h1
    · have := List.not_of_lt_findIdx (p := (· == p)) (xs := L) (i := i) h1
      rw [List.getElem?_eq_getElem hi] at h
      simp at h this
      exact absurd h this
  refine ⟨by rw [idxI, if_pos hm, e], ?_⟩
  have := (first_erase (p := fun x => x == p) L i p h (by simp) (fun j y hj hy => by
    have := hb j hj
    rw [hy] at this
    simp at this ⊢
    exact this)).2
  rw [List.erase_eq_eraseP', this]
theorem idxI_in {L : List Int} {p : Int} (h : p ∈ L) : ∃ i, i < L.length ∧ idxI L p = (i : Nat) ∧ L.eraseIdx i = L.erase p := by
  have hlt := List.idxOf_lt_length_of_mem h
  have hg : L[L.idxOf p]? = some p := by rw [List.getElem?_eq_getElem hlt, List.getElem_idxOf hlt]
  refine ⟨L.idxOf p, hlt, idxI_at (fun j hj hj2 => ?_) hg⟩
  have := List.not_of_lt_findIdx (p := (· == p)) (xs := L) (i := j) hj
  rw [List.getElem?_eq_getElem (by omega)] at hj2
  simp at hj2 this
  exact this hj2
theorem idxI_out {L : List Int} {p : Int} (h : p ∉ L) : idxI L p = -1 := by unfold idxI; exact if_neg h

set_option maxRecDepth 100000 in
theorem index_any (a : Option Addr) (n c B : Nat) (p : Int) (xs : List Int) (w : World) (hl : xs.length = n) (h : IntsIn w B a xs) (hn : n ≤ 1000) :
    Calls Try.prog 35 #[.slice a n c, .int .i64 p] w fun e w' => e = .returned (.int .i64 (idxI xs p)) ∧ w = w' := by
  have HI : Hid (∀ i, i < n → (∀ j, j < i → xs[j]? ≠ some p) → xs[i]? = some p → idxI xs p = i) := Lib.hid fun i _ h1 h2 => (idxI_at h1 h2).1
  have HE : Hid ((∀ j, j < n → xs[j]? ≠ some p) → idxI xs p = -1) := Lib.hid fun h1 => by
    unfold idxI
    rw [if_neg]
    intro hm
    obtain ⟨j, hj, e⟩ := List.getElem_of_mem hm
    exact h1 j (by omega) (by rw [List.getElem?_eq_getElem hj, e])
  go_enter Try.func35, Try.ntmps35
  go_wp2
  go_loop [5, 8] (fun _ i => ∃ k : Nat, k ≤ n ∧ i = .int .i64 k ∧ ∀ j, j < k → xs[j]? ≠ some p) (fun _ i => n - (intOf i).toNat)
  case atStart => exact ⟨0, Nat.zero_le _, rfl, fun j hj => absurd hj (Nat.not_lt_zero _)⟩
  case round =>
    obtain ⟨k, hk, rfl, hbef⟩ := hrel
    have HB := Lib.hid hbef; clear hbef
    by_cases hlt : k < n
    · obtain ⟨b, off, rfl, hb, hc1⟩ := h.at_ (by omega : k < xs.length)
      obtain ⟨x, hx⟩ : ∃ x, x = xs[k]'(by omega) := ⟨_, rfl⟩
      have HX : Hid (xs[k]? = some x) := Lib.hid (by rw [hx]; exact List.getElem?_eq_getElem _)
      rw [← hx] at hc1
      clear hx
      have hk0 : (0 : Int) ≤ (k : Int) := by omega
      have hkn : (k : Int) < (n : Int) := by omega
      by_cases e : p = x
      · subst e
        go_wp2
        go_ret
        exact ⟨ret_int (HI.out k hlt HB.out HX.out).symm, rfl⟩
      · have e' : (p == x) = false := beq_eq_false_iff_ne.2 e
        go_wp2
        go_round
        case rel => exact ⟨k + 1, hlt, by go_num, fun j hj => by
          by_cases ej : j = k
          · subst ej; rw [HX.out]; intro h2; injection h2 with h2; exact e h2.symm
          · exact HB.out j (by omega)⟩
        case measure => simp [intOf]; omega
    · obtain rfl : k = n := by omega
      go_wp2
      go_ret
      exact ⟨ret_int (HE.out HB.out).symm, rfl⟩

/-- A slice of truth values that came in. -/
def BoolsIn (w : World) (B : Nat) (a : Option Addr) (l : List Bool) : Prop := 0 < l.length → ∃ b off, a = some ⟨b, off, none⟩ ∧ b < B ∧ ∀ i x, l[i]? = some x → w.cell? ⟨b, off + i, none⟩ = some (.bool x)
theorem missed_succ {l : List Bool} {k : Nat} {x : Bool} (h : l[k]? = some x) : missed (l.take (k + 1)) = missed (l.take k) + if x then 0 else 1 := by
  rw [List.take_add_one, h]; exact missed_add _ _
theorem missed_bd (l : List Bool) : 0 ≤ missed l ∧ missed l ≤ l.length := by
  unfold missed
  have := List.countP_le_length (p := fun x : Bool => !x) (l := l)
  omega
set_option maxRecDepth 100000 in
theorem misses_any (a : Option Addr) (n c B : Nat) (l : List Bool) (w : World) (hl : l.length = n) (h : BoolsIn w B a l) (hn : n ≤ 1000) :
    Calls Try.prog 27 #[.slice a n c] w fun e w' => e = .returned (.int .i64 (missed l)) ∧ w = w' := by
  go_enter Try.func27, Try.ntmps27
  go_wp2
  go_loop [3, 4] (fun t i => ∃ k : Nat, k ≤ n ∧ i = .int .i64 k ∧ t = .int .i64 (missed (l.take k))) (fun _ i => n - (intOf i).toNat)
  case atStart => exact ⟨0, Nat.zero_le _, rfl, rfl⟩
  case round =>
    obtain ⟨k, hk, rfl, rfl⟩ := hrel
    by_cases hlt : k < n
    · obtain ⟨b, off, rfl, hb, hc⟩ := h (by omega)
      have hc1 := hc k l[k] (List.getElem?_eq_getElem _)
      have hst := missed_succ (List.getElem?_eq_getElem (by omega : k < l.length))
      have hbd := missed_bd (l.take k)
      have hlk : (l.take k).length ≤ 1000 := by rw [List.length_take]; omega
      obtain ⟨x, hx⟩ : ∃ x, x = l[k]'(by omega) := ⟨_, rfl⟩
      rw [← hx] at hc1 hst
      obtain ⟨t, ht⟩ : ∃ t, t = missed (l.take k) := ⟨_, rfl⟩
      rw [← ht] at hst hbd ⊢
      have HST := Lib.hid hst
      have ht0 : 0 ≤ t ∧ t ≤ 1000 := by omega
      obtain ⟨ht0, ht1⟩ := ht0
      clear hx ht hc hst hbd hlk
      have hk0 : (0 : Int) ≤ (k : Int) := by omega
      have hkn : (k : Int) < (n : Int) := by omega
      cases x
      all_goals
        go_wp2
        go_round
        case rel => exact ⟨k + 1, hlt, by go_num, congrArg (Value.int .i64) (by rw [HST.out]; simp)⟩
        case measure => simp [intOf]; omega
    · go_wp2
      go_ret
      exact ⟨ret_int (by rw [List.take_of_length_le (by omega)]), rfl⟩
end Go.Proofs.Ytgbccaplckiilaa
