/-
  slices.BinarySearch of a rising list of numbers, by its contract.
-/
import Derived.Test.YthldhbcidcmmaaaDoorSplitLaw
namespace Go.Proofs.YthldhbcidcmmaaaDoor
open Go.RowKit

/-- Where a number would come in. -/
def posK (l : List Int) (x : Int) : Nat := l.countP fun y => decide (y < x)
theorem posK_le (l : List Int) (x : Int) : posK l x ≤ l.length := List.countP_le_length
theorem posK_spec {x : Int} : ∀ {l : List Int} {i : Nat}, i ≤ l.length → (∀ j (hj : j < l.length), j < i → l[j] < x) → (∀ j (hj : j < l.length), i ≤ j → ¬ l[j] < x) → posK l x = i
  | [], i, hi, _, _ => by simp at hi; subst hi; rfl
  | y :: l, 0, _, _, h2 => by
    have h0 := h2 0 (by simp) (Nat.le_refl _)
    have ih := posK_spec (x := x) (l := l) (i := 0) (Nat.zero_le _) (fun j hj h => by omega) (fun j hj _ => by have := h2 (j + 1) (by simp; omega) (by omega); rwa [List.getElem_cons_succ] at this)
    unfold posK at ih ⊢
    rw [List.countP_cons_of_neg (by simpa using h0)]
    exact ih
  | y :: l, i + 1, hi, h1, h2 => by
    have h0 := h1 0 (by simp) (by omega)
    have ih := posK_spec (x := x) (l := l) (i := i) (by simpa using hi) (fun j hj h => by have := h1 (j + 1) (by simp; omega) (by omega); rwa [List.getElem_cons_succ] at this) (fun j hj h => by have := h2 (j + 1) (by simp; omega) (by omega); rwa [List.getElem_cons_succ] at this)
    unfold posK at ih ⊢
    rw [List.countP_cons_of_pos (by simpa using h0), ih]
theorem Up.get {l : List Int} (h : Up l) {i j : Nat} (hj : j < l.length) (hij : i < j) : l[i]'(by omega) < l[j] := List.pairwise_iff_getElem.1 h i j (by omega) hj hij
theorem insK_pos {l : List Int} {x : Int} (h : Up l) (hx : x ∉ l) : insK x l = l.take (posK l x) ++ x :: l.drop (posK l x) := by
  induction l with
  | nil => rfl
  | cons y l ih =>
    have hu : Up l := (List.pairwise_cons.1 h).2
    have hx2 : x ∉ l := fun hm => hx (List.mem_cons_of_mem _ hm)
    have hne : x ≠ y := fun e => hx (by rw [e]; simp)
    rw [insK_cons]
    unfold posK at ih ⊢
    by_cases hlt : x < y
    · rw [if_pos hlt]
      have h0 : (y :: l).countP (fun z => decide (z < x)) = 0 := by
        rw [List.countP_eq_zero]
        intro z hz
        rcases List.mem_cons.1 hz with rfl | hz
        · simp; omega
        · have := (List.pairwise_cons.1 h).1 z hz
          simp; omega
      rw [h0]; rfl
    · rw [if_neg hlt, List.countP_cons_of_pos (by simp; omega), ih hu hx2]
      rfl
theorem mem_at {l : List Int} {x : Int} {i : Nat} (h : Up l) (h1 : ∀ j (hj : j < l.length), j < i → l[j] < x) (h2 : ∀ j (hj : j < l.length), i ≤ j → ¬ l[j] < x) : x ∈ l ↔ ∃ hi : i < l.length, l[i] = x := by
  constructor
  · intro hm
    obtain ⟨j, hj, e⟩ := List.getElem_of_mem hm
    rcases Nat.lt_trichotomy j i with g | g | g
    · have := h1 j hj g; omega
    · subst g; exact ⟨hj, e⟩
    · have h3 := h.get hj g
      have h4 := h2 i (by omega) (Nat.le_refl _)
      omega
  · rintro ⟨hi, rfl⟩; exact List.getElem_mem hi

theorem ret2_ib {k : IntKind} {a b : Int} {c d : Bool} (h : a = b) (h' : c = d) : Ending.returned (.tuple #[.int k a, .bool c]) = .returned (.tuple #[.int k b, .bool d]) := by rw [h, h']
theorem sNaN_any (a : Int) (w : World) : Calls Tryd.prog 58 #[.int .i64 a] w fun e w' => e = .returned (.bool false) ∧ w = w' := by
  go_enter Tryd.func58, Tryd.ntmps58
  go_wp2
  go_ret
  simp
theorem cNaN_any (a : Int) (w : World) : Calls Tryd.prog 67 #[.int .i64 a] w fun e w' => e = .returned (.bool false) ∧ w = w' := by
  go_enter Tryd.func67, Tryd.ntmps67
  go_wp2
  go_ret
  simp
theorem cLess_any (a b : Int) (w : World) : Calls Tryd.prog 57 #[.int .i64 a, .int .i64 b] w fun e w' => e = .returned (.bool (decide (a < b))) ∧ w = w' := by
  go_enter Tryd.func57, Tryd.ntmps57
  go_wp2_with (go_at_call 67; refine (cNaN_any _ _).mono ?_; rintro e w' ⟨rfl, rfl⟩)
  go_ret
  exact ⟨rfl, rfl⟩

set_option maxHeartbeats 1000000 in
set_option maxRecDepth 100000 in
theorem bs_any (a : Option Addr) (n c B : Nat) (l : List Int) (x : Int) (w : World) (hl : l.length = n) (h : IntsIn w B a l) (hn : n ≤ 1000) (hs : Up l) :
    Calls Tryd.prog 38 #[.slice a n c, .int .i64 x] w fun e w' => e = .returned (.tuple #[.int .i64 (posK l x : Nat), .bool (decide (x ∈ l))]) ∧ w = w' := by
  have HL := Lib.hid hl; have HS := Lib.hid hs; have H := Lib.hid h; clear hl hs h
  go_enter Tryd.func38, Tryd.ntmps38
  go_wp2
  go_loop [7, 8] (fun i j => ∃ p q : Nat, p ≤ q ∧ q ≤ n ∧ i = .int .i64 p ∧ j = .int .i64 q ∧ (∀ r (hr : r < l.length), r < p → l[r] < x) ∧ (∀ r (hr : r < l.length), q ≤ r → x ≤ l[r])) (fun i j => (intOf j).toNat - (intOf i).toNat)
  case atStart => exact ⟨0, n, Nat.zero_le _, Nat.le_refl _, rfl, rfl, fun r hr h => by omega, fun r hr h => by have := HL.out; omega⟩
  case round =>
    obtain ⟨p, q, hpq, hq, rfl, rfl, h1, h2⟩ := hrel
    have HA := Lib.hid h1; have HB := Lib.hid h2
    have HBN : Hid (∀ r (hr : r < l.length), q ≤ r → ¬ l[r] < x) := Lib.hid fun r hr h => Int.not_lt.2 (HB.out r hr h)
    clear h1 h2
    by_cases hlt : p < q
    · have hki : (p : Int) < (q : Int) := by omega
      obtain ⟨m, hm⟩ : ∃ m, m = (p + q) / 2 := ⟨_, rfl⟩
      have hmi : ((p : Int) + (q : Int)) / 2 = (m : Int) := by omega
      have hmp : p ≤ m := by omega
      have hmq : m < q := by omega
      have hmL : m < l.length := by have := HL.out; omega
      obtain ⟨b, off, rfl, _, hc⟩ := H.out.at_ hmL
      obtain ⟨y, hy⟩ : ∃ y, y = l[m] := ⟨_, rfl⟩
      rw [← hy] at hc
      have HY := Lib.hid hy
      clear hy hm
      have hm0 : (0 : Int) ≤ (m : Int) := by omega
      have hmn : (m : Int) < (n : Int) := by omega
      by_cases hyx : y < x
      · go_wp2_with (go_at_call 57; refine (cLess_any _ _ _).mono ?_; rintro e w' ⟨rfl, rfl⟩)
        go_round
        case rel =>
          refine ⟨m + 1, q, by omega, hq, by go_num, rfl, fun r hr h => ?_, HB.out⟩
          rcases Nat.lt_or_ge r m with g | g
          · have := HS.out.get hmL g
            rw [← HY.out] at this; omega
          · obtain rfl : r = m := by omega
            rw [← HY.out]; exact hyx
        case measure => simp [intOf]; omega
      · go_wp2_with (go_at_call 57; refine (cLess_any _ _ _).mono ?_; rintro e w' ⟨rfl, rfl⟩)
        go_round
        case rel =>
          refine ⟨p, m, by omega, by omega, rfl, rfl, HA.out, fun r hr h => ?_⟩
          rcases Nat.lt_or_ge m r with g | g
          · have := HS.out.get hr g
            rw [← HY.out] at this; omega
          · obtain rfl : r = m := by omega
            rw [← HY.out]; omega
        case measure => simp [intOf]; omega
    · obtain rfl : p = q := by omega
      have HP : Hid (posK l x = p) := Lib.hid (posK_spec (by have := HL.out; omega) HA.out HBN.out)
      have HM := Lib.hid (mem_at HS.out HA.out HBN.out)
      by_cases hpn : p < n
      · have hpL : p < l.length := by have := HL.out; omega
        obtain ⟨b, off, rfl, _, hc⟩ := H.out.at_ hpL
        obtain ⟨y, hy⟩ : ∃ y, y = l[p] := ⟨_, rfl⟩
        rw [← hy] at hc
        have HY := Lib.hid hy
        clear hy
        have hp0 : (0 : Int) ≤ (p : Int) := by omega
        have hpi : (p : Int) < (n : Int) := by omega
        have HD : Hid (decide (x ∈ l) = (y == x)) := Lib.hid (by
          by_cases e : y = x
          · have : x ∈ l := HM.out.2 ⟨hpL, by rw [← HY.out]; exact e⟩
            simp [this, e]
          · have : ¬ x ∈ l := fun hm => by
              obtain ⟨_, h2⟩ := HM.out.1 hm
              exact e (by rw [HY.out]; exact h2)
            simp only [this, decide_false]
            exact (beq_eq_false_iff_ne.2 e).symm)
        obtain ⟨d, hd⟩ : ∃ d, d = (y == x) := ⟨_, rfl⟩
        have HDD := Lib.hid hd
        have hd2 : (y == x) = d := hd.symm
        clear hd
        cases d
        · go_wp2_with (go_at_call 58; refine (sNaN_any _ _).mono ?_; rintro e w' ⟨rfl, rfl⟩)
          go_ret2
          exact ⟨ret2_ib (by rw [HP.out]) (by rw [HD.out, ← HDD.out]), rfl⟩
        · go_wp2_with (go_at_call 58; refine (sNaN_any _ _).mono ?_; rintro e w' ⟨rfl, rfl⟩)
          go_ret2
          exact ⟨ret2_ib (by rw [HP.out]) (by rw [HD.out, ← HDD.out]), rfl⟩
      · obtain rfl : p = n := by omega
        have HD : Hid (decide (x ∈ l) = false) := Lib.hid (by
          have : ¬ x ∈ l := fun hm => by
            obtain ⟨h2, _⟩ := HM.out.1 hm
            have := HL.out; omega
          simp [this])
        go_wp2_with (go_at_call 58; refine (sNaN_any _ _).mono ?_; rintro e w' ⟨rfl, rfl⟩)
        go_ret2
        exact ⟨ret2_ib (by rw [HP.out]) (by rw [HD.out]), rfl⟩
end Go.Proofs.YthldhbcidcmmaaaDoor
