/-
  Ranks: weights, their order; slices.insertionSortCmpFunc with it, by their contracts.
-/
import Derived.Test.YthldhbcidcmmaaaDoorCircle3
import Derived.Test.YthldhbcidcmmaaaDoorClone
import Derived.Deep.RegionWith
namespace Go.Proofs.YthldhbcidcmmaaaDoor
open Go.RowKit

def wt0 (n k : Int) : Int := (n * 31 + k * 17 + n % 97 * (k % 89)) % 9973
def wt (n k : Int) : Int := wt0 n k * wt0 n k % 9973
def ordR (k a b : Int) : Int := if cmpI (wt b k) (wt a k) = 0 then cmpI a b else cmpI (wt b k) (wt a k)
def leR (k a b : Int) : Prop := wt b k < wt a k ∨ (wt a k = wt b k ∧ a ≤ b)
theorem ordR_neg (k a b : Int) : ordR k a b < 0 ↔ ¬ leR k b a := by
  unfold ordR leR cmpI
  by_cases h1 : wt b k < wt a k
  · simp [h1]
    try omega
  · by_cases h2 : wt a k < wt b k
    · simp [h1, h2]
    · simp [h1, h2]
      by_cases h3 : a < b
      · simp [h3]
        try omega
      · by_cases h4 : b < a
        · simp [h3, h4]
          try omega
        · simp [h3, h4]
          try omega
theorem leR_total (k a b : Int) : leR k a b ∨ leR k b a := by unfold leR; omega
theorem leR_trans {k a b c : Int} (h1 : leR k a b) (h2 : leR k b c) : leR k a c := by unfold leR at *; omega
theorem leR_anti {k a b : Int} (h1 : leR k a b) (h2 : leR k b a) : a = b := by unfold leR at *; omega

theorem weight_any (n k : Int) (w : World) (h0 : 0 ≤ n) (h1 : n ≤ 1000000) (h2 : 0 ≤ k) (h3 : k ≤ 1000000) :
    Calls Tryd.prog 55 #[.int .i64 n, .int .i64 k] w fun e w' => e = .returned (.int .i64 (wt n k)) ∧ w = w' := by
  obtain ⟨a, ha⟩ : ∃ a, a = n % 97 := ⟨_, rfl⟩
  obtain ⟨b, hb⟩ : ∃ b, b = k % 89 := ⟨_, rfl⟩
  have ha0 : 0 ≤ a := by omega
  have ha1 : a < 97 := by omega
  have hb0 : 0 ≤ b := by omega
  have hb1 : b < 89 := by omega
  have hab0 : 0 ≤ a * b := Int.mul_nonneg ha0 hb0
  have hab1 : a * b ≤ 96 * 88 := Int.mul_le_mul (by omega) (by omega) hb0 (by omega)
  obtain ⟨p, hp⟩ : ∃ p, a * b = p := ⟨_, rfl⟩
  rw [hp] at hab0 hab1
  have hwp : IntKind.i64.wrap (a * b) = p := by rw [hp]; exact IntWalk.i64_in _ (by omega)
  have hwp2 : wrap64 p = p := by unfold wrap64; omega
  obtain ⟨x, hx⟩ : ∃ x, x = (n * 31 + k * 17 + p) % 9973 := ⟨_, rfl⟩
  have hx0 : 0 ≤ x := by omega
  have hx1 : x < 9973 := by omega
  have hxx0 : 0 ≤ x * x := Int.mul_nonneg hx0 hx0
  have hxx1 : x * x ≤ 9972 * 9972 := Int.mul_le_mul (by omega) (by omega) hx0 (by omega)
  obtain ⟨q, hq⟩ : ∃ q, x * x = q := ⟨_, rfl⟩
  rw [hq] at hxx0 hxx1
  have hwq : IntKind.i64.wrap (x * x) = q := by rw [hq]; exact IntWalk.i64_in _ (by omega)
  have hwq2 : wrap64 q = q := by unfold wrap64; omega
  have hw : wt n k = q % 9973 := by unfold wt wt0; rw [← ha, ← hb, hp, ← hx, hq]
  have hna : n % 97 = a := ha.symm
  have hkb : k % 89 = b := hb.symm
  have hxe : (n * 31 + k * 17 + p) % 9973 = x := hx.symm
  have HW := Lib.hid hw
  clear ha hb hx hw
  go_enter Tryd.func55, Tryd.ntmps55
  go_wp2
  go_ret
  exact ⟨ret_int HW.out.symm, rfl⟩
theorem weight_is (n k q : Int) (w : World) (hq : wt n k = q) (h0 : 0 ≤ n) (h1 : n ≤ 1000000) (h2 : 0 ≤ k) (h3 : k ≤ 1000000) :
    Calls Tryd.prog 55 #[.int .i64 n, .int .i64 k] w fun e w' => e = .returned (.int .i64 q) ∧ w = w' := by
  rw [← hq]; exact weight_any n k w h0 h1 h2 h3
theorem compare_is (a b q : Int) (w : World) (hq : cmpI a b = q) : Calls Tryd.prog 54 #[.int .i64 a, .int .i64 b] w fun e w' => e = .returned (.int .i64 q) ∧ w = w' := by
  rw [← hq]; exact compare_any a b w

set_option maxHeartbeats 1000000 in
set_option maxRecDepth 100000 in
theorem rank1_any (k a b : Int) (ad : Addr) (w : World) (hc : w.cell? ad = some (.int .i64 k)) (hk0 : 0 ≤ k) (hk1 : k ≤ 1000000) (ha0 : 0 ≤ a) (ha1 : a ≤ 1000000) (hb0 : 0 ≤ b) (hb1 : b ≤ 1000000) :
    Calls Tryd.prog 52 #[.int .i64 a, .int .i64 b, .pointer (some ad)] w fun e w' => e = .returned (.int .i64 (ordR k a b)) ∧ Below w.heap.size w w' := by
  obtain ⟨wa, hwa⟩ : ∃ x, wt a k = x := ⟨_, rfl⟩
  obtain ⟨wb, hwb⟩ : ∃ x, wt b k = x := ⟨_, rfl⟩
  obtain ⟨c1, hc1⟩ : ∃ x, cmpI wb wa = x := ⟨_, rfl⟩
  obtain ⟨c2, hc2⟩ : ∃ x, cmpI a b = x := ⟨_, rfl⟩
  have ho : ordR k a b = if c1 = 0 then c2 else c1 := by unfold ordR; rw [hwa, hwb, hc1, hc2]
  have HO := Lib.hid ho; have HA := Lib.hid hwa; have HB := Lib.hid hwb; have H1 := Lib.hid hc1; have H2 := Lib.hid hc2
  clear ho hwa hwb hc1 hc2
  go_enter Tryd.func52, Tryd.ntmps52
  go_wp2
  go_still_tail 10, (by kernel_rfl)
  still_call (still_eq (weight_is b k wb _ HB.out hb0 hb1 hk0 hk1))
  repeat still_step
  still_call (still_eq (weight_is a k wa _ HA.out ha0 ha1 hk0 hk1))
  repeat still_step
  still_call (still_eq (compare_is wb wa c1 _ H1.out))
  repeat still_step
  still_call (still_eq (compare_is a b c2 _ H2.out))
  repeat still_step
  try refine wpStill_nil ?_
  go_wp2_with fail
  refine (or_any w.heap.size 2 c1 c2 (w.alloc (.cells #[.int .i64 c1, .int .i64 c2] 3)).drew ((Blk.new w 3 [.int .i64 c1, .int .i64 c2]).cell_ (i := 0) rfl) ((Blk.new w 3 [.int .i64 c1, .int .i64 c2]).cell_ (i := 1) rfl)).mono ?_
  rintro e w5 ⟨rfl, rfl⟩
  rw [← HO.out]
  go_wp2
  go_ret
  exact ⟨rfl, (((Keep.refl [] w).alloc _).drew).below (Nat.le_refl _) (by simp)⟩

/-! ### insertion sort -/
def Srt (k : Int) (xs : List Int) (i j : Nat) : Prop :=
  (∀ a b (ha : a < xs.length) (hb : b < xs.length), a < b → b ≤ i → a ≠ j → b ≠ j → leR k xs[a] xs[b]) ∧
  (∀ b (hb : b < xs.length) (hj : j < xs.length), j < b → b ≤ i → leR k xs[j] xs[b])
def SortedTo (k : Int) (xs : List Int) (i : Nat) : Prop := ∀ a b (ha : a < xs.length) (hb : b < xs.length), a < b → b < i → leR k xs[a] xs[b]

theorem srt_start {k : Int} {xs : List Int} {i : Nat} (h : SortedTo k xs i) : Srt k xs i i :=
  ⟨fun a b ha hb hab hbi _ hne => h a b ha hb hab (by omega), fun b hb hj h1 h2 => by omega⟩
theorem srt_end0 {k : Int} {xs : List Int} {i : Nat} (h : Srt k xs i 0) : SortedTo k xs (i + 1) := fun a b ha hb hab hbi => by
  by_cases e : a = 0
  · subst e; exact h.2 b hb ha hab (by omega)
  · exact h.1 a b ha hb hab (by omega) e (by omega)
theorem srt_end {k : Int} {xs : List Int} {i j : Nat} (h : Srt k xs i (j + 1)) (hj : j + 1 < xs.length) (hji : j + 1 ≤ i) (hle : leR k (xs[j]'(by omega)) xs[j + 1]) : SortedTo k xs (i + 1) := fun a b ha hb hab hbi => by
  by_cases e : a = j + 1
  · subst e; exact h.2 b hb ha hab (by omega)
  · by_cases e2 : b = j + 1
    · subst e2
      by_cases e3 : a = j
      · subst e3; exact hle
      · exact leR_trans (h.1 a j ha (by omega) (by omega) (by omega) (by omega) (by omega)) hle
    · exact h.1 a b ha hb hab (by omega) e e2
def swp (xs : List Int) (j : Nat) (hj : j + 1 < xs.length) : List Int := (xs.set (j + 1) (xs[j]'(by omega))).set j xs[j + 1]
theorem swp_len (xs : List Int) (j : Nat) (hj : j + 1 < xs.length) : (swp xs j hj).length = xs.length := by simp [swp]
theorem swp_get (xs : List Int) (j : Nat) (hj : j + 1 < xs.length) (a : Nat) (ha : a < xs.length) (ha' : a < (swp xs j hj).length) : (swp xs j hj)[a] = if a = j then xs[j + 1] else if a = j + 1 then xs[j]'(by omega) else xs[a] := by
  have h : (swp xs j hj)[a]? = some (if a = j then xs[j + 1] else if a = j + 1 then xs[j]'(by omega) else xs[a]) := by
    unfold swp
    rw [List.getElem?_set]
    by_cases e : j = a
    · rw [if_pos e, if_pos (by rw [List.length_set]; omega), if_pos e.symm]
    · rw [if_neg e, if_neg (fun h => e h.symm), List.getElem?_set]
      by_cases e2 : j + 1 = a
      · rw [if_pos e2, if_pos (by omega), if_pos e2.symm]
      · rw [if_neg e2, if_neg (fun h => e2 h.symm), List.getElem?_eq_getElem ha]
  rw [List.getElem?_eq_getElem ha'] at h
  exact Option.some.inj h
theorem swp_perm : ∀ (xs : List Int) (j : Nat) (hj : j + 1 < xs.length), (swp xs j hj).Perm xs
  | [], j, hj => by simp at hj
  | [x], j, hj => by simp at hj
  | x :: y :: r, 0, _ => by simpa [swp] using List.Perm.swap x y r
  | x :: y :: r, j + 1, hj => by
    have := swp_perm (y :: r) j (by simpa using hj)
    have e : swp (x :: y :: r) (j + 1) hj = x :: swp (y :: r) j (by simpa using hj) := by simp [swp]
    rw [e]
    exact this.cons x
theorem srt_swap {k : Int} {xs : List Int} {i j : Nat} (h : Srt k xs i (j + 1)) (hj : j + 1 < xs.length) (hle : leR k xs[j + 1] (xs[j]'(by omega))) : Srt k (swp xs j hj) i j := by
  have hl := swp_len xs j hj
  refine ⟨fun a b ha hb hab hbi hna hnb => ?_, fun b hb hjb h1 h2 => ?_⟩
  · rw [hl] at ha hb
    rw [swp_get xs j hj a ha, swp_get xs j hj b hb, if_neg hna, if_neg hnb]
    by_cases e1 : a = j + 1
    · rw [if_pos e1, if_neg (by omega)]
      exact h.1 j b (by omega) hb (by omega) hbi (by omega) (by omega)
    · rw [if_neg e1]
      by_cases e2 : b = j + 1
      · rw [if_pos e2]
        exact h.1 a j ha (by omega) (by omega) (by omega) e1 (by omega)
      · rw [if_neg e2]
        exact h.1 a b ha hb hab hbi e1 e2
  · rw [hl] at hb
    rw [swp_get xs j hj j (by omega), swp_get xs j hj b hb, if_pos rfl, if_neg (by omega)]
    by_cases e2 : b = j + 1
    · rw [if_pos e2]; exact hle
    · rw [if_neg e2]
      exact h.2 b hb hj (by omega) h2
end Go.Proofs.YthldhbcidcmmaaaDoor
