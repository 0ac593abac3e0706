/-
  The plain law of one page's split: a bit more. No program in sight.
-/
import Derived.Test.YthldhbcidcmmaaaDoorSplitLaw
namespace Go.Proofs.YthldhbcidcmmaaaDoor

theorem mod_succN (k q e : Nat) : k % 2 ^ (e + 1) = q % 2 ^ (e + 1) ↔ k % 2 ^ e = q % 2 ^ e ∧ k / 2 ^ e % 2 = q / 2 ^ e % 2 := by
  rw [Nat.mod_pow_succ, Nat.mod_pow_succ]
  have hp : 0 < 2 ^ e := Nat.pow_pos (by decide)
  have h1 := Nat.mod_lt k hp
  have h2 := Nat.mod_lt q hp
  have h3 := Nat.mod_lt (k / 2 ^ e) (show 0 < 2 by decide)
  have h4 := Nat.mod_lt (q / 2 ^ e) (show 0 < 2 by decide)
  constructor
  · intro h
    have hk : k / 2 ^ e % 2 = 0 ∨ k / 2 ^ e % 2 = 1 := by omega
    have hq : q / 2 ^ e % 2 = 0 ∨ q / 2 ^ e % 2 = 1 := by omega
    rcases hk with a | a <;> rcases hq with b | b <;> rw [a, b] at h <;> simp only [Nat.mul_zero, Nat.mul_one, Nat.add_zero] at h <;> refine ⟨by omega, by omega⟩
  · rintro ⟨a, b⟩
    rw [a, b]
theorem cast_mod (k q e : Nat) : (k : Int) % 2 ^ e = (q : Int) % 2 ^ e ↔ k % 2 ^ e = q % 2 ^ e := by
  have h : ∀ x : Nat, (x : Int) % 2 ^ e = ((x % 2 ^ e : Nat) : Int) := fun x => by push_cast; rfl
  rw [h, h]
  omega
/-- The bit behind the last e. -/
def bitN (e : Nat) (x : Int) : Bool := decide (x.toNat / 2 ^ e % 2 = 1)
theorem bitN_nat (e k : Nat) : bitN e (k : Int) = decide (k / 2 ^ e % 2 = 1) := by simp [bitN]
theorem cls_bit {S : List Int} {a q e : Nat} {b : Bool} (hS : ∀ x ∈ S, 0 ≤ x) (hq : (q : Int) % 2 ^ e = (a : Int) % 2 ^ e) (hb : decide (q / 2 ^ e % 2 = 1) = b) :
    (cls S a e).filter (fun x => bitN e x == b) = cls S q (e + 1) := by
  rw [cls_congr (S := S) hq.symm, ← cls_cls (S := S) (c := q) (e := e) (f := e + 1) (Nat.le_succ _)]
  apply List.filter_congr
  intro x hx
  rw [mem_cls] at hx
  obtain ⟨k, rfl⟩ := Int.eq_ofNat_of_zero_le (hS x hx.1)
  have h1 := (cast_mod k q e).1 hx.2
  have h2 := mod_succN k q e
  have h3 := cast_mod k q (e + 1)
  rw [bitN_nat, Bool.eq_iff_iff]
  subst hb
  simp only [beq_iff_eq, decide_eq_decide]
  rw [h3, h2]
  have h4 := Nat.mod_lt (k / 2 ^ e) (show 0 < 2 by decide)
  have h5 := Nat.mod_lt (q / 2 ^ e) (show 0 < 2 by decide)
  constructor
  · intro h; exact ⟨h1, by omega⟩
  · rintro ⟨_, h⟩; omega

/-- The new pages: of the class of a, by the bit. -/
def splitTo {α : Type} (f : Nat → α) (a e : Nat) (half rest : α) (q : Nat) : α := if (q : Int) % 2 ^ e = (a : Int) % 2 ^ e then (if q / 2 ^ e % 2 = 1 then half else rest) else f q
theorem splitTo_half {α : Type} {f : Nat → α} {a e : Nat} {half rest : α} {q : Nat} (h : (q : Int) % 2 ^ e = (a : Int) % 2 ^ e) (hb : q / 2 ^ e % 2 = 1) : splitTo f a e half rest q = half := by unfold splitTo; rw [if_pos h, if_pos hb]
theorem splitTo_rest {α : Type} {f : Nat → α} {a e : Nat} {half rest : α} {q : Nat} (h : (q : Int) % 2 ^ e = (a : Int) % 2 ^ e) (hb : ¬ q / 2 ^ e % 2 = 1) : splitTo f a e half rest q = rest := by unfold splitTo; rw [if_pos h, if_neg hb]
theorem splitTo_old {α : Type} {f : Nat → α} {a e : Nat} {half rest : α} {q : Nat} (h : ¬ (q : Int) % 2 ^ e = (a : Int) % 2 ^ e) : splitTo f a e half rest q = f q := by unfold splitTo; rw [if_neg h]
theorem splitAt_in {deep : Nat → Nat} {a e q : Nat} (h : (q : Int) % 2 ^ e = (a : Int) % 2 ^ e) : splitAt deep a e q = e + 1 := if_pos h
theorem splitAt_out {deep : Nat → Nat} {a e q : Nat} (h : ¬ (q : Int) % 2 ^ e = (a : Int) % 2 ^ e) : splitAt deep a e q = deep q := if_neg h

theorem splitTo_one {pg deep : Nat → Nat} {a half rest : Nat} (hone : ∀ i j : Nat, pg i = pg j ↔ (i : Int) % 2 ^ deep j = (j : Int) % 2 ^ deep j) (hsame : ∀ i j : Nat, ((i : Int) % 2 ^ deep j = (j : Int) % 2 ^ deep j) → deep i = deep j)
    (hhr : half ≠ rest) (hh : ∀ q, pg q ≠ half) (hr : ∀ q, pg q ≠ rest) (i j : Nat) :
    splitTo pg a (deep a) half rest i = splitTo pg a (deep a) half rest j ↔ (i : Int) % 2 ^ splitAt deep a (deep a) j = (j : Int) % 2 ^ splitAt deep a (deep a) j := by
  by_cases hj : (j : Int) % 2 ^ deep a = (a : Int) % 2 ^ deep a
  · rw [splitAt_in hj, cast_mod, mod_succN, ← cast_mod]
    have h4 := Nat.mod_lt (i / 2 ^ deep a) (show 0 < 2 by decide)
    have h5 := Nat.mod_lt (j / 2 ^ deep a) (show 0 < 2 by decide)
    by_cases hi : (i : Int) % 2 ^ deep a = (a : Int) % 2 ^ deep a
    · by_cases bi : i / 2 ^ deep a % 2 = 1 <;> by_cases bj : j / 2 ^ deep a % 2 = 1
      · rw [splitTo_half hi bi, splitTo_half hj bj]; simp [hi, hj, bi, bj]
      · rw [splitTo_half hi bi, splitTo_rest hj bj]
        constructor
        · intro h; exact absurd h hhr
        · rintro ⟨_, h⟩; omega
      · rw [splitTo_rest hi bi, splitTo_half hj bj]
        constructor
        · intro h; exact absurd h.symm hhr
        · rintro ⟨_, h⟩; omega
      · rw [splitTo_rest hi bi, splitTo_rest hj bj]
        constructor
        · intro _; exact ⟨hi.trans hj.symm, by omega⟩
        · intro _; rfl
    · rw [splitTo_old hi]
      constructor
      · intro h
        by_cases bj : j / 2 ^ deep a % 2 = 1
        · rw [splitTo_half hj bj] at h; exact absurd h (hh i)
        · rw [splitTo_rest hj bj] at h; exact absurd h (hr i)
      · rintro ⟨h, _⟩; exact absurd (h.trans hj) hi
  · rw [splitTo_old hj, splitAt_out hj]
    by_cases hi : (i : Int) % 2 ^ deep a = (a : Int) % 2 ^ deep a
    · constructor
      · intro h
        by_cases bi : i / 2 ^ deep a % 2 = 1
        · rw [splitTo_half hi bi] at h; exact absurd h.symm (hh j)
        · rw [splitTo_rest hi bi] at h; exact absurd h.symm (hr j)
      · intro h
        have h1 := hsame i j h
        have h2 := hsame i a hi
        rw [← h1, h2] at h
        exact absurd (h.symm.trans hi) hj
    · rw [splitTo_old hi]; exact hone i j
end Go.Proofs.YthldhbcidcmmaaaDoor
