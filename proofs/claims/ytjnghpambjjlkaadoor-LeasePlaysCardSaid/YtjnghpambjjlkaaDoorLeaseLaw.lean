/-
  Plain: what holds of a lender whatever is done.
-/
import Derived.Test.YtjnghpambjjlkaaDoorLease3
namespace Go.Proofs.YtjnghpambjjlkaaDoor

structure LInv (n : Nat) (s : Ls) : Prop where
  size : s.ls.length = 2 * n
  now : 0 ≤ s.now ∧ s.now ≤ 1000
  term : 1 ≤ s.term ∧ s.term ≤ 20
  bound : ∀ p, p < n → 0 ≤ s.until_ p ∧ s.until_ p ≤ s.now + s.term
  had : ∀ p, p < n → s.now < s.until_ p → s.had p = s.value
  want : s.want = -1 ∨ (0 ≤ s.want ∧ s.now < s.ready ∧ (∃ p, p < n ∧ s.until_ p = s.ready) ∧ ∀ p, p < n → s.until_ p ≤ s.ready)

theorem getD_set' (l : List Int) (i : Nat) (x : Int) (h : i < l.length) : (l.set i x).getD i 0 = x := by simp [List.getD, h]
theorem getD_set_ne' (l : List Int) (i j : Nat) (x : Int) (h : i ≠ j) : (l.set i x).getD j 0 = l.getD j 0 := by simp [List.getD, List.getElem?_set, h]

theorem put_until {n p : Nat} {s : Ls} (hl : s.ls.length = 2 * n) (hp : p < n) (x y : Int) (q : Nat) : (s.put p x y).until_ q = if q = p then y else s.until_ q := by
  unfold Ls.put Ls.until_
  simp only
  by_cases e : q = p
  · subst e; rw [if_pos rfl, getD_set' _ _ _ (by simp; omega)]
  · rw [if_neg e, getD_set_ne' _ _ _ _ (by omega), getD_set_ne' _ _ _ _ (by omega)]
theorem put_had {n p : Nat} {s : Ls} (hl : s.ls.length = 2 * n) (hp : p < n) (x y : Int) (q : Nat) : (s.put p x y).had q = if q = p then x else s.had q := by
  unfold Ls.put Ls.had
  simp only
  rw [getD_set_ne' _ _ _ _ (by omega)]
  by_cases e : q = p
  · subst e; rw [if_pos rfl, getD_set' _ _ _ (by omega)]
  · rw [if_neg e, getD_set_ne' _ _ _ _ (by omega)]

theorem l0_inv (n : Nat) (t : Int) (h1 : 1 ≤ t) (h2 : t ≤ 20) : LInv n (l0 n t) := by
  have h0 : ∀ i, (List.replicate (2 * n) (0 : Int)).getD i 0 = 0 := fun i => by simp only [List.getD, List.getElem?_replicate]; split <;> rfl
  exact ⟨by simp [l0], ⟨Int.le_refl _, by show (0 : Int) ≤ 1000; omega⟩, ⟨h1, h2⟩, fun p _ => by rw [show (l0 n t).until_ p = 0 from h0 _]; show (0 : Int) ≤ 0 ∧ (0 : Int) ≤ 0 + t; omega,
    fun p _ h => by rw [show (l0 n t).until_ p = 0 from h0 _] at h; exact absurd h (by show ¬ (0 : Int) < 0; omega), .inl rfl⟩

theorem wait_inv {n : Nat} {s : Ls} {d : Int} (h : LInv n s) (h1 : 0 ≤ d) (h2 : s.now + d ≤ 1000) : LInv n (s.wait d) := by
  obtain ⟨hs, hn, ht, hb, hh, hw⟩ := h
  unfold Ls.wait
  split
  · rename_i hc
    refine ⟨hs, ⟨by show 0 ≤ s.now + d; omega, h2⟩, ht, fun p hp => ?_, fun p hp hlt => ?_, .inl rfl⟩
    · have := hb p hp
      show 0 ≤ s.until_ p ∧ s.until_ p ≤ s.now + d + s.term
      omega
    · exfalso
      have hlt' : s.now + d < s.until_ p := hlt
      rcases hw with hw | ⟨_, _, _, h4⟩
      · omega
      · have := h4 p hp; omega
  · rename_i hc
    refine ⟨hs, ⟨by show 0 ≤ s.now + d; omega, h2⟩, ht, fun p hp => ?_, fun p hp hlt => ?_, ?_⟩
    · have := hb p hp
      show 0 ≤ s.until_ p ∧ s.until_ p ≤ s.now + d + s.term
      omega
    · have hlt' : s.now + d < s.until_ p := hlt
      exact hh p hp (by omega)
    · rcases hw with hw | ⟨a, b, c, e⟩
      · exact .inl hw
      · exact .inr ⟨a, by show s.now + d < s.ready; omega, c, e⟩

theorem lend_inv {n p : Nat} {s : Ls} (h : LInv n s) (hp : p < n) (hu : s.until_ p ≤ s.now) (hw : s.want < 0) : LInv n (s.put p s.value (s.now + s.term)) := by
  obtain ⟨hs, hn, ht, hb, hh, hw'⟩ := h
  refine ⟨by simpa [Ls.put] using hs, hn, ht, fun q hq => ?_, fun q hq hlt => ?_, ?_⟩
  · rw [put_until hs hp]
    have := hb q hq
    split
    · show 0 ≤ s.now + s.term ∧ s.now + s.term ≤ s.now + s.term; omega
    · exact this
  · rw [put_until hs hp] at hlt
    rw [put_had hs hp]
    by_cases e : q = p
    · rw [if_pos e]; rfl
    · rw [if_neg e] at hlt ⊢
      exact hh q hq hlt
  · rcases hw' with a | ⟨a, _⟩
    · exact .inl a
    · omega

theorem write_inv' {n : Nat} {s : Ls} {v : Int} (h : LInv n s) (hv : 0 ≤ v) (hw : s.want < 0) : LInv n (s.write n v) := by
  obtain ⟨hs, hn, ht, hb, hh, hw'⟩ := h
  unfold Ls.write
  split
  · rename_i hm
    refine ⟨hs, hn, ht, hb, fun p hp hlt => ?_, ?_⟩
    · exfalso
      have := maxU_until s n p hp
      have hlt' : s.now < s.until_ p := hlt
      omega
    · rcases hw' with a | ⟨a, _⟩
      · exact .inl a
      · omega
  · rename_i hm
    have hge := maxU_ge s n
    refine ⟨hs, hn, ht, hb, hh, .inr ⟨hv, by show s.now < maxU s n; omega, ?_, maxU_until s n⟩⟩
    rcases maxU_some s n with h | h
    · exact absurd h hm
    · exact h

theorem maxU_now (s : Ls) (x y : Int) (p q : Nat) : (s.put p x y).now = s.now := rfl

theorem back_inv {n p : Nat} {s : Ls} (h : LInv n s) (hp : p < n) : LInv n (s.back n p) := by
  obtain ⟨hs, hn, ht, hb, hh, hw'⟩ := h
  have hp0 : LInv n { s.put p 0 0 with want := -1 } := by
    refine ⟨by simpa [Ls.put] using hs, hn, ht, fun q hq => ?_, fun q hq hlt => ?_, .inl rfl⟩
    · have e : ({ s.put p 0 0 with want := -1 } : Ls).until_ q = if q = p then 0 else s.until_ q := put_until hs hp 0 0 q
      rw [e]
      have := hb q hq
      split
      · show (0 : Int) ≤ 0 ∧ (0 : Int) ≤ s.now + s.term; omega
      · exact this
    · have e : ({ s.put p 0 0 with want := -1 } : Ls).until_ q = if q = p then 0 else s.until_ q := put_until hs hp 0 0 q
      have e2 : ({ s.put p 0 0 with want := -1 } : Ls).had q = if q = p then 0 else s.had q := put_had hs hp 0 0 q
      rw [e] at hlt
      rw [e2]
      have hlt' : s.now < if q = p then 0 else s.until_ q := hlt
      by_cases e : q = p
      · rw [if_pos e] at hlt'; omega
      · rw [if_neg e] at hlt' ⊢
        exact hh q hq hlt'
  obtain ⟨k1, k2, k3, k4, k5, _⟩ := hp0
  unfold Ls.back
  split
  · rename_i hw
    exact ⟨k1, k2, k3, k4, k5, by
      rcases hw' with a | ⟨a, _⟩
      · exact .inl a
      · omega⟩
  · rename_i hw
    split
    · rename_i hm
      refine ⟨k1, k2, k3, k4, fun q hq hlt => ?_, .inl rfl⟩
      exfalso
      have := maxU_until (s.put p 0 0) n q hq
      have hlt' : s.now < (s.put p 0 0).until_ q := hlt
      omega
    · rename_i hm
      have hge := maxU_ge (s.put p 0 0) n
      have e0 : (s.put p 0 0).now = s.now := rfl
      refine ⟨k1, k2, k3, k4, k5, .inr ⟨by show 0 ≤ s.want; omega, by show s.now < maxU (s.put p 0 0) n; omega, ?_, maxU_until (s.put p 0 0) n⟩⟩
      rcases maxU_some (s.put p 0 0) n with h | h
      · exact absurd h (by rw [e0]; exact hm)
      · exact h

/-- One step with a lender. -/
def lStep (n : Nat) (s : Ls) (k x : Int) : Ls :=
  if k = 0 then (if 0 ≤ x ∧ x ≤ 20 ∧ s.now + x ≤ 1000 then s.wait x else s)
  else if k = 1 then (if 0 ≤ x ∧ x < n ∧ s.until_ x.toNat ≤ s.now ∧ s.want < 0 then s.put x.toNat s.value (s.now + s.term) else s)
  else if k = 2 then (if 0 ≤ x ∧ x ≤ 1000 ∧ s.want < 0 then s.write n x else s)
  else if k = 3 then (if 0 ≤ x ∧ x < n ∧ s.now < s.until_ x.toNat then s.back n x.toNat else s)
  else s
theorem lStep_inv {n : Nat} {s : Ls} (k x : Int) (h : LInv n s) : LInv n (lStep n s k x) := by
  unfold lStep
  split
  · split
    · exact wait_inv h (by omega) (by omega)
    · exact h
  split
  · split
    · rename_i hc; exact lend_inv h (by omega) hc.2.2.1 hc.2.2.2
    · exact h
  split
  · split
    · rename_i hc; exact write_inv' h hc.1 hc.2.2
    · exact h
  split
  · split
    · exact back_inv h (by omega)
    · exact h
  · exact h
theorem put_term (s : Ls) (p : Nat) (x y : Int) : (s.put p x y).term = s.term := rfl
theorem lStep_term (n : Nat) (s : Ls) (k x : Int) : (lStep n s k x).term = s.term := by
  unfold lStep Ls.wait Ls.write Ls.back
  repeat (first | rfl | split)
end Go.Proofs.YtjnghpambjjlkaaDoor
