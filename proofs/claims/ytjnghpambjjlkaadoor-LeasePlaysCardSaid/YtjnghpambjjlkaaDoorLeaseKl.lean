/-
  Plain: the reference's lender, and that it goes with the program's.
-/
import Derived.Test.YtjnghpambjjlkaaDoorLeaseLaw
namespace Go.Proofs.YtjnghpambjjlkaaDoor

structure Kl where
  now : Int
  term : Int
  value : Int
  want : Int
  had : List Int
  unt : List Int

def Kl.lasts (k : Kl) : Bool := k.unt.any fun u => decide (k.now < u)
def Kl.settled (k : Kl) : Kl := if 0 ≤ k.want ∧ k.lasts = false then { k with value := k.want, want := -1 } else k
def Kl.later (k : Kl) (d : Int) : Kl := { k with now := k.now + d }
def Kl.wants (k : Kl) (v : Int) : Kl := { k with want := v }
def Kl.gone (k : Kl) (p : Nat) : Kl := { k with unt := k.unt.set p 0 }
def Kl.lend (k : Kl) (p : Nat) : Kl := { k with had := k.had.set p k.value, unt := k.unt.set p (k.now + k.term) }
def k0 (n : Nat) (t : Int) : Kl := ⟨0, t, 0, -1, List.replicate n 0, List.replicate n 0⟩

theorem Kl.lasts_no (k : Kl) : k.lasts = false ↔ ∀ p, p < k.unt.length → k.unt.getD p 0 ≤ k.now := by
  unfold Kl.lasts
  rw [List.any_eq_false]
  constructor
  · intro h p hp
    have := h k.unt[p] (List.getElem_mem _)
    simp only [decide_eq_true_eq] at this
    rw [List.getD, List.getElem?_eq_getElem hp]
    show k.unt[p] ≤ k.now
    omega
  · intro h x hx
    obtain ⟨p, hp, rfl⟩ := List.getElem_of_mem hx
    have := h p hp
    rw [List.getD, List.getElem?_eq_getElem hp] at this
    have h2 : k.unt[p] ≤ k.now := this
    simp only [decide_eq_true_eq]
    omega

/-- One goes with the other. -/
structure LK (n : Nat) (s : Ls) (k : Kl) : Prop where
  now : k.now = s.now
  term : k.term = s.term
  value : k.value = s.value
  want : k.want = s.want
  hl : k.had.length = n
  ul : k.unt.length = n
  unt : ∀ p, p < n → k.unt.getD p 0 = s.until_ p
  had : ∀ p, p < n → s.now < s.until_ p → k.had.getD p 0 = s.had p

theorem lk0 (n : Nat) (t : Int) : LK n (l0 n t) (k0 n t) := by
  have h0 : ∀ m i, (List.replicate m (0 : Int)).getD i 0 = 0 := fun m i => by simp only [List.getD, List.getElem?_replicate]; split <;> rfl
  refine ⟨rfl, rfl, rfl, rfl, by simp [k0], by simp [k0], fun p _ => ?_, fun p _ _ => ?_⟩
  · rw [show (l0 n t).until_ p = 0 from h0 _ _]; exact h0 _ _
  · rw [show (l0 n t).had p = 0 from h0 _ _]; exact h0 _ _

theorem LK.lasts_no {n : Nat} {s : Ls} {k : Kl} (h : LK n s k) : k.lasts = false ↔ ∀ p, p < n → s.until_ p ≤ s.now := by
  rw [Kl.lasts_no, h.ul, h.now]
  constructor
  · intro h2 p hp
    have := h2 p hp
    rwa [h.unt p hp] at this
  · intro h2 p hp
    rw [h.unt p hp]; exact h2 p hp

theorem LK.wait {n : Nat} {s : Ls} {k : Kl} {d : Int} (h : LK n s k) (hi : LInv n s) (h0 : 0 ≤ d) : LK n (s.wait d) (k.later d).settled := by
  have h1 : LK n { s with now := s.now + d } (k.later d) := ⟨by show k.now + d = s.now + d; rw [h.now], h.term, h.value, h.want, h.hl, h.ul, h.unt, fun p hp hlt => h.had p hp (by have e : s.now + d < s.until_ p := hlt; omega)⟩
  have hl := h1.lasts_no
  unfold Kl.settled Ls.wait
  have ew : (k.later d).want = s.want := h.want
  rw [ew]
  rcases hi.want with hw | ⟨hw, hr, ⟨p, hp, e⟩, hall⟩
  · rw [if_neg (by omega), if_neg (by omega)]
    exact h1
  · by_cases hc : s.ready ≤ s.now + d
    · have e1 : (k.later d).lasts = false := hl.2 (fun q hq => by
        have := hall q hq
        show s.until_ q ≤ s.now + d
        omega)
      rw [if_pos ⟨hw, hc⟩, if_pos ⟨hw, e1⟩]
      exact ⟨h1.now, h.term, rfl, rfl, h.hl, h.ul, h.unt, h1.had⟩
    · rw [if_neg (fun h => hc h.2), if_neg (fun ⟨_, e1⟩ => by
        have : s.until_ p ≤ s.now + d := hl.1 e1 p hp
        omega)]
      exact h1

theorem LK.lend {n p : Nat} {s : Ls} {k : Kl} (h : LK n s k) (hi : LInv n s) (hp : p < n) : LK n (s.put p s.value (s.now + s.term)) (k.lend p) := by
  refine ⟨h.now, h.term, h.value, h.want, by simpa [Kl.lend] using h.hl, by simpa [Kl.lend] using h.ul, fun q hq => ?_, fun q hq hlt => ?_⟩
  · rw [put_until hi.size hp]
    show (k.unt.set p (k.now + k.term)).getD q 0 = _
    by_cases e : q = p
    · subst e; rw [if_pos rfl, getD_set' _ _ _ (by rw [h.ul]; exact hp), h.now, h.term]
    · rw [if_neg e, getD_set_ne' _ _ _ _ (Ne.symm e)]; exact h.unt q hq
  · rw [put_until hi.size hp] at hlt
    rw [put_had hi.size hp]
    show (k.had.set p k.value).getD q 0 = _
    by_cases e : q = p
    · subst e; rw [if_pos rfl, getD_set' _ _ _ (by rw [h.hl]; exact hp), h.value]
    · rw [if_neg e] at hlt
      rw [if_neg e, getD_set_ne' _ _ _ _ (Ne.symm e)]; exact h.had q hq hlt

theorem maxU_all {n : Nat} {s : Ls} : maxU s n = s.now ↔ ∀ p, p < n → s.until_ p ≤ s.now := by
  constructor
  · intro h p hp
    have := maxU_until s n p hp
    omega
  · intro h
    have := maxU_ge s n
    rcases maxU_some s n with e | ⟨q, hq, e⟩
    · exact e
    · have := h q hq; omega

theorem LK.change {n : Nat} {s : Ls} {k : Kl} {v : Int} (h : LK n s k) (hi : LInv n s) (hw : s.want < 0) (h0 : 0 ≤ v) : LK n (s.write n v) (k.wants v).settled ∧ decide ((k.wants v).settled.want < 0) = decide (maxU s n = s.now) := by
  have hl : (k.wants v).lasts = false ↔ _ := h.lasts_no
  unfold Kl.settled Ls.write
  have ew : (k.wants v).want = v := rfl
  by_cases hc : maxU s n = s.now
  · have e1 := hl.2 (maxU_all.1 hc)
    rw [if_pos hc, if_pos ⟨by rw [ew]; exact h0, e1⟩]
    refine ⟨⟨h.now, h.term, rfl, ?_, h.hl, h.ul, h.unt, h.had⟩, ?_⟩
    · show (-1 : Int) = s.want
      rcases hi.want with e | ⟨e, _⟩ <;> omega
    · rw [decide_eq_true hc]; rfl
  · rw [if_neg hc, if_neg (fun ⟨_, e1⟩ => hc (maxU_all.2 (hl.1 e1)))]
    refine ⟨⟨h.now, h.term, h.value, rfl, h.hl, h.ul, h.unt, h.had⟩, ?_⟩
    rw [decide_eq_false hc]
    exact decide_eq_false (by rw [ew]; omega)

theorem LK.back {n p : Nat} {s : Ls} {k : Kl} (h : LK n s k) (hi : LInv n s) (hp : p < n) : LK n (s.back n p) (k.gone p).settled := by
  have hb := hi.now
  have h1 : LK n (s.put p 0 0) (k.gone p) := by
    refine ⟨h.now, h.term, h.value, h.want, h.hl, by simpa [Kl.gone] using h.ul, fun q hq => ?_, fun q hq hlt => ?_⟩
    · rw [put_until hi.size hp]
      show (k.unt.set p 0).getD q 0 = _
      by_cases e : q = p
      · subst e; rw [if_pos rfl, getD_set' _ _ _ (by rw [h.ul]; exact hp)]
      · rw [if_neg e, getD_set_ne' _ _ _ _ (Ne.symm e)]; exact h.unt q hq
    · rw [put_until hi.size hp] at hlt
      rw [put_had hi.size hp]
      have hlt' : s.now < if q = p then 0 else s.until_ q := hlt
      by_cases e : q = p
      · rw [if_pos e] at hlt'; omega
      · rw [if_neg e] at hlt'
        rw [if_neg e]; exact h.had q hq hlt'
  have hl := h1.lasts_no
  have e0 : (s.put p 0 0).now = s.now := rfl
  have ew : (k.gone p).want = s.want := h.want
  unfold Kl.settled Ls.back
  rw [ew]
  by_cases hw : s.want < 0
  · rw [if_pos hw, if_neg (by omega)]; exact h1
  · rw [if_neg hw]
    have hm := maxU_all (n := n) (s := s.put p 0 0)
    rw [e0] at hm hl
    by_cases hc : maxU (s.put p 0 0) n = s.now
    · rw [if_pos hc, if_pos ⟨by omega, hl.2 (hm.1 hc)⟩]
      exact ⟨h1.now, h1.term, rfl, rfl, h1.hl, h1.ul, h1.unt, h1.had⟩
    · rw [if_neg hc, if_neg (fun ⟨_, e1⟩ => hc (hm.2 (hl.1 e1)))]
      exact ⟨h1.now, h1.term, h1.value, h1.want, h1.hl, h1.ul, h1.unt, h1.had⟩
end Go.Proofs.YtjnghpambjjlkaaDoor
