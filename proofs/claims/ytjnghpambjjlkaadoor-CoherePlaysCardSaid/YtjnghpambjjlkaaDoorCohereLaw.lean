/-
  Plain: what reading, writing and leaving do to a line; who owns a line is alone.
-/
import Derived.Test.YtjnghpambjjlkaaDoorCohereOps
namespace Go.Proofs.YtjnghpambjjlkaaDoor

structure Sized (n : Nat) (s : Cs) : Prop where
  m : s.mem.length = 4
  l : s.ls.length = 8 * n

theorem at_inj {p q k j : Nat} (hk : k < 4) (hj : j < 4) (h : at_ p k = at_ q j) : p = q ∧ k = j := by unfold at_ at h; omega
theorem at_ne {p q k j : Nat} : at_ p k + 1 ≠ at_ q j := by unfold at_; omega
theorem at_lt {n p k : Nat} (hp : p < n) (hk : k < 4) : at_ p k + 1 < 8 * n := by unfold at_; omega

theorem put_sized {n p k : Nat} {x y : Int} {s : Cs} (h : Sized n s) : Sized n (s.put p k x y) := ⟨h.m, by simpa [Cs.put] using h.l⟩
theorem put_me (s : Cs) (p k : Nat) (x y : Int) (j : Nat) : (s.put p k x y).me j = s.me j := rfl
theorem put_st {n p k : Nat} {s : Cs} (h : Sized n s) (x y : Int) (hp : p < n) (hk : k < 4) (q j : Nat) (hj : j < 4) : (s.put p k x y).st q j = if q = p ∧ j = k then x else s.st q j := by
  have hl := h.l
  have := at_lt hp hk
  unfold Cs.put Cs.st
  simp only
  rw [getD_set_ne _ _ _ _ at_ne]
  by_cases e : q = p ∧ j = k
  · rw [if_pos e, e.1, e.2, cGetD_set _ _ _ (by omega)]
  · rw [if_neg e, getD_set_ne _ _ _ _ (fun he => e (by have := at_inj hk hj he; exact ⟨this.1.symm, this.2.symm⟩))]
theorem put_va' {n p k : Nat} {s : Cs} (h : Sized n s) (x y : Int) (hp : p < n) (hk : k < 4) (q j : Nat) (hj : j < 4) : (s.put p k x y).va q j = if q = p ∧ j = k then y else s.va q j := by
  have hl := h.l
  have := at_lt hp hk
  unfold Cs.put Cs.va
  simp only
  by_cases e : q = p ∧ j = k
  · rw [if_pos e, e.1, e.2, cGetD_set _ _ _ (by simp; omega)]
  · rw [if_neg e, getD_set_ne _ _ _ _ (fun he => e (by have := at_inj hk hj (Nat.succ.inj he); exact ⟨this.1.symm, this.2.symm⟩)), getD_set_ne _ _ _ _ (fun he => at_ne he.symm)]

/-- calm, step by step. -/
theorem calmK_facts {n k : Nat} {s : Cs} (h : Sized n s) (hk : k < 4) (P : Nat) (hP : P ≤ n) :
    let r : Cs := ⟨(calmK k s.mem s.ls s.mv P).1, (calmK k s.mem s.ls s.mv P).2.1, (calmK k s.mem s.ls s.mv P).2.2⟩
    Sized n r ∧ (∀ q j, j < 4 → r.st q j = if j = k ∧ q < P ∧ s.st q k = 2 then 1 else s.st q j) ∧ (∀ q j, j < 4 → r.va q j = s.va q j) ∧ (∀ j, j ≠ k → r.me j = s.me j) ∧
      ((∀ q, q < P → s.st q k ≠ 2) → r.me k = s.me k) ∧ (∀ v, (∀ q, q < P → s.st q k = 2 → s.va q k = v) → (∃ q, q < P ∧ s.st q k = 2) → r.me k = v) := by
  induction P with
  | zero => exact ⟨h, fun q j hj => by simp [calmK, Cs.st], fun _ _ _ => rfl, fun _ _ => rfl, fun _ => rfl, fun v _ ⟨q, hq, _⟩ => by omega⟩
  | succ P ih =>
    obtain ⟨i1, i2, i3, i4, i5, i6⟩ := ih (by omega)
    simp only [calmK]
    obtain ⟨m1, l1, v1, hce⟩ : ∃ m1 l1 v1, calmK k s.mem s.ls s.mv P = (m1, l1, v1) := ⟨_, _, _, rfl⟩
    rw [hce] at i1 i2 i3 i4 i5 i6 ⊢
    simp only at i1 i2 i3 i4 i5 i6 ⊢
    have hst : l1.getD (at_ P k) 0 = s.st P k := by
      have := i2 P k hk
      simpa [Cs.st] using this
    have hva : l1.getD (at_ P k + 1) 0 = s.va P k := i3 P k hk
    have hPl := at_lt (n := n) (p := P) (k := k) (by omega) hk
    have hl1 : l1.length = 8 * n := i1.l
    have hm1 : m1.length = 4 := i1.m
    rw [hst, hva]
    by_cases e : s.st P k = 2
    · rw [if_pos e]
      refine ⟨⟨by simpa using hm1, by simpa using hl1⟩, fun q j hj => ?_, fun q j hj => ?_, fun j hj => ?_, fun hn => ?_, fun v hv _ => ?_⟩
      · show (l1.set (at_ P k) 1).getD (at_ q j) 0 = _
        by_cases e2 : q = P ∧ j = k
        · obtain ⟨rfl, rfl⟩ := e2
          rw [cGetD_set _ _ _ (by omega), if_pos ⟨rfl, by omega, e⟩]
        · rw [getD_set_ne _ _ _ _ (fun he => e2 (by have := at_inj hk hj he; exact ⟨this.1.symm, this.2.symm⟩))]
          have := i2 q j hj
          rw [show l1.getD (at_ q j) 0 = (⟨m1, l1, v1⟩ : Cs).st q j from rfl, this]
          by_cases e3 : j = k ∧ q < P ∧ s.st q k = 2
          · rw [if_pos e3, if_pos ⟨e3.1, by omega, e3.2.2⟩]
          · rw [if_neg e3, if_neg (fun hh => e3 ⟨hh.1, by
              rcases Nat.lt_or_ge q P with h' | h'
              · exact h'
              · exact absurd ⟨by omega, hh.1⟩ e2, hh.2.2⟩)]
      · show (l1.set (at_ P k) 1).getD (at_ q j + 1) 0 = _
        rw [getD_set_ne _ _ _ _ (fun he => at_ne he.symm)]
        exact i3 q j hj
      · show (m1.set k (s.va P k)).getD j 0 = _
        rw [getD_set_ne _ _ _ _ (Ne.symm hj)]
        exact i4 j hj
      · exact absurd e (hn P (by omega))
      · show (m1.set k (s.va P k)).getD k 0 = _
        rw [cGetD_set _ _ _ (by omega)]
        exact hv P (by omega) e
    · rw [if_neg e]
      refine ⟨i1, fun q j hj => ?_, i3, i4, fun hn => i5 (fun q hq => hn q (by omega)), fun v hv ⟨q, hq, h2⟩ => i6 v (fun q hq => hv q (by omega)) ⟨q, ?_, h2⟩⟩
      · rw [i2 q j hj]
        by_cases e3 : j = k ∧ q < P ∧ s.st q k = 2
        · rw [if_pos e3, if_pos ⟨e3.1, by omega, e3.2.2⟩]
        · rw [if_neg e3, if_neg (fun hh => e3 ⟨hh.1, by
            rcases Nat.lt_or_ge q P with h' | h'
            · exact h'
            · have : q = P := by omega
              subst this
              exact absurd hh.2.2 e, hh.2.2⟩)]
      · rcases Nat.lt_or_ge q P with h' | h'
        · exact h'
        · have : q = P := by omega
          subst this
          exact absurd h2 e

/-- What holds of one line: of n caches, its states S and values V; the memory's m; what was written last, v. -/
structure LineInv (n : Nat) (S V : Nat → Int) (m v : Int) : Prop where
  one : ∀ p, p < n → (S p = 0 ∧ V p = 0) ∨ (S p = 1 ∧ V p = m) ∨ S p = 2
  own : ∀ p, p < n → S p = 2 → V p = v ∧ ∀ q, q < n → q ≠ p → S q = 0
  mem : (∀ p, p < n → S p ≠ 2) → m = v

def CInv (n : Nat) (s : Cs) (last : Nat → Int) : Prop := ∀ k, k < 4 → LineInv n (fun p => s.st p k) (fun p => s.va p k) (s.me k) (last k)

theorem calm_inv {n k : Nat} {s : Cs} {last : Nat → Int} (h : Sized n s) (hi : CInv n s last) (hk : k < 4) :
    Sized n (s.calm n k) ∧ CInv n (s.calm n k) last ∧ (s.calm n k).me k = last k ∧ (∀ p, p < n → (s.calm n k).st p k ≠ 2) ∧ (∀ p, p < n → ((s.calm n k).st p k = 0 ↔ s.st p k = 0)) := by
  obtain ⟨c1, c2, c3, c4, c5, c6⟩ := calmK_facts h hk n (Nat.le_refl _)
  have hL := hi k hk
  have hme : (s.calm n k).me k = last k := by
    by_cases e : ∃ q, q < n ∧ s.st q k = 2
    · exact c6 (last k) (fun q hq h2 => (hL.own q hq h2).1) e
    · have hn : ∀ q, q < n → s.st q k ≠ 2 := fun q hq h2 => e ⟨q, hq, h2⟩
      exact (c5 hn).trans (hL.mem hn)
  have hst : ∀ p, p < n → (s.calm n k).st p k = if s.st p k = 2 then 1 else s.st p k := fun p hp => by
    have := c2 p k hk
    by_cases e : s.st p k = 2
    · rw [if_pos e]; rw [if_pos ⟨rfl, hp, e⟩] at this; exact this
    · rw [if_neg e]; rw [if_neg (fun hh => e hh.2.2)] at this; exact this
  have hva : ∀ p, (s.calm n k).va p k = s.va p k := fun p => c3 p k hk
  refine ⟨c1, fun j hj => ?_, hme, fun p hp => ?_, fun p hp => ?_⟩
  · by_cases e : j = k
    · subst e
      refine ⟨fun p hp => ?_, fun p hp h2 => ?_, fun _ => hme⟩
      · simp only [hst p hp, hva, hme]
        rcases hL.one p hp with ⟨a, b⟩ | ⟨a, b⟩ | a
        · left; simp [a, b]
        · right; left
          refine ⟨by simp [a], ?_⟩
          rw [b]
          refine hL.mem fun q hq h2 => ?_
          have := (hL.own q hq h2).2 p hp
          by_cases e : p = q
          · subst e; omega
          · have := this e; omega
        · right; left
          exact ⟨by simp [a], (hL.own p hp a).1⟩
      · exfalso
        simp only [hst p hp] at h2
        split at h2 <;> omega
    · have h2 : ∀ p, (s.calm n k).st p j = s.st p j := fun p => by
        have := c2 p j hj
        rw [if_neg (fun hh => e hh.1)] at this; exact this
      have h3 : ∀ p, (s.calm n k).va p j = s.va p j := fun p => c3 p j hj
      have h4 : (s.calm n k).me j = s.me j := c4 j e
      simp only [h2, h3, h4]
      exact hi j hj
  · rw [hst p hp]; split <;> omega
  · rw [hst p hp]; split <;> omega

theorem more_inv {n : Nat} {s : Cs} {last : Nat → Int} (hi : CInv n s last) : CInv n s.more last := hi
theorem read_inv {n p k : Nat} {s : Cs} {last : Nat → Int} (h : Sized n s) (hi : CInv n s last) (hp : p < n) (hk : k < 4) :
    Sized n (s.read n p k) ∧ CInv n (s.read n p k) last ∧ (s.read n p k).st p k ≠ 0 ∧ (s.read n p k).va p k = last k := by
  unfold Cs.read
  have hL := hi k hk
  split
  · obtain ⟨c1, c2, c3, c4, _⟩ := calm_inv h hi hk
    have hz : Sized n ((s.calm n k).put p k 1 ((s.calm n k).me k)) := put_sized c1
    refine ⟨⟨hz.m, hz.l⟩, fun j hj => ?_, ?_, ?_⟩
    · have e1 : ∀ q, (((s.calm n k).put p k 1 ((s.calm n k).me k)).more).st q j = if q = p ∧ j = k then 1 else (s.calm n k).st q j := fun q => put_st c1 _ _ hp hk q j hj
      have e2 : ∀ q, (((s.calm n k).put p k 1 ((s.calm n k).me k)).more).va q j = if q = p ∧ j = k then (s.calm n k).me k else (s.calm n k).va q j := fun q => put_va' c1 _ _ hp hk q j hj
      have e3 : (((s.calm n k).put p k 1 ((s.calm n k).me k)).more).me j = (s.calm n k).me j := rfl
      have hc := c2 j hj
      simp only [e1, e2, e3]
      by_cases e : j = k
      · subst e
        refine ⟨fun q hq => ?_, fun q hq h2 => ?_, fun _ => c3⟩
        · by_cases eq : q = p
          · simp [eq]
          · simpa [eq] using hc.one q hq
        · exfalso
          by_cases eq : q = p
          · simp [eq] at h2
          · simp only [eq, false_and, if_false] at h2; exact c4 q hq h2
      · simpa [e] using hc
    · show (((s.calm n k).put p k 1 ((s.calm n k).me k))).st p k ≠ 0
      rw [put_st c1 _ _ hp hk p k hk]; simp
    · show (((s.calm n k).put p k 1 ((s.calm n k).me k))).va p k = _
      rw [put_va' c1 _ _ hp hk p k hk]; simpa using c3
  · rename_i hx
    refine ⟨h, hi, hx, ?_⟩
    rcases hL.one p hp with ⟨a, _⟩ | ⟨a, b⟩ | a
    · exact absurd a hx
    · rw [b]
      refine hL.mem fun q hq h2 => ?_
      have := (hL.own q hq h2).2 p hp
      by_cases e : p = q
      · subst e
        have a' : s.st p k = 1 := a
        have h2' : s.st p k = 2 := h2
        omega
      · have this' : s.st p k = 0 := this e
        have a' : s.st p k = 1 := a
        omega
    · exact (hL.own p hp a).1

theorem none_facts {n k : Nat} {s : Cs} (h : Sized n s) (hk : k < 4) (q : Nat) (hq : q ≤ n) :
    Sized n (s.none_ k q) ∧ (∀ r j, j < 4 → (s.none_ k q).st r j = if j = k ∧ r < q then 0 else s.st r j) ∧ (∀ r j, j < 4 → (s.none_ k q).va r j = if j = k ∧ r < q then 0 else s.va r j) ∧ (∀ j, (s.none_ k q).me j = s.me j) := by
  induction q with
  | zero => exact ⟨h, fun r j _ => by simp [Cs.none_], fun r j _ => by simp [Cs.none_], fun _ => rfl⟩
  | succ q ih =>
    obtain ⟨i1, i2, i3, i4⟩ := ih (by omega)
    refine ⟨put_sized i1, fun r j hj => ?_, fun r j hj => ?_, fun j => by simp only [Cs.none_, put_me, i4]⟩
    · simp only [Cs.none_, put_st i1 _ _ (show q < n by omega) hk r j hj, i2 r j hj]
      by_cases e : j = k
      · by_cases e2 : r = q
        · simp [e, e2]
        · by_cases e3 : r < q
          · simp [e, e2, e3, show r < q + 1 by omega]
          · simp [e, e2, e3, show ¬ r < q + 1 by omega]
      · simp [e]
    · simp only [Cs.none_, put_va' i1 _ _ (show q < n by omega) hk r j hj, i3 r j hj]
      by_cases e : j = k
      · by_cases e2 : r = q
        · simp [e, e2]
        · by_cases e3 : r < q
          · simp [e, e2, e3, show r < q + 1 by omega]
          · simp [e, e2, e3, show ¬ r < q + 1 by omega]
      · simp [e]

def upd (last : Nat → Int) (k : Nat) (v : Int) : Nat → Int := fun j => if j = k then v else last j

theorem write_inv {n p k : Nat} {v : Int} {s : Cs} {last : Nat → Int} (h : Sized n s) (hi : CInv n s last) (hp : p < n) (hk : k < 4) :
    Sized n (s.write n p k v) ∧ CInv n (s.write n p k v) (upd last k v) ∧ (s.write n p k v).st p k = 2 := by
  -- the state ahead of the put: nobody else has line k
  have main : ∀ t : Cs, Sized n t → (∀ q, q < n → q ≠ p → t.st q k = 0 ∧ t.va q k = 0) → (∀ j, j < 4 → j ≠ k → LineInv n (fun q => t.st q j) (fun q => t.va q j) (t.me j) (last j)) →
      Sized n (t.put p k 2 v) ∧ CInv n (t.put p k 2 v) (upd last k v) ∧ (t.put p k 2 v).st p k = 2 := by
    intro t ht h1 h2
    refine ⟨put_sized ht, fun j hj => ?_, by rw [put_st ht _ _ hp hk p k hk]; simp⟩
    have e1 : ∀ q, (t.put p k 2 v).st q j = if q = p ∧ j = k then 2 else t.st q j := fun q => put_st ht _ _ hp hk q j hj
    have e2 : ∀ q, (t.put p k 2 v).va q j = if q = p ∧ j = k then v else t.va q j := fun q => put_va' ht _ _ hp hk q j hj
    simp only [e1, e2, put_me, upd]
    by_cases e : j = k
    · subst e
      refine ⟨fun q hq => ?_, fun q hq hh => ?_, fun hh => ?_⟩
      · by_cases eq : q = p
        · simp [eq]
        · simp [eq, h1 q hq eq]
      · by_cases eq : q = p
        · subst eq
          refine ⟨by simp, fun r hr hne => ?_⟩
          simp [hne, h1 r hr hne]
        · simp only [eq, false_and, if_false] at hh
          have := (h1 q hq eq).1; omega
      · have := hh p hp
        simp at this
    · simpa [e] using h2 j hj e
  unfold Cs.write
  by_cases hx : s.st p k = 2
  · rw [if_pos hx]
    have hL := hi k hk
    refine main s h (fun q hq hne => ?_) (fun j hj _ => hi j hj)
    have h0 : s.st q k = 0 := (hL.own p hp hx).2 q hq hne
    refine ⟨h0, ?_⟩
    rcases hL.one q hq with ⟨_, b⟩ | ⟨a, _⟩ | a
    · exact b
    · have a' : s.st q k = 1 := a
      omega
    · have a' : s.st q k = 2 := a
      omega
  · rw [if_neg hx]
    obtain ⟨c1, c2, _, _, _⟩ := calm_inv h hi hk
    obtain ⟨d1, d2, d3, d4⟩ := none_facts c1 hk n (Nat.le_refl _)
    refine main _ ⟨d1.m, d1.l⟩ (fun q hq _ => ?_) (fun j hj e => ?_)
    · have a := d2 q k hk
      have b := d3 q k hk
      rw [if_pos ⟨rfl, hq⟩] at a b
      exact ⟨a, b⟩
    · have a : ∀ q, ((s.calm n k).none_ k n).more.st q j = (s.calm n k).st q j := fun q => by have := d2 q j hj; rwa [if_neg (fun hh => e hh.1)] at this
      have b : ∀ q, ((s.calm n k).none_ k n).more.va q j = (s.calm n k).va q j := fun q => by have := d3 q j hj; rwa [if_neg (fun hh => e hh.1)] at this
      have c : ((s.calm n k).none_ k n).more.me j = (s.calm n k).me j := d4 j
      simp only [a, b, c]
      exact c2 j hj

theorem leave_inv {n p k : Nat} {s : Cs} {last : Nat → Int} (h : Sized n s) (hi : CInv n s last) (hp : p < n) (hk : k < 4) :
    Sized n (s.leave n p k) ∧ CInv n (s.leave n p k) last := by
  have main : ∀ t : Cs, Sized n t → CInv n t last → t.st p k ≠ 2 → Sized n (t.put p k 0 0) ∧ CInv n (t.put p k 0 0) last := by
    intro t ht hti hne
    refine ⟨put_sized ht, fun j hj => ?_⟩
    have e1 : ∀ q, (t.put p k 0 0).st q j = if q = p ∧ j = k then 0 else t.st q j := fun q => put_st ht _ _ hp hk q j hj
    have e2 : ∀ q, (t.put p k 0 0).va q j = if q = p ∧ j = k then 0 else t.va q j := fun q => put_va' ht _ _ hp hk q j hj
    have hc := hti j hj
    simp only [e1, e2, put_me]
    by_cases e : j = k
    · subst e
      refine ⟨fun q hq => ?_, fun q hq hh => ?_, fun hh => hc.mem fun q hq => ?_⟩
      · by_cases eq : q = p
        · simp [eq]
        · simpa [eq] using hc.one q hq
      · by_cases eq : q = p
        · simp [eq] at hh
        · simp only [eq, false_and, if_false] at hh
          obtain ⟨a, b⟩ := hc.own q hq hh
          refine ⟨by simpa [eq] using a, fun r hr hne => ?_⟩
          by_cases er : r = p
          · simp [er]
          · simpa [er] using b r hr hne
      · by_cases eq : q = p
        · subst eq; exact hne
        · have := hh q hq
          simpa [eq] using this
    · simpa [e] using hc
  unfold Cs.leave
  split
  · exact ⟨h, hi⟩
  · by_cases hx : s.st p k = 2
    · rw [if_pos hx]
      obtain ⟨c1, c2, _, c4, _⟩ := calm_inv h hi hk
      exact main _ c1 c2 (c4 p hp)
    · rw [if_neg hx]
      exact main s h hi hx
/-- One step with caches: what is told is passed by. -/
def cStep (n : Nat) (s : Cs) (l : List Int) : Cs :=
  match l with
  | [p, k] => if 0 ≤ p ∧ p < n ∧ 0 ≤ k ∧ k ≤ 3 then s.read n p.toNat k.toNat else s
  | [p, k, v] => if 0 ≤ p ∧ p < n ∧ 0 ≤ k ∧ k ≤ 3 ∧ 0 ≤ v ∧ v ≤ 1000 then s.write n p.toNat k.toNat v else s
  | [p, k, _, _] => if 0 ≤ p ∧ p < n ∧ 0 ≤ k ∧ k ≤ 3 then s.leave n p.toNat k.toNat else s
  | _ => s
def cLast (n : Nat) (last : Nat → Int) (l : List Int) : Nat → Int :=
  match l with
  | [p, k, v] => if 0 ≤ p ∧ p < n ∧ 0 ≤ k ∧ k ≤ 3 ∧ 0 ≤ v ∧ v ≤ 1000 then upd last k.toNat v else last
  | _ => last
theorem cStep_inv {n : Nat} {s : Cs} {last : Nat → Int} (l : List Int) (h : Sized n s) (hi : CInv n s last) : Sized n (cStep n s l) ∧ CInv n (cStep n s l) (cLast n last l) := by
  match l with
  | [] => exact ⟨h, hi⟩
  | [_] => exact ⟨h, hi⟩
  | [p, k] =>
    simp only [cStep, cLast]
    split
    · obtain ⟨a, b, _⟩ := read_inv h hi (p := p.toNat) (k := k.toNat) (by omega) (by omega)
      exact ⟨a, b⟩
    · exact ⟨h, hi⟩
  | [p, k, v] =>
    simp only [cStep, cLast]
    by_cases e : 0 ≤ p ∧ p < n ∧ 0 ≤ k ∧ k ≤ 3 ∧ 0 ≤ v ∧ v ≤ 1000
    · rw [if_pos e, if_pos e]
      obtain ⟨a, b, _⟩ := write_inv (v := v) h hi (p := p.toNat) (k := k.toNat) (by omega) (by omega)
      exact ⟨a, b⟩
    · rw [if_neg e, if_neg e]
      exact ⟨h, hi⟩
  | [p, k, _, _] =>
    simp only [cStep, cLast]
    split
    · exact leave_inv h hi (by omega) (by omega)
    · exact ⟨h, hi⟩
  | _ :: _ :: _ :: _ :: _ :: _ => exact ⟨h, hi⟩
theorem calm_mv (n k : Nat) (s : Cs) : s.mv ≤ (s.calm n k).mv ∧ (s.calm n k).mv ≤ s.mv + n := calmK_mv k s.mem s.ls s.mv n
theorem read_mv (n p k : Nat) (s : Cs) : s.mv ≤ (s.read n p k).mv ∧ (s.read n p k).mv ≤ s.mv + n + 1 := by
  have := calm_mv n k s
  unfold Cs.read
  split
  · show s.mv ≤ (s.calm n k).mv + 1 ∧ (s.calm n k).mv + 1 ≤ _; omega
  · omega
theorem write_mv (n p k : Nat) (v : Int) (s : Cs) : s.mv ≤ (s.write n p k v).mv ∧ (s.write n p k v).mv ≤ s.mv + n + 1 := by
  have := calm_mv n k s
  unfold Cs.write
  split
  · show s.mv ≤ s.mv ∧ s.mv ≤ _; omega
  · have e : ((((s.calm n k).none_ k n).more).put p k 2 v).mv = (s.calm n k).mv + 1 := by
      show ((s.calm n k).none_ k n).mv + 1 = _
      rw [none_mv]
    rw [e]; omega
theorem leave_mv (n p k : Nat) (s : Cs) : s.mv ≤ (s.leave n p k).mv ∧ (s.leave n p k).mv ≤ s.mv + n + 1 := by
  have := calm_mv n k s
  unfold Cs.leave
  split
  · omega
  · split
    · show s.mv ≤ (s.calm n k).mv ∧ (s.calm n k).mv ≤ _; omega
    · show s.mv ≤ s.mv ∧ s.mv ≤ _; omega
theorem cStep_mv (n : Nat) (s : Cs) (l : List Int) : s.mv ≤ (cStep n s l).mv ∧ (cStep n s l).mv ≤ s.mv + n + 1 := by
  match l with
  | [] => simp only [cStep]; omega
  | [_] => simp only [cStep]; omega
  | [p, k] =>
    simp only [cStep]
    split
    · exact read_mv _ _ _ _
    · omega
  | [p, k, v] =>
    simp only [cStep]
    split
    · exact write_mv _ _ _ _ _
    · omega
  | [p, k, _, _] =>
    simp only [cStep]
    split
    · exact leave_mv _ _ _ _
    · omega
  | _ :: _ :: _ :: _ :: _ :: _ => simp only [cStep]; omega

def c0 (n : Nat) : Cs := ⟨[0, 0, 0, 0], List.replicate (8 * n) 0, 0⟩
theorem c0_inv (n : Nat) : Sized n (c0 n) ∧ CInv n (c0 n) (fun _ => 0) := by
  refine ⟨⟨rfl, by simp [c0]⟩, fun k hk => ?_⟩
  have h0 : ∀ i, (List.replicate (8 * n) (0 : Int)).getD i 0 = 0 := fun i => by
    simp only [List.getD, List.getElem?_replicate]; split <;> rfl
  have e1 : ∀ p, (c0 n).st p k = 0 := fun p => h0 _
  have e2 : ∀ p, (c0 n).va p k = 0 := fun p => h0 _
  have e3 : (c0 n).me k = 0 := by
    match k, hk with
    | 0, _ => rfl
    | 1, _ => rfl
    | 2, _ => rfl
    | 3, _ => rfl
  simp only [e1, e2, e3]
  exact ⟨fun p _ => .inl ⟨rfl, rfl⟩, fun p _ h => by omega, fun _ => rfl⟩
end Go.Proofs.YtjnghpambjjlkaaDoor
