/-
  The plain law of circles, as the reference tells it: what is wrong with nodes, the owner of a spot, ranks. No program in sight.
-/
import Derived.Test.YthldhbcidcmmaaaDoorRankCall
import Derived.Test.YthldhbcidcmmaaaDoorCircle4
namespace Go.Proofs.YthldhbcidcmmaaaDoor

/-! ### what is wrong -/
def errN : List Int → List Int → Int
  | _, [] => 0
  | p, x :: r => if 0 ≤ x ∧ x ≤ 1000000 then (if x ∈ p then 6 else errN (p ++ [x]) r) else 1
def errL (l : List Int) : Int := if l.length ≤ 12 then errN [] l else 4
theorem errN_at {l : List Int} {k : Nat} (h : k < l.length) : errN (l.take k) (l.drop k) = if 0 ≤ l[k] ∧ l[k] ≤ 1000000 then (if l[k] ∈ l.take k then 6 else errN (l.take (k + 1)) (l.drop (k + 1))) else 1 := by
  rw [List.drop_eq_getElem_cons h, errN, ← List.take_succ_eq_append_getElem h]
theorem errN_zero : ∀ (r p : List Int), errN p r = 0 ↔ (∀ x ∈ r, 0 ≤ x ∧ x ≤ 1000000) ∧ r.Nodup ∧ ∀ x ∈ r, x ∉ p
  | [], p => by simp [errN]
  | x :: r, p => by
    unfold errN
    by_cases h : 0 ≤ x ∧ x ≤ 1000000
    · rw [if_pos h]
      by_cases hm : x ∈ p
      · rw [if_pos hm]
        constructor
        · intro h6; omega
        · intro ⟨_, _, h3⟩; exact absurd hm (h3 x (by simp))
      · rw [if_neg hm, errN_zero r (p ++ [x])]
        constructor
        · rintro ⟨h1, h2, h3⟩
          refine ⟨fun y hy => ?_, List.nodup_cons.2 ⟨fun hx => ?_, h2⟩, fun y hy => ?_⟩
          · rcases List.mem_cons.1 hy with rfl | hy
            · exact h
            · exact h1 y hy
          · exact h3 x hx (by simp)
          · rcases List.mem_cons.1 hy with rfl | hy
            · exact hm
            · exact fun hp => h3 y hy (by simp [hp])
        · rintro ⟨h1, h2, h3⟩
          rw [List.nodup_cons] at h2
          refine ⟨fun y hy => h1 y (by simp [hy]), h2.2, fun y hy hp => ?_⟩
          rw [List.mem_append, List.mem_singleton] at hp
          rcases hp with hp | rfl
          · exact h3 y (by simp [hy]) hp
          · exact h2.1 hy
    · rw [if_neg h]
      constructor
      · intro h6; omega
      · intro ⟨h1, _, _⟩; exact absurd (h1 x (by simp)) h
theorem errL_good (l : List Int) : errL l = 0 ↔ Good l := by
  unfold errL Good InB
  by_cases h : l.length ≤ 12
  · rw [if_pos h, errN_zero]
    simp [h]
  · rw [if_neg h]
    constructor
    · intro h4; omega
    · intro hg; exact absurd hg.1 h
theorem errL_bad {l : List Int} (h : ¬ Good l) : errL l ≠ 0 := fun e => h ((errL_good l).1 e)
theorem errN_bd : ∀ (r p : List Int), 0 ≤ errN p r ∧ errN p r ≤ 6
  | [], p => by simp [errN]
  | x :: r, p => by
    unfold errN
    have := errN_bd r (p ++ [x])
    split
    · split <;> omega
    · omega

/-! ### who owns a spot -/
def OwnSpec (p : Int) (l : List Int) (m : Int) : Prop := m ∈ l ∧ ∀ x ∈ l, far p m < far p x ∨ (far p m = far p x ∧ m ≤ x)
theorem OwnSpec.uniq {p : Int} {l : List Int} {m n : Int} (h : OwnSpec p l m) (k : OwnSpec p l n) : m = n := by
  have h1 := h.2 n k.1
  have h2 := k.2 m h.1
  omega
theorem ordI_neg {p a b : Int} : ordI p a b < 0 ↔ far p a < far p b ∨ (far p a = far p b ∧ a < b) := by
  unfold ordI cmpI
  by_cases h1 : far p a < far p b
  · simp [h1]
  · by_cases h2 : far p b < far p a
    · simp [h1, h2]; omega
    · have h3 : far p a = far p b := by omega
      simp [h3]
      by_cases h4 : a < b
      · simp [h4]
      · by_cases h5 : b < a
        · simp [h4, h5]
        · simp [h4, h5]
theorem foldl_own (p : Int) : ∀ (l : List Int) (m : Int), ∀ x ∈ m :: l, far p (l.foldl (stepO p) m) < far p x ∨ (far p (l.foldl (stepO p) m) = far p x ∧ l.foldl (stepO p) m ≤ x)
  | [], m, x, hx => by
    obtain rfl : x = m := by simpa using hx
    exact .inr ⟨rfl, Int.le_refl _⟩
  | y :: l, m, x, hx => by
    simp only [List.foldl_cons]
    have ih := foldl_own p l (stepO p m y)
    have hs : ∀ z, z = m ∨ z = y → far p (stepO p m y) < far p z ∨ (far p (stepO p m y) = far p z ∧ stepO p m y ≤ z) := by
      intro z hz
      have ho := ordI_neg (p := p) (a := y) (b := m)
      unfold stepO
      split
      · rename_i hlt
        have := ho.1 hlt
        rcases hz with rfl | rfl
        · omega
        · exact .inr ⟨rfl, Int.le_refl _⟩
      · rename_i hlt
        have : ¬ (far p y < far p m ∨ (far p y = far p m ∧ y < m)) := fun h => hlt (ho.2 h)
        rcases hz with rfl | rfl
        · exact .inr ⟨rfl, Int.le_refl _⟩
        · omega
    rw [List.mem_cons, List.mem_cons] at hx
    have h0 := ih (stepO p m y) (by simp)
    rcases hx with rfl | rfl | hx
    · have := hs x (.inl rfl); omega
    · have := hs x (.inr rfl); omega
    · exact ih x (by simp [hx])
theorem ownO_spec (p : Int) {l : List Int} (h : l ≠ []) : OwnSpec p l (ownO p l) := by
  refine ⟨ownO_mem p h, ?_⟩
  cases l with
  | nil => exact absurd rfl h
  | cons x l => exact foldl_own p l x

/-- The least node at a place; -1: there is none. -/
def stepB (t b x : Int) : Int := if plc x = t ∧ (b < 0 ∨ x < b) then x else b
def bestAt (t : Int) (l : List Int) : Int := l.foldl (stepB t) (-1)
theorem bestAt_take {t : Int} {l : List Int} {k : Nat} (h : k < l.length) : bestAt t (l.take (k + 1)) = stepB t (bestAt t (l.take k)) l[k] := by
  unfold bestAt
  rw [List.take_succ_eq_append_getElem h, List.foldl_append]; rfl
theorem bestAt_spec (t : Int) (l : List Int) (hb : ∀ x ∈ l, 0 ≤ x) : (bestAt t l = -1 ∧ ∀ x ∈ l, plc x ≠ t) ∨ (0 ≤ bestAt t l ∧ bestAt t l ∈ l ∧ plc (bestAt t l) = t ∧ ∀ x ∈ l, plc x = t → bestAt t l ≤ x) := by
  unfold bestAt
  suffices H : ∀ (r p : List Int) (b : Int), (∀ x ∈ r, 0 ≤ x) → ((b = -1 ∧ ∀ x ∈ p, plc x ≠ t) ∨ (0 ≤ b ∧ b ∈ p ∧ plc b = t ∧ ∀ x ∈ p, plc x = t → b ≤ x)) →
      ((r.foldl (stepB t) b = -1 ∧ ∀ x ∈ p ++ r, plc x ≠ t) ∨ (0 ≤ r.foldl (stepB t) b ∧ r.foldl (stepB t) b ∈ p ++ r ∧ plc (r.foldl (stepB t) b) = t ∧ ∀ x ∈ p ++ r, plc x = t → r.foldl (stepB t) b ≤ x)) by
    simpa using H l [] (-1) hb (.inl ⟨rfl, by simp⟩)
  intro r
  induction r with
  | nil => intro p b _ h; simpa using h
  | cons y r ih =>
    intro p b hr h
    simp only [List.foldl_cons]
    have hy := hr y (by simp)
    have key := ih (p ++ [y]) (stepB t b y) (fun x hx => hr x (by simp [hx])) (by
      unfold stepB
      by_cases hc : plc y = t ∧ (b < 0 ∨ y < b)
      · rw [if_pos hc]
        refine .inr ⟨hy, by simp, hc.1, fun x hx hp => ?_⟩
        rw [List.mem_append, List.mem_singleton] at hx
        rcases hx with hx | rfl
        · rcases h with ⟨_, h2⟩ | ⟨_, _, _, h4⟩
          · exact absurd hp (h2 x hx)
          · have := h4 x hx hp; omega
        · exact Int.le_refl _
      · rw [if_neg hc]
        rcases h with ⟨h1, h2⟩ | ⟨h1, h2, h3, h4⟩
        · refine .inl ⟨h1, fun x hx => ?_⟩
          rw [List.mem_append, List.mem_singleton] at hx
          rcases hx with hx | rfl
          · exact h2 x hx
          · exact fun hp => hc ⟨hp, .inl (by omega)⟩
        · refine .inr ⟨h1, by simp [h2], h3, fun x hx hp => ?_⟩
          rw [List.mem_append, List.mem_singleton] at hx
          rcases hx with hx | rfl
          · exact h4 x hx hp
          · rcases Int.lt_or_le x b with g | g
            · exact absurd ⟨hp, .inr g⟩ hc
            · exact g)
    simpa using key
theorem far_at {p x : Int} {d : Nat} (hp0 : 0 ≤ p) (hp1 : p < 1000) (hd : d < 1000) : plc x = (p + d) % 1000 ↔ far p x = d := by
  have := plc_bd x
  unfold far
  omega
theorem far_bd (p x : Int) : 0 ≤ far p x ∧ far p x < 1000 := by unfold far; omega
/-- The first spot with a node: its least node owns. -/
theorem own_here {p : Int} {l : List Int} {d : Nat} (hp0 : 0 ≤ p) (hp1 : p < 1000) (hd : d < 1000) (hb : ∀ x ∈ l, 0 ≤ x) (hn : ∀ x ∈ l, (d : Int) ≤ far p x) (h : 0 ≤ bestAt ((p + d) % 1000) l) : bestAt ((p + d) % 1000) l = ownO p l := by
  rcases bestAt_spec ((p + d) % 1000) l hb with ⟨h1, _⟩ | ⟨_, h2, h3, h4⟩
  · omega
  · have hne : l ≠ [] := fun e => by rw [e] at h2; simp at h2
    refine OwnSpec.uniq ⟨h2, fun x hx => ?_⟩ (ownO_spec p hne)
    have e1 := (far_at hp0 hp1 hd).1 h3
    have e2 := hn x hx
    by_cases e3 : far p x = d
    · exact .inr ⟨by omega, h4 x hx ((far_at hp0 hp1 hd).2 e3)⟩
    · exact .inl (by omega)
theorem own_on {p : Int} {l : List Int} {d : Nat} (hp0 : 0 ≤ p) (hp1 : p < 1000) (hd : d < 1000) (hb : ∀ x ∈ l, 0 ≤ x) (hn : ∀ x ∈ l, (d : Int) ≤ far p x) (h : bestAt ((p + d) % 1000) l < 0) : ∀ x ∈ l, ((d + 1 : Nat) : Int) ≤ far p x := by
  rcases bestAt_spec ((p + d) % 1000) l hb with ⟨_, h2⟩ | ⟨h1, _⟩
  · intro x hx
    have e1 := hn x hx
    have e2 : far p x ≠ d := fun e => h2 x hx ((far_at hp0 hp1 hd).2 e)
    omega
  · omega

/-! ### ranks -/
instance (k a b : Int) : Decidable (leR k a b) := by unfold leR; infer_instance
def stepR (k b x : Int) : Int := if leR k b x then b else x
def bestR (k m : Int) (l : List Int) : Int := l.foldl (stepR k) m
theorem leR_refl (k a : Int) : leR k a a := .inr ⟨rfl, Int.le_refl _⟩
theorem bestR_take {k m : Int} {l : List Int} {j : Nat} (h : j < l.length) : bestR k m (l.take (j + 1)) = stepR k (bestR k m (l.take j)) l[j] := by
  unfold bestR
  rw [List.take_succ_eq_append_getElem h, List.foldl_append]; rfl
theorem bestR_mem (k : Int) : ∀ (l : List Int) (m : Int), bestR k m l = m ∨ bestR k m l ∈ l
  | [], m => .inl rfl
  | x :: l, m => by
    unfold bestR
    simp only [List.foldl_cons]
    rcases bestR_mem k l (stepR k m x) with h | h
    · unfold bestR at h
      rw [h]
      unfold stepR
      split
      · exact .inl rfl
      · exact .inr (by simp)
    · unfold bestR at h
      exact .inr (by simp [h])
theorem bestR_le (k : Int) : ∀ (l : List Int) (m : Int), ∀ x ∈ m :: l, leR k (bestR k m l) x
  | [], m, x, hx => by
    obtain rfl : x = m := by simpa using hx
    exact leR_refl _ _
  | y :: l, m, x, hx => by
    unfold bestR
    simp only [List.foldl_cons]
    have ih := bestR_le k l (stepR k m y)
    have h0 := ih (stepR k m y) (by simp)
    unfold bestR at ih h0
    have h1 : leR k (stepR k m y) m ∧ leR k (stepR k m y) y := by
      unfold stepR
      split
      · rename_i h; exact ⟨leR_refl _ _, h⟩
      · rename_i h; exact ⟨(leR_total k m y).resolve_left h, leR_refl _ _⟩
    rw [List.mem_cons, List.mem_cons] at hx
    rcases hx with rfl | rfl | hx
    · exact leR_trans h0 h1.1
    · exact leR_trans h0 h1.2
    · exact ih x (by simp [hx])
/-- What has been taken out is ranked, and before all that is left. -/
def RankInv (k : Int) (l done rest : List Int) : Prop := (done ++ rest).Perm l ∧ (done ++ rest).Nodup ∧ done.Pairwise (leR k) ∧ ∀ x ∈ done, ∀ y ∈ rest, leR k x y
theorem rankInv_start (k : Int) {l : List Int} (h : l.Nodup) : RankInv k l [] l := ⟨by simp, by simpa using h, by simp, by simp⟩
theorem rankInv_step {k : Int} {l done rest : List Int} (h : RankInv k l done rest) {b : Int} (hb : b ∈ rest) (hle : ∀ y ∈ rest, leR k b y) : RankInv k l (done ++ [b]) (rest.erase b) := by
  obtain ⟨h1, h2, h3, h4⟩ := h
  have hp : (done ++ [b] ++ rest.erase b).Perm (done ++ rest) := by
    rw [List.append_assoc]
    exact (List.Perm.refl done).append (List.perm_cons_erase hb).symm
  refine ⟨hp.trans h1, hp.nodup_iff.2 h2, ?_, fun x hx y hy => ?_⟩
  · rw [List.pairwise_append]
    exact ⟨h3, by simp, fun x hx y hy => by obtain rfl : y = b := by simpa using hy
                                            exact h4 x hx y hb⟩
  · rw [List.mem_append, List.mem_singleton] at hx
    have hy' := List.mem_of_mem_erase hy
    rcases hx with hx | rfl
    · exact h4 x hx y hy'
    · exact hle y hy'
theorem rankInv_end {k : Int} {l done xs : List Int} (h : RankInv k l done []) (hp : xs.Perm l) (hs : SortedTo k xs l.length) : done = xs := by
  obtain ⟨h1, _, h3, _⟩ := h
  rw [List.append_nil] at h1
  exact srt_uniq done xs (h1.trans hp.symm) h3 (srt_pair (by rw [hp.length_eq]; exact hs))
end Go.Proofs.YthldhbcidcmmaaaDoor
