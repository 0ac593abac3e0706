/-
  The plain law of pages that split: classes by last bits, and the state that a set of keys has. No program in sight.
-/
import Derived.Test.YthldhbcidcmmaaaDoorCore
namespace Go.Proofs.YthldhbcidcmmaaaDoor

/-- Keys of a class: those whose last e bits are as c's. -/
def cls (S : List Int) (c : Int) (e : Nat) : List Int := S.filter fun k => k % 2 ^ e == c % 2 ^ e
theorem mem_cls {S : List Int} {c k : Int} {e : Nat} : k ∈ cls S c e ↔ k ∈ S ∧ k % 2 ^ e = c % 2 ^ e := by
  unfold cls; rw [List.mem_filter]; simp
theorem cls_congr {S : List Int} {c d : Int} {e : Nat} (h : c % 2 ^ e = d % 2 ^ e) : cls S c e = cls S d e := by unfold cls; rw [h]
theorem pow2_pos (e : Nat) : (0 : Int) < 2 ^ e := Int.pow_pos (by decide)
theorem mod_down {a b : Int} {e f : Nat} (h : e ≤ f) (hm : a % 2 ^ f = b % 2 ^ f) : a % 2 ^ e = b % 2 ^ e := by
  obtain ⟨d, rfl⟩ := Nat.exists_eq_add_of_le h
  have : (2 : Int) ^ (e + d) = 2 ^ e * 2 ^ d := Int.pow_add ..
  rw [this] at hm
  have hd : (2 : Int) ^ e ∣ 2 ^ e * 2 ^ d := ⟨_, rfl⟩
  rw [← Int.emod_emod_of_dvd a hd, hm, Int.emod_emod_of_dvd b hd]
theorem filter_len_le {p q : Int → Bool} (h : ∀ x, p x = true → q x = true) : ∀ S : List Int, (S.filter p).length ≤ (S.filter q).length
  | [] => by simp
  | x :: S => by
    have := filter_len_le h S
    rw [List.filter_cons, List.filter_cons]
    by_cases hp : p x = true
    · rw [if_pos hp, if_pos (h x hp)]; simp; exact this
    · rw [if_neg hp]
      split
      · simp; omega
      · exact this
theorem cls_len_down {S : List Int} {c : Int} {e f : Nat} (h : e ≤ f) : (cls S c f).length ≤ (cls S c e).length :=
  filter_len_le (fun x hx => by
    have := beq_iff_eq.1 hx
    exact beq_iff_eq.2 (mod_down h this)) S
theorem cls_cls {S : List Int} {c : Int} {e f : Nat} (h : e ≤ f) : (cls S c e).filter (fun k => k % 2 ^ f == c % 2 ^ f) = cls S c f := by
  unfold cls
  rw [List.filter_filter]
  congr 1
  funext k
  by_cases hk : k % 2 ^ f = c % 2 ^ f
  · rw [hk, mod_down h hk]; simp
  · have : (k % 2 ^ f == c % 2 ^ f) = false := by simpa using hk
    rw [this]; simp

/-- A key comes in at its place. -/
def insK (x : Int) : List Int → List Int
  | [] => [x]
  | y :: l => if x < y then x :: y :: l else y :: insK x l
theorem insK_cons (x y : Int) (l : List Int) : insK x (y :: l) = if x < y then x :: y :: l else y :: insK x l := rfl
theorem mem_insK {x y : Int} : ∀ {l : List Int}, y ∈ insK x l ↔ y = x ∨ y ∈ l
  | [] => by simp [insK]
  | z :: l => by
    unfold insK
    split
    · simp
    · rw [List.mem_cons, mem_insK, List.mem_cons]
      constructor
      · rintro (h | h | h)
        · exact .inr (.inl h)
        · exact .inl h
        · exact .inr (.inr h)
      · rintro (h | h | h)
        · exact .inr (.inl h)
        · exact .inl h
        · exact .inr (.inr h)
theorem insK_len (x : Int) : ∀ l : List Int, (insK x l).length = l.length + 1
  | [] => rfl
  | z :: l => by
    unfold insK
    split
    · simp
    · simp [insK_len x l]
def Up (l : List Int) : Prop := l.Pairwise (· < ·)
theorem Up.ins {x : Int} : ∀ {l : List Int}, Up l → x ∉ l → Up (insK x l)
  | [], _, _ => by simp [insK, Up]
  | y :: l, h, hx => by
    unfold Up at h ⊢
    rw [List.pairwise_cons] at h
    have hne : x ≠ y := fun e => hx (by rw [e]; simp)
    unfold insK
    split
    · rename_i hlt
      rw [List.pairwise_cons, List.pairwise_cons]
      refine ⟨fun z hz => ?_, h⟩
      rcases List.mem_cons.1 hz with rfl | hz
      · exact hlt
      · have := h.1 z hz; omega
    · rename_i hlt
      rw [List.pairwise_cons]
      refine ⟨fun z hz => ?_, Up.ins h.2 (fun hm => hx (List.mem_cons_of_mem _ hm))⟩
      rcases mem_insK.1 hz with rfl | hz
      · omega
      · exact h.1 z hz
theorem Up.filter {l : List Int} (h : Up l) (p : Int → Bool) : Up (l.filter p) := List.Pairwise.filter p h
theorem Up.cls {S : List Int} (h : Up S) (c : Int) (e : Nat) : Up (cls S c e) := h.filter _
theorem insK_filter {p : Int → Bool} {x : Int} : ∀ {l : List Int}, Up l → x ∉ l → (insK x l).filter p = if p x = true then insK x (l.filter p) else l.filter p
  | [], _, _ => by simp [insK, List.filter_cons]
  | y :: l, h, hx => by
    have h0 := h
    unfold Up at h
    rw [List.pairwise_cons] at h
    have hx2 : x ∉ l := fun hm => hx (List.mem_cons_of_mem _ hm)
    rw [insK_cons]
    split
    · rename_i hlt
      have key : ∀ m : List Int, (∀ z ∈ m, x < z) → insK x m = x :: m := fun m hm => by
        cases m with
        | nil => rfl
        | cons z m => rw [insK_cons, if_pos (hm z (by simp))]
      rw [List.filter_cons]
      split
      · rw [key (List.filter p (y :: l))]
        intro z hz
        have hz2 := (List.mem_filter.1 hz).1
        rcases List.mem_cons.1 hz2 with rfl | hz2
        · exact hlt
        · have := h.1 z hz2; omega
      · rfl
    · rename_i hlt
      have ih := insK_filter (p := p) (x := x) (l := l) h.2 hx2
      rw [List.filter_cons, ih, List.filter_cons]
      by_cases hy : p y = true
      · rw [if_pos hy, if_pos hy]
        split
        · rw [insK_cons, if_neg hlt]
        · rfl
      · rw [if_neg hy, if_neg hy]
theorem cls_ins {S : List Int} (h : Up S) {x : Int} (hx : x ∉ S) (c : Int) (e : Nat) : cls (insK x S) c e = if x % 2 ^ e = c % 2 ^ e then insK x (cls S c e) else cls S c e := by
  unfold cls
  rw [insK_filter h hx]
  simp
theorem insK_front {x : Int} {m : List Int} (hm : ∀ z ∈ m, x < z) : insK x m = x :: m := by
  cases m with
  | nil => rfl
  | cons z m => unfold insK; rw [if_pos (hm z (by simp))]
/-- .. where a search of halves tells. -/
theorem insK_at {x : Int} : ∀ {l : List Int} {i : Nat}, i ≤ l.length → (∀ j (hj : j < l.length), j < i → l[j] < x) → (∀ j (hj : j < l.length), i ≤ j → x < l[j]) → insK x l = l.take i ++ x :: l.drop i
  | [], i, hi, _, _ => by simp at hi; subst hi; rfl
  | y :: l, 0, _, _, h2 => by
    have := h2 0 (by simp) (Nat.le_refl _)
    unfold insK
    rw [if_pos (by simpa using this)]; rfl
  | y :: l, i + 1, hi, h1, h2 => by
    have := h1 0 (by simp) (by omega)
    unfold insK
    rw [if_neg (by simp at this; omega), insK_at (i := i) (by simpa using hi) (fun j hj hji => by have := h1 (j + 1) (by simp; omega) (by omega); rwa [List.getElem_cons_succ] at this) (fun j hj hji => by have := h2 (j + 1) (by simp; omega) (by omega); rwa [List.getElem_cons_succ] at this)]
    rfl

/-- What the directory is of some keys: depth, and of each place its page's depth; S' are the keys by which pages had to be split. -/
structure Dir (S S' : List Int) (D : Nat) (deep : Nat → Nat) : Prop where
  up : Up S
  pos : ∀ k ∈ S, 0 ≤ k
  le : ∀ i, deep i ≤ D
  top : ∃ i, deep i = D
  same : ∀ i j : Nat, ((i : Int) % 2 ^ deep j = (j : Int) % 2 ^ deep j) → deep i = deep j
  few : ∀ i : Nat, (cls S i (deep i)).length ≤ 3
  need : ∀ i : Nat, 0 < deep i → 4 ≤ (cls S' i (deep i - 1)).length

theorem dir_new : Dir [] [] 0 (fun _ => 0) where
  up := by simp [Up]
  pos := by simp
  le := fun _ => Nat.le_refl _
  top := ⟨0, rfl⟩
  same := fun _ _ _ => rfl
  few := fun i => by simp [cls]
  need := fun i h => by simp at h

/-- One directory for some keys. -/
theorem Dir.deep_eq {S : List Int} {D D' : Nat} {deep deep' : Nat → Nat} (h : Dir S S D deep) (h' : Dir S S D' deep') (i : Nat) : deep i = deep' i := by
  rcases Nat.lt_trichotomy (deep i) (deep' i) with g | g | g
  · have h1 := h.few i
    have h2 := h'.need i (by omega)
    have h3 := cls_len_down (S := S) (c := i) (show deep i ≤ deep' i - 1 by omega)
    omega
  · exact g
  · have h1 := h'.few i
    have h2 := h.need i (by omega)
    have h3 := cls_len_down (S := S) (c := i) (show deep' i ≤ deep i - 1 by omega)
    omega
theorem Dir.depth_eq {S : List Int} {D D' : Nat} {deep deep' : Nat → Nat} (h : Dir S S D deep) (h' : Dir S S D' deep') : D = D' := by
  obtain ⟨i, hi⟩ := h.top
  obtain ⟨j, hj⟩ := h'.top
  have e1 := h.deep_eq h' i
  have e2 := h.deep_eq h' j
  have := h'.le i
  have := h.le j
  omega

/-- A page is split by one bit more. -/
def splitAt (deep : Nat → Nat) (at_ e : Nat) (i : Nat) : Nat := if (i : Int) % 2 ^ e = (at_ : Int) % 2 ^ e then e + 1 else deep i
theorem Dir.split {S S' : List Int} {D : Nat} {deep : Nat → Nat} (h : Dir S S' D deep) (a : Nat) (hn : 4 ≤ (cls S' a (deep a)).length) (hsub : ∀ i : Nat, (cls S i (deep i + 1)).length ≤ 3) :
    Dir S S' (if deep a = D then D + 1 else D) (splitAt deep a (deep a)) where
  up := h.up
  pos := h.pos
  le := fun i => by
    have h1 := h.le i
    have h2 := h.le a
    unfold splitAt
    split <;> split <;> omega
  top := by
    by_cases e : deep a = D
    · rw [if_pos e]
      exact ⟨a, by unfold splitAt; rw [if_pos rfl]; omega⟩
    · rw [if_neg e]
      obtain ⟨i, hi⟩ := h.top
      refine ⟨i, ?_⟩
      unfold splitAt
      rw [if_neg]
      · exact hi
      · intro hm
        have := h.same i a hm
        omega
  same := fun i j hm => by
    unfold splitAt at hm ⊢
    by_cases hj : (j : Int) % 2 ^ deep a = (a : Int) % 2 ^ deep a
    · rw [if_pos hj] at hm ⊢
      rw [if_pos ((mod_down (Nat.le_succ _) hm).trans hj)]
    · rw [if_neg hj] at hm ⊢
      by_cases hi : (i : Int) % 2 ^ deep a = (a : Int) % 2 ^ deep a
      · exfalso
        have h1 := h.same i j hm
        have h2 := h.same i a hi
        rw [← h1, h2] at hm
        exact hj (hm.symm.trans hi)
      · rw [if_neg hi]
        exact h.same i j hm
  few := fun i => by
    unfold splitAt
    split
    · rename_i hi
      have h1 := h.same i a hi
      rw [← h1]
      exact hsub i
    · exact h.few i
  need := fun i hp => by
    unfold splitAt at hp ⊢
    split at hp <;> rename_i hi
    · rw [if_pos hi]
      rw [Nat.add_sub_cancel, cls_congr hi]
      exact hn
    · rw [if_neg hi]
      exact h.need i hp
theorem Dir.more {S S' T : List Int} {D : Nat} {deep : Nat → Nat} (h : Dir S S' D deep) (hm : ∀ (c : Int) (e : Nat), (cls S' c e).length ≤ (cls T c e).length) : Dir S T D deep :=
  { h with need := fun i hp => Nat.le_trans (h.need i hp) (hm i _) }
theorem Dir.put {S : List Int} {D : Nat} {deep : Nat → Nat} {x : Int} (h : Dir S (insK x S) D deep) (hx : x ∉ S) (h0 : 0 ≤ x) (hl : (cls S x (deep x.toNat)).length ≤ 2) : Dir (insK x S) (insK x S) D deep where
  up := h.up.ins hx
  pos := fun k hk => by
    rcases mem_insK.1 hk with rfl | hk
    · exact h0
    · exact h.pos k hk
  le := h.le
  top := h.top
  same := h.same
  few := fun i => by
    rw [cls_ins h.up hx]
    split
    · rename_i hi
      rw [insK_len]
      have e : ((x.toNat : Nat) : Int) = x := Int.toNat_of_nonneg h0
      have h1 := h.same x.toNat i (by rw [e]; exact hi)
      rw [← cls_congr hi, ← h1]
      omega
    · exact h.few i
  need := h.need

/-- A key may come in: its class of all bits has room. -/
def room (S : List Int) (x : Int) : Prop := (cls S x 6).length ≤ 2
instance (S : List Int) (x : Int) : Decidable (room S x) := by unfold room; infer_instance
theorem cls_ins_le {S : List Int} (h : Up S) {x : Int} (hx : x ∉ S) (c : Int) (e : Nat) : (cls S c e).length ≤ (cls (insK x S) c e).length := by
  rw [cls_ins h hx]
  split
  · rw [insK_len]; omega
  · exact Nat.le_refl _

/-- What becomes of keys, and what is told. -/
def addS (S : List Int) (x : Int) : List Int := if 0 ≤ x ∧ x ≤ 1000000 ∧ x ∉ S ∧ room S x then insK x S else S
def addE (S : List Int) (x : Int) : Int := if ¬ (0 ≤ x ∧ x ≤ 1000000) then 1 else if x ∈ S then 6 else if room S x then 0 else 4
theorem addE_zero {S : List Int} {x : Int} : addE S x = 0 ↔ (0 ≤ x ∧ x ≤ 1000000 ∧ x ∉ S ∧ room S x) := by
  unfold addE
  split
  · constructor
    · intro h; omega
    · intro h; omega
  · rename_i h
    have h' : 0 ≤ x ∧ x ≤ 1000000 := by omega
    split
    · rename_i hm
      constructor
      · intro h; omega
      · intro h; exact absurd hm h.2.2.1
    · split
      · rename_i hm hr; exact ⟨fun _ => ⟨h'.1, h'.2, hm, hr⟩, fun _ => rfl⟩
      · rename_i hm hr
        constructor
        · intro h; omega
        · intro h; exact absurd h.2.2.2 hr
end Go.Proofs.YthldhbcidcmmaaaDoor
