/-
  The plain law of counts that are kept: Misra and Gries; Metwally, Agrawal, El Abbadi. No program in sight.
-/
import Derived.Test.YtnpokcjdnlmheaaDoorHeavyDel
namespace Go.Proofs.YtnpokcjdnlmheaaDoor

def times (P : List Int) (k : Int) : Int := (P.count k : Int)
theorem times_nil (k : Int) : times [] k = 0 := rfl
theorem times_snoc (P : List Int) (x k : Int) : times (P ++ [x]) k = times P k + if x = k then 1 else 0 := by
  unfold times
  rw [List.count_append]
  by_cases e : x = k
  · subst e; simp
  · rw [if_neg e, List.count_cons_of_ne (by simpa using e)]; simp
theorem times_nonneg (P : List Int) (k : Int) : 0 ≤ times P k := by unfold times; omega
theorem times_le (P : List Int) (k : Int) : times P k ≤ P.length := by unfold times; have := List.count_le_length (a := k) (l := P); omega
def sumC : List (Int × Int) → Int
  | [] => 0
  | x :: L => x.2 + sumC L
theorem sumC_append : ∀ L M : List (Int × Int), sumC (L ++ M) = sumC L + sumC M
  | [], M => by simp [sumC]
  | x :: L, M => by simp only [List.cons_append, sumC]; rw [sumC_append L M]; omega
theorem sumC_set : ∀ (L : List (Int × Int)) (i : Nat) (x y : Int × Int), L[i]? = some x → sumC (L.set i y) = sumC L - x.2 + y.2
  | [], i, x, y, h => by simp at h
  | z :: L, 0, x, y, h => by simp at h; subst h; simp only [List.set_cons_zero, sumC]; omega
  | z :: L, i + 1, x, y, h => by
    have := sumC_set L i x y (by simpa using h)
    simp only [List.set_cons_succ, sumC]; omega
theorem sumC_dec : ∀ L : List (Int × Int), sumC (nonz (L.map fun x => (x.1, x.2 - 1))) = sumC L - L.length
  | [] => rfl
  | x :: L => by
    have := sumC_dec L
    unfold nonz at this ⊢
    simp only [List.map_cons, List.filter_cons]
    by_cases e : x.2 - 1 = 0
    · simp only [e]
      simp only [List.length_cons, sumC]
      simp
      omega
    · have : ((x.2 - 1 == 0) = false) := by simpa using e
      simp only [this, Bool.not_false, if_true, sumC, List.length_cons]
      omega

/-- Keys are unlike. -/
def Unlike (L : List (Int × Int)) : Prop := ∀ (i j : Nat) (x y : Int × Int), L[i]? = some x → L[j]? = some y → x.1 = y.1 → i = j

theorem mem_set {L : List (Int × Int)} {i : Nat} {z x : Int × Int} (hi : i < L.length) (hz : L[i]? = some z) (hu : Unlike L) {y : Int × Int} (hy : y ∈ L.set i x) : y = x ∨ (y ∈ L ∧ y.1 ≠ z.1) := by
  obtain ⟨j, hj⟩ := List.getElem?_of_mem hy
  by_cases e : i = j
  · subst e
    rw [List.getElem?_set_self hi] at hj
    exact .inl (Option.some.inj hj).symm
  · rw [List.getElem?_set_ne e] at hj
    exact .inr ⟨List.mem_of_getElem? hj, fun h => e (hu i j z y hz hj h.symm)⟩
theorem mem_set_new {L : List (Int × Int)} {i : Nat} {x : Int × Int} (hi : i < L.length) : x ∈ L.set i x := List.mem_of_getElem? (List.getElem?_set_self hi)
theorem mem_set_old {L : List (Int × Int)} {i : Nat} {z x y : Int × Int} (hz : L[i]? = some z) (hy : y ∈ L) (hne : y.1 ≠ z.1) : y ∈ L.set i x := by
  obtain ⟨j, hj⟩ := List.getElem?_of_mem hy
  have e : i ≠ j := by
    rintro rfl
    rw [hz] at hj
    exact hne (by rw [Option.some.inj hj])
  exact List.mem_of_getElem? (by rw [List.getElem?_set_ne e]; exact hj)
theorem Unlike.set {L : List (Int × Int)} (hu : Unlike L) {i : Nat} {x : Int × Int} (hi : i < L.length) (hx : ∀ (j : Nat) (y : Int × Int), L[j]? = some y → y.1 = x.1 → j = i) : Unlike (L.set i x) := by
  intro a b y z ha hb hyz
  rw [List.getElem?_set] at ha hb
  by_cases ea : i = a
  · by_cases eb : i = b
    · omega
    · rw [if_pos ea, if_pos hi] at ha
      rw [if_neg eb] at hb
      have := hx b z hb (by rw [← hyz, ← Option.some.inj ha])
      omega
  · rw [if_neg ea] at ha
    by_cases eb : i = b
    · rw [if_pos eb, if_pos hi] at hb
      have := hx a y ha (by rw [hyz, ← Option.some.inj hb])
      omega
    · rw [if_neg eb] at hb
      exact hu a b y z ha hb hyz
theorem Unlike.snoc {L : List (Int × Int)} (hu : Unlike L) {x : Int × Int} (hx : ∀ y ∈ L, y.1 ≠ x.1) : Unlike (L ++ [x]) := by
  intro a b y z ha hb hyz
  rcases Nat.lt_or_ge a L.length with la | la
  · rw [List.getElem?_append_left la] at ha
    rcases Nat.lt_or_ge b L.length with lb | lb
    · rw [List.getElem?_append_left lb] at hb
      exact hu a b y z ha hb hyz
    · rw [List.getElem?_append_right lb] at hb
      have hb2 := List.mem_of_getElem? hb
      simp at hb2
      subst hb2
      exact absurd hyz (hx y (List.mem_of_getElem? ha))
  · rw [List.getElem?_append_right la] at ha
    have ha2 := List.mem_of_getElem? ha
    simp at ha2
    subst ha2
    have la2 : a - L.length < 1 := (List.getElem?_eq_some_iff.1 ha).1
    rcases Nat.lt_or_ge b L.length with lb | lb
    · rw [List.getElem?_append_left lb] at hb
      exact absurd hyz.symm (hx z (List.mem_of_getElem? hb))
    · rw [List.getElem?_append_right lb] at hb
      have lb2 : b - L.length < 1 := (List.getElem?_eq_some_iff.1 hb).1
      omega
theorem pairwise_unlike {L : List (Int × Int)} (h : L.Pairwise fun x y => x.1 ≠ y.1) : Unlike L := by
  intro i j x y hi hj e
  obtain ⟨li, ei⟩ := List.getElem?_eq_some_iff.1 hi
  obtain ⟨lj, ej⟩ := List.getElem?_eq_some_iff.1 hj
  rw [List.pairwise_iff_getElem] at h
  rcases Nat.lt_trichotomy i j with g | g | g
  · exact absurd (by rw [ei, ej]; exact e) (h i j li lj g)
  · exact g
  · exact absurd (by rw [ei, ej]; exact e.symm) (h j i lj li g)
theorem unlike_pairwise {L : List (Int × Int)} (h : Unlike L) : L.Pairwise fun x y => x.1 ≠ y.1 := by
  rw [List.pairwise_iff_getElem]
  intro i j hi hj hij e
  have := h i j _ _ (List.getElem?_eq_getElem hi) (List.getElem?_eq_getElem hj) e
  omega
theorem Unlike.dec {L : List (Int × Int)} (h : Unlike L) : Unlike (nonz (L.map fun x => (x.1, x.2 - 1))) := by
  refine pairwise_unlike (List.Pairwise.filter _ ?_)
  rw [List.pairwise_map]
  exact unlike_pairwise h

/-! ### Misra and Gries -/
structure MG (keep : Nat) (P : List Int) (L : List (Int × Int)) (D : Int) : Prop where
  un : Unlike L
  pos : 0 ≤ D
  low : ∀ x ∈ L, 1 ≤ x.2 ∧ x.2 ≤ times P x.1 ∧ times P x.1 ≤ x.2 + D
  out : ∀ k, (∀ x ∈ L, x.1 ≠ k) → times P k ≤ D
  sum : sumC L + D * (keep + 1) = P.length
  len : L.length ≤ keep

theorem mg_nil (keep : Nat) : MG keep [] [] 0 := ⟨fun i j x y h => by simp at h, by omega, by simp, fun k _ => by rw [times_nil]; omega, by simp [sumC], by simp⟩

theorem MG.hit {keep : Nat} {P : List Int} {L : List (Int × Int)} {D : Int} (h : MG keep P L D) {i : Nat} {x : Int × Int} (hx : L[i]? = some x) : MG keep (P ++ [x.1]) (L.set i (x.1, x.2 + 1)) D := by
  have hi : i < L.length := (List.getElem?_eq_some_iff.1 hx).1
  refine ⟨h.un.set hi (fun j y hy e => h.un j i y x hy hx e), h.pos, fun y hy => ?_, fun k hk => ?_, ?_, by simpa using h.len⟩
  · rcases mem_set hi hx h.un hy with rfl | ⟨hm, hne⟩
    · have := h.low x (List.mem_of_getElem? hx)
      rw [times_snoc, if_pos rfl]
      simp only
      omega
    · have := h.low y hm
      rw [times_snoc, if_neg (fun e => hne e.symm)]
      omega
  · have h1 := hk _ (mem_set_new (x := (x.1, x.2 + 1)) hi)
    rw [times_snoc, if_neg h1]
    have := h.out k (fun y hy e => by
      by_cases g : y.1 = x.1
      · exact h1 (g ▸ e)
      · exact hk y (mem_set_old hx hy g) e)
    omega
  · rw [sumC_set L i x _ hx]
    have := h.sum
    simp only [List.length_append, List.length_cons, List.length_nil]
    push_cast
    omega
theorem MG.add {keep : Nat} {P : List Int} {L : List (Int × Int)} {D : Int} (h : MG keep P L D) {k : Int} (hk : ∀ x ∈ L, x.1 ≠ k) (hl : L.length < keep) : MG keep (P ++ [k]) (L ++ [(k, 1)]) D := by
  have hD := h.out k hk
  have hnn := times_nonneg P k
  refine ⟨h.un.snoc hk, h.pos, fun y hy => ?_, fun k' hk' => ?_, ?_, by simp; omega⟩
  · rw [List.mem_append] at hy
    rcases hy with hy | hy
    · have := h.low y hy
      rw [times_snoc, if_neg (fun e => hk y hy e.symm)]
      omega
    · simp at hy
      subst hy
      rw [times_snoc, if_pos rfl]
      simp only
      omega
  · have h1 := hk' (k, 1) (by simp)
    rw [times_snoc, if_neg h1]
    have := h.out k' (fun y hy => hk' y (by simp [hy]))
    omega
  · rw [sumC_append]
    have := h.sum
    simp only [sumC, List.length_append, List.length_cons, List.length_nil]
    push_cast
    omega
theorem MG.dec {keep : Nat} {P : List Int} {L : List (Int × Int)} {D : Int} (h : MG keep P L D) {k : Int} (hk : ∀ x ∈ L, x.1 ≠ k) (hl : keep ≤ L.length) : MG keep (P ++ [k]) (nonz (L.map fun x => (x.1, x.2 - 1))) (D + 1) := by
  have hD := h.out k hk
  have hp := h.pos
  have hmem : ∀ y, y ∈ nonz (L.map fun x => (x.1, x.2 - 1)) ↔ ∃ x ∈ L, x.2 - 1 ≠ 0 ∧ y = (x.1, x.2 - 1) := by
    intro y
    unfold nonz
    rw [List.mem_filter, List.mem_map]
    constructor
    · rintro ⟨⟨x, hx, rfl⟩, h2⟩
      exact ⟨x, hx, by simpa using h2, rfl⟩
    · rintro ⟨x, hx, h2, rfl⟩
      exact ⟨⟨x, hx, rfl⟩, by simpa using h2⟩
  refine ⟨h.un.dec, by omega, fun y hy => ?_, fun k' hk' => ?_, ?_, ?_⟩
  · obtain ⟨x, hx, h2, rfl⟩ := (hmem y).1 hy
    have := h.low x hx
    simp only
    rw [times_snoc, if_neg (fun e => hk x hx e.symm)]
    omega
  · rw [times_snoc]
    by_cases e : k = k'
    · subst e; rw [if_pos rfl]; omega
    · rw [if_neg e]
      by_cases g : ∃ x ∈ L, x.1 = k'
      · obtain ⟨x, hx, rfl⟩ := g
        have := h.low x hx
        by_cases z : x.2 - 1 = 0
        · omega
        · exact absurd rfl (hk' (x.1, x.2 - 1) ((hmem _).2 ⟨x, hx, z, rfl⟩))
      · have := h.out k' (fun x hx e => g ⟨x, hx, e⟩)
        omega
  · rw [sumC_dec]
    have h1 := h.sum
    have h2 := h.len
    have h3 : (L.length : Int) = keep := by omega
    have h4 : (D + 1) * ((keep : Int) + 1) = D * ((keep : Int) + 1) + keep + 1 := by rw [Int.add_mul]; omega
    rw [h4, h3]
    simp only [List.length_append, List.length_cons, List.length_nil]
    push_cast
    omega
  · refine Nat.le_trans (nonz_le _) ?_
    rw [List.length_map]; exact h.len
end Go.Proofs.YtnpokcjdnlmheaaDoor
