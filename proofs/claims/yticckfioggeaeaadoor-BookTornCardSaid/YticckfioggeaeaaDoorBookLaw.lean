/-
  A store that puts down what is put into it: plain.
-/
import Derived.Test.YticckfioggeaeaaDoorBookNum
set_option linter.unusedVariables false
set_option linter.unusedSimpArgs false
set_option linter.unnecessarySimpa false
namespace Go.Proofs.YticckfioggeaeaaDoor

/-! ### A line -/
def wsum (i : Nat) : List UInt8 → Nat
  | [] => 0
  | c :: r => (i + 1) * c.toNat + wsum (i + 1) r
def sumB (l : List UInt8) : Nat := wsum 0 l % 9973
def lineOf (word : List UInt8) : List UInt8 := word ++ (32 :: (Lib.itoa (sumB word) ++ [10]))
def wordP (k v : Int) : List UInt8 := 112 :: 32 :: (Lib.itoa k ++ (32 :: Lib.itoa v))
def wordG (k : Int) : List UInt8 := 103 :: 32 :: Lib.itoa k
theorem wsum_append : ∀ (l r : List UInt8) (i : Nat), wsum i (l ++ r) = wsum i l + wsum (i + l.length) r
  | [], r, i => by simp [wsum]
  | c :: l, r, i => by
    rw [List.cons_append, wsum, wsum, wsum_append l r (i + 1), List.length_cons, show i + (l.length + 1) = i + 1 + l.length by omega]
    omega
theorem wsum_le (b : Nat) : ∀ (l : List UInt8) (i : Nat), (∀ c ∈ l, c.toNat ≤ b) → wsum i l ≤ (i + l.length) * l.length * b
  | [], i, _ => by simp [wsum]
  | c :: l, i, h => by
    have h1 := h c (by simp)
    have h2 := wsum_le b l (i + 1) (fun x hx => h x (by simp [hx]))
    rw [wsum, List.length_cons]
    have h3 : (i + 1) * c.toNat ≤ (i + 1) * b := Nat.mul_le_mul_left _ h1
    have h4 : (i + 1) * b ≤ (i + 1 + l.length) * b := Nat.mul_le_mul_right _ (by omega)
    have h5 : (i + (l.length + 1)) * (l.length + 1) * b = (i + 1 + l.length) * l.length * b + (i + 1 + l.length) * b := by
      rw [show i + (l.length + 1) = i + 1 + l.length by omega, Nat.mul_succ, Nat.add_mul]
    omega

/-! ### The store -/
structure Bk where
  M : List (Int × Int)
  text : List UInt8
  many : Nat
def bk0 : Bk := ⟨[], [], 0⟩
def Bk.keys (s : Bk) : List Int := s.M.map (·.1)
def okPut (k v : Int) : Prop := (0 ≤ k ∧ k ≤ 1000000) ∧ 0 ≤ v ∧ v ≤ 1000
instance (k v : Int) : Decidable (okPut k v) := by unfold okPut; infer_instance
/-- Is there no room for a key? -/
def fullFor (slots : Nat) (s : Bk) (k : Int) : Prop := k ∉ s.keys ∧ s.M.length = slots
instance (slots : Nat) (s : Bk) (k : Int) : Decidable (fullFor slots s k) := by unfold fullFor; infer_instance
def outM (slots : Nat) (s : Bk) (k : Int) : List (Int × Int) := if fullFor slots s k then s.M.dropLast else s.M
def letGo (slots : Nat) (s : Bk) (k : Int) : Int := if fullFor slots s k then (s.keys.getLast?).getD 0 else -1
def putB (slots : Nat) (s : Bk) (k v : Int) : Bk := ⟨(k, v) :: (outM slots s k).filter (fun p => p.1 != k), s.text ++ lineOf (wordP k v), s.many + 1⟩
def putE (s : Bk) (k v : Int) : Int := if ¬ okPut k v then 1 else if s.many = 60 then 4 else 0
def putS (slots : Nat) (s : Bk) (k v : Int) : Bk := if putE s k v = 0 then putB slots s k v else s
def putV (slots : Nat) (s : Bk) (k v : Int) : Int := if putE s k v = 0 then letGo slots s k else 0
def valOf (s : Bk) (k : Int) : Int := ((s.M.find? (fun p => p.1 == k)).map (·.2)).getD 0
def getB (s : Bk) (k : Int) : Bk := ⟨(k, valOf s k) :: s.M.filter (fun p => p.1 != k), s.text ++ lineOf (wordG k), s.many + 1⟩
def getE (s : Bk) (k : Int) : Int := if k ∉ s.keys then 5 else if s.many = 60 then 4 else 0
def getS (s : Bk) (k : Int) : Bk := if getE s k = 0 then getB s k else s
def getV (s : Bk) (k : Int) : Int := if getE s k = 0 then valOf s k else 0

structure BkOk (slots : Nat) (s : Bk) : Prop where
  nod : s.keys.Nodup
  len : s.M.length ≤ slots
  many : s.many ≤ 60
  rng : ∀ p ∈ s.M, okPut p.1 p.2
  text : s.text.length ≤ 20 * s.many
theorem bk0_ok (slots : Nat) : BkOk slots bk0 := ⟨by simp [bk0, Bk.keys], by simp [bk0], by simp [bk0], by simp [bk0], by simp [bk0]⟩
theorem itoa_len {n : Int} {k : Nat} (h0 : 0 ≤ n) (hk : 1 ≤ k) (h : n < (10 ^ k : Nat)) : (Lib.itoa n).length ≤ k := by
  obtain ⟨u, rfl⟩ := Int.eq_ofNat_of_zero_le h0
  rw [itoa_nat]
  exact dec_len_le hk (by omega)
theorem itoa_dig {n : Int} (h0 : 0 ≤ n) : digs (Lib.itoa n) := by
  obtain ⟨u, rfl⟩ := Int.eq_ofNat_of_zero_le h0
  rw [itoa_nat]
  exact dec_dig u
theorem sumB_lt (l : List UInt8) : sumB l < 9973 := Nat.mod_lt _ (by decide)
theorem lineOf_len (l : List UInt8) : (lineOf l).length ≤ l.length + 6 := by
  have := itoa_len (n := (sumB l : Nat)) (k := 4) (by omega) (by decide) (by have := sumB_lt l; omega)
  unfold lineOf
  simp only [List.length_append, List.length_cons, List.length_nil]
  omega
theorem wordP_len {k v : Int} (h : okPut k v) : (wordP k v).length ≤ 14 := by
  have h1 := itoa_len (n := k) (k := 7) h.1.1 (by decide) (by have := h.1.2; omega)
  have h2 := itoa_len (n := v) (k := 4) h.2.1 (by decide) (by have := h.2.2; omega)
  unfold wordP
  simp only [List.length_append, List.length_cons]
  omega
theorem wordG_len {k : Int} (h : 0 ≤ k ∧ k ≤ 1000000) : (wordG k).length ≤ 14 := by
  have h1 := itoa_len (n := k) (k := 7) h.1 (by decide) (by have := h.2; omega)
  unfold wordG
  simp only [List.length_cons]
  omega
theorem filter_keys (M : List (Int × Int)) (k : Int) : (M.filter fun p => p.1 != k).map (·.1) = (M.map (·.1)).filter (fun x => x != k) := by
  rw [List.filter_map]; rfl
theorem filter_nodup {M : List (Int × Int)} {k : Int} (h : (M.map (·.1)).Nodup) (v : Int) : (((k, v) :: M.filter fun p => p.1 != k).map (·.1)).Nodup := by
  rw [List.map_cons, filter_keys, List.nodup_cons]
  exact ⟨by simp, h.filter _⟩
theorem filter_len {M : List (Int × Int)} {k : Int} (hm : k ∈ M.map (·.1)) : (M.filter fun p => p.1 != k).length + 1 ≤ M.length := by
  obtain ⟨p, hp, rfl⟩ := List.mem_map.1 hm
  have h1 : (M.filter fun q => q.1 != p.1).length < M.length := by
    rcases Nat.lt_or_ge (M.filter fun q => q.1 != p.1).length M.length with h | h
    · exact h
    · have h2 := List.filter_sublist (p := fun q : Int × Int => q.1 != p.1) (l := M)
      have h3 := h2.eq_of_length_le h
      have h4 := List.filter_eq_self.1 h3 p hp
      simp at h4
  omega
theorem BkOk.put {slots : Nat} {s : Bk} (h : BkOk slots s) (h1 : 1 ≤ slots) {k v : Int} (he : putE s k v = 0) : BkOk slots (putB slots s k v) := by
  unfold putE at he
  split at he
  · cases he
  split at he
  · cases he
  rename_i hk hm
  have hk : okPut k v := by simpa using hk
  have hsub : (outM slots s k).Sublist s.M := by
    unfold outM; split
    · exact List.dropLast_sublist _
    · exact List.Sublist.refl _
  refine ⟨filter_nodup ((hsub.map _).nodup h.nod) v, ?_, ?_, ?_, ?_⟩
  · show (List.filter _ _).length + 1 ≤ slots
    by_cases hf : fullFor slots s k
    · have := List.length_filter_le (fun p : Int × Int => p.1 != k) (outM slots s k)
      unfold outM at this ⊢
      rw [if_pos hf] at this ⊢
      rw [List.length_dropLast] at this
      have := hf.2
      omega
    · by_cases hm : k ∈ s.keys
      · have := filter_len (M := s.M) (k := k) hm
        unfold outM
        rw [if_neg hf]
        have := h.len
        omega
      · have := List.length_filter_le (fun p : Int × Int => p.1 != k) (outM slots s k)
        unfold outM at this ⊢
        rw [if_neg hf] at this ⊢
        have h2 : s.M.length ≠ slots := fun e => hf ⟨hm, e⟩
        have := h.len
        omega
  · have := h.many
    show s.many + 1 ≤ 60
    omega
  · intro p hp
    rcases List.mem_cons.1 hp with rfl | hp
    · exact hk
    · exact h.rng p (hsub.subset (List.mem_filter.1 hp).1)
  · show (s.text ++ lineOf (wordP k v)).length ≤ 20 * (s.many + 1)
    have h2 := lineOf_len (wordP k v)
    have h3 := wordP_len hk
    have h4 := h.text
    rw [List.length_append]
    omega
theorem valOf_mem {s : Bk} {k : Int} (hk : k ∈ s.keys) : (k, valOf s k) ∈ s.M := by
  unfold valOf
  obtain ⟨p, hp, rfl⟩ := List.mem_map.1 hk
  cases hf : s.M.find? (fun q => q.1 == p.1) with
  | none =>
    have := List.find?_eq_none.1 hf p hp
    simp at this
  | some q =>
    have h1 := List.mem_of_find?_eq_some hf
    have h2 := List.find?_some hf
    simp at h2
    simp only [Option.map_some, Option.getD_some]
    rw [← h2]
    exact h1
theorem BkOk.get {slots : Nat} {s : Bk} (h : BkOk slots s) {k : Int} (he : getE s k = 0) : BkOk slots (getB s k) := by
  unfold getE at he
  split at he
  · cases he
  split at he
  · cases he
  rename_i hk hm
  have hk : k ∈ s.keys := by simpa using hk
  have hv := h.rng _ (valOf_mem hk)
  refine ⟨filter_nodup h.nod _, ?_, ?_, ?_, ?_⟩
  · show (List.filter _ _).length + 1 ≤ slots
    have := filter_len (M := s.M) (k := k) hk
    have := h.len
    omega
  · have := h.many
    show s.many + 1 ≤ 60
    omega
  · intro p hp
    rcases List.mem_cons.1 hp with rfl | hp
    · exact hv
    · exact h.rng p (List.mem_filter.1 hp).1
  · show (s.text ++ lineOf (wordG k)).length ≤ 20 * (s.many + 1)
    have h2 := lineOf_len (wordG k)
    have h3 : (wordG k).length ≤ 14 := wordG_len hv.1
    have h4 := h.text
    rw [List.length_append]
    omega
theorem BkOk.putS {slots : Nat} {s : Bk} (h : BkOk slots s) (h1 : 1 ≤ slots) (k v : Int) : BkOk slots (putS slots s k v) := by
  unfold Go.Proofs.YticckfioggeaeaaDoor.putS
  split
  · rename_i he; exact h.put h1 he
  · exact h
theorem BkOk.getS {slots : Nat} {s : Bk} (h : BkOk slots s) (k : Int) : BkOk slots (getS s k) := by
  unfold Go.Proofs.YticckfioggeaeaaDoor.getS
  split
  · rename_i he; exact h.get he
  · exact h

/-! ### Steps -/
def stepB (slots : Nat) (s : Bk) (l : List Int) : Bk := match l with
  | [k, v] => putS slots s k v
  | [k] => getS s k
  | _ => s
def runB (slots : Nat) (steps : List (List Int)) : Bk := steps.foldl (stepB slots) bk0
theorem runB_snoc (slots : Nat) (steps : List (List Int)) (l : List Int) : runB slots (steps ++ [l]) = stepB slots (runB slots steps) l := by simp [runB]
theorem stepB_ok {slots : Nat} {s : Bk} (h : BkOk slots s) (h1 : 1 ≤ slots) (l : List Int) : BkOk slots (stepB slots s l) := by
  unfold stepB
  split
  · exact h.putS h1 _ _
  · exact h.getS _
  · exact h
theorem runB_ok {slots : Nat} (h1 : 1 ≤ slots) (steps : List (List Int)) : BkOk slots (runB slots steps) := by
  have : ∀ (l : List (List Int)) (s : Bk), BkOk slots s → BkOk slots (l.foldl (stepB slots) s) := by
    intro l
    induction l with
    | nil => intro s h; exact h
    | cons x l ih => intro s h; exact ih _ (stepB_ok h h1 x)
  exact this steps _ (bk0_ok slots)
end Go.Proofs.YticckfioggeaeaaDoor
