/-
  Several texts in one (merged by wip/mergefix.py): BookNum, BookLaw, BookParse, DeskLaw, DeskFacts, ZLruLaw, TopBookLaw, BookRefLaw.
-/
import Derived.Lib.AtoiAll
import Derived.Lib.ItoaLen
set_option linter.unusedVariables false
set_option linter.unusedSimpArgs false
set_option linter.unnecessarySimpa false
/-
  Decimal numbers as bytes, plain.
-/
namespace Go.Proofs.YticckfioggeaeaaGreatDoor

/-- What digits spell. -/
def stepD (acc : Nat) (c : UInt8) : Nat := acc * 10 + (c.toNat - 48)
def valD (acc : Nat) (l : List UInt8) : Nat := l.foldl stepD acc
theorem valD_nil (acc : Nat) : valD acc [] = acc := rfl
theorem valD_cons' (acc : Nat) (c : UInt8) (l : List UInt8) : valD acc (c :: l) = valD (stepD acc c) l := by simp only [valD, List.foldl_cons]
def digs (l : List UInt8) : Prop := ∀ c ∈ l, 48 ≤ c.toNat ∧ c.toNat ≤ 57
theorem dig_toNat (d : Nat) (h : d < 10) : (UInt8.ofNat (48 + d)).toNat = 48 + d := by
  rw [UInt8.toNat_ofNat']; omega
theorem dec_small {u : Nat} (h : u < 10) : Lib.decDigits u = [UInt8.ofNat (48 + u)] := by rw [Lib.decDigits, dif_pos h]
theorem dec_big {u : Nat} (h : ¬ u < 10) : Lib.decDigits u = Lib.decDigits (u / 10) ++ [UInt8.ofNat (48 + u % 10)] := by rw [Lib.decDigits, dif_neg h]
theorem dec_dig (u : Nat) : digs (Lib.decDigits u) := by
  induction u using Nat.strongRecOn with
  | _ u ih =>
    intro c hc
    by_cases h : u < 10
    · rw [dec_small h, List.mem_singleton] at hc
      rw [hc, dig_toNat u h]; omega
    · rw [dec_big h, List.mem_append, List.mem_singleton] at hc
      rcases hc with hc | hc
      · exact ih (u / 10) (by omega) c hc
      · rw [hc, dig_toNat _ (by omega)]; omega
theorem dec_len (u : Nat) : (Lib.decDigits u).length = Lib.nDigits u := Lib.decDigits_length u
theorem dec_pos (u : Nat) : 1 ≤ (Lib.decDigits u).length := by rw [dec_len]; exact Lib.nDigits_pos u
theorem dec_ne (u : Nat) : Lib.decDigits u ≠ [] := fun h => by have := dec_pos u; rw [h] at this; simp at this
theorem valD_cons (acc : Nat) (c : UInt8) (l : List UInt8) : valD acc (c :: l) = valD (acc * 10 + (c.toNat - 48)) l := valD_cons' acc c l
theorem valD_one (acc : Nat) (c : UInt8) : valD acc [c] = acc * 10 + (c.toNat - 48) := by rw [valD_cons, valD_nil]
theorem valD_append (l r : List UInt8) (acc : Nat) : valD acc (l ++ r) = valD (valD acc l) r := by simp only [valD, List.foldl_append]
theorem valD_dec (u : Nat) : valD 0 (Lib.decDigits u) = u := by
  induction u using Nat.strongRecOn with
  | _ u ih =>
    by_cases h : u < 10
    · rw [dec_small h]
      rw [valD_one, dig_toNat u h]; omega
    · rw [dec_big h, valD_append, ih (u / 10) (by omega), valD_one, dig_toNat _ (show u % 10 < 10 by omega)]; omega
theorem dec_inj {u v : Nat} (h : Lib.decDigits u = Lib.decDigits v) : u = v := by rw [← valD_dec u, h, valD_dec]
theorem nDig_le {u k : Nat} (hk : 1 ≤ k) (h : u < 10 ^ k) : Lib.nDigits u ≤ k := by
  induction k generalizing u with
  | zero => omega
  | succ k ih =>
    by_cases h2 : u < 10
    · rw [Lib.nDigits_small h2]; omega
    · rw [Lib.nDigits_big h2]
      by_cases hk0 : k = 0
      · subst hk0; omega
      · have := ih (u := u / 10) (by omega) (by rw [Nat.pow_succ] at h; omega)
        omega
theorem dec_len_le {u k : Nat} (hk : 1 ≤ k) (h : u < 10 ^ k) : (Lib.decDigits u).length ≤ k := by rw [dec_len]; exact nDig_le hk h
theorem dec_len_gt {u k : Nat} (h : 10 ^ k ≤ u) : k + 1 ≤ (Lib.decDigits u).length := by
  rw [dec_len]
  have h1 := Lib.lt_pow_nDigits u
  rcases Nat.lt_or_ge k (Lib.nDigits u) with h2 | h2
  · exact h2
  · have := Nat.pow_le_pow_right (show 1 ≤ 10 by decide) h2; omega
theorem valD_mono : ∀ (l : List UInt8) (acc : Nat), acc ≤ valD acc l
  | [], _ => Nat.le_refl _
  | c :: l, acc => by
    have := valD_mono l (acc * 10 + (c.toNat - 48))
    rw [valD_cons]
    omega
theorem valD_lt : ∀ (l : List UInt8) (acc : Nat), digs l → valD acc l < (acc + 1) * 10 ^ l.length
  | [], acc, _ => by rw [valD_nil]; simp
  | c :: l, acc, h => by
    have h1 := h c (by simp)
    rw [valD_cons]
    obtain ⟨d, hd⟩ : ∃ d, d = c.toNat - 48 := ⟨_, rfl⟩
    rw [← hd]
    have h2 := valD_lt l (acc * 10 + d) (fun x hx => h x (by simp [hx]))
    have h4 : acc * 10 + d + 1 ≤ (acc + 1) * 10 := by omega
    have h3 := Nat.mul_le_mul_right (10 ^ l.length) h4
    rw [List.length_cons, Nat.pow_succ, Nat.mul_comm (10 ^ l.length) 10, ← Nat.mul_assoc]
    exact Nat.lt_of_lt_of_le h2 h3

/-- The number that a text is, if it is one, of 0 or more. -/
def numberM (l : List UInt8) : Option Int := if Lib.decDigits (valD 0 l) = l ∧ valD 0 l < 9223372036854775808 then some (valD 0 l : Nat) else none
theorem numberM_dec {u : Nat} (h : u < 9223372036854775808) : numberM (Lib.decDigits u) = some (u : Int) := by
  unfold numberM
  rw [valD_dec, if_pos ⟨rfl, h⟩]
theorem numberM_some {l : List UInt8} {n : Int} (h : numberM l = some n) : ∃ u : Nat, n = u ∧ u < 9223372036854775808 ∧ l = Lib.decDigits u := by
  unfold numberM at h
  split at h
  · rename_i hc
    injection h with h
    exact ⟨_, h.symm, hc.2, hc.1.symm⟩
  · cases h

/-! ### strconv.Atoi -/
theorem parse_digs : ∀ (l : List UInt8) (acc : Nat), digs l → valD acc l < 18446744073709551616 → Lib.parseUint10 acc l = .ok (valD acc l)
  | [], _, _, _ => rfl
  | c :: l, acc, h, hv => by
    have h1 := h c (by simp)
    have h2 := valD_mono l (acc * 10 + (c.toNat - 48))
    rw [valD_cons] at hv ⊢
    rw [Lib.parseUint10, if_pos h1, if_neg (by omega), if_neg (by omega)]
    exact parse_digs l _ (fun x hx => h x (by simp [hx])) hv
theorem atoi_digs {l : List UInt8} (hl : l ≠ []) (h : digs l) (hv : valD 0 l < 9223372036854775808) : Lib.atoiAll l = .ok (valD 0 l : Nat) := by
  cases l with
  | nil => exact absurd rfl hl
  | cons c r =>
    have h1 := h c (by simp)
    have h2 : Lib.parseMag (c :: r) = .ok (valD 0 (c :: r)) := by
      unfold Lib.parseMag
      rw [if_neg (by simp)]
      exact parse_digs _ _ h (by omega)
    unfold Lib.atoiAll
    simp only [if_neg (show ¬ (c.toNat = 43 ∨ c.toNat = 45) by omega), h2]
    rw [if_neg (by omega), if_neg (by omega), if_neg (by omega)]
theorem atoi_dec {u : Nat} (h : u < 9223372036854775808) : Lib.atoiAll (Lib.decDigits u) = .ok (u : Int) := by
  have := atoi_digs (dec_ne u) (dec_dig u) (by rw [valD_dec]; exact h)
  rw [valD_dec] at this
  exact this
theorem itoa_nat (u : Nat) : Lib.itoa (u : Int) = Lib.decDigits u := Lib.itoa_nonneg u
theorem numberM_atoi {l : List UInt8} {v : Int} (h : Lib.atoiAll l = .ok v) : numberM l = if 0 ≤ v ∧ Lib.itoa v = l then some v else none := by
  by_cases hc : 0 ≤ v ∧ Lib.itoa v = l
  · rw [if_pos hc]
    obtain ⟨h0, h1⟩ := hc
    obtain ⟨u, rfl⟩ := Int.eq_ofNat_of_zero_le h0
    have h63 : u < 9223372036854775808 := by
      unfold Lib.atoiAll at h
      split at h
      · cases h
      · simp only at h
        split at h
        · cases h
        · cases h
        · split at h
          · cases h
          · split at h
            · cases h
            · injection h with h
              split at h <;> omega
    rw [← h1, itoa_nat, numberM_dec h63]
  · rw [if_neg hc]
    cases hn : numberM l with
    | none => rfl
    | some n =>
      obtain ⟨u, rfl, h63, rfl⟩ := numberM_some hn
      rw [atoi_dec h63] at h
      injection h with h
      subst h
      exact absurd ⟨by omega, itoa_nat u⟩ hc
theorem numberM_atoi_no {l : List UInt8} (h : ∀ v, Lib.atoiAll l ≠ .ok v) : numberM l = none := by
  cases hn : numberM l with
  | none => rfl
  | some n =>
    obtain ⟨u, rfl, h63, rfl⟩ := numberM_some hn
    exact absurd (atoi_dec h63) (h _)
/-- A number of so many digits. -/
theorem numberM_len {l : List UInt8} {n : Int} (h : numberM l = some n) : 1 ≤ l.length ∧ l.length ≤ 19 := by
  obtain ⟨u, rfl, h63, rfl⟩ := numberM_some h
  exact ⟨dec_pos u, dec_len_le (by decide) (by omega)⟩
theorem numberM_digs {l : List UInt8} {n : Int} (h : numberM l = some n) : digs l ∧ n = (valD 0 l : Nat) := by
  obtain ⟨u, rfl, h63, rfl⟩ := numberM_some h
  exact ⟨dec_dig u, by rw [valD_dec]⟩
end Go.Proofs.YticckfioggeaeaaGreatDoor

/-
  A store that puts down what is put into it: plain.
-/
namespace Go.Proofs.YticckfioggeaeaaGreatDoor

/-! ### A line -/
def wsum (i : Nat) : List UInt8 → Nat
  | [] => 0
  | c :: r => (i + 1) * c.toNat + wsum (i + 1) r
def sumB (l : List UInt8) : Nat := wsum 0 l % 9973
def lineOf (word : List UInt8) : List UInt8 := word ++ (32 :: (Lib.itoa (sumB word) ++ [10]))
def wordP (k v : Int) : List UInt8 := 112 :: 32 :: (Lib.itoa k ++ (32 :: Lib.itoa v))
def wordG (k : Int) : List UInt8 := 103 :: 32 :: Lib.itoa k
theorem wsum_append : ∀ (l r : List UInt8) (i : Nat), wsum i (l ++ r) = wsum i l + wsum (i + l.length) r
  | [], r, i => by simp [wsum]
  | c :: l, r, i => by
    rw [List.cons_append, wsum, wsum, wsum_append l r (i + 1), List.length_cons, show i + (l.length + 1) = i + 1 + l.length by omega]
    omega
theorem wsum_le (b : Nat) : ∀ (l : List UInt8) (i : Nat), (∀ c ∈ l, c.toNat ≤ b) → wsum i l ≤ (i + l.length) * l.length * b
  | [], i, _ => by simp [wsum]
  | c :: l, i, h => by
    have h1 := h c (by simp)
    have h2 := wsum_le b l (i + 1) (fun x hx => h x (by simp [hx]))
    rw [wsum, List.length_cons]
    have h3 : (i + 1) * c.toNat ≤ (i + 1) * b := Nat.mul_le_mul_left _ h1
    have h4 : (i + 1) * b ≤ (i + 1 + l.length) * b := Nat.mul_le_mul_right _ (by omega)
    have h5 : (i + (l.length + 1)) * (l.length + 1) * b = (i + 1 + l.length) * l.length * b + (i + 1 + l.length) * b := by
      rw [show i + (l.length + 1) = i + 1 + l.length by omega, Nat.mul_succ, Nat.add_mul]
    omega

/-! ### The store -/
structure Bk where
  M : List (Int × Int)
  text : List UInt8
  many : Nat
def bk0 : Bk := ⟨[], [], 0⟩
def Bk.keys (s : Bk) : List Int := s.M.map (·.1)
def okPut (k v : Int) : Prop := (0 ≤ k ∧ k ≤ 1000000) ∧ 0 ≤ v ∧ v ≤ 1000
instance (k v : Int) : Decidable (okPut k v) := by unfold okPut; infer_instance
/-- Is there no room for a key? -/
def fullFor (slots : Nat) (s : Bk) (k : Int) : Prop := k ∉ s.keys ∧ s.M.length = slots
instance (slots : Nat) (s : Bk) (k : Int) : Decidable (fullFor slots s k) := by unfold fullFor; infer_instance
def outM (slots : Nat) (s : Bk) (k : Int) : List (Int × Int) := if fullFor slots s k then s.M.dropLast else s.M
def letGo (slots : Nat) (s : Bk) (k : Int) : Int := if fullFor slots s k then (s.keys.getLast?).getD 0 else -1
def putB (slots : Nat) (s : Bk) (k v : Int) : Bk := ⟨(k, v) :: (outM slots s k).filter (fun p => p.1 != k), s.text ++ lineOf (wordP k v), s.many + 1⟩
def putE (s : Bk) (k v : Int) : Int := if ¬ okPut k v then 1 else if s.many = 60 then 4 else 0
def putS (slots : Nat) (s : Bk) (k v : Int) : Bk := if putE s k v = 0 then putB slots s k v else s
def putV (slots : Nat) (s : Bk) (k v : Int) : Int := if putE s k v = 0 then letGo slots s k else 0
def valOf (s : Bk) (k : Int) : Int := ((s.M.find? (fun p => p.1 == k)).map (·.2)).getD 0
def getB (s : Bk) (k : Int) : Bk := ⟨(k, valOf s k) :: s.M.filter (fun p => p.1 != k), s.text ++ lineOf (wordG k), s.many + 1⟩
def getE (s : Bk) (k : Int) : Int := if k ∉ s.keys then 5 else if s.many = 60 then 4 else 0
def getS (s : Bk) (k : Int) : Bk := if getE s k = 0 then getB s k else s
def getV (s : Bk) (k : Int) : Int := if getE s k = 0 then valOf s k else 0

structure BkOk (slots : Nat) (s : Bk) : Prop where
  nod : s.keys.Nodup
  len : s.M.length ≤ slots
  many : s.many ≤ 60
  rng : ∀ p ∈ s.M, okPut p.1 p.2
  text : s.text.length ≤ 20 * s.many
theorem bk0_ok (slots : Nat) : BkOk slots bk0 := ⟨by simp [bk0, Bk.keys], by simp [bk0], by simp [bk0], by simp [bk0], by simp [bk0]⟩
theorem itoa_len {n : Int} {k : Nat} (h0 : 0 ≤ n) (hk : 1 ≤ k) (h : n < (10 ^ k : Nat)) : (Lib.itoa n).length ≤ k := by
  obtain ⟨u, rfl⟩ := Int.eq_ofNat_of_zero_le h0
  rw [itoa_nat]
  exact dec_len_le hk (by omega)
theorem itoa_dig {n : Int} (h0 : 0 ≤ n) : digs (Lib.itoa n) := by
  obtain ⟨u, rfl⟩ := Int.eq_ofNat_of_zero_le h0
  rw [itoa_nat]
  exact dec_dig u
theorem sumB_lt (l : List UInt8) : sumB l < 9973 := Nat.mod_lt _ (by decide)
theorem lineOf_len (l : List UInt8) : (lineOf l).length ≤ l.length + 6 := by
  have := itoa_len (n := (sumB l : Nat)) (k := 4) (by omega) (by decide) (by have := sumB_lt l; omega)
  unfold lineOf
  simp only [List.length_append, List.length_cons, List.length_nil]
  omega
theorem wordP_len {k v : Int} (h : okPut k v) : (wordP k v).length ≤ 14 := by
  have h1 := itoa_len (n := k) (k := 7) h.1.1 (by decide) (by have := h.1.2; omega)
  have h2 := itoa_len (n := v) (k := 4) h.2.1 (by decide) (by have := h.2.2; omega)
  unfold wordP
  simp only [List.length_append, List.length_cons]
  omega
theorem wordG_len {k : Int} (h : 0 ≤ k ∧ k ≤ 1000000) : (wordG k).length ≤ 14 := by
  have h1 := itoa_len (n := k) (k := 7) h.1 (by decide) (by have := h.2; omega)
  unfold wordG
  simp only [List.length_cons]
  omega
theorem filter_keys (M : List (Int × Int)) (k : Int) : (M.filter fun p => p.1 != k).map (·.1) = (M.map (·.1)).filter (fun x => x != k) := by
  rw [List.filter_map]; rfl
theorem filter_nodup {M : List (Int × Int)} {k : Int} (h : (M.map (·.1)).Nodup) (v : Int) : (((k, v) :: M.filter fun p => p.1 != k).map (·.1)).Nodup := by
  rw [List.map_cons, filter_keys, List.nodup_cons]
  exact ⟨by simp, h.filter _⟩
theorem filter_len {M : List (Int × Int)} {k : Int} (hm : k ∈ M.map (·.1)) : (M.filter fun p => p.1 != k).length + 1 ≤ M.length := by
  obtain ⟨p, hp, rfl⟩ := List.mem_map.1 hm
  have h1 : (M.filter fun q => q.1 != p.1).length < M.length := by
    rcases Nat.lt_or_ge (M.filter fun q => q.1 != p.1).length M.length with h | h
    · exact h
    · have h2 := List.filter_sublist (p := fun q : Int × Int => q.1 != p.1) (l := M)
      have h3 := h2.eq_of_length_le h
      have h4 := List.filter_eq_self.1 h3 p hp
      simp at h4
  omega
theorem BkOk.put {slots : Nat} {s : Bk} (h : BkOk slots s) (h1 : 1 ≤ slots) {k v : Int} (he : putE s k v = 0) : BkOk slots (putB slots s k v) := by
  unfold putE at he
  split at he
  · cases he
  split at he
  · cases he
  rename_i hk hm
  have hk : okPut k v := by simpa using hk
  have hsub : (outM slots s k).Sublist s.M := by
    unfold outM; split
    · exact List.dropLast_sublist _
    · exact List.Sublist.refl _
  refine ⟨filter_nodup ((hsub.map _).nodup h.nod) v, ?_, ?_, ?_, ?_⟩
  · show (List.filter _ _).length + 1 ≤ slots
    by_cases hf : fullFor slots s k
    · have := List.length_filter_le (fun p : Int × Int => p.1 != k) (outM slots s k)
      unfold outM at this ⊢
      rw [if_pos hf] at this ⊢
      rw [List.length_dropLast] at this
      have := hf.2
      omega
    · by_cases hm : k ∈ s.keys
      · have := filter_len (M := s.M) (k := k) hm
        unfold outM
        rw [if_neg hf]
        have := h.len
        omega
      · have := List.length_filter_le (fun p : Int × Int => p.1 != k) (outM slots s k)
        unfold outM at this ⊢
        rw [if_neg hf] at this ⊢
        have h2 : s.M.length ≠ slots := fun e => hf ⟨hm, e⟩
        have := h.len
        omega
  · have := h.many
    show s.many + 1 ≤ 60
    omega
  · intro p hp
    rcases List.mem_cons.1 hp with rfl | hp
    · exact hk
    · exact h.rng p (hsub.subset (List.mem_filter.1 hp).1)
  · show (s.text ++ lineOf (wordP k v)).length ≤ 20 * (s.many + 1)
    have h2 := lineOf_len (wordP k v)
    have h3 := wordP_len hk
    have h4 := h.text
    rw [List.length_append]
    omega
theorem valOf_mem {s : Bk} {k : Int} (hk : k ∈ s.keys) : (k, valOf s k) ∈ s.M := by
  unfold valOf
  obtain ⟨p, hp, rfl⟩ := List.mem_map.1 hk
  cases hf : s.M.find? (fun q => q.1 == p.1) with
  | none =>
    have := List.find?_eq_none.1 hf p hp
    simp at this
  | some q =>
    have h1 := List.mem_of_find?_eq_some hf
    have h2 := List.find?_some hf
    simp at h2
    simp only [Option.map_some, Option.getD_some]
    rw [← h2]
    exact h1
theorem BkOk.get {slots : Nat} {s : Bk} (h : BkOk slots s) {k : Int} (he : getE s k = 0) : BkOk slots (getB s k) := by
  unfold getE at he
  split at he
  · cases he
  split at he
  · cases he
  rename_i hk hm
  have hk : k ∈ s.keys := by simpa using hk
  have hv := h.rng _ (valOf_mem hk)
  refine ⟨filter_nodup h.nod _, ?_, ?_, ?_, ?_⟩
  · show (List.filter _ _).length + 1 ≤ slots
    have := filter_len (M := s.M) (k := k) hk
    have := h.len
    omega
  · have := h.many
    show s.many + 1 ≤ 60
    omega
  · intro p hp
    rcases List.mem_cons.1 hp with rfl | hp
    · exact hv
    · exact h.rng p (List.mem_filter.1 hp).1
  · show (s.text ++ lineOf (wordG k)).length ≤ 20 * (s.many + 1)
    have h2 := lineOf_len (wordG k)
    have h3 : (wordG k).length ≤ 14 := wordG_len hv.1
    have h4 := h.text
    rw [List.length_append]
    omega
theorem BkOk.putS {slots : Nat} {s : Bk} (h : BkOk slots s) (h1 : 1 ≤ slots) (k v : Int) : BkOk slots (putS slots s k v) := by
  unfold Go.Proofs.YticckfioggeaeaaGreatDoor.putS
  split
  · rename_i he; exact h.put h1 he
  · exact h
theorem BkOk.getS {slots : Nat} {s : Bk} (h : BkOk slots s) (k : Int) : BkOk slots (getS s k) := by
  unfold Go.Proofs.YticckfioggeaeaaGreatDoor.getS
  split
  · rename_i he; exact h.get he
  · exact h

/-! ### Steps -/
def stepB (slots : Nat) (s : Bk) (l : List Int) : Bk := match l with
  | [k, v] => putS slots s k v
  | [k] => getS s k
  | _ => s
def runB (slots : Nat) (steps : List (List Int)) : Bk := steps.foldl (stepB slots) bk0
theorem runB_snoc (slots : Nat) (steps : List (List Int)) (l : List Int) : runB slots (steps ++ [l]) = stepB slots (runB slots steps) l := by simp [runB]
theorem stepB_ok {slots : Nat} {s : Bk} (h : BkOk slots s) (h1 : 1 ≤ slots) (l : List Int) : BkOk slots (stepB slots s l) := by
  unfold stepB
  split
  · exact h.putS h1 _ _
  · exact h.getS _
  · exact h
theorem runB_ok {slots : Nat} (h1 : 1 ≤ slots) (steps : List (List Int)) : BkOk slots (runB slots steps) := by
  have : ∀ (l : List (List Int)) (s : Bk), BkOk slots s → BkOk slots (l.foldl (stepB slots) s) := by
    intro l
    induction l with
    | nil => intro s h; exact h
    | cons x l ih => intro s h; exact ih _ (stepB_ok h h1 x)
  exact this steps _ (bk0_ok slots)
end Go.Proofs.YticckfioggeaeaaGreatDoor

/-
  What was put down, read again: plain.
-/
namespace Go.Proofs.YticckfioggeaeaaGreatDoor

def lastCut : List UInt8 → Option (List UInt8 × List UInt8)
  | [] => none
  | c :: r => match lastCut r with
    | some p => some (c :: p.1, p.2)
    | none => if c = 32 then some ([], r) else none
theorem lastCut_no : ∀ {l : List UInt8}, 32 ∉ l → lastCut l = none
  | [], _ => rfl
  | c :: l, h => by
    have h1 := lastCut_no (l := l) (fun hm => h (by simp [hm]))
    rw [lastCut, h1]
    simp only
    rw [if_neg (fun e => h (by simp [e]))]
theorem lastCut_mk : ∀ (a b : List UInt8), 32 ∉ b → lastCut (a ++ 32 :: b) = some (a, b)
  | [], b, h => by rw [List.nil_append, lastCut, lastCut_no h]; simp
  | c :: a, b, h => by rw [List.cons_append, lastCut, lastCut_mk a b h]
theorem lastCut_some : ∀ {l a b : List UInt8}, lastCut l = some (a, b) → l = a ++ 32 :: b ∧ 32 ∉ b
  | [], a, b, h => by simp [lastCut] at h
  | c :: l, a, b, h => by
    rw [lastCut] at h
    cases hl : lastCut l with
    | some p =>
      rw [hl] at h
      simp only [Option.some.injEq, Prod.mk.injEq] at h
      obtain ⟨rfl, rfl⟩ := h
      obtain ⟨e, hn⟩ := lastCut_some (l := l) (a := p.1) (b := p.2) hl
      exact ⟨by rw [List.cons_append, ← e], hn⟩
    | none =>
      rw [hl] at h
      simp only at h
      split at h
      · rename_i hc
        simp only [Option.some.injEq, Prod.mk.injEq] at h
        obtain ⟨rfl, rfl⟩ := h
        refine ⟨by rw [hc]; rfl, fun hm => ?_⟩
        obtain ⟨a, b, e⟩ := List.append_of_mem hm
        have : ∀ (b : List UInt8) (a : List UInt8), ∃ p, lastCut (a ++ 32 :: b) = some p := by
          intro b a
          induction a with
          | nil =>
            rw [List.nil_append, lastCut]
            cases lastCut b with
            | some p => exact ⟨_, rfl⟩
            | none => exact ⟨([], b), by simp⟩
          | cons x a ih =>
            obtain ⟨p, hp⟩ := ih
            exact ⟨(x :: p.1, p.2), by rw [List.cons_append, lastCut, hp]⟩
        obtain ⟨p, hp⟩ := this b a
        rw [← e, hl] at hp
        cases hp
      · cases h
theorem lastCut_none {l : List UInt8} (h : lastCut l = none) : 32 ∉ l := fun hm => by
  have key : ∀ l : List UInt8, 32 ∈ l → ∃ p, lastCut l = some p := by
    intro l
    induction l with
    | nil => intro h; simp at h
    | cons x l ih =>
      intro h
      rw [lastCut]
      cases hl : lastCut l with
      | some p => exact ⟨_, rfl⟩
      | none =>
        simp only
        by_cases e : x = 32
        · exact ⟨_, by rw [if_pos e]⟩
        · obtain ⟨p, hp⟩ := ih (by simpa [show ¬ 32 = x from fun h => e h.symm] using h)
          rw [hl] at hp; cases hp
  obtain ⟨p, hp⟩ := key l hm
  rw [h] at hp; cases hp

def cutAt (c : UInt8) : List UInt8 → List (List UInt8)
  | [] => [[]]
  | x :: r => if x = c then [] :: cutAt c r else (x :: (cutAt c r).headD []) :: (cutAt c r).tail
theorem cutAt_ne (c : UInt8) (l : List UInt8) : cutAt c l ≠ [] := by
  cases l with
  | nil => simp [cutAt]
  | cons x r => rw [cutAt]; split <;> simp
theorem cutAt_parts (c : UInt8) (l : List UInt8) : ∃ w ws, cutAt c l = w :: ws := List.exists_cons_of_ne_nil (cutAt_ne c l)
theorem cutAt_no {c : UInt8} : ∀ {l : List UInt8}, c ∉ l → cutAt c l = [l]
  | [], _ => rfl
  | x :: l, h => by
    have h1 := cutAt_no (c := c) (l := l) (fun hm => h (by simp [hm]))
    rw [cutAt, if_neg (fun e => h (by simp [e])), h1]
    rfl
theorem cutAt_app {c : UInt8} : ∀ {l : List UInt8} (r : List UInt8), c ∉ l → cutAt c (l ++ c :: r) = l :: cutAt c r
  | [], r, _ => by rw [List.nil_append, cutAt, if_pos rfl]
  | x :: l, r, h => by
    have h1 := cutAt_app (c := c) (l := l) r (fun hm => h (by simp [hm]))
    rw [List.cons_append, cutAt, if_neg (fun e => h (by simp [e])), h1]
    rfl
theorem dropLast_snoc {α : Type} (l : List α) (x : α) : (l ++ [x]).dropLast = l := by simp
theorem cutAt_append (c : UInt8) : ∀ (a b : List UInt8), ∃ x y t, cutAt c a = (cutAt c a).dropLast ++ [x] ∧ cutAt c b = y :: t ∧ cutAt c (a ++ b) = (cutAt c a).dropLast ++ ((x ++ y) :: t)
  | [], b => by
    obtain ⟨w, ws, h⟩ := cutAt_parts c b
    exact ⟨[], w, ws, rfl, h, by simp [cutAt, h]⟩
  | z :: a, b => by
    obtain ⟨x, y, t, h1, h2, h3⟩ := cutAt_append c a b
    obtain ⟨D, hD⟩ : ∃ D, D = (cutAt c a).dropLast := ⟨_, rfl⟩
    rw [← hD] at h1 h3
    by_cases e : z = c
    · have h4 : cutAt c (z :: a) = ([] :: D) ++ [x] := by rw [cutAt, if_pos e, h1]; rfl
      have h5 : cutAt c (z :: (a ++ b)) = ([] :: D) ++ ((x ++ y) :: t) := by rw [cutAt, if_pos e, h3]; rfl
      refine ⟨x, y, t, ?_, h2, ?_⟩
      · rw [h4, dropLast_snoc]
      · rw [List.cons_append, h5, h4, dropLast_snoc]
    · cases D with
      | nil =>
        have h4 : cutAt c (z :: a) = [] ++ [z :: x] := by rw [cutAt, if_neg e, h1]; rfl
        have h5 : cutAt c (z :: (a ++ b)) = [] ++ ((z :: x ++ y) :: t) := by rw [cutAt, if_neg e, h3]; rfl
        refine ⟨z :: x, y, t, ?_, h2, ?_⟩
        · rw [h4, dropLast_snoc]
        · rw [List.cons_append, h5, h4, dropLast_snoc]
      | cons d ds =>
        have h4 : cutAt c (z :: a) = ((z :: d) :: ds) ++ [x] := by rw [cutAt, if_neg e, h1]; rfl
        have h5 : cutAt c (z :: (a ++ b)) = ((z :: d) :: ds) ++ ((x ++ y) :: t) := by rw [cutAt, if_neg e, h3]; rfl
        refine ⟨x, y, t, ?_, h2, ?_⟩
        · rw [h4, dropLast_snoc]
        · rw [List.cons_append, h5, h4, dropLast_snoc]
theorem cutAt_len (c : UInt8) : ∀ l : List UInt8, (cutAt c l).length = l.count c + 1
  | [] => by simp [cutAt]
  | x :: l => by
    have := cutAt_len c l
    rw [cutAt]
    by_cases e : x = c
    · subst e; rw [if_pos rfl, List.length_cons, this, List.count_cons_self]
    · rw [if_neg e, List.length_cons, List.length_tail, this, List.count_cons_of_ne (fun h => e h)]
      omega
/-- The whole lines of a text. -/
def lns (l : List UInt8) : List (List UInt8) := (cutAt 10 l).dropLast
theorem lns_prefix (a b : List UInt8) : ∃ r, lns (a ++ b) = lns a ++ r := by
  obtain ⟨x, y, t, h1, h2, h3⟩ := cutAt_append 10 a b
  refine ⟨((x ++ y) :: t).dropLast, ?_⟩
  unfold lns
  rw [h3, List.dropLast_append_of_ne_nil (by simp)]
theorem lns_len (l : List UInt8) : (lns l).length = l.count 10 := by
  unfold lns; rw [List.length_dropLast, cutAt_len]; omega
theorem lns_take (l : List UInt8) (n : Nat) : lns (l.take n) = (lns l).take ((l.take n).count 10) := by
  obtain ⟨r, hr⟩ := lns_prefix (l.take n) (l.drop n)
  rw [List.take_append_drop] at hr
  rw [hr, ← lns_len, List.take_left]
theorem lns_line {l : List UInt8} (h : 10 ∉ l) (r : List UInt8) : lns (l ++ 10 :: r) = l :: lns r := by
  unfold lns
  rw [cutAt_app r h]
  obtain ⟨w, ws, e⟩ := cutAt_parts 10 r
  rw [e]
  rfl

/-! ### A line read -/
def numsM : List (List UInt8) → Option (List Int)
  | [] => some []
  | w :: r => match numberM w with
    | none => none
    | some n => match numsM r with
      | none => none
      | some ns => some (n :: ns)
def opM (slots : Nat) (s : Bk) (w : List UInt8) (nums : List Int) : Bk × Int :=
  if w = [112] ∧ nums.length = 2 then (putS slots s (nums.getD 0 0) (nums.getD 1 0), putE s (nums.getD 0 0) (nums.getD 1 0))
  else if w = [103] ∧ nums.length = 1 then (getS s (nums.getD 0 0), getE s (nums.getD 0 0)) else (s, 2)
def lineM (slots : Nat) (s : Bk) (l : List UInt8) : Bk × Int :=
  match lastCut l with
  | none => (s, 2)
  | some p => match numberM p.2 with
    | none => (s, 2)
    | some n => if n ≠ (sumB p.1 : Nat) then (s, 6) else
      match numsM (cutAt 32 p.1).tail with
      | none => (s, 2)
      | some nums => opM slots s ((cutAt 32 p.1).headD []) nums
/-- The store behind some lines; how many lines, or in which one something is wrong; what is wrong. -/
def openL (slots : Nat) : Bk → List (List UInt8) → Bk × Int × Int
  | s, [] => (s, (s.many : Nat), 0)
  | s, l :: r => if (lineM slots s l).2 ≠ 0 then (s, (s.many : Nat) + 1, (lineM slots s l).2) else openL slots (lineM slots s l).1 r

theorem digs_no {l : List UInt8} (h : digs l) (c : UInt8) (hc : c.toNat < 48) : c ∉ l := fun hm => by have := h c hm; omega
def putLine (k v : Int) : List UInt8 := wordP k v ++ (32 :: Lib.itoa (sumB (wordP k v) : Nat))
def getLine (k : Int) : List UInt8 := wordG k ++ (32 :: Lib.itoa (sumB (wordG k) : Nat))
theorem lineOf_nl (w : List UInt8) : lineOf w = (w ++ (32 :: Lib.itoa (sumB w : Nat))) ++ [10] := by simp [lineOf]
theorem lineM_word (slots : Nat) (s : Bk) (w : List UInt8) (nums : List Int) (h : numsM (cutAt 32 w).tail = some nums) : lineM slots s (w ++ (32 :: Lib.itoa (sumB w : Nat))) = opM slots s ((cutAt 32 w).headD []) nums := by
  have h1 := lastCut_mk w (Lib.itoa (sumB w : Nat)) (digs_no (itoa_dig (by omega)) 32 (by decide))
  have h2 : numberM (Lib.itoa (sumB w : Nat)) = some (sumB w : Nat) := by rw [itoa_nat]; exact numberM_dec (by have := sumB_lt w; omega)
  unfold lineM
  rw [h1]
  show (match numberM (Lib.itoa ↑(sumB w)) with
    | none => (s, 2)
    | some n => if n ≠ (sumB w : Nat) then (s, 6) else
      match numsM (cutAt 32 w).tail with
      | none => (s, 2)
      | some nums => opM slots s ((cutAt 32 w).headD []) nums) = _
  rw [h2]
  show (if ((sumB w : Nat) : Int) ≠ (sumB w : Nat) then (s, 6) else
      match numsM (cutAt 32 w).tail with
      | none => (s, 2)
      | some nums => opM slots s ((cutAt 32 w).headD []) nums) = _
  rw [if_neg (by simp), h]
theorem numberM_itoa {n : Int} (h0 : 0 ≤ n) (h : n < 9223372036854775808) : numberM (Lib.itoa n) = some n := by
  obtain ⟨u, rfl⟩ := Int.eq_ofNat_of_zero_le h0
  rw [itoa_nat]
  exact numberM_dec (by omega)
theorem cut_wordP {k v : Int} (hk : 0 ≤ k) (hv : 0 ≤ v) : cutAt 32 (wordP k v) = [[112], Lib.itoa k, Lib.itoa v] := by
  have h1 := cutAt_app (c := 32) (l := [112]) (Lib.itoa k ++ (32 :: Lib.itoa v)) (by decide)
  have h2 := cutAt_app (c := 32) (l := Lib.itoa k) (Lib.itoa v) (digs_no (itoa_dig hk) 32 (by decide))
  have h3 := cutAt_no (c := 32) (l := Lib.itoa v) (digs_no (itoa_dig hv) 32 (by decide))
  unfold wordP
  rw [show (112 :: 32 :: (Lib.itoa k ++ (32 :: Lib.itoa v)) : List UInt8) = [112] ++ 32 :: (Lib.itoa k ++ (32 :: Lib.itoa v)) from rfl, h1, h2, h3]
theorem cut_wordG {k : Int} (hk : 0 ≤ k) : cutAt 32 (wordG k) = [[103], Lib.itoa k] := by
  have h1 := cutAt_app (c := 32) (l := [103]) (Lib.itoa k) (by decide)
  have h3 := cutAt_no (c := 32) (l := Lib.itoa k) (digs_no (itoa_dig hk) 32 (by decide))
  unfold wordG
  rw [show (103 :: 32 :: Lib.itoa k : List UInt8) = [103] ++ 32 :: Lib.itoa k from rfl, h1, h3]
theorem line_put (slots : Nat) (s : Bk) {k v : Int} (h : okPut k v) : lineM slots s (putLine k v) = (putS slots s k v, putE s k v) := by
  have hn : numsM (cutAt 32 (wordP k v)).tail = some [k, v] := by
    rw [cut_wordP h.1.1 h.2.1]
    simp only [List.tail_cons, numsM, numberM_itoa h.1.1 (by have := h.1.2; omega), numberM_itoa h.2.1 (by have := h.2.2; omega)]
  unfold putLine
  rw [lineM_word slots s _ _ hn, cut_wordP h.1.1 h.2.1]
  simp [opM]
theorem line_get (slots : Nat) (s : Bk) {k : Int} (h : 0 ≤ k ∧ k ≤ 1000000) : lineM slots s (getLine k) = (getS s k, getE s k) := by
  have hn : numsM (cutAt 32 (wordG k)).tail = some [k] := by
    rw [cut_wordG h.1]
    simp only [List.tail_cons, numsM, numberM_itoa h.1 (by have := h.2; omega)]
  unfold getLine
  rw [lineM_word slots s _ _ hn, cut_wordG h.1]
  simp [opM]

/-! ### What was done, as a list of what succeeded -/
def errStep (s : Bk) (l : List Int) : Int := match l with
  | [k, v] => putE s k v
  | [k] => getE s k
  | _ => 1
def stepLine (l : List Int) : List UInt8 := match l with
  | [k, v] => putLine k v
  | [k] => getLine k
  | _ => []
theorem errStep_none {slots : Nat} {s : Bk} {l : List Int} (h : errStep s l ≠ 0) : stepB slots s l = s := by
  unfold stepB
  split
  · simp only [errStep] at h; unfold putS; rw [if_neg h]
  · simp only [errStep] at h; unfold getS; rw [if_neg h]
  · rfl
theorem line_nl {l : List UInt8} {w : List UInt8} (e : l = w ++ (32 :: Lib.itoa (sumB w : Nat))) (hw : 10 ∉ w) : 10 ∉ l := by
  rw [e, List.mem_append, List.mem_cons]
  rintro (h | h | h)
  · exact hw h
  · exact absurd h (by decide)
  · exact digs_no (itoa_dig (by omega)) 10 (by decide) h
theorem wordP_nl {k v : Int} (hk : 0 ≤ k) (hv : 0 ≤ v) : 10 ∉ wordP k v := by
  have h1 := digs_no (itoa_dig hk) 10 (by decide)
  have h2 := digs_no (itoa_dig hv) 10 (by decide)
  unfold wordP
  simp [h1, h2]
theorem wordG_nl {k : Int} (hk : 0 ≤ k) : 10 ∉ wordG k := by
  have h1 := digs_no (itoa_dig hk) 10 (by decide)
  unfold wordG
  simp [h1]
theorem step_ok {slots : Nat} {s : Bk} (hok : BkOk slots s) {l : List Int} (h : errStep s l = 0) :
    (stepB slots s l).text = s.text ++ (stepLine l ++ [10]) ∧ (stepB slots s l).many = s.many + 1 ∧ lineM slots s (stepLine l) = (stepB slots s l, 0) ∧ 10 ∉ stepLine l := by
  match l, h with
  | [k, v], h =>
    have h' : putE s k v = 0 := h
    have hk : okPut k v := by
      unfold putE at h'
      split at h'
      · cases h'
      · rename_i h2; simpa using h2
    refine ⟨?_, ?_, ?_, line_nl rfl (wordP_nl hk.1.1 hk.2.1)⟩
    · show (putS slots s k v).text = _
      unfold putS
      rw [if_pos h']
      show s.text ++ lineOf (wordP k v) = _
      rw [lineOf_nl]; rfl
    · show (putS slots s k v).many = _
      unfold putS
      rw [if_pos h']; rfl
    · show lineM slots s (putLine k v) = _
      rw [line_put slots s hk, h']; rfl
  | [k], h =>
    have h' : getE s k = 0 := h
    have hk : 0 ≤ k ∧ k ≤ 1000000 := by
      unfold getE at h'
      split at h'
      · cases h'
      · rename_i h2
        have h3 : k ∈ s.keys := by simpa using h2
        obtain ⟨p, hp, rfl⟩ := List.mem_map.1 h3
        exact (hok.rng p hp).1
    refine ⟨?_, ?_, ?_, line_nl rfl (wordG_nl hk.1)⟩
    · show (getS s k).text = _
      unfold getS
      rw [if_pos h']
      show s.text ++ lineOf (wordG k) = _
      rw [lineOf_nl]; rfl
    · show (getS s k).many = _
      unfold getS
      rw [if_pos h']; rfl
    · show lineM slots s (getLine k) = _
      rw [line_get slots s hk, h']; rfl
  | [], h => simp [errStep] at h
  | a :: b :: c :: r, h => simp [errStep] at h
def foldB (slots : Nat) (s : Bk) (steps : List (List Int)) : Bk := steps.foldl (stepB slots) s
theorem foldB_cons (slots : Nat) (s : Bk) (l : List Int) (r : List (List Int)) : foldB slots s (l :: r) = foldB slots (stepB slots s l) r := rfl
def logB (slots : Nat) (s : Bk) : List (List Int) → List (List Int)
  | [] => []
  | l :: r => if errStep s l = 0 then l :: logB slots (stepB slots s l) r else logB slots s r
def good (slots : Nat) (s : Bk) : List (List Int) → Prop
  | [] => True
  | l :: r => errStep s l = 0 ∧ good slots (stepB slots s l) r
theorem log_fold (slots : Nat) : ∀ (r : List (List Int)) (s : Bk), foldB slots s (logB slots s r) = foldB slots s r ∧ good slots s (logB slots s r)
  | [], s => ⟨rfl, trivial⟩
  | l :: r, s => by
    rw [logB]
    by_cases h : errStep s l = 0
    · rw [if_pos h]
      obtain ⟨h1, h2⟩ := log_fold slots r (stepB slots s l)
      exact ⟨by rw [foldB_cons, foldB_cons, h1], h, h2⟩
    · rw [if_neg h]
      obtain ⟨h1, h2⟩ := log_fold slots r s
      exact ⟨by rw [foldB_cons, errStep_none h, h1], h2⟩
theorem good_take {slots : Nat} : ∀ (r : List (List Int)) (s : Bk) (n : Nat), good slots s r → good slots s (r.take n)
  | [], s, n, _ => by simp [good]
  | l :: r, s, 0, _ => by simp [good]
  | l :: r, s, n + 1, h => ⟨h.1, good_take r _ n h.2⟩
theorem good_text {slots : Nat} (h1 : 1 ≤ slots) : ∀ (r : List (List Int)) (s : Bk), BkOk slots s → good slots s r →
    (foldB slots s r).text = s.text ++ (r.map fun l => stepLine l ++ [10]).flatten ∧ (foldB slots s r).many = s.many + r.length ∧ openL slots s (r.map stepLine) = (foldB slots s r, ((s.many + r.length : Nat) : Int), 0) ∧ ∀ l ∈ r, 10 ∉ stepLine l
  | [], s, _, _ => by simp [foldB, openL]
  | l :: r, s, hok, h => by
    obtain ⟨a1, a2, a3, a4⟩ := step_ok hok h.1
    obtain ⟨b1, b2, b3, b4⟩ := good_text h1 r (stepB slots s l) (stepB_ok hok h1 l) h.2
    refine ⟨?_, ?_, ?_, ?_⟩
    · rw [foldB_cons, b1, a1]; simp
    · rw [foldB_cons, b2, a2, List.length_cons]; omega
    · rw [List.map_cons, openL, a3]
      simp only
      rw [if_neg (by simp), b3, foldB_cons, a2, List.length_cons, show s.many + 1 + r.length = s.many + (r.length + 1) by omega]
    · intro x hx
      rcases List.mem_cons.1 hx with rfl | hx
      · exact a4
      · exact b4 x hx
theorem lns_lines : ∀ (r : List (List Int)), (∀ l ∈ r, 10 ∉ stepLine l) → lns ((r.map fun l => stepLine l ++ [10]).flatten) = r.map stepLine
  | [], _ => rfl
  | l :: r, h => by
    rw [List.map_cons, List.flatten_cons, List.append_assoc, List.singleton_append, lns_line (h l (by simp)), lns_lines r (fun x hx => h x (by simp [hx])), List.map_cons]
/-- Of any beginning of what was put down just the whole lines are done. -/
theorem open_torn {slots : Nat} (h1 : 1 ≤ slots) (steps : List (List Int)) (n : Nat) :
    openL slots bk0 (lns ((runB slots steps).text.take n)) = (foldB slots bk0 ((logB slots bk0 steps).take (((runB slots steps).text.take n).count 10)), ((((runB slots steps).text.take n).count 10 : Nat) : Int), 0) ∧ ((runB slots steps).text.take n).count 10 ≤ (logB slots bk0 steps).length := by
  obtain ⟨e1, hg⟩ := log_fold slots steps bk0
  obtain ⟨t1, t2, t3, t4⟩ := good_text h1 _ bk0 (bk0_ok slots) hg
  have ht : (runB slots steps).text = ((logB slots bk0 steps).map fun l => stepLine l ++ [10]).flatten := by
    have : runB slots steps = foldB slots bk0 steps := rfl
    rw [this, ← e1, t1]; rfl
  have hl := lns_lines _ t4
  rw [← ht] at hl
  have hlen : ((runB slots steps).text.take n).count 10 ≤ (logB slots bk0 steps).length := by
    have h2 := (List.take_sublist n (runB slots steps).text).count_le 10
    have h3 := lns_len (runB slots steps).text
    rw [hl, List.length_map] at h3
    omega
  refine ⟨?_, hlen⟩
  rw [lns_take, hl, ← List.map_take]
  obtain ⟨_, _, u3, _⟩ := good_text h1 _ bk0 (bk0_ok slots) (good_take _ _ (((runB slots steps).text.take n).count 10) hg)
  rw [u3, List.length_take, Nat.min_eq_left hlen]
  simp [bk0]
theorem open_again {slots : Nat} (h1 : 1 ≤ slots) (steps : List (List Int)) : openL slots bk0 (lns (runB slots steps).text) = (runB slots steps, (((runB slots steps).many : Nat) : Int), 0) := by
  obtain ⟨e1, hg⟩ := log_fold slots steps bk0
  obtain ⟨t1, t2, t3, t4⟩ := good_text h1 _ bk0 (bk0_ok slots) hg
  have hr : runB slots steps = foldB slots bk0 (logB slots bk0 steps) := by rw [e1]; rfl
  have ht : (runB slots steps).text = ((logB slots bk0 steps).map fun l => stepLine l ++ [10]).flatten := by rw [hr, t1]; rfl
  rw [ht, lns_lines _ t4, t3, hr, t2]
end Go.Proofs.YticckfioggeaeaaGreatDoor

/-
  A session: plain.
-/
namespace Go.Proofs.YticckfioggeaeaaGreatDoor

def sBad : List UInt8 := [98, 97, 100]
def sPut : List UInt8 := [112, 117, 116]
def sGet : List UInt8 := [103, 101, 116]
def sKeys : List UInt8 := [107, 101, 121, 115]
def sCrash : List UInt8 := [99, 114, 97, 115, 104]
def sOk : List UInt8 := [111, 107]
def sFound : List UInt8 := [102, 111, 117, 110, 100, 32]
def sLong : List UInt8 := [116, 111, 111, 32, 108, 111, 110, 103, 10]
def sFull : List UInt8 := [69, 114, 114, 70, 117, 108, 108]
/-- The name of an error; of none: ok. -/
def nameOf (e : Int) : List UInt8 :=
  if e = 0 then sOk else if e = 1 then [69, 114, 114, 82, 97, 110, 103, 101] else if e = 2 then [69, 114, 114, 83, 121, 110, 116, 97, 120]
  else if e = 4 then sFull else if e = 5 then [69, 114, 114, 78, 111, 110, 101] else if e = 6 then [69, 114, 114, 67, 108, 97, 115, 104] else []
def wordsM : List (List UInt8) → Option (List Int)
  | [] => some []
  | w :: r => match numberM w with
    | none => none
    | some n => if 7 < w.length then none else match wordsM r with
      | none => none
      | some ns => some (n :: ns)
def keysA : List Int → List UInt8
  | [] => []
  | k :: r => 32 :: (Lib.itoa k ++ keysA r)
def crashO (s : Bk) (n : Int) : Bk × Int × Int := openL 3 bk0 (lns (s.text.take n.toNat))
def crashM (s : Bk) (n : Int) : Bk × List UInt8 :=
  if (crashO s n).2.2 = 0 then ((crashO s n).1, sFound ++ Lib.itoa (crashO s n).2.1) else (s, nameOf (crashO s n).2.2)
def putA (s : Bk) (k v : Int) : List UInt8 := if putE s k v = 0 ∧ 0 ≤ putV 3 s k v then sOk ++ 32 :: Lib.itoa (putV 3 s k v) else nameOf (putE s k v)
def getA (s : Bk) (k : Int) : List UInt8 := if getE s k = 0 then Lib.itoa (getV s k) else nameOf (getE s k)
def doM (s : Bk) (w : List UInt8) (ns : List Int) : Bk × List UInt8 :=
  if w = sPut ∧ ns.length = 2 then (putS 3 s (ns.getD 0 0) (ns.getD 1 0), putA s (ns.getD 0 0) (ns.getD 1 0))
  else if w = sGet ∧ ns.length = 1 then (getS s (ns.getD 0 0), getA s (ns.getD 0 0))
  else if w = sKeys ∧ ns.length = 0 then (s, sKeys ++ keysA s.keys)
  else if w = sCrash ∧ ns.length = 1 then crashM s (ns.getD 0 0)
  else (s, sBad)
/-- The answer to a line. -/
def answerM (s : Bk) (l : List UInt8) : Bk × List UInt8 :=
  match wordsM (cutAt 32 l).tail with
  | none => (s, sBad)
  | some ns => doM s ((cutAt 32 l).headD []) ns
/-- All lines of a text, that without an end too. -/
def lastC (l : List UInt8) : List UInt8 := ((cutAt 10 l).getLast?).getD []
def lnA (l : List UInt8) : List (List UInt8) := if lastC l = [] then lns l else lns l ++ [lastC l]
def ansS (st : Bk × List UInt8) (l : List UInt8) : Bk × List UInt8 := ((answerM st.1 l).1, st.2 ++ ((answerM st.1 l).2 ++ [10]))
def playM (ls : List (List UInt8)) : Bk × List UInt8 := ls.foldl ansS (bk0, [])
def runM (text : List UInt8) : List UInt8 := if 3000 < text.length then sLong else (playM (lnA text)).2

/-! ### Lines -/
theorem lnA_nil : lnA [] = [] := by decide
theorem lnA_line {l : List UInt8} (h : 10 ∉ l) (r : List UInt8) : lnA (l ++ 10 :: r) = l :: lnA r := by
  have e : lastC (l ++ 10 :: r) = lastC r := by
    unfold lastC
    rw [cutAt_app r h]
    obtain ⟨w, ws, e⟩ := cutAt_parts 10 r
    rw [e, List.getLast?_cons_cons]
  unfold lnA
  rw [e, lns_line h]
  split <;> rfl
theorem lnA_one {l : List UInt8} (h : 10 ∉ l) (h0 : l ≠ []) : lnA l = [l] := by
  have e := cutAt_no (c := 10) h
  unfold lnA lastC lns
  rw [e]
  simp [h0]
theorem split10 (l : List UInt8) (h : 10 ∈ l) : ∃ a r, l = a ++ 10 :: r ∧ 10 ∉ a := by
  induction l with
  | nil => simp at h
  | cons x l ih =>
    by_cases e : x = 10
    · exact ⟨[], l, by rw [e]; rfl, by simp⟩
    · obtain ⟨a, r, h1, h2⟩ := ih (by simpa [show ¬ 10 = x from fun h => e h.symm] using h)
      exact ⟨x :: a, r, by rw [h1]; rfl, by simp [show ¬ 10 = x from fun h => e h.symm, h2]⟩
theorem lnA_no : ∀ (n : Nat) (l : List UInt8), l.length ≤ n → ∀ x ∈ lnA l, 10 ∉ x ∧ x.length ≤ l.length
  | 0, l, h, x, hx => by
    obtain rfl : l = [] := List.length_eq_zero_iff.1 (by omega)
    rw [lnA_nil] at hx; simp at hx
  | n + 1, l, h, x, hx => by
    by_cases h10 : 10 ∈ l
    · obtain ⟨a, r, rfl, ha⟩ := split10 l h10
      rw [lnA_line ha] at hx
      simp only [List.length_append, List.length_cons] at h ⊢
      rcases List.mem_cons.1 hx with rfl | hx
      · exact ⟨ha, by omega⟩
      · obtain ⟨h1, h2⟩ := lnA_no n r (by omega) x hx
        exact ⟨h1, by omega⟩
    · by_cases h0 : l = []
      · subst h0; rw [lnA_nil] at hx; simp at hx
      · rw [lnA_one h10 h0] at hx
        obtain rfl := List.mem_singleton.1 hx
        exact ⟨h10, Nat.le_refl _⟩
/-- Ended: empty, or with an end behind it. -/
def Ended (l : List UInt8) : Prop := l = [] ∨ ∃ t, l = t ++ [10]
theorem Ended.tail {a r : List UInt8} (h : Ended (a ++ 10 :: r)) : Ended r := by
  rcases h with h | ⟨t, h⟩
  · simp at h
  · by_cases hr : r = []
    · exact .inl hr
    · refine .inr ⟨r.dropLast, ?_⟩
      have h2 : (a ++ 10 :: r).getLast? = some 10 := by rw [h]; simp
      rw [List.getLast?_append, List.getLast?_cons, List.getLast?_eq_some_getLast hr] at h2
      simp at h2
      have h3 := List.dropLast_concat_getLast hr
      rw [h2] at h3
      exact h3.symm
theorem lnA_append : ∀ (n : Nat) (l u : List UInt8), l.length ≤ n → Ended l → lnA (l ++ u) = lnA l ++ lnA u
  | 0, l, u, h, _ => by
    obtain rfl : l = [] := List.length_eq_zero_iff.1 (by omega)
    rw [lnA_nil]; rfl
  | n + 1, l, u, h, he => by
    by_cases h10 : 10 ∈ l
    · obtain ⟨a, r, rfl, ha⟩ := split10 l h10
      simp only [List.length_append, List.length_cons] at h
      rw [List.append_assoc, List.cons_append, lnA_line ha, lnA_line ha, lnA_append n r u (by omega) he.tail]
      rfl
    · rcases he with rfl | ⟨t, rfl⟩
      · rw [lnA_nil]; rfl
      · simp at h10
theorem lnA_count : ∀ (n : Nat) (l : List UInt8), l.length ≤ n → (lnA l).length = l.count 10 + if l ≠ [] ∧ l.getLast? ≠ some 10 then 1 else 0
  | 0, l, h => by
    obtain rfl : l = [] := List.length_eq_zero_iff.1 (by omega)
    decide
  | n + 1, l, h => by
    by_cases h10 : 10 ∈ l
    · obtain ⟨a, r, rfl, ha⟩ := split10 l h10
      simp only [List.length_append, List.length_cons] at h
      rw [lnA_line ha, List.length_cons, lnA_count n r (by omega), List.count_append, List.count_eq_zero.2 ha, List.count_cons_self]
      have e : (a ++ 10 :: r ≠ [] ∧ (a ++ 10 :: r).getLast? ≠ some 10) ↔ (r ≠ [] ∧ r.getLast? ≠ some 10) := by
        by_cases hr : r = []
        · subst hr; simp
        · rw [List.getLast?_append, List.getLast?_cons, List.getLast?_eq_some_getLast hr]
          simp [hr]
      by_cases h2 : r ≠ [] ∧ r.getLast? ≠ some 10
      · rw [if_pos h2, if_pos (e.2 h2)]; omega
      · rw [if_neg h2, if_neg (fun h => h2 (e.1 h))]; omega
    · by_cases h0 : l = []
      · subst h0; decide
      · rw [lnA_one h10 h0, List.count_eq_zero.2 h10, if_pos]
        · rfl
        · refine ⟨h0, fun e => h10 ?_⟩
          exact List.mem_of_getLast? e

/-! ### The store of a session -/
/-- A store of three slots that was come by. -/
def Come (s : Bk) : Prop := ∃ steps, s = runB 3 steps
theorem come0 : Come bk0 := ⟨[], rfl⟩
theorem Come.ok {s : Bk} (h : Come s) : BkOk 3 s := by obtain ⟨steps, rfl⟩ := h; exact runB_ok (by decide) _
theorem Come.put {s : Bk} (h : Come s) (k v : Int) : Come (putS 3 s k v) := by obtain ⟨steps, rfl⟩ := h; exact ⟨steps ++ [[k, v]], (runB_snoc 3 steps [k, v]).symm⟩
theorem Come.get {s : Bk} (h : Come s) (k : Int) : Come (getS s k) := by obtain ⟨steps, rfl⟩ := h; exact ⟨steps ++ [[k]], (runB_snoc 3 steps [k]).symm⟩
theorem Come.crash {s : Bk} (h : Come s) (n : Int) : Come (crashO s n).1 ∧ (crashO s n).2.2 = 0 ∧ ∃ m : Nat, (crashO s n).2.1 = m ∧ m ≤ 60 := by
  obtain ⟨steps, rfl⟩ := h
  unfold crashO
  obtain ⟨h1, h2⟩ := open_torn (slots := 3) (by decide) steps n.toNat
  obtain ⟨m, hm⟩ : ∃ m, m = ((runB 3 steps).text.take n.toNat).count 10 := ⟨_, rfl⟩
  rw [← hm] at h1 h2
  rw [h1]
  refine ⟨⟨_, rfl⟩, rfl, m, rfl, ?_⟩
  obtain ⟨e1, hg⟩ := log_fold 3 steps bk0
  obtain ⟨t1, t2, t3, t4⟩ := good_text (slots := 3) (by decide) _ bk0 (bk0_ok 3) hg
  have h3 := (runB_ok (slots := 3) (by decide) steps).many
  have h4 : (runB 3 steps).many = (foldB 3 bk0 (logB 3 bk0 steps)).many := by rw [e1]; rfl
  rw [h4, t2] at h3
  have : bk0.many = 0 := rfl
  omega
/-- What is lost in no part is as it was. -/
theorem Come.whole {s : Bk} (h : Come s) {n : Int} (hn : s.text.length ≤ n) : (crashO s n).1 = s := by
  obtain ⟨steps, rfl⟩ := h
  unfold crashO
  rw [List.take_of_length_le (by omega), open_again (slots := 3) (by decide)]
theorem putE_cases (s : Bk) (k v : Int) : putE s k v = 0 ∨ putE s k v = 1 ∨ putE s k v = 4 := by unfold putE; split <;> (try split) <;> simp
theorem getE_cases (s : Bk) (k : Int) : getE s k = 0 ∨ getE s k = 5 ∨ getE s k = 4 := by unfold getE; split <;> (try split) <;> simp
def plainA (l : List UInt8) : Prop := 10 ∉ l ∧ l.length ≤ 60
theorem name_plain (e : Int) : plainA (nameOf e) := by
  unfold nameOf sOk sFull
  repeat' split
  all_goals exact ⟨by decide, by decide⟩
theorem itoa_plain {n : Int} (h0 : 0 ≤ n) (h1 : n ≤ 9999999) : 10 ∉ Lib.itoa n ∧ (Lib.itoa n).length ≤ 7 := ⟨digs_no (itoa_dig h0) 10 (by decide), itoa_len h0 (by decide) (by omega)⟩
theorem keysA_plain : ∀ (l : List Int), (∀ k ∈ l, 0 ≤ k ∧ k ≤ 1000000) → 10 ∉ keysA l ∧ (keysA l).length ≤ 8 * l.length
  | [], _ => by simp [keysA]
  | k :: r, h => by
    obtain ⟨h1, h2⟩ := keysA_plain r (fun x hx => h x (by simp [hx]))
    have hk := h k (by simp)
    obtain ⟨h3, h4⟩ := itoa_plain hk.1 (by omega)
    rw [keysA]
    refine ⟨?_, by simp only [List.length_cons, List.length_append]; omega⟩
    rw [List.mem_cons, List.mem_append]
    rintro (h | h | h)
    · exact absurd h (by decide)
    · exact h3 h
    · exact h1 h
theorem keys_rng {s : Bk} (h : BkOk 3 s) : ∀ k ∈ s.keys, 0 ≤ k ∧ k ≤ 1000000 := by
  intro k hk
  obtain ⟨p, hp, rfl⟩ := List.mem_map.1 hk
  exact (h.rng p hp).1
theorem letGo_rng {s : Bk} (h : BkOk 3 s) (k : Int) : -1 ≤ letGo 3 s k ∧ letGo 3 s k ≤ 1000000 := by
  unfold letGo
  split
  · cases hl : s.keys.getLast? with
    | none => simp
    | some x =>
      have := keys_rng h x (List.mem_of_getLast? hl)
      simp only [Option.getD_some]; omega
  · omega
theorem putV_rng {s : Bk} (h : BkOk 3 s) (k v : Int) : -1 ≤ putV 3 s k v ∧ putV 3 s k v ≤ 1000000 := by
  unfold putV
  split
  · exact letGo_rng h k
  · omega
theorem getV_rng {s : Bk} (h : BkOk 3 s) (k : Int) : 0 ≤ getV s k ∧ getV s k ≤ 1000 := by
  unfold getV
  split
  · rename_i he
    have hk : k ∈ s.keys := by
      unfold getE at he
      split at he
      · cases he
      · rename_i h2; simpa using h2
    exact (h.rng _ (valOf_mem hk)).2
  · omega
theorem answer_ok {s : Bk} (h : Come s) (l : List UInt8) : Come (answerM s l).1 ∧ plainA (answerM s l).2 := by
  have hbad : plainA sBad := ⟨by decide, by decide⟩
  unfold answerM
  split
  · exact ⟨h, hbad⟩
  · rename_i ns _
    unfold doM
    obtain ⟨k, hk⟩ : ∃ k, k = ns.getD 0 0 := ⟨_, rfl⟩
    obtain ⟨v, hv⟩ : ∃ v, v = ns.getD 1 0 := ⟨_, rfl⟩
    simp only [← hk, ← hv]
    split
    · refine ⟨h.put k v, ?_⟩
      show plainA (putA s k v)
      unfold putA
      split
      · rename_i h2
        have := putV_rng h.ok k v
        obtain ⟨h3, h4⟩ := itoa_plain h2.2 (by omega)
        refine ⟨?_, by simp [sOk]; omega⟩
        rw [List.mem_append, List.mem_cons]
        rintro (h | h | h)
        · exact absurd h (by decide)
        · exact absurd h (by decide)
        · exact h3 h
      · exact name_plain _
    split
    · refine ⟨h.get k, ?_⟩
      show plainA (getA s k)
      unfold getA
      split
      · have := getV_rng h.ok k
        obtain ⟨h3, h4⟩ := itoa_plain this.1 (by omega)
        exact ⟨h3, by omega⟩
      · exact name_plain _
    split
    · refine ⟨h, ?_⟩
      obtain ⟨h3, h4⟩ := keysA_plain s.keys (keys_rng h.ok)
      have hl : s.keys.length ≤ 3 := by have := h.ok.len; simpa [Bk.keys] using this
      refine ⟨?_, by simp [sKeys]; omega⟩
      rw [List.mem_append]
      rintro (h | h)
      · exact absurd h (by decide)
      · exact h3 h
    split
    · obtain ⟨h1, h2, m, h3, h4⟩ := h.crash k
      unfold crashM
      rw [if_pos h2]
      refine ⟨h1, ?_⟩
      show plainA (sFound ++ Lib.itoa (crashO s k).2.1)
      rw [h3]
      obtain ⟨h5, h6⟩ := itoa_plain (n := (m : Int)) (by omega) (by omega)
      refine ⟨?_, by simp [sFound]; omega⟩
      rw [List.mem_append]
      rintro (h | h)
      · exact absurd h (by decide)
      · exact h5 h
    · exact ⟨h, hbad⟩

/-! ### Sessions -/
theorem foldl_ansS : ∀ (ls : List (List UInt8)) (s : Bk) (o : List UInt8), Come s → ∃ s' o', ls.foldl ansS (s, o) = (s', o ++ o') ∧ ls.foldl ansS (s, []) = (s', o') ∧ Come s' ∧ Ended o' ∧ o'.count 10 = ls.length ∧ o'.length ≤ 61 * ls.length
  | [], s, o, h => ⟨s, [], by simp, rfl, h, .inl rfl, rfl, by simp⟩
  | l :: ls, s, o, h => by
    obtain ⟨hc, h10, hl⟩ := answer_ok h l
    obtain ⟨s', o', h1, h2, h3, h4, h5, h6⟩ := foldl_ansS ls (answerM s l).1 (o ++ ((answerM s l).2 ++ [10])) hc
    obtain ⟨s2, o2, g1, g2, -⟩ := foldl_ansS ls (answerM s l).1 ([] ++ ((answerM s l).2 ++ [10])) hc
    rw [h2] at g2
    obtain ⟨rfl, rfl⟩ := Prod.mk.inj g2
    refine ⟨s', ((answerM s l).2 ++ [10]) ++ o', ?_, ?_, h3, ?_, ?_, ?_⟩
    · rw [List.foldl_cons, ← List.append_assoc]; exact h1
    · rw [List.foldl_cons]; exact g1
    · rcases h4 with rfl | ⟨t, rfl⟩
      · exact .inr ⟨(answerM s l).2, by simp⟩
      · exact .inr ⟨(answerM s l).2 ++ [10] ++ t, by simp⟩
    · rw [List.count_append, List.count_append, List.count_eq_zero.2 h10, h5, List.length_cons]
      simp; omega
    · simp only [List.length_append, List.length_cons, List.length_nil]; omega
theorem playM_append (a b : List (List UInt8)) : ∃ o', playM (a ++ b) = ((playM (a ++ b)).1, (playM a).2 ++ o') := by
  obtain ⟨s1, o1, h1, _, h3, _⟩ := foldl_ansS a bk0 [] come0
  obtain ⟨s2, o2, g1, _⟩ := foldl_ansS b s1 ([] ++ o1) h3
  refine ⟨o2, ?_⟩
  unfold playM
  rw [List.foldl_append, h1, g1]
theorem playM_snoc (a : List (List UInt8)) (l : List UInt8) : playM (a ++ [l]) = ((answerM (playM a).1 l).1, (playM a).2 ++ ((answerM (playM a).1 l).2 ++ [10])) := by
  unfold playM
  rw [List.foldl_append]
  rfl
theorem playM_ok (a : List (List UInt8)) : Come (playM a).1 ∧ Ended (playM a).2 ∧ (playM a).2.count 10 = a.length ∧ (playM a).2.length ≤ 61 * a.length := by
  obtain ⟨s1, o1, h1, _, h3, h4, h5, h6⟩ := foldl_ansS a bk0 [] come0
  unfold playM
  rw [h1]
  exact ⟨h3, h4, h5, h6⟩
theorem lnA_len (text : List UInt8) : (lnA text).length ≤ text.length + 1 := by
  rw [lnA_count _ _ (Nat.le_refl _)]
  have := List.count_le_length (a := (10 : UInt8)) (l := text)
  split <;> omega

/-- The answers to a beginning are a beginning of the answers. -/
theorem begins_law (text : List UInt8) (k : Nat) (h : text.length ≤ 3000) (hk : Ended (text.take k)) : (runM (text.take k)).length ≤ (runM text).length ∧ (runM text).take (runM (text.take k)).length = runM (text.take k) := by
  have e := lnA_append _ (text.take k) (text.drop k) (Nat.le_refl _) hk
  rw [List.take_append_drop] at e
  obtain ⟨o, ho⟩ := playM_append (lnA (text.take k)) (lnA (text.drop k))
  rw [← e] at ho
  have h1 : runM text = (playM (lnA (text.take k))).2 ++ o := by unfold runM; rw [if_neg (by omega), ho]
  have h2 : runM (text.take k) = (playM (lnA (text.take k))).2 := by unfold runM; rw [if_neg (by rw [List.length_take]; omega)]
  rw [h1, h2]
  exact ⟨by simp, by simp⟩
/-- Each line has one. -/
theorem lines_law (text : List UInt8) (h : text.length ≤ 3000) : (runM text).count 10 = text.count 10 + (if text ≠ [] ∧ text.getLast? ≠ some 10 then 1 else 0) ∧ Ended (runM text) := by
  obtain ⟨h1, h2, h3, _⟩ := playM_ok (lnA text)
  have e : runM text = (playM (lnA text)).2 := by unfold runM; rw [if_neg (by omega)]
  rw [e, h3, lnA_count _ _ (Nat.le_refl _)]
  exact ⟨rfl, h2⟩
theorem runM_len (text : List UInt8) : (runM text).length ≤ 200000 := by
  unfold runM
  split
  · decide
  · have := (playM_ok (lnA text)).2.2.2
    have := lnA_len text
    omega
/-- The last line of a text of lines, with its end. -/
def lastL (l : List UInt8) : List UInt8 := if l = [] then [] else lastC l.dropLast ++ (l.getLast?.toList)
theorem lastC_mk {o a : List UInt8} (ho : Ended o) (ha : 10 ∉ a) : lastC (o ++ a) = a := by
  have key : ∀ (n : Nat) (o : List UInt8), o.length ≤ n → Ended o → lastC (o ++ a) = a := by
    intro n
    induction n with
    | zero =>
      intro o h _
      obtain rfl : o = [] := List.length_eq_zero_iff.1 (by omega)
      unfold lastC
      rw [List.nil_append, cutAt_no ha]; rfl
    | succ n ih =>
      intro o h he
      by_cases h10 : 10 ∈ o
      · obtain ⟨b, r, rfl, hb⟩ := split10 o h10
        simp only [List.length_append, List.length_cons] at h
        have := ih r (by omega) he.tail
        unfold lastC at this ⊢
        rw [List.append_assoc, List.cons_append, cutAt_app _ hb]
        obtain ⟨w, ws, e⟩ := cutAt_parts 10 (r ++ a)
        rw [e] at this ⊢
        rw [List.getLast?_cons_cons]
        exact this
      · rcases he with rfl | ⟨t, rfl⟩
        · unfold lastC
          rw [List.nil_append, cutAt_no ha]; rfl
        · simp at h10
  exact key _ o (Nat.le_refl _) ho
theorem lastL_mk {o a : List UInt8} (ho : Ended o) (ha : 10 ∉ a) : lastL (o ++ (a ++ [10])) = a ++ [10] := by
  unfold lastL
  rw [if_neg (by simp), ← List.append_assoc, dropLast_snoc, lastC_mk ho ha]
  simp
theorem words_cut {w : List UInt8} {ns : List Int} (h : ∀ c ∈ w, c ≠ 32) (hr : ∀ n ∈ ns, 0 ≤ n ∧ n ≤ 9999999) : (cutAt 32 (w ++ keysA ns)).headD [] = w ∧ wordsM (cutAt 32 (w ++ keysA ns)).tail = some ns := by
  induction ns generalizing w with
  | nil =>
    rw [keysA, List.append_nil, cutAt_no (fun hm => h 32 hm rfl)]
    exact ⟨rfl, rfl⟩
  | cons n ns ih =>
    have hn := hr n (by simp)
    obtain ⟨_, h2⟩ := itoa_plain hn.1 hn.2
    obtain ⟨i1, i2⟩ := ih (w := Lib.itoa n) (fun c hc e => digs_no (itoa_dig hn.1) 32 (by decide) (e ▸ hc)) (fun x hx => hr x (by simp [hx]))
    rw [keysA, cutAt_app _ (fun hm => h 32 hm rfl)]
    refine ⟨rfl, ?_⟩
    rw [List.tail_cons]
    obtain ⟨p, ps, e⟩ := cutAt_parts 32 (Lib.itoa n ++ keysA ns)
    rw [e] at i1 i2 ⊢
    simp only [List.headD_cons, List.tail_cons] at i1 i2
    rw [i1, wordsM, numberM_itoa hn.1 (by omega)]
    simp only
    rw [if_neg (by omega), i2]
theorem ans_of {w : List UInt8} {ns : List Int} (s : Bk) (h : ∀ c ∈ w, c ≠ 32) (hr : ∀ n ∈ ns, 0 ≤ n ∧ n ≤ 9999999) : answerM s (w ++ keysA ns) = doM s w ns := by
  obtain ⟨h1, h2⟩ := words_cut h hr
  unfold answerM
  rw [h2, h1]
/-- A line of a session: a word, and numbers. -/
def sayL (w : List UInt8) (ns : List Int) : List UInt8 := w ++ keysA ns
theorem say_no {w : List UInt8} {ns : List Int} (h : 10 ∉ w) (hr : ∀ n ∈ ns, 0 ≤ n ∧ n ≤ 9999999) : 10 ∉ sayL w ns := by
  unfold sayL
  rw [List.mem_append]
  rintro (h1 | h1)
  · exact h h1
  · have : ∀ (l : List Int), (∀ n ∈ l, 0 ≤ n ∧ n ≤ 9999999) → 10 ∉ keysA l := by
      intro l
      induction l with
      | nil => intro _; simp [keysA]
      | cons n l ih =>
        intro hl
        have hn := hl n (by simp)
        rw [keysA, List.mem_cons, List.mem_append]
        rintro (h | h | h)
        · exact absurd h (by decide)
        · exact (itoa_plain hn.1 hn.2).1 h
        · exact ih (fun x hx => hl x (by simp [hx])) h
    exact this ns hr h1
theorem run_say {text : List UInt8} (hE : Ended text) {w : List UInt8} {ns : List Int} (hw : 10 ∉ w) (hw2 : ∀ c ∈ w, c ≠ 32) (hr : ∀ n ∈ ns, 0 ≤ n ∧ n ≤ 9999999) :
    lnA (text ++ (sayL w ns ++ [10])) = lnA text ++ [sayL w ns] := by
  rw [lnA_append _ text _ (Nat.le_refl _) hE, lnA_line (say_no hw hr), lnA_nil]
theorem last_run {text : List UInt8} (hl : text.length ≤ 3000) {ls : List (List UInt8)} {l : List UInt8} (h : lnA text = ls ++ [l]) : lastL (runM text) = (answerM (playM ls).1 l).2 ++ [10] := by
  unfold runM
  rw [if_neg (by omega), h, playM_snoc]
  exact lastL_mk (playM_ok ls).2.1 (answer_ok (playM_ok ls).1 l).2.1
theorem name_full : nameOf 4 = sFull := rfl
/-- What was put last is got. -/
theorem keeps_law {text : List UInt8} (hE : Ended text) (hl : text.length ≤ 2900) {k v : Int} (hk : 0 ≤ k ∧ k ≤ 1000000) (hv : 0 ≤ v ∧ v ≤ 1000) :
    lastL (runM (text ++ (sayL sPut [k, v] ++ [10]))) = sFull ++ [10] ∨
    ((∃ z, lastL (runM (text ++ (sayL sPut [k, v] ++ [10]))) = sOk ++ (z ++ [10])) ∧
      (lastL (runM ((text ++ (sayL sPut [k, v] ++ [10])) ++ (sayL sGet [k] ++ [10]))) = Lib.itoa v ++ [10] ∨ lastL (runM ((text ++ (sayL sPut [k, v] ++ [10])) ++ (sayL sGet [k] ++ [10]))) = sFull ++ [10])) := by
  have hr1 : ∀ n ∈ [k, v], 0 ≤ n ∧ n ≤ 9999999 := by intro n hn; simp at hn; omega
  have hr2 : ∀ n ∈ [k], 0 ≤ n ∧ n ≤ 9999999 := by intro n hn; simp at hn; omega
  have hlk := (itoa_plain hk.1 (show k ≤ 9999999 by omega)).2
  have hlv := (itoa_plain hv.1 (show v ≤ 9999999 by omega)).2
  have e1 := run_say (ns := [k, v]) hE (w := sPut) (by decide) (by decide) hr1
  have hE2 : Ended (text ++ (sayL sPut [k, v] ++ [10])) := .inr ⟨text ++ sayL sPut [k, v], by simp⟩
  have e2 := run_say (ns := [k]) hE2 (w := sGet) (by decide) (by decide) hr2
  have l1 : (text ++ (sayL sPut [k, v] ++ [10])).length ≤ 2950 := by simp [sayL, sPut, keysA]; omega
  have l2 : ((text ++ (sayL sPut [k, v] ++ [10])) ++ (sayL sGet [k] ++ [10])).length ≤ 3000 := by rw [List.length_append]; simp [sayL, sGet, keysA] at l1 ⊢; omega
  rw [last_run (by omega) e1, last_run l2 e2, e1, playM_snoc]
  obtain ⟨s, hs⟩ : ∃ s, s = (playM (lnA text)).1 := ⟨_, rfl⟩
  have hc : Come s := by rw [hs]; exact (playM_ok _).1
  rw [← hs]
  have a1 : answerM s (sayL sPut [k, v]) = (putS 3 s k v, putA s k v) := by
    unfold sayL; rw [ans_of s (by decide) hr1]; simp [doM]
  have a2 : answerM (putS 3 s k v) (sayL sGet [k]) = (getS (putS 3 s k v) k, getA (putS 3 s k v) k) := by
    unfold sayL; rw [ans_of _ (by decide) hr2]; simp [doM, sGet, sPut]
  simp only [a1, a2]
  have hok : okPut k v := ⟨hk, hv⟩
  by_cases hm : s.many = 60
  · left
    have : putE s k v = 4 := by unfold putE; rw [if_neg (by simpa using hok), if_pos hm]
    unfold putA
    rw [this, if_neg (by simp)]
    rfl
  · right
    have he : putE s k v = 0 := by unfold putE; rw [if_neg (by simpa using hok), if_neg hm]
    refine ⟨?_, ?_⟩
    · unfold putA
      rw [he]
      split
      · exact ⟨32 :: Lib.itoa (putV 3 s k v), by simp⟩
      · exact ⟨[], by simp [nameOf]⟩
    · have hS : putS 3 s k v = putB 3 s k v := by unfold putS; rw [if_pos he]
      have hkk : k ∈ (putS 3 s k v).keys := by rw [hS]; simp [Bk.keys, putB]
      unfold getA
      by_cases hm2 : (putS 3 s k v).many = 60
      · right
        have : getE (putS 3 s k v) k = 4 := by unfold getE; rw [if_neg (by simpa using hkk), if_pos hm2]
        rw [this, if_neg (by decide)]
        rfl
      · left
        have : getE (putS 3 s k v) k = 0 := by unfold getE; rw [if_neg (by simpa using hkk), if_neg hm2]
        rw [this, if_pos rfl]
        have hval : getV (putS 3 s k v) k = v := by
          unfold getV
          rw [if_pos this, hS]
          simp [valOf, putB]
        rw [hval]
/-- A crash that loses nothing is no matter. -/
theorem crash_law {text : List UInt8} (hE : Ended text) (hl : text.length ≤ 2900) :
    lastL (runM (text ++ (sayL sKeys [] ++ [10]))) = lastL (runM ((text ++ (sayL sCrash [9999999] ++ [10])) ++ (sayL sKeys [] ++ [10]))) ∧ lastL (runM (text ++ (sayL sKeys [] ++ [10]))) ≠ [] := by
  have hr1 : ∀ n ∈ [(9999999 : Int)], 0 ≤ n ∧ n ≤ 9999999 := by intro n hn; simp at hn; omega
  have hr2 : ∀ n ∈ ([] : List Int), 0 ≤ n ∧ n ≤ 9999999 := by intro n hn; simp at hn
  have hlk := (itoa_plain (show (0 : Int) ≤ 9999999 by decide) (by omega)).2
  have e1 := run_say (ns := [9999999]) hE (w := sCrash) (by decide) (by decide) hr1
  have hE2 : Ended (text ++ (sayL sCrash [9999999] ++ [10])) := .inr ⟨text ++ sayL sCrash [9999999], by simp⟩
  have e2 := run_say (ns := []) hE2 (w := sKeys) (by decide) (by decide) hr2
  have e3 := run_say (ns := []) hE (w := sKeys) (by decide) (by decide) hr2
  have l1 : (text ++ (sayL sKeys [] ++ [10])).length ≤ 3000 := by simp [sayL, sKeys, keysA]; omega
  have l2 : ((text ++ (sayL sCrash [9999999] ++ [10])) ++ (sayL sKeys [] ++ [10])).length ≤ 3000 := by simp [sayL, sKeys, sCrash, keysA] at hlk ⊢; omega
  rw [last_run l1 e3, last_run l2 e2, e1, playM_snoc]
  obtain ⟨s, hs⟩ : ∃ s, s = (playM (lnA text)).1 := ⟨_, rfl⟩
  have hc : Come s := by rw [hs]; exact (playM_ok _).1
  rw [← hs]
  have a1 : answerM s (sayL sCrash [9999999]) = crashM s 9999999 := by
    unfold sayL; rw [ans_of s (by decide) hr1]; simp [doM, sCrash, sPut, sGet, sKeys]
  have a2 : (crashM s 9999999).1 = s := by
    unfold crashM
    rw [if_pos (hc.crash _).2.1]
    exact hc.whole (by have := hc.ok.text; have := hc.ok.many; omega)
  rw [a1]
  simp only [a2]
  refine ⟨trivial, by simp⟩
end Go.Proofs.YticckfioggeaeaaGreatDoor

/-
  A session: closed facts, and the shape of its answers.
-/
namespace Go.Proofs.YticckfioggeaeaaGreatDoor

theorem run_keys : runM sKeys = sKeys ++ [10] := by
  have h := run_say (text := []) (.inl rfl) (w := sKeys) (ns := []) (by decide) (by decide) (by simp)
  have e : lnA sKeys = [sKeys] := lnA_one (by decide) (by decide)
  unfold runM
  rw [if_neg (by decide), e]
  have a1 : answerM bk0 sKeys = (bk0, sKeys) := by
    have := ans_of bk0 (w := sKeys) (ns := []) (by decide) (by simp)
    rw [keysA, List.append_nil] at this
    rw [this]
    simp [doM, sKeys, sGet, sPut, Bk.keys, bk0, keysA]
  show ([] ++ ((answerM bk0 sKeys).2 ++ [10])) = _
  rw [a1]
  rfl
theorem itoa_1 : Lib.itoa 1 = [49] := by
  rw [show (1 : Int) = ((1 : Nat) : Int) from rfl, itoa_nat, dec_small (by decide)]; rfl
theorem itoa_2 : Lib.itoa 2 = [50] := by
  rw [show (2 : Int) = ((2 : Nat) : Int) from rfl, itoa_nat, dec_small (by decide)]; rfl
theorem run_fact : runM [112, 117, 116, 32, 49, 32, 50, 10, 10, 98] = [111, 107, 10, 98, 97, 100, 10, 98, 97, 100, 10] := by
  have e : lnA [112, 117, 116, 32, 49, 32, 50, 10, 10, 98] = [[112, 117, 116, 32, 49, 32, 50], [], [98]] := by decide
  unfold runM
  rw [if_neg (by decide), e]
  have a1 : answerM bk0 [112, 117, 116, 32, 49, 32, 50] = (putS 3 bk0 1 2, sOk) := by
    have := ans_of bk0 (w := sPut) (ns := [1, 2]) (by decide) (by intro n hn; simp at hn; omega)
    rw [keysA, keysA, keysA, itoa_1, itoa_2] at this
    rw [show ([112, 117, 116, 32, 49, 32, 50] : List UInt8) = sPut ++ (32 :: ([49] ++ (32 :: ([50] ++ [])))) from rfl, this]
    have he : putE bk0 1 2 = 0 := by decide
    have hv : putV 3 bk0 1 2 = -1 := by decide
    simp [doM, putA, he, hv, nameOf]
  obtain ⟨s, hs⟩ : ∃ s, s = putS 3 bk0 1 2 := ⟨_, rfl⟩
  have a2 : answerM s [] = (s, sBad) := by
    have := ans_of s (w := []) (ns := []) (by simp) (by simp)
    rw [keysA, List.append_nil] at this
    rw [this]
    simp [doM, sPut, sGet, sKeys, sCrash]
  have a3 : answerM s [98] = (s, sBad) := by
    have := ans_of s (w := [98]) (ns := []) (by decide) (by simp)
    rw [keysA, List.append_nil] at this
    rw [this]
    simp [doM, sPut, sGet, sKeys, sCrash]
  unfold playM
  simp only [List.foldl_cons, List.foldl_nil, ansS, a1, ← hs, a2, a3]
  rfl
/-- The last line of the answers. -/
theorem run_shape {text : List UInt8} (hl : text.length ≤ 3000) {ls : List (List UInt8)} {l : List UInt8} (h : lnA text = ls ++ [l]) : ∃ o a, runM text = o ++ (a ++ [10]) ∧ Ended o ∧ 10 ∉ a ∧ a.length ≤ 60 := by
  refine ⟨(playM ls).2, (answerM (playM ls).1 l).2, ?_, (playM_ok ls).2.1, (answer_ok (playM_ok ls).1 l).2⟩
  unfold runM
  rw [if_neg (by omega), h, playM_snoc]
theorem lastL_shape {l o a : List UInt8} (h : l = o ++ (a ++ [10])) (ho : Ended o) (ha : 10 ∉ a) : lastL l = a ++ [10] := by rw [h]; exact lastL_mk ho ha
theorem ended_take {text : List UInt8} {k : Nat} (hk : k ≤ text.length) (h : k = 0 ∨ ∃ h0 : k - 1 < text.length, text[k - 1] = 10) : Ended (text.take k) := by
  rcases h with rfl | ⟨h0, h⟩
  · exact .inl (by simp)
  · by_cases hk0 : k = 0
    · exact .inl (by rw [hk0]; simp)
    · refine .inr ⟨text.take (k - 1), ?_⟩
      have := List.take_succ_eq_append_getElem h0
      rw [show k - 1 + 1 = k by omega, h] at this
      exact this
theorem ended_last {text : List UInt8} (h : text.length = 0 ∨ ∃ h0 : text.length - 1 < text.length, text[text.length - 1] = 10) : Ended text := by
  have := ended_take (k := text.length) (Nat.le_refl _) h
  rwa [List.take_length] at this
/-- Lines counted one by one. -/
theorem lines_step {text : List UInt8} {i : Nat} (hi : i < text.length) : ((text.take (i + 1)).count 10 + if i + 1 = text.length ∧ text.getLast? ≠ some 10 then 1 else 0) = ((text.take i).count 10 + if i = text.length ∧ text.getLast? ≠ some 10 then 1 else 0) + (if text[i] = 10 ∨ i = text.length - 1 then 1 else 0) := by
  rw [List.take_succ_eq_append_getElem hi, List.count_append, List.count_singleton]
  have hne : ¬ i = text.length := by omega
  have e1 : (if i = text.length ∧ text.getLast? ≠ some 10 then 1 else 0) = 0 := if_neg (fun h => hne h.1)
  rw [e1]
  by_cases h10 : text[i] = 10
  · have e2 : (if (text[i] == 10) = true then 1 else 0) = 1 := if_pos (by simpa using h10)
    have e3 : (if text[i] = 10 ∨ i = text.length - 1 then 1 else 0) = 1 := if_pos (.inl h10)
    have e4 : (if i + 1 = text.length ∧ text.getLast? ≠ some 10 then 1 else 0) = 0 := if_neg (fun h => h.2 (by
      rw [List.getLast?_eq_getElem?, show text.length - 1 = i by omega, List.getElem?_eq_getElem hi, h10]))
    rw [e2, e3, e4]
  · have e2 : (if (text[i] == 10) = true then 1 else 0) = 0 := if_neg (by simpa using h10)
    rw [e2]
    by_cases hl : i = text.length - 1
    · have e3 : (if text[i] = 10 ∨ i = text.length - 1 then 1 else 0) = 1 := if_pos (.inr hl)
      have e4 : (if i + 1 = text.length ∧ text.getLast? ≠ some 10 then 1 else 0) = 1 := if_pos ⟨by omega, by
        rw [List.getLast?_eq_getElem?, ← hl, List.getElem?_eq_getElem hi]
        simpa using h10⟩
      rw [e3, e4]
    · have e3 : (if text[i] = 10 ∨ i = text.length - 1 then 1 else 0) = 0 := if_neg (fun h => h.elim h10 hl)
      have e4 : (if i + 1 = text.length ∧ text.getLast? ≠ some 10 then 1 else 0) = 0 := if_neg (fun h => hl (by omega))
      rw [e3, e4]
end Go.Proofs.YticckfioggeaeaaGreatDoor

/-
  Plain: who goes by what was asked for.
-/
namespace Go.Proofs.YticckfioggeaeaaGreatDoor

structure Lr where
  held : List Int
  hits : List Bool
def lrRest (slots : Nat) (L : List Int) (p : Int) : List Int := if p ∈ L then L.erase p else if L.length = slots then L.take (slots - 1) else L
def lrStep (slots : Nat) (u : Lr) (p : Int) : Lr := ⟨p :: lrRest slots u.held p, u.hits ++ [decide (p ∈ u.held)]⟩
def lrRun (slots : Nat) (reqs : List Int) : Lr := reqs.foldl (lrStep slots) ⟨[], []⟩
def missed (l : List Bool) : Int := (l.countP (fun x => !x) : Nat)

theorem lrRun_succ (slots : Nat) (reqs : List Int) (p : Int) : lrRun slots (reqs ++ [p]) = lrStep slots (lrRun slots reqs) p := by simp [lrRun]
theorem lrRest_len {slots : Nat} {L : List Int} (p : Int) (h1 : 1 ≤ slots) (h : L.length ≤ slots) : (lrRest slots L p).length + 1 ≤ slots := by
  unfold lrRest
  split
  · rename_i hm
    rw [List.length_erase_of_mem hm]
    have := List.length_pos_of_mem hm
    omega
  · split
    · rw [List.length_take]; omega
    · omega
theorem lrRun_held {slots : Nat} (reqs : List Int) (h1 : 1 ≤ slots) : (lrRun slots reqs).held.length ≤ slots := by
  have : ∀ (l : List Int) (u : Lr), u.held.length ≤ slots → (l.foldl (lrStep slots) u).held.length ≤ slots := by
    intro l
    induction l with
    | nil => intro u h; exact h
    | cons p l ih => intro u h; exact ih _ (by have := lrRest_len p h1 h; simpa [lrStep] using this)
  exact this reqs _ (by simp)
theorem lrRun_hits (slots : Nat) (reqs : List Int) : (lrRun slots reqs).hits.length = reqs.length := by
  have : ∀ (l : List Int) (u : Lr), (l.foldl (lrStep slots) u).hits.length = u.hits.length + l.length := by
    intro l
    induction l with
    | nil => intro u; rfl
    | cons p l ih => intro u; rw [List.foldl_cons, ih]; simp [lrStep]; omega
  have := this reqs ⟨[], []⟩
  simpa [lrRun] using this
theorem missed_add (l : List Bool) (b : Bool) : missed (l ++ [b]) = missed l + if b then 0 else 1 := by
  unfold missed
  rw [List.countP_append]
  cases b <;> simp

end Go.Proofs.YticckfioggeaeaaGreatDoor

/-
  TopBook: plain. The keys of a store are those of who goes by what was asked for.
-/
namespace Go.Proofs.YticckfioggeaeaaGreatDoor

/-- What is put: each page, and when. -/
def tbSteps (reqs : List Int) (i : Nat) : List (List Int) := (List.range i).map fun j => [reqs.getD j 0, (j : Int)]
theorem tbSteps_succ (reqs : List Int) (i : Nat) : tbSteps reqs (i + 1) = tbSteps reqs i ++ [[reqs.getD i 0, (i : Int)]] := by
  unfold tbSteps
  rw [List.range_succ, List.map_append]; rfl
theorem tb_run (slots : Nat) (reqs : List Int) (i : Nat) : runB slots (tbSteps reqs (i + 1)) = putS slots (runB slots (tbSteps reqs i)) (reqs.getD i 0) i := by
  rw [tbSteps_succ, runB_snoc]; rfl
/-- How many were let go of. -/
def tbMiss (slots : Nat) (reqs : List Int) : Nat → Nat
  | 0 => 0
  | i + 1 => tbMiss slots reqs i + (if 0 ≤ putV slots (runB slots (tbSteps reqs i)) (reqs.getD i 0) i then 1 else 0)
theorem filter_erase {L : List Int} (h : L.Nodup) (k : Int) : L.filter (fun x => x != k) = L.erase k := by
  rw [h.erase_eq_filter]
theorem keys_put {slots : Nat} {s : Bk} (hok : BkOk slots s) (k v : Int) : (putB slots s k v).keys = k :: lrRest slots s.keys k := by
  have hl : s.keys.length = s.M.length := by simp [Bk.keys]
  show k :: ((outM slots s k).filter fun p => p.1 != k).map (·.1) = _
  congr 1
  rw [filter_keys]
  unfold outM lrRest
  by_cases hm : k ∈ s.keys
  · rw [if_neg (show ¬ fullFor slots s k from fun h => h.1 hm), if_pos hm]
    exact filter_erase hok.nod k
  · rw [if_neg hm]
    by_cases hf : s.M.length = slots
    · rw [if_pos ⟨hm, hf⟩, if_pos (by omega), List.map_dropLast]
      show List.filter _ s.keys.dropLast = _
      rw [List.filter_eq_self.2, List.dropLast_eq_take, hl, hf]
      intro x hx
      have := (List.dropLast_sublist _).subset hx
      simp
      rintro rfl
      exact hm this
    · rw [if_neg (fun h => hf h.2), if_neg (by omega)]
      show List.filter _ s.keys = _
      rw [List.filter_eq_self.2]
      intro x hx
      simp
      rintro rfl
      exact hm hx
structure TB (slots : Nat) (reqs : List Int) (i : Nat) : Prop where
  ok : BkOk slots (runB slots (tbSteps reqs i))
  keys : (runB slots (tbSteps reqs i)).keys = (lrRun slots (reqs.take i)).held
  many : (runB slots (tbSteps reqs i)).many = i
  miss : (tbMiss slots reqs i : Int) = missed (lrRun slots (reqs.take i)).hits - ((lrRun slots (reqs.take i)).held.length : Nat)
  le : tbMiss slots reqs i ≤ i
/-- A page that is put: it goes, and what is let go of. -/
theorem tb_step {slots : Nat} {reqs : List Int} {i : Nat} (h : TB slots reqs i) (h1 : 1 ≤ slots) (hi : i < reqs.length) (hr : ∀ x ∈ reqs, 0 ≤ x ∧ x ≤ 15) (hn : reqs.length ≤ 40) :
    putE (runB slots (tbSteps reqs i)) (reqs.getD i 0) i = 0 ∧ ((reqs.getD i 0 ∈ (runB slots (tbSteps reqs i)).keys) → putV slots (runB slots (tbSteps reqs i)) (reqs.getD i 0) i = -1) ∧ TB slots reqs (i + 1) := by
  obtain ⟨p, hp⟩ : ∃ p, p = reqs.getD i 0 := ⟨_, rfl⟩
  have hpm : p ∈ reqs := by rw [hp, List.getD_eq_getElem?_getD, List.getElem?_eq_getElem hi]; exact List.getElem_mem _
  have hpr := hr p hpm
  obtain ⟨s, hs⟩ : ∃ s, s = runB slots (tbSteps reqs i) := ⟨_, rfl⟩
  obtain ⟨ok, hk, hm, hmi, hle⟩ := h
  rw [← hs] at ok hk hm
  rw [← hp, ← hs]
  have he : putE s p i = 0 := by
    unfold putE
    rw [if_neg (by simp only [okPut]; omega), if_neg (by omega)]
  have hV : putV slots s p i = letGo slots s p := by unfold putV; rw [if_pos he]
  have hnext : lrRun slots (reqs.take (i + 1)) = lrStep slots (lrRun slots (reqs.take i)) p := by
    rw [List.take_succ_eq_append_getElem hi, show reqs[i] = p by rw [hp, List.getD_eq_getElem?_getD, List.getElem?_eq_getElem hi]; rfl]
    exact lrRun_succ _ _ _
  have hS : runB slots (tbSteps reqs (i + 1)) = putB slots s p i := by rw [tb_run, ← hp, ← hs]; unfold putS; rw [if_pos he]
  have hlen : s.keys.length = s.M.length := by simp [Bk.keys]
  have hgo : 0 ≤ letGo slots s p ↔ fullFor slots s p := by
    unfold letGo
    constructor
    · intro h
      by_cases hf : fullFor slots s p
      · exact hf
      · rw [if_neg hf] at h; omega
    · intro hf
      rw [if_pos hf]
      cases hl : s.keys.getLast? with
      | none => simp
      | some x =>
        obtain ⟨q, hq, rfl⟩ := List.mem_map.1 (List.mem_of_getLast? hl)
        have := (ok.rng q hq).1.1
        simpa using this
  refine ⟨he, fun hin => ?_, ?_, ?_, ?_, ?_, ?_⟩
  · rw [hV]; unfold letGo; rw [if_neg (fun h => h.1 hin)]
  · rw [hS]; exact ok.put h1 he
  · rw [hS, keys_put ok, hnext, hk]; rfl
  · rw [hS]; show s.many + 1 = _; omega
  · show ((tbMiss slots reqs i + _ : Nat) : Int) = _
    rw [hnext, ← hp, ← hs, hV]
    show _ = missed (_ ++ [_]) - ((p :: lrRest slots _ p).length : Nat)
    rw [missed_add, ← hk]
    rw [← hk] at hmi
    unfold lrRest
    by_cases hin : p ∈ s.keys
    · rw [if_pos hin, decide_eq_true hin, if_pos rfl, if_neg (fun h => (hgo.1 h).1 hin), List.length_cons, List.length_erase_of_mem hin]
      have := List.length_pos_of_mem hin
      omega
    · rw [if_neg hin, decide_eq_false hin]
      simp only [Bool.false_eq_true, if_false]
      by_cases hf : s.M.length = slots
      · rw [if_pos (hgo.2 ⟨hin, hf⟩), if_pos (show s.keys.length = slots by omega), List.length_cons, List.length_take]
        omega
      · rw [if_neg (fun h => hf (hgo.1 h).2), if_neg (show ¬ s.keys.length = slots by omega), List.length_cons]
        omega
  · show tbMiss slots reqs i + _ ≤ _
    split <;> omega
theorem tb_zero (slots : Nat) (reqs : List Int) : TB slots reqs 0 := ⟨bk0_ok slots, rfl, rfl, rfl, Nat.le_refl _⟩
theorem lr_hits_step {slots : Nat} {reqs : List Int} {i : Nat} (hi : i < reqs.length) : ∃ r, (lrRun slots reqs).hits = (lrRun slots (reqs.take i)).hits ++ (decide (reqs.getD i 0 ∈ (lrRun slots (reqs.take i)).held) :: r) := by
  have key : ∀ (l : List Int) (u : Lr), ∃ r, (l.foldl (lrStep slots) u).hits = u.hits ++ r := by
    intro l
    induction l with
    | nil => intro u; exact ⟨[], by simp⟩
    | cons x l ih =>
      intro u
      obtain ⟨r, hr⟩ := ih (lrStep slots u x)
      exact ⟨[decide (x ∈ u.held)] ++ r, by rw [List.foldl_cons, hr]; simp [lrStep]⟩
  have e : lrRun slots reqs = (reqs.drop (i + 1)).foldl (lrStep slots) (lrRun slots (reqs.take (i + 1))) := by
    unfold lrRun
    rw [← List.foldl_append, List.take_append_drop]
  obtain ⟨r, hr⟩ := key (reqs.drop (i + 1)) (lrRun slots (reqs.take (i + 1)))
  refine ⟨r, ?_⟩
  rw [e, hr, List.take_succ_eq_append_getElem hi, lrRun_succ]
  have : reqs.getD i 0 = reqs[i] := by rw [List.getD_eq_getElem?_getD, List.getElem?_eq_getElem hi]; rfl
  rw [this]
  simp [lrStep]
/-- Of each page whether it was there. -/
theorem tb_hit {slots : Nat} {reqs : List Int} {i : Nat} (h : TB slots reqs i) (hi : i < reqs.length) : (lrRun slots reqs).hits[i]? = some (decide (reqs.getD i 0 ∈ (runB slots (tbSteps reqs i)).keys)) := by
  obtain ⟨r, hr⟩ := lr_hits_step (slots := slots) hi
  have hl := lrRun_hits slots (reqs.take i)
  rw [List.length_take] at hl
  rw [hr, h.keys, List.getElem?_append_right (by omega), show i - (lrRun slots (reqs.take i)).hits.length = 0 by omega]
  rfl
/-- At the end: the keys, how many there are, who was let go of. -/
theorem tb_end {slots : Nat} {reqs : List Int} (h : TB slots reqs reqs.length) (h1 : 1 ≤ slots) :
    openL slots bk0 (lns (runB slots (tbSteps reqs reqs.length)).text) = (runB slots (tbSteps reqs reqs.length), ((reqs.length : Nat) : Int), 0) ∧ (runB slots (tbSteps reqs reqs.length)).keys = (lrRun slots reqs).held ∧ (tbMiss slots reqs reqs.length : Int) = missed (lrRun slots reqs).hits - ((lrRun slots reqs).held.length : Nat) := by
  have e : reqs.take reqs.length = reqs := List.take_length
  have h2 := h.keys; have h3 := h.miss
  rw [e] at h2 h3
  refine ⟨?_, h2, h3⟩
  rw [open_again h1, h.many]
end Go.Proofs.YticckfioggeaeaaGreatDoor

/-
  The reference's Open: plain facts.
-/
namespace Go.Proofs.YticckfioggeaeaaGreatDoor

theorem putS_many {slots : Nat} {s : Bk} {k v : Int} (h : putE s k v = 0) : (putS slots s k v).many = s.many + 1 := by unfold putS; rw [if_pos h]; rfl
theorem getS_many {s : Bk} {k : Int} (h : getE s k = 0) : (getS s k).many = s.many + 1 := by unfold getS; rw [if_pos h]; rfl
theorem opM_ok {slots : Nat} {s : Bk} (hok : BkOk slots s) (h1 : 1 ≤ slots) (w : List UInt8) (ns : List Int) : BkOk slots (opM slots s w ns).1 ∧ ((opM slots s w ns).2 = 0 → (opM slots s w ns).1.many = s.many + 1) := by
  unfold opM
  split
  · exact ⟨hok.putS h1 _ _, putS_many⟩
  split
  · exact ⟨hok.getS _, getS_many⟩
  · exact ⟨hok, fun h => by cases h⟩
theorem lineM_ok {slots : Nat} {s : Bk} (hok : BkOk slots s) (h1 : 1 ≤ slots) (l : List UInt8) : BkOk slots (lineM slots s l).1 ∧ ((lineM slots s l).2 = 0 → (lineM slots s l).1.many = s.many + 1) := by
  unfold lineM
  cases lastCut l with
  | none => exact ⟨hok, fun h => by cases h⟩
  | some p =>
    simp only
    cases numberM p.2 with
    | none => exact ⟨hok, fun h => by cases h⟩
    | some n =>
      simp only
      split
      · exact ⟨hok, fun h => by cases h⟩
      · cases numsM (cutAt 32 p.1).tail with
        | none => exact ⟨hok, fun h => by cases h⟩
        | some ns => exact opM_ok hok h1 _ _
theorem cut_small10 (c : UInt8) : ∀ (l x : List UInt8), x ∈ cutAt c l → x.length ≤ l.length
  | [], x, h => by simp [cutAt] at h; simp [h]
  | y :: l, x, h => by
    rw [cutAt] at h
    split at h
    · rcases List.mem_cons.1 h with rfl | h
      · simp
      · have := cut_small10 c l x h; simp; omega
    · obtain ⟨w, ws, e⟩ := cutAt_parts c l
      rw [e] at h
      simp only [List.headD_cons, List.tail_cons] at h
      rcases List.mem_cons.1 h with rfl | h
      · have := cut_small10 c l w (by rw [e]; simp)
        simp; omega
      · have := cut_small10 c l x (by rw [e]; simp [h])
        simp; omega
theorem lns_get {text : List UInt8} {i : Nat} (h : i + 1 < (cutAt 10 text).length) : (lns text)[i]? = (cutAt 10 text)[i]? := by
  unfold lns
  rw [List.getElem?_dropLast, if_pos (by omega)]
/-- The reference counts lines: the state behind i of them. -/
theorem open_step {slots : Nat} {s : Bk} {ls : List (List UInt8)} {i : Nat} {l : List UInt8} (h : ls[i]? = some l) : openL slots s (ls.drop i) = if (lineM slots s l).2 ≠ 0 then (s, ((s.many : Nat) : Int) + 1, (lineM slots s l).2) else openL slots (lineM slots s l).1 (ls.drop (i + 1)) := by
  obtain ⟨hi, e⟩ := List.getElem?_eq_some_iff.1 h
  rw [List.drop_eq_getElem_cons hi, e, openL]
end Go.Proofs.YticckfioggeaeaaGreatDoor
