/-
  Decimal numbers as bytes, plain.
-/
import Derived.Lib.AtoiAll
import Derived.Lib.ItoaLen
set_option linter.unusedVariables false
set_option linter.unusedSimpArgs false
set_option linter.unnecessarySimpa false
namespace Go.Proofs.YticckfioggeaeaaDoor

/-- What digits spell. -/
def stepD (acc : Nat) (c : UInt8) : Nat := acc * 10 + (c.toNat - 48)
def valD (acc : Nat) (l : List UInt8) : Nat := l.foldl stepD acc
theorem valD_nil (acc : Nat) : valD acc [] = acc := rfl
theorem valD_cons' (acc : Nat) (c : UInt8) (l : List UInt8) : valD acc (c :: l) = valD (stepD acc c) l := by simp only [valD, List.foldl_cons]
def digs (l : List UInt8) : Prop := ∀ c ∈ l, 48 ≤ c.toNat ∧ c.toNat ≤ 57
theorem dig_toNat (d : Nat) (h : d < 10) : (UInt8.ofNat (48 + d)).toNat = 48 + d := by
  rw [UInt8.toNat_ofNat']; omega
theorem dec_small {u : Nat} (h : u < 10) : Lib.decDigits u = [UInt8.ofNat (48 + u)] := by rw [Lib.decDigits, dif_pos h]
theorem dec_big {u : Nat} (h : ¬ u < 10) : Lib.decDigits u = Lib.decDigits (u / 10) ++ [UInt8.ofNat (48 + u % 10)] := by rw [Lib.decDigits, dif_neg h]
theorem dec_dig (u : Nat) : digs (Lib.decDigits u) := by
  induction u using Nat.strongRecOn with
  | _ u ih =>
    intro c hc
    by_cases h : u < 10
    · rw [dec_small h, List.mem_singleton] at hc
      rw [hc, dig_toNat u h]; omega
    · rw [dec_big h, List.mem_append, List.mem_singleton] at hc
      rcases hc with hc | hc
      · exact ih (u / 10) (by omega) c hc
      · rw [hc, dig_toNat _ (by omega)]; omega
theorem dec_len (u : Nat) : (Lib.decDigits u).length = Lib.nDigits u := Lib.decDigits_length u
theorem dec_pos (u : Nat) : 1 ≤ (Lib.decDigits u).length := by rw [dec_len]; exact Lib.nDigits_pos u
theorem dec_ne (u : Nat) : Lib.decDigits u ≠ [] := fun h => by have := dec_pos u; rw [h] at this; simp at this
theorem valD_cons (acc : Nat) (c : UInt8) (l : List UInt8) : valD acc (c :: l) = valD (acc * 10 + (c.toNat - 48)) l := valD_cons' acc c l
theorem valD_one (acc : Nat) (c : UInt8) : valD acc [c] = acc * 10 + (c.toNat - 48) := by rw [valD_cons, valD_nil]
theorem valD_append (l r : List UInt8) (acc : Nat) : valD acc (l ++ r) = valD (valD acc l) r := by simp only [valD, List.foldl_append]
theorem valD_dec (u : Nat) : valD 0 (Lib.decDigits u) = u := by
  induction u using Nat.strongRecOn with
  | _ u ih =>
    by_cases h : u < 10
    · rw [dec_small h]
      rw [valD_one, dig_toNat u h]; omega
    · rw [dec_big h, valD_append, ih (u / 10) (by omega), valD_one, dig_toNat _ (show u % 10 < 10 by omega)]; omega
theorem dec_inj {u v : Nat} (h : Lib.decDigits u = Lib.decDigits v) : u = v := by rw [← valD_dec u, h, valD_dec]
theorem nDig_le {u k : Nat} (hk : 1 ≤ k) (h : u < 10 ^ k) : Lib.nDigits u ≤ k := by
  induction k generalizing u with
  | zero => omega
  | succ k ih =>
    by_cases h2 : u < 10
    · rw [Lib.nDigits_small h2]; omega
    · rw [Lib.nDigits_big h2]
      by_cases hk0 : k = 0
      · subst hk0; omega
      · have := ih (u := u / 10) (by omega) (by rw [Nat.pow_succ] at h; omega)
        omega
theorem dec_len_le {u k : Nat} (hk : 1 ≤ k) (h : u < 10 ^ k) : (Lib.decDigits u).length ≤ k := by rw [dec_len]; exact nDig_le hk h
theorem dec_len_gt {u k : Nat} (h : 10 ^ k ≤ u) : k + 1 ≤ (Lib.decDigits u).length := by
  rw [dec_len]
  have h1 := Lib.lt_pow_nDigits u
  rcases Nat.lt_or_ge k (Lib.nDigits u) with h2 | h2
  · exact h2
  · have := Nat.pow_le_pow_right (show 1 ≤ 10 by decide) h2; omega
theorem valD_mono : ∀ (l : List UInt8) (acc : Nat), acc ≤ valD acc l
  | [], _ => Nat.le_refl _
  | c :: l, acc => by
    have := valD_mono l (acc * 10 + (c.toNat - 48))
    rw [valD_cons]
    omega
theorem valD_lt : ∀ (l : List UInt8) (acc : Nat), digs l → valD acc l < (acc + 1) * 10 ^ l.length
  | [], acc, _ => by rw [valD_nil]; simp
  | c :: l, acc, h => by
    have h1 := h c (by simp)
    rw [valD_cons]
    obtain ⟨d, hd⟩ : ∃ d, d = c.toNat - 48 := ⟨_, rfl⟩
    rw [← hd]
    have h2 := valD_lt l (acc * 10 + d) (fun x hx => h x (by simp [hx]))
    have h4 : acc * 10 + d + 1 ≤ (acc + 1) * 10 := by omega
    have h3 := Nat.mul_le_mul_right (10 ^ l.length) h4
    rw [List.length_cons, Nat.pow_succ, Nat.mul_comm (10 ^ l.length) 10, ← Nat.mul_assoc]
    exact Nat.lt_of_lt_of_le h2 h3

/-- The number that a text is, if it is one, of 0 or more. -/
def numberM (l : List UInt8) : Option Int := if Lib.decDigits (valD 0 l) = l ∧ valD 0 l < 9223372036854775808 then some (valD 0 l : Nat) else none
theorem numberM_dec {u : Nat} (h : u < 9223372036854775808) : numberM (Lib.decDigits u) = some (u : Int) := by
  unfold numberM
  rw [valD_dec, if_pos ⟨rfl, h⟩]
theorem numberM_some {l : List UInt8} {n : Int} (h : numberM l = some n) : ∃ u : Nat, n = u ∧ u < 9223372036854775808 ∧ l = Lib.decDigits u := by
  unfold numberM at h
  split at h
  · rename_i hc
    injection h with h
    exact ⟨_, h.symm, hc.2, hc.1.symm⟩
  · cases h

/-! ### strconv.Atoi -/
theorem parse_digs : ∀ (l : List UInt8) (acc : Nat), digs l → valD acc l < 18446744073709551616 → Lib.parseUint10 acc l = .ok (valD acc l)
  | [], _, _, _ => rfl
  | c :: l, acc, h, hv => by
    have h1 := h c (by simp)
    have h2 := valD_mono l (acc * 10 + (c.toNat - 48))
    rw [valD_cons] at hv ⊢
    rw [Lib.parseUint10, if_pos h1, if_neg (by omega), if_neg (by omega)]
    exact parse_digs l _ (fun x hx => h x (by simp [hx])) hv
theorem atoi_digs {l : List UInt8} (hl : l ≠ []) (h : digs l) (hv : valD 0 l < 9223372036854775808) : Lib.atoiAll l = .ok (valD 0 l : Nat) := by
  cases l with
  | nil => exact absurd rfl hl
  | cons c r =>
    have h1 := h c (by simp)
    have h2 : Lib.parseMag (c :: r) = .ok (valD 0 (c :: r)) := by
      unfold Lib.parseMag
      rw [if_neg (by simp)]
      exact parse_digs _ _ h (by omega)
    unfold Lib.atoiAll
    simp only [if_neg (show ¬ (c.toNat = 43 ∨ c.toNat = 45) by omega), h2]
    rw [if_neg (by omega), if_neg (by omega), if_neg (by omega)]
theorem atoi_dec {u : Nat} (h : u < 9223372036854775808) : Lib.atoiAll (Lib.decDigits u) = .ok (u : Int) := by
  have := atoi_digs (dec_ne u) (dec_dig u) (by rw [valD_dec]; exact h)
  rw [valD_dec] at this
  exact this
theorem itoa_nat (u : Nat) : Lib.itoa (u : Int) = Lib.decDigits u := Lib.itoa_nonneg u
theorem numberM_atoi {l : List UInt8} {v : Int} (h : Lib.atoiAll l = .ok v) : numberM l = if 0 ≤ v ∧ Lib.itoa v = l then some v else none := by
  by_cases hc : 0 ≤ v ∧ Lib.itoa v = l
  · rw [if_pos hc]
    obtain ⟨h0, h1⟩ := hc
    obtain ⟨u, rfl⟩ := Int.eq_ofNat_of_zero_le h0
    have h63 : u < 9223372036854775808 := by
      unfold Lib.atoiAll at h
      split at h
      · cases h
      · simp only at h
        split at h
        · cases h
        · cases h
        · split at h
          · cases h
          · split at h
            · cases h
            · injection h with h
              split at h <;> omega
    rw [← h1, itoa_nat, numberM_dec h63]
  · rw [if_neg hc]
    cases hn : numberM l with
    | none => rfl
    | some n =>
      obtain ⟨u, rfl, h63, rfl⟩ := numberM_some hn
      rw [atoi_dec h63] at h
      injection h with h
      subst h
      exact absurd ⟨by omega, itoa_nat u⟩ hc
theorem numberM_atoi_no {l : List UInt8} (h : ∀ v, Lib.atoiAll l ≠ .ok v) : numberM l = none := by
  cases hn : numberM l with
  | none => rfl
  | some n =>
    obtain ⟨u, rfl, h63, rfl⟩ := numberM_some hn
    exact absurd (atoi_dec h63) (h _)
/-- A number of so many digits. -/
theorem numberM_len {l : List UInt8} {n : Int} (h : numberM l = some n) : 1 ≤ l.length ∧ l.length ≤ 19 := by
  obtain ⟨u, rfl, h63, rfl⟩ := numberM_some h
  exact ⟨dec_pos u, dec_len_le (by decide) (by omega)⟩
theorem numberM_digs {l : List UInt8} {n : Int} (h : numberM l = some n) : digs l ∧ n = (valD 0 l : Nat) := by
  obtain ⟨u, rfl, h63, rfl⟩ := numberM_some h
  exact ⟨dec_dig u, by rw [valD_dec]⟩
end Go.Proofs.YticckfioggeaeaaDoor
