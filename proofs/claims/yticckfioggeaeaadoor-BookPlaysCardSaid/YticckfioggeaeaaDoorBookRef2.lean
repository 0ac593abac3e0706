/-
  The reference's Digits, Sum, by their contracts.
-/
import Derived.Test.YticckfioggeaeaaDoorBookRef1
import Derived.Test.YticckfioggeaeaaDoorBookParse
import Derived.Test.YticckfioggeaeaaDoorBookDown
namespace Go.Proofs.YticckfioggeaeaaDoor
open Go.RowKit

theorem digit_str (d : Nat) (h : d < 10) (w : World) : Calls Tryd.prog 28 #[.int .i64 d] w fun e w' => e = .returned (.string ⟨(Lib.decDigits d).toArray⟩) ∧ w = w' := by
  have hc : d = 0 ∨ d = 1 ∨ d = 2 ∨ d = 3 ∨ d = 4 ∨ d = 5 ∨ d = 6 ∨ d = 7 ∨ d = 8 ∨ d = 9 := by omega
  have HD : Hid (Lib.decDigits d = [UInt8.ofNat (48 + d)]) := Lib.hid (dec_small h)
  rcases hc with rfl | rfl | rfl | rfl | rfl | rfl | rfl | rfl | rfl | rfl
  all_goals
    clear h
    go_enter Tryd.func28, Tryd.ntmps28
    go_wp2
    go_ret
    exact ⟨by rw [HD.out, Lib.extract_eq]; rfl, rfl⟩
theorem digits_any (n : Nat) (h : n < 9223372036854775808) (w : World) : Calls Tryd.prog 28 #[.int .i64 n] w fun e w' => e = .returned (.string ⟨(Lib.decDigits n).toArray⟩) ∧ w = w' := by
  induction n using Nat.strongRecOn generalizing w with
  | _ n ih =>
    by_cases hn : n < 10
    · exact digit_str n hn w
    · have HIH := Lib.hid (fun w => ih (n / 10) (by omega) (by omega) w)
      have HDM := Lib.hid (fun w => digit_str (n % 10) (by omega) w)
      have HD : Hid (Lib.decDigits n = Lib.decDigits (n / 10) ++ Lib.decDigits (n % 10)) := Lib.hid (by rw [dec_big hn, dec_small (show n % 10 < 10 by omega)])
      have hl1 : (Lib.decDigits (n / 10)).length ≤ 19 := dec_len_le (by decide) (by omega)
      have hl2 : (Lib.decDigits (n % 10)).length ≤ 19 := dec_len_le (by decide) (by omega)
      have hni : ¬ (n : Int) < 10 := by omega
      have hn0 : (0 : Int) ≤ (n : Int) := by omega
      obtain ⟨q, hq⟩ : ∃ q, q = n / 10 := ⟨_, rfl⟩
      obtain ⟨r, hr⟩ : ∃ r, r = n % 10 := ⟨_, rfl⟩
      have hqi : (n : Int) / 10 = (q : Int) := by omega
      have hri : (n : Int) % 10 = (r : Int) := by omega
      rw [← hq, ← hr] at HD
      rw [← hq] at HIH hl1
      rw [← hr] at HDM hl2
      clear ih hn hq hr
      go_enter Tryd.func28, Tryd.ntmps28
      go_wp2_with fail
      refine (HIH.out _).mono ?_
      rintro e w1 ⟨rfl, rfl⟩
      go_wp2_with fail
      refine (HDM.out _).mono ?_
      rintro e w1 ⟨rfl, rfl⟩
      go_wp2
      go_ret
      exact ⟨ret_eq (congrArg Value.string (by rw [HD.out, ← str_cat])), rfl⟩
theorem rdigits_int (n : Int) (h0 : 0 ≤ n) (h : n < 9223372036854775808) (w : World) : Calls Tryd.prog 28 #[.int .i64 n] w fun e w' => e = .returned (.string ⟨(Lib.itoa n).toArray⟩) ∧ w = w' := by
  obtain ⟨u, rfl⟩ := Int.eq_ofNat_of_zero_le h0
  rw [itoa_nat]
  exact digits_any u (by omega) w
theorem wsum_drop (l : List UInt8) (m : Nat) (hm : m < l.length) : wsum m (l.drop m) = (m + 1) * l[m].toNat + wsum (m + 1) (l.drop (m + 1)) := by
  rw [List.drop_eq_getElem_cons hm, wsum]
theorem wsum_bd2 (l : List UInt8) (h : l.length ≤ 100000) (k : Nat) : wsum k (l.drop k) ≤ 2550000000000 := by
  have h1 := wsum_bd l h l.length
  rw [List.take_length] at h1
  have h2 := wsum_append (l.take k) (l.drop k) 0
  rw [List.take_append_drop] at h2
  rcases Nat.lt_or_ge l.length k with h3 | h3
  · rw [List.drop_of_length_le (by omega)]; simp [wsum]
  · rw [List.length_take, Nat.min_eq_left h3, Nat.zero_add] at h2
    omega
set_option maxHeartbeats 1000000 in
set_option maxRecDepth 100000 in
theorem rsum_any (s : ByteArray) (w : World) (hs : s.size ≤ 100000) :
    Calls Tryd.prog 42 #[.string s] w fun e w' => e = .returned (.int .i64 (sumB s.data.toList : Nat)) ∧ w = w' := by
  have hsz := Lib.size_eq s
  obtain ⟨n, hn⟩ : ∃ n, n = s.size := ⟨_, rfl⟩
  have HL : Hid (s.data.toList.length = n) := Lib.hid (by omega)
  have HW : Hid (∀ k, wsum k (s.data.toList.drop k) ≤ 2550000000000) := Lib.hid fun k => wsum_bd2 _ (by omega) k
  have hn5 : s.size ≤ 100000 := hs
  have HN := Lib.hid hn
  have hn5' : n ≤ 100000 := by omega
  clear hsz hn hs
  go_enter Tryd.func42, Tryd.ntmps42
  go_wp2
  rw [← HN.out]
  go_loop [3, 4] (fun t i => ∃ k : Nat, k ≤ n ∧ i = .int .i64 ((k : Int) - 1) ∧ t = .int .i64 (wsum k (s.data.toList.drop k) : Nat)) (fun _ i => (intOf i + 1).toNat)
  case atStart => exact ⟨n, Nat.le_refl _, rfl, by rw [List.drop_of_length_le (by rw [HL.out]; exact Nat.le_refl _)]; rfl⟩
  case round =>
    obtain ⟨k, hk, rfl, rfl⟩ := hrel
    by_cases hlt : k = 0
    · subst hlt
      have HT : Hid (sumB s.data.toList = wsum 0 (s.data.toList.drop 0) % 9973) := Lib.hid rfl
      have hw := HW.out 0
      obtain ⟨t, ht⟩ : ∃ t, t = wsum 0 (s.data.toList.drop 0) := ⟨_, rfl⟩
      rw [← ht] at HT hw ⊢
      have hneg : ((0 : Nat) : Int) - 1 = -1 := by omega
      rw [hneg]
      clear ht hneg
      go_wp2
      go_ret
      exact ⟨ret_int (by rw [HT.out]; omega), rfl⟩
    · obtain ⟨m, hm⟩ : ∃ m, k = m + 1 := ⟨k - 1, by omega⟩
      subst hm
      have hmn : m < s.size := by have := HN.out; omega
      have hst := wsum_drop s.data.toList m (by rw [HL.out]; omega)
      have hw := HW.out (m + 1)
      obtain ⟨c, hcc⟩ : ∃ c, c = s[m].toNat := ⟨_, rfl⟩
      have hc255 : c < 256 := by rw [hcc]; exact UInt8.toNat_lt _
      have hg : (s.data.toList[m]'(by rw [HL.out]; omega)).toNat = c := by rw [hcc]; rfl
      rw [hg] at hst
      obtain ⟨t, ht⟩ : ∃ t, t = wsum (m + 1) (s.data.toList.drop (m + 1)) := ⟨_, rfl⟩
      rw [← ht] at hst hw ⊢
      obtain ⟨z, hz⟩ : ∃ z, z = (m + 1) * c := ⟨_, rfl⟩
      have hzb : z ≤ 25600000 := by rw [hz]; exact Nat.le_trans (Nat.mul_le_mul (show m + 1 ≤ 100000 by omega) (show c ≤ 256 by omega)) (by decide)
      rw [← hz] at hst
      have HST := Lib.hid hst
      have hzi : ((m : Int) + 1) * (c : Int) = (z : Int) := by rw [hz]; simp
      have hmi : ((m + 1 : Nat) : Int) - 1 = (m : Int) := by omega
      have hm0 : (0 : Int) ≤ (m : Int) := by omega
      have hcs : s[m].toNat = c := hcc.symm
      have hwm : IntKind.i64.wrap (z : Int) = (z : Int) := IntWalk.i64_in _ (by omega)
      have hwt : IntKind.i64.wrap ((t : Int) + (z : Int)) = (t : Int) + (z : Int) := IntWalk.i64_in _ (by omega)
      rw [hmi]
      clear hst ht hcc hg hz hlt hmi
      go_wp2
      go_round
      case rel => exact ⟨m, by omega, rfl, congrArg (Value.int .i64) (by rw [HST.out]; simp; omega)⟩
      case measure => first | (simp [intOf]; done) | (simp [intOf]; omega)
theorem rsum_l (t : List UInt8) (q : Nat) (w : World) (hq : sumB t = q) (h : t.length ≤ 100000) :
    Calls Tryd.prog 42 #[.string ⟨t.toArray⟩] w fun e w' => e = .returned (.int .i64 q) ∧ w = w' :=
  (rsum_any ⟨t.toArray⟩ w (by simpa [ByteArray.size] using h)).mono fun e w' ⟨he, hb⟩ => ⟨by rw [he, ← hq], hb⟩
end Go.Proofs.YticckfioggeaeaaDoor
