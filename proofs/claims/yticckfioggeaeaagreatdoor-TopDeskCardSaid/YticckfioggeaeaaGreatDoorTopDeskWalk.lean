/-
  TopDesk: the walk (printed by wip/gen_topdesk.py).
-/
import Derived.Test.YticckfioggeaeaaGreatDoorDeskBeginsWalk
import Derived.Test.YticckfioggeaeaaGreatDoorBookRefCut
import Derived.Test.YticckfioggeaeaaGreatDoorGJ
set_option linter.unusedVariables false
set_option linter.unusedSimpArgs false
set_option linter.unnecessarySimpa false
set_option linter.unusedVariables false
namespace Go.Proofs.YticckfioggeaeaaGreatDoor
open Go.RowKit

/-- Lines of answers. -/
def Shape (l : List UInt8) : Prop := ∃ o a, l = o ++ (a ++ [10]) ∧ Ended o ∧ 10 ∉ a
set_option maxRecDepth 100000 in
theorem lastLineT (l : List UInt8) (hl : l.length ≤ 300000) (h : Shape l) (w : World) :
    Calls Tryz.prog 28 #[.string ⟨l.toArray⟩] w fun e w' => e = .returned (.string ⟨(lastL l).toArray⟩) ∧ w = w' := by
  obtain ⟨o, a, e, ho, ha⟩ := h
  have HLL := Lib.hid (lastL_shape e ho ha)
  have hlen : l.length = o.length + a.length + 1 := by rw [e]; simp; omega
  have HAT : Hid (∀ (i : Nat) (hi : i < l.length), o.length ≤ i → i < o.length + a.length → l[i] ≠ 10) := Lib.hid fun i hi h1 h2 h10 => by
    have e2 : l[i] = a[i - o.length]'(by omega) := by
      simp only [e]
      rw [List.getElem_append_right (by omega), List.getElem_append_left (by omega)]
    exact ha (by rw [← h10, e2]; exact List.getElem_mem _)
  have HOT : Hid (∀ (i : Nat) (hi : i < l.length), o.length = i + 1 → l[i] = 10) := Lib.hid fun i hi h1 => by
    rcases ho with e3 | ⟨t, e3⟩
    · rw [e3] at h1; simp at h1
    · have ht : t.length = i := by rw [e3] at h1; simp at h1; exact h1
      subst ht
      simp only [e, e3]
      rw [List.getElem_append_left (by simp), List.getElem_append_right (Nat.le_refl _)]
      simp
  have HEX : Hid ((⟨l.toArray⟩ : ByteArray).extract o.length l.length = ⟨(a ++ [10]).toArray⟩) := Lib.hid (by
    rw [ext_mid, List.take_length]
    rw [show l.drop o.length = a ++ [10] by rw [e, List.drop_left]])
  obtain ⟨m, hm⟩ : ∃ m, m = o.length := ⟨_, rfl⟩
  obtain ⟨n, hn⟩ : ∃ n, n = l.length := ⟨_, rfl⟩
  obtain ⟨k, hk⟩ : ∃ k, k = a.length := ⟨_, rfl⟩
  have hsz : (⟨l.toArray⟩ : ByteArray).size = n := by rw [hn]; simp [ByteArray.size]
  rw [← hm, ← hk, ← hn] at hlen
  rw [← hn] at hl
  rw [← hm, ← hk] at HAT
  rw [← hm] at HOT
  rw [← hm, ← hn] at HEX
  have HN := Lib.hid hn
  have ten : (10 : UInt8).toNat = 10 := rfl
  clear hm hk e ho ha hn
  go_enter Tryz.func28, Tryz.ntmps28
  have HLN := Lib.hid hlen
  have hn1 : (n : Int) - 1 = ((m + k : Nat) : Int) := by omega
  have HN1 := Lib.hid hn1
  clear hlen hn1
  go_wp2
  go_loop [3] (fun v => ∃ j : Nat, m ≤ j ∧ j ≤ m + k ∧ v = .int .i64 j) (fun v => (intOf v).toNat)
  case atStart => exact ⟨m + k, by omega, Nat.le_refl _, congrArg (Value.int .i64) HN1.out⟩
  case round =>
    obtain ⟨j, hj1, hj2, rfl⟩ := hrel
    have hjn : j < n := by have := HLN.out; omega
    have hjn2 : j ≤ n := by omega
    have hj0 : (0 : Int) ≤ (j : Int) := by omega
    have hjl : (j : Int) ≤ (n : Int) := by omega
    have hjneg : ¬ (j : Int) < 0 := by omega
    by_cases hjm : j = m
    · subst hjm
      have hexs := HEX.out
      rcases Nat.eq_zero_or_pos j with h0 | hp
      · have hnp : ¬ (0 : Int) < (j : Int) := by omega
        have HE0 : Hid ((⟨l.toArray⟩ : ByteArray).extract 0 n = ⟨(a ++ [10]).toArray⟩) := Lib.hid (by have e0 := HEX.out; rw [h0] at e0; exact e0)
        go_wp2
        go_ret
        exact ⟨ret_eq (by rw [HLL.out]; exact congrArg Value.string HE0.out), rfl⟩
      · obtain ⟨i, rfl⟩ : ∃ i, j = i + 1 := ⟨j - 1, by omega⟩
        have hil : i < l.length := by rw [← HN.out]; omega
        have his : i < (⟨l.toArray⟩ : ByteArray).size := by rw [hsz]; omega
        have hat : (⟨l.toArray⟩ : ByteArray)[i]'his = l[i] := rfl
        have hq : ((((⟨l.toArray⟩ : ByteArray)[i]'his).toNat : Int) != 10) = false := by rw [hat, HOT.out i hil rfl]; rfl
        have hsub : ((i + 1 : Nat) : Int) - 1 = (i : Int) := by omega
        have hpos : (0 : Int) < ((i + 1 : Nat) : Int) := by omega
        have hi0 : (0 : Int) ≤ (i : Int) := by omega
        have hin : (i : Int) < (n : Int) := by omega
        obtain ⟨q, hqq⟩ : ∃ q, q = i + 1 := ⟨_, rfl⟩
        rw [← hqq] at hsub hpos hexs hj0 hjl hjneg hjn2 ⊢
        clear hat hqq
        go_wp2
        go_ret
        exact ⟨ret_eq (by rw [HLL.out]; rfl), rfl⟩
    · obtain ⟨i, rfl⟩ : ∃ i, j = i + 1 := ⟨j - 1, by omega⟩
      have hil : i < l.length := by rw [← HN.out]; omega
      have his : i < (⟨l.toArray⟩ : ByteArray).size := by rw [hsz]; omega
      have hat : (⟨l.toArray⟩ : ByteArray)[i]'his = l[i] := rfl
      have h10 := HAT.out i hil (by omega) (by omega)
      have hq : ((((⟨l.toArray⟩ : ByteArray)[i]'his).toNat : Int) != 10) = true := by
        rw [hat]
        exact bne_iff_ne.2 fun e => h10 (UInt8.toNat_inj.1 (by omega))
      have hsub : ((i + 1 : Nat) : Int) - 1 = (i : Int) := by omega
      have hpos : (0 : Int) < ((i + 1 : Nat) : Int) := by omega
      have hi0 : (0 : Int) ≤ (i : Int) := by omega
      have hin : (i : Int) < (n : Int) := by omega
      clear hat h10
      go_wp2
      exact ⟨⟨i, by omega, by omega, by simp⟩, by simp [intOf]⟩
theorem crash_shape {text : List UInt8} (hE : Ended text) (hl : text.length ≤ 2900) :
    Shape (runM (text ++ (sayL sKeys [] ++ [10]))) ∧ Shape (runM ((text ++ (sayL sCrash [9999999] ++ [10])) ++ (sayL sKeys [] ++ [10]))) := by
  have hr1 : ∀ n ∈ [(9999999 : Int)], 0 ≤ n ∧ n ≤ 9999999 := by intro n hn; simp at hn; omega
  have hr2 : ∀ n ∈ ([] : List Int), 0 ≤ n ∧ n ≤ 9999999 := by intro n hn; simp at hn
  have hlk := (itoa_plain (show (0 : Int) ≤ 9999999 by decide) (by omega)).2
  have hE2 : Ended (text ++ (sayL sCrash [9999999] ++ [10])) := .inr ⟨text ++ sayL sCrash [9999999], by simp⟩
  have e2 := run_say (ns := []) hE2 (w := sKeys) (by decide) (by decide) hr2
  have e3 := run_say (ns := []) hE (w := sKeys) (by decide) (by decide) hr2
  have l1 : (text ++ (sayL sKeys [] ++ [10])).length ≤ 3000 := by simp [sayL, sKeys, keysA]; omega
  have l2 : ((text ++ (sayL sCrash [9999999] ++ [10])) ++ (sayL sKeys [] ++ [10])).length ≤ 3000 := by simp [sayL, sKeys, sCrash, keysA] at hlk ⊢; omega
  obtain ⟨o1, a1, h1, h2, h3, _⟩ := run_shape l1 e3
  obtain ⟨o2, a2, g1, g2, g3, _⟩ := run_shape l2 e2
  exact ⟨⟨o1, a1, h1, h2, h3⟩, ⟨o2, a2, g1, g2, g3⟩⟩
set_option maxHeartbeats 4000000 in
set_option maxRecDepth 100000 in
theorem topDesk_any (text : List UInt8) (hml : text.length ≤ maxLen) (w : World) (hg : Tab w ∧ Errs w ∧ Handle w) :
    Calls Tryz.prog 10 #[.string ⟨text.toArray⟩] w (DkPost w) := by
  have HV : Hid (Env w w) := Lib.hid ⟨Below.refl _ _, hg.1, hg.2.1, hg.2.2⟩
  have hsz : (⟨text.toArray⟩ : ByteArray).size = text.length := by simp [ByteArray.size]
  have ten : (10 : UInt8).toNat = 10 := rfl
  clear hg
  go_enter Tryz.func10, Tryz.ntmps10
  go_wp2_with fail
  refine HV.out.keys.mono ?_
  rintro e w1 ⟨rfl, hv1⟩
  have HV1 := Lib.hid hv1
  clear hv1
  obtain ⟨n, hn⟩ : ∃ n, n = text.length := ⟨_, rfl⟩
  rw [← hn] at hsz hml
  have HN := Lib.hid hn
  clear hn
  by_cases hlong : 2900 < n
  · have hi : (2900 : Int) < (n : Int) := by omega
    go_wp2
    go_ret
    exact ⟨rfl, HV1.out.bel⟩
  have hli : ¬ (2900 : Int) < (n : Int) := by omega
  rcases Nat.eq_zero_or_pos n with h0 | hp
  · have HE : Hid (Ended text) := Lib.hid (ended_last (.inl (by rw [← HN.out]; exact h0)))
    have hn0 : ¬ (0 : Int) < (n : Int) := by omega
    clear h0
    have HCL := Lib.hid (crash_law HE.out (show text.length ≤ 2900 by rw [← HN.out]; omega))
    have HSH := Lib.hid (crash_shape HE.out (show text.length ≤ 2900 by rw [← HN.out]; omega))
    have hi9 := (itoa_plain (show (0 : Int) ≤ 9999999 by decide) (by omega)).2
    obtain ⟨T1, hT1⟩ : ∃ T1, T1 = text ++ (sayL sKeys [] ++ [10]) := ⟨_, rfl⟩
    obtain ⟨T2, hT2⟩ : ∃ T2, T2 = (text ++ (sayL sCrash [9999999] ++ [10])) ++ (sayL sKeys [] ++ [10]) := ⟨_, rfl⟩
    rw [← hT1, ← hT2] at HCL HSH
    have hB1 : (⟨text.toArray⟩ : ByteArray) ++ ⟨#[107, 101, 121, 115, 10]⟩ = ⟨T1.toArray⟩ := by
      rw [show (⟨#[107, 101, 121, 115, 10]⟩ : ByteArray) = ⟨[107, 101, 121, 115, 10].toArray⟩ from rfl, str_cat, hT1]
      simp [sayL, keysA, sKeys]
    have hB2 : (⟨text.toArray⟩ : ByteArray) ++ ⟨#[99, 114, 97, 115, 104, 32]⟩ ++ ⟨(Lib.itoa 9999999).toArray⟩ ++ ⟨#[10, 107, 101, 121, 115, 10]⟩ = ⟨T2.toArray⟩ := by
      rw [show (⟨#[99, 114, 97, 115, 104, 32]⟩ : ByteArray) = ⟨[99, 114, 97, 115, 104, 32].toArray⟩ from rfl, show (⟨#[10, 107, 101, 121, 115, 10]⟩ : ByteArray) = ⟨[10, 107, 101, 121, 115, 10].toArray⟩ from rfl, str_cat, str_cat, str_cat, hT2]
      simp [sayL, keysA, sKeys, sCrash]
    have HB1 := Lib.hid hB1; have HB2 := Lib.hid hB2
    clear hT1 hT2 hB1 hB2
    have q1 : ¬ 9223372036854775807 < n + 5 := by omega
    have q2 : ¬ 9223372036854775807 < n + 6 := by omega
    have q3 : ¬ 9223372036854775807 < n + 6 + (Lib.itoa 9999999).length := by omega
    have q4 : ¬ 9223372036854775807 < n + 6 + (Lib.itoa 9999999).length + 6 := by omega
    go_wp2_with fail
    rw [HB1.out]
    refine (HV1.out.run T1).mono ?_
    rintro e w4 ⟨rfl, hv4⟩
    have HV4 := Lib.hid hv4
    clear hv4
    go_wp2_with fail
    refine (lastLineT (runM T1) (by have := runM_len T1; omega) HSH.out.1 _).mono ?_
    rintro e w5 ⟨rfl, rfl⟩
    obtain ⟨A, hA⟩ : ∃ A, A = lastL (runM T1) := ⟨_, rfl⟩
    rw [← hA] at HCL ⊢
    clear hA
    go_wp2_with fail
    refine (rdigits_int 9999999 (by decide) (by decide) _).mono ?_
    rintro e w6 ⟨rfl, rfl⟩
    go_wp2_with fail
    rw [HB2.out]
    refine (HV4.out.run T2).mono ?_
    rintro e w7 ⟨rfl, hv7⟩
    have HV7 := Lib.hid hv7
    clear hv7
    go_wp2_with fail
    refine (lastLineT (runM T2) (by have := runM_len T2; omega) HSH.out.2 _).mono ?_
    rintro e w8 ⟨rfl, rfl⟩
    rw [← HCL.out.1]
    have hAl : (0 : Int) < (A.length : Int) := by have h9 := HCL.out.2; have := List.length_pos_iff.2 h9; omega
    have hsA : (⟨A.toArray⟩ : ByteArray).size = A.length := by simp [ByteArray.size]
    go_wp2
    go_ret
    exact ⟨ret_eq (congrArg Value.bool (decide_eq_true (by omega))), HV7.out.bel⟩
  · obtain ⟨q, hqn⟩ : ∃ q, n = q + 1 := ⟨n - 1, by omega⟩
    have hn0 : (0 : Int) < (n : Int) := by omega
    have hqt : q < text.length := by rw [← HN.out]; omega
    have hqs : q < (⟨text.toArray⟩ : ByteArray).size := by rw [hsz]; omega
    have hat : (⟨text.toArray⟩ : ByteArray)[q]'hqs = text[q] := rfl
    have hsub : (n : Int) - 1 = (q : Int) := by omega
    have hq0 : (0 : Int) ≤ (q : Int) := by omega
    have hqi : (q : Int) < (n : Int) := by omega
    have hwq : IntKind.i64.wrap (q : Int) = (q : Int) := IntWalk.i64_in _ (by omega)
    by_cases h10 : text[q] = 10
    · have hq : ((((⟨text.toArray⟩ : ByteArray)[q]'hqs).toNat : Int) != 10) = false := by rw [hat, h10]; rfl
      have HE : Hid (Ended text) := Lib.hid (ended_last (.inr ⟨by omega, by
        have e : text.length - 1 = q := by rw [← HN.out]; omega
        simp only [e]
        exact h10⟩))
      clear hat h10 hqn
      have HCL := Lib.hid (crash_law HE.out (show text.length ≤ 2900 by rw [← HN.out]; omega))
      have HSH := Lib.hid (crash_shape HE.out (show text.length ≤ 2900 by rw [← HN.out]; omega))
      have hi9 := (itoa_plain (show (0 : Int) ≤ 9999999 by decide) (by omega)).2
      obtain ⟨T1, hT1⟩ : ∃ T1, T1 = text ++ (sayL sKeys [] ++ [10]) := ⟨_, rfl⟩
      obtain ⟨T2, hT2⟩ : ∃ T2, T2 = (text ++ (sayL sCrash [9999999] ++ [10])) ++ (sayL sKeys [] ++ [10]) := ⟨_, rfl⟩
      rw [← hT1, ← hT2] at HCL HSH
      have hB1 : (⟨text.toArray⟩ : ByteArray) ++ ⟨#[107, 101, 121, 115, 10]⟩ = ⟨T1.toArray⟩ := by
        rw [show (⟨#[107, 101, 121, 115, 10]⟩ : ByteArray) = ⟨[107, 101, 121, 115, 10].toArray⟩ from rfl, str_cat, hT1]
        simp [sayL, keysA, sKeys]
      have hB2 : (⟨text.toArray⟩ : ByteArray) ++ ⟨#[99, 114, 97, 115, 104, 32]⟩ ++ ⟨(Lib.itoa 9999999).toArray⟩ ++ ⟨#[10, 107, 101, 121, 115, 10]⟩ = ⟨T2.toArray⟩ := by
        rw [show (⟨#[99, 114, 97, 115, 104, 32]⟩ : ByteArray) = ⟨[99, 114, 97, 115, 104, 32].toArray⟩ from rfl, show (⟨#[10, 107, 101, 121, 115, 10]⟩ : ByteArray) = ⟨[10, 107, 101, 121, 115, 10].toArray⟩ from rfl, str_cat, str_cat, str_cat, hT2]
        simp [sayL, keysA, sKeys, sCrash]
      have HB1 := Lib.hid hB1; have HB2 := Lib.hid hB2
      clear hT1 hT2 hB1 hB2
      have q1 : ¬ 9223372036854775807 < n + 5 := by omega
      have q2 : ¬ 9223372036854775807 < n + 6 := by omega
      have q3 : ¬ 9223372036854775807 < n + 6 + (Lib.itoa 9999999).length := by omega
      have q4 : ¬ 9223372036854775807 < n + 6 + (Lib.itoa 9999999).length + 6 := by omega
      go_wp2_with fail
      rw [HB1.out]
      refine (HV1.out.run T1).mono ?_
      rintro e w4 ⟨rfl, hv4⟩
      have HV4 := Lib.hid hv4
      clear hv4
      go_wp2_with fail
      refine (lastLineT (runM T1) (by have := runM_len T1; omega) HSH.out.1 _).mono ?_
      rintro e w5 ⟨rfl, rfl⟩
      obtain ⟨A, hA⟩ : ∃ A, A = lastL (runM T1) := ⟨_, rfl⟩
      rw [← hA] at HCL ⊢
      clear hA
      go_wp2_with fail
      refine (rdigits_int 9999999 (by decide) (by decide) _).mono ?_
      rintro e w6 ⟨rfl, rfl⟩
      go_wp2_with fail
      rw [HB2.out]
      refine (HV4.out.run T2).mono ?_
      rintro e w7 ⟨rfl, hv7⟩
      have HV7 := Lib.hid hv7
      clear hv7
      go_wp2_with fail
      refine (lastLineT (runM T2) (by have := runM_len T2; omega) HSH.out.2 _).mono ?_
      rintro e w8 ⟨rfl, rfl⟩
      rw [← HCL.out.1]
      have hAl : (0 : Int) < (A.length : Int) := by have h9 := HCL.out.2; have := List.length_pos_iff.2 h9; omega
      have hsA : (⟨A.toArray⟩ : ByteArray).size = A.length := by simp [ByteArray.size]
      go_wp2
      go_ret
      exact ⟨ret_eq (congrArg Value.bool (decide_eq_true (by omega))), HV7.out.bel⟩
    · have hq : ((((⟨text.toArray⟩ : ByteArray)[q]'hqs).toNat : Int) != 10) = true := by
        rw [hat]
        exact bne_iff_ne.2 fun e => h10 (UInt8.toNat_inj.1 (by omega))
      clear hat h10 hqn
      go_wp2
      go_ret
      exact ⟨rfl, HV1.out.bel⟩
theorem topDesk_walk (x0 : ByteArray) (w : World) (h0 : x0.size ≤ maxLen) (hg : Tab w ∧ Errs w ∧ Handle w) :
    Calls Tryz.prog 10 #[.string x0] w fun e w' => e = .returned (.bool true) ∧ Below w.heap.size w w' := by
  have h := topDesk_any x0.data.toList (by rw [show x0.data.toList.length = x0.size from (Lib.size_eq x0).symm]; exact h0) w hg
  rw [show (⟨x0.data.toList.toArray⟩ : ByteArray) = x0 from ByteArray.ext (by simp)] at h
  exact h
end Go.Proofs.YticckfioggeaeaaGreatDoor
