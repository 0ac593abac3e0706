/-
  DeskKeeps: the walk.
-/
import Derived.Test.YticckfioggeaeaaGreatDoorDeskBeginsWalk
import Derived.Test.YticckfioggeaeaaGreatDoorBookRefCut
import Derived.Test.YticckfioggeaeaaGreatDoorGJ
set_option linter.unusedVariables false
set_option linter.unusedSimpArgs false
set_option linter.unnecessarySimpa false
set_option linter.unusedVariables false
namespace Go.Proofs.YticckfioggeaeaaGreatDoor
open Go.RowKit

/-- Lines of answers. -/
def Shape (l : List UInt8) : Prop := ∃ o a, l = o ++ (a ++ [10]) ∧ Ended o ∧ 10 ∉ a
set_option maxRecDepth 100000 in
theorem lastLine5 (l : List UInt8) (hl : l.length ≤ 300000) (h : Shape l) (w : World) :
    Calls Tryz.prog 22 #[.string ⟨l.toArray⟩] w fun e w' => e = .returned (.string ⟨(lastL l).toArray⟩) ∧ w = w' := by
  obtain ⟨o, a, e, ho, ha⟩ := h
  have HLL := Lib.hid (lastL_shape e ho ha)
  have hlen : l.length = o.length + a.length + 1 := by rw [e]; simp; omega
  have HAT : Hid (∀ (i : Nat) (hi : i < l.length), o.length ≤ i → i < o.length + a.length → l[i] ≠ 10) := Lib.hid fun i hi h1 h2 h10 => by
    have e2 : l[i] = a[i - o.length]'(by omega) := by
      simp only [e]
      rw [List.getElem_append_right (by omega), List.getElem_append_left (by omega)]
    exact ha (by rw [← h10, e2]; exact List.getElem_mem _)
  have HOT : Hid (∀ (i : Nat) (hi : i < l.length), o.length = i + 1 → l[i] = 10) := Lib.hid fun i hi h1 => by
    rcases ho with e3 | ⟨t, e3⟩
    · rw [e3] at h1; simp at h1
    · have ht : t.length = i := by rw [e3] at h1; simp at h1; exact h1
      subst ht
      simp only [e, e3]
      rw [List.getElem_append_left (by simp), List.getElem_append_right (Nat.le_refl _)]
      simp
  have HEX : Hid ((⟨l.toArray⟩ : ByteArray).extract o.length l.length = ⟨(a ++ [10]).toArray⟩) := Lib.hid (by
    rw [ext_mid, List.take_length]
    rw [show l.drop o.length = a ++ [10] by rw [e, List.drop_left]])
  obtain ⟨m, hm⟩ : ∃ m, m = o.length := ⟨_, rfl⟩
  obtain ⟨n, hn⟩ : ∃ n, n = l.length := ⟨_, rfl⟩
  obtain ⟨k, hk⟩ : ∃ k, k = a.length := ⟨_, rfl⟩
  have hsz : (⟨l.toArray⟩ : ByteArray).size = n := by rw [hn]; simp [ByteArray.size]
  rw [← hm, ← hk, ← hn] at hlen
  rw [← hn] at hl
  rw [← hm, ← hk] at HAT
  rw [← hm] at HOT
  rw [← hm, ← hn] at HEX
  have HN := Lib.hid hn
  have ten : (10 : UInt8).toNat = 10 := rfl
  clear hm hk e ho ha hn
  go_enter Tryz.func22, Tryz.ntmps22
  have HLN := Lib.hid hlen
  have hn1 : (n : Int) - 1 = ((m + k : Nat) : Int) := by omega
  have HN1 := Lib.hid hn1
  clear hlen hn1
  go_wp2
  go_loop [3] (fun v => ∃ j : Nat, m ≤ j ∧ j ≤ m + k ∧ v = .int .i64 j) (fun v => (intOf v).toNat)
  case atStart => exact ⟨m + k, by omega, Nat.le_refl _, congrArg (Value.int .i64) HN1.out⟩
  case round =>
    obtain ⟨j, hj1, hj2, rfl⟩ := hrel
    have hjn : j < n := by have := HLN.out; omega
    have hjn2 : j ≤ n := by omega
    have hj0 : (0 : Int) ≤ (j : Int) := by omega
    have hjl : (j : Int) ≤ (n : Int) := by omega
    have hjneg : ¬ (j : Int) < 0 := by omega
    by_cases hjm : j = m
    · subst hjm
      have hexs := HEX.out
      rcases Nat.eq_zero_or_pos j with h0 | hp
      · have hnp : ¬ (0 : Int) < (j : Int) := by omega
        have HE0 : Hid ((⟨l.toArray⟩ : ByteArray).extract 0 n = ⟨(a ++ [10]).toArray⟩) := Lib.hid (by have e0 := HEX.out; rw [h0] at e0; exact e0)
        go_wp2
        go_ret
        exact ⟨ret_eq (by rw [HLL.out]; exact congrArg Value.string HE0.out), rfl⟩
      · obtain ⟨i, rfl⟩ : ∃ i, j = i + 1 := ⟨j - 1, by omega⟩
        have hil : i < l.length := by rw [← HN.out]; omega
        have his : i < (⟨l.toArray⟩ : ByteArray).size := by rw [hsz]; omega
        have hat : (⟨l.toArray⟩ : ByteArray)[i]'his = l[i] := rfl
        have hq : ((((⟨l.toArray⟩ : ByteArray)[i]'his).toNat : Int) != 10) = false := by rw [hat, HOT.out i hil rfl]; rfl
        have hsub : ((i + 1 : Nat) : Int) - 1 = (i : Int) := by omega
        have hpos : (0 : Int) < ((i + 1 : Nat) : Int) := by omega
        have hi0 : (0 : Int) ≤ (i : Int) := by omega
        have hin : (i : Int) < (n : Int) := by omega
        obtain ⟨q, hqq⟩ : ∃ q, q = i + 1 := ⟨_, rfl⟩
        rw [← hqq] at hsub hpos hexs hj0 hjl hjneg hjn2 ⊢
        clear hat hqq
        go_wp2
        go_ret
        exact ⟨ret_eq (by rw [HLL.out]; rfl), rfl⟩
    · obtain ⟨i, rfl⟩ : ∃ i, j = i + 1 := ⟨j - 1, by omega⟩
      have hil : i < l.length := by rw [← HN.out]; omega
      have his : i < (⟨l.toArray⟩ : ByteArray).size := by rw [hsz]; omega
      have hat : (⟨l.toArray⟩ : ByteArray)[i]'his = l[i] := rfl
      have h10 := HAT.out i hil (by omega) (by omega)
      have hq : ((((⟨l.toArray⟩ : ByteArray)[i]'his).toNat : Int) != 10) = true := by
        rw [hat]
        exact bne_iff_ne.2 fun e => h10 (UInt8.toNat_inj.1 (by omega))
      have hsub : ((i + 1 : Nat) : Int) - 1 = (i : Int) := by omega
      have hpos : (0 : Int) < ((i + 1 : Nat) : Int) := by omega
      have hi0 : (0 : Int) ≤ (i : Int) := by omega
      have hin : (i : Int) < (n : Int) := by omega
      clear hat h10
      go_wp2
      exact ⟨⟨i, by omega, by omega, by simp⟩, by simp [intOf]⟩
theorem say_bytes2 (w : List UInt8) (k v : Int) (t : List UInt8) : t ++ (sayL w [k, v] ++ [10]) = t ++ (w ++ (32 :: (Lib.itoa k ++ (32 :: (Lib.itoa v ++ [10]))))) := by simp [sayL, keysA]
theorem say_bytes1 (w : List UInt8) (k : Int) (t : List UInt8) : t ++ (sayL w [k] ++ [10]) = t ++ (w ++ (32 :: (Lib.itoa k ++ [10]))) := by simp [sayL, keysA]
theorem keeps_shape {text : List UInt8} (hE : Ended text) (hl : text.length ≤ 2900) {k v : Int} (hk : 0 ≤ k ∧ k ≤ 1000000) (hv : 0 ≤ v ∧ v ≤ 1000) :
    Shape (runM (text ++ (sayL sPut [k, v] ++ [10]))) ∧ Shape (runM ((text ++ (sayL sPut [k, v] ++ [10])) ++ (sayL sGet [k] ++ [10]))) := by
  have hr1 : ∀ n ∈ [k, v], 0 ≤ n ∧ n ≤ 9999999 := by intro n hn; simp at hn; omega
  have hr2 : ∀ n ∈ [k], 0 ≤ n ∧ n ≤ 9999999 := by intro n hn; simp at hn; omega
  have hlk := (itoa_plain hk.1 (show k ≤ 9999999 by omega)).2
  have hlv := (itoa_plain hv.1 (show v ≤ 9999999 by omega)).2
  have e1 := run_say (ns := [k, v]) hE (w := sPut) (by decide) (by decide) hr1
  have hE2 : Ended (text ++ (sayL sPut [k, v] ++ [10])) := .inr ⟨text ++ sayL sPut [k, v], by simp⟩
  have e2 := run_say (ns := [k]) hE2 (w := sGet) (by decide) (by decide) hr2
  have l1 : (text ++ (sayL sPut [k, v] ++ [10])).length ≤ 2950 := by simp [sayL, sPut, keysA]; omega
  have l2 : ((text ++ (sayL sPut [k, v] ++ [10])) ++ (sayL sGet [k] ++ [10])).length ≤ 3000 := by rw [List.length_append]; simp [sayL, sGet, keysA] at l1 ⊢; omega
  obtain ⟨o1, a1, h1, h2, h3, _⟩ := run_shape (by omega) e1
  obtain ⟨o2, a2, g1, g2, g3, _⟩ := run_shape l2 e2
  exact ⟨⟨o1, a1, h1, h2, h3⟩, ⟨o2, a2, g1, g2, g3⟩⟩
theorem lastL_len {l : List UInt8} (h : Shape l) : (lastL l).length ≤ l.length := by
  obtain ⟨o, a, e, ho, ha⟩ := h
  rw [lastL_shape e ho ha, e]
  simp
set_option maxHeartbeats 4000000 in
set_option maxRecDepth 100000 in
theorem deskKeeps_any (text : List UInt8) (hml : text.length ≤ maxLen) (k v : Int) (w : World) (hg : Tab w ∧ Errs w ∧ Handle w) :
    Calls Tryz.prog 8 #[.string ⟨text.toArray⟩, .int .i64 k, .int .i64 v] w (DkPost w) := by
  have HV : Hid (Env w w) := Lib.hid ⟨Below.refl _ _, hg.1, hg.2.1, hg.2.2⟩
  have hsz : (⟨text.toArray⟩ : ByteArray).size = text.length := by simp [ByteArray.size]
  have ten : (10 : UInt8).toNat = 10 := rfl
  clear hg
  go_enter Tryz.func8, Tryz.ntmps8
  go_wp2_with fail
  refine HV.out.keys.mono ?_
  rintro e w1 ⟨rfl, hv1⟩
  have HV1 := Lib.hid hv1
  clear hv1
  obtain ⟨n, hn⟩ : ∃ n, n = text.length := ⟨_, rfl⟩
  rw [← hn] at hsz hml
  have HN := Lib.hid hn
  clear hn
  by_cases hlong : 2900 < n
  · have hi : (2900 : Int) < (n : Int) := by omega
    go_wp2
    go_ret
    exact ⟨rfl, HV1.out.bel⟩
  have hli : ¬ (2900 : Int) < (n : Int) := by omega
  rcases Nat.eq_zero_or_pos n with h0 | hp
  · have HE : Hid (Ended text) := Lib.hid (ended_last (.inl (by rw [← HN.out]; exact h0)))
    have hn0 : ¬ (0 : Int) < (n : Int) := by omega
    clear h0
    by_cases hb : k < 0 ∨ 1000000 < k ∨ v < 0 ∨ 1000 < v
    · have hb' : k < 0 ∨ (¬ k < 0 ∧ 1000000 < k) ∨ (¬ k < 0 ∧ ¬ 1000000 < k ∧ v < 0) ∨ (¬ k < 0 ∧ ¬ 1000000 < k ∧ ¬ v < 0 ∧ 1000 < v) := by omega
      clear hb
      rcases hb' with h | ⟨g1, h⟩ | ⟨g1, g2, h⟩ | ⟨g1, g2, g3, h⟩
      all_goals
        go_wp2
        go_ret
        exact ⟨rfl, HV1.out.bel⟩
    · have g1 : ¬ k < 0 := by omega
      have g2 : ¬ 1000000 < k := by omega
      have g3 : ¬ v < 0 := by omega
      have g4 : ¬ 1000 < v := by omega
      have hk : 0 ≤ k ∧ k ≤ 1000000 := by omega
      have hv : 0 ≤ v ∧ v ≤ 1000 := by omega
      clear hb
      have HKL := Lib.hid (keeps_law HE.out (show text.length ≤ 2900 by rw [← HN.out]; omega) hk hv)
      have HSH := Lib.hid (keeps_shape HE.out (show text.length ≤ 2900 by rw [← HN.out]; omega) hk hv)
      have hik := (itoa_plain hk.1 (show k ≤ 9999999 by omega)).2
      have hiv := (itoa_plain hv.1 (show v ≤ 9999999 by omega)).2
      obtain ⟨P, hP⟩ : ∃ P, P = sayL sPut [k, v] ++ [10] := ⟨_, rfl⟩
      obtain ⟨G, hG⟩ : ∃ G, G = sayL sGet [k] ++ [10] := ⟨_, rfl⟩
      have hPl : P.length ≤ 30 := by rw [hP]; simp [sayL, keysA, sPut]; omega
      have hPB : (⟨#[112, 117, 116, 32]⟩ : ByteArray) ++ ⟨(Lib.itoa k).toArray⟩ ++ ⟨#[32]⟩ ++ ⟨(Lib.itoa v).toArray⟩ ++ ⟨#[10]⟩ = ⟨P.toArray⟩ := by
        rw [show (⟨#[112, 117, 116, 32]⟩ : ByteArray) = ⟨[112, 117, 116, 32].toArray⟩ from rfl, show (⟨#[32]⟩ : ByteArray) = ⟨[32].toArray⟩ from rfl, show (⟨#[10]⟩ : ByteArray) = ⟨[10].toArray⟩ from rfl, str_cat, str_cat, str_cat, str_cat, hP]
        simp [sayL, keysA, sPut]
      have hGB : (⟨(text ++ P).toArray⟩ : ByteArray) ++ ⟨#[103, 101, 116, 32]⟩ ++ ⟨(Lib.itoa k).toArray⟩ ++ ⟨#[10]⟩ = ⟨((text ++ P) ++ G).toArray⟩ := by
        rw [show (⟨#[103, 101, 116, 32]⟩ : ByteArray) = ⟨[103, 101, 116, 32].toArray⟩ from rfl, show (⟨#[10]⟩ : ByteArray) = ⟨[10].toArray⟩ from rfl, str_cat, str_cat, str_cat, hG]
        simp [sayL, keysA, sGet]
      rw [← hP, ← hG] at HKL HSH
      have hsP : (⟨P.toArray⟩ : ByteArray).size = P.length := by simp [ByteArray.size]
      have hsTP : (⟨(text ++ P).toArray⟩ : ByteArray).size = n + P.length := by rw [HN.out]; simp [ByteArray.size]
      have hTP : (⟨text.toArray⟩ : ByteArray) ++ ⟨P.toArray⟩ = ⟨(text ++ P).toArray⟩ := str_cat _ _
      obtain ⟨T1, hT1⟩ : ∃ T1, T1 = text ++ P := ⟨_, rfl⟩
      rw [← hT1] at HKL HSH hGB hTP hsTP
      obtain ⟨T2, hT2⟩ : ∃ T2, T2 = T1 ++ G := ⟨_, rfl⟩
      rw [← hT2] at HKL HSH hGB
      clear hT1 hT2
      have HPB := Lib.hid hPB; have HGB := Lib.hid hGB; have HTP := Lib.hid hTP
      clear hTP
      have HK := Lib.hid hk; have HVV := Lib.hid hv
      clear hP hG hPB hGB
      have q1 : ¬ 9223372036854775807 < 4 + (Lib.itoa k).length := by omega
      have q2 : ¬ 9223372036854775807 < 4 + (Lib.itoa k).length + 1 := by omega
      have q3 : ¬ 9223372036854775807 < 4 + (Lib.itoa k).length + 1 + (Lib.itoa v).length := by omega
      have q4 : ¬ 9223372036854775807 < 4 + (Lib.itoa k).length + 1 + (Lib.itoa v).length + 1 := by omega
      have q5 : ¬ 9223372036854775807 < n + P.length := by omega
      have q6 : ¬ 9223372036854775807 < n + P.length + 4 := by omega
      have q7 : ¬ 9223372036854775807 < n + P.length + 4 + (Lib.itoa k).length := by omega
      have q8 : ¬ 9223372036854775807 < n + P.length + 4 + (Lib.itoa k).length + 1 := by omega
      have q9 : ¬ 9223372036854775807 < (Lib.itoa v).length + 1 := by omega
      go_wp2_with fail
      refine (rdigits_int k HK.out.1 (by have := HK.out.2; omega) _).mono ?_
      rintro e w2 ⟨rfl, rfl⟩
      go_wp2_with fail
      refine (rdigits_int v HVV.out.1 (by have := HVV.out.2; omega) _).mono ?_
      rintro e w3 ⟨rfl, rfl⟩
      go_upto_region 7 with fail
      rw [HPB.out]
      go_wp2_with fail
      rw [HTP.out]
      refine (HV1.out.run T1).mono ?_
      rintro e w4 ⟨rfl, hv4⟩
      have HV4 := Lib.hid hv4
      clear hv4
      go_wp2_with fail
      refine (lastLine5 (runM T1) (by have := runM_len T1; omega) HSH.out.1 _).mono ?_
      rintro e w5 ⟨rfl, rfl⟩
      obtain ⟨A, hA⟩ : ∃ A, A = lastL (runM T1) := ⟨_, rfl⟩
      rw [← hA] at HKL ⊢
      clear hA
      go_wp2_with fail
      refine (rdigits_int k HK.out.1 (by have := HK.out.2; omega) _).mono ?_
      rintro e w6 ⟨rfl, rfl⟩
      go_wp2_with fail
      rw [HTP.out, HGB.out]
      refine (HV4.out.run T2).mono ?_
      rintro e w7 ⟨rfl, hv7⟩
      have HV7 := Lib.hid hv7
      clear hv7
      go_wp2_with fail
      refine (lastLine5 (runM T2) (by have := runM_len T2; omega) HSH.out.2 _).mono ?_
      rintro e w8 ⟨rfl, rfl⟩
      obtain ⟨B, hB⟩ : ∃ B, B = lastL (runM T2) := ⟨_, rfl⟩
      rw [← hB] at HKL ⊢
      clear hB
      rcases HKL.out with hf | ⟨⟨z, hz⟩, hB⟩
      · have hA : A = [69, 114, 114, 70, 117, 108, 108, 10] := hf
        subst hA
        go_wp2
        go_ret
        exact ⟨rfl, HV7.out.bel⟩
      · have hA1 : (A == [69, 114, 114, 70, 117, 108, 108, 10]) = false := by rw [hz]; rfl
        have hA2 : (⟨A.toArray⟩ : ByteArray).extract 0 2 = ⟨#[111, 107]⟩ := by
          have h2 := ext_left [111, 107] (z ++ [10])
          rw [hz]
          exact h2
        have hA3 : (3 : Int) ≤ (A.length : Int) := by rw [hz]; simp [sOk]; omega
        have hA4 : (2 : Nat) ≤ A.length := by omega
        have hsA : (⟨A.toArray⟩ : ByteArray).size = A.length := by simp [ByteArray.size]
        clear hz HKL
        have HDB : Hid ((⟨(Lib.itoa v).toArray⟩ : ByteArray) ++ ⟨#[10]⟩ = ⟨(Lib.itoa v ++ [10]).toArray⟩) := Lib.hid (by rw [show (⟨#[10]⟩ : ByteArray) = ⟨[10].toArray⟩ from rfl, str_cat])
        rcases hB with hB | hB
        · subst hB
          go_wp2_with fail
          refine (rdigits_int v HVV.out.1 (by have := HVV.out.2; omega) _).mono ?_
          rintro e w9 ⟨rfl, rfl⟩
          have hdb := HDB.out
          go_wp2
          go_ret
          exact ⟨rfl, HV7.out.bel⟩
        · have hB' : B = [69, 114, 114, 70, 117, 108, 108, 10] := hB
          subst hB'
          clear hB
          have hq : ([69, 114, 114, 70, 117, 108, 108, 10] : List UInt8) ≠ Lib.itoa v ++ [10] := fun e => by
            have hd := itoa_dig HVV.out.1
            cases hI : Lib.itoa v with
            | nil => rw [hI] at e; simp at e
            | cons x r =>
              rw [hI] at e hd
              simp only [List.cons_append, List.cons.injEq] at e
              have := (hd x (by simp)).2
              rw [← e.1] at this
              exact absurd this (by decide)
          have hq2 : (([69, 114, 114, 70, 117, 108, 108, 10] : List UInt8) == Lib.itoa v ++ [10]) = false := beq_eq_false_iff_ne.2 hq
          go_wp2_with fail
          refine (rdigits_int v HVV.out.1 (by have := HVV.out.2; omega) _).mono ?_
          rintro e w9 ⟨rfl, rfl⟩
          have hdb := HDB.out
          go_wp2
          go_ret
          exact ⟨rfl, HV7.out.bel⟩
  · obtain ⟨q, hqn⟩ : ∃ q, n = q + 1 := ⟨n - 1, by omega⟩
    have hn0 : (0 : Int) < (n : Int) := by omega
    have hqt : q < text.length := by rw [← HN.out]; omega
    have hqs : q < (⟨text.toArray⟩ : ByteArray).size := by rw [hsz]; omega
    have hat : (⟨text.toArray⟩ : ByteArray)[q]'hqs = text[q] := rfl
    have hsub : (n : Int) - 1 = (q : Int) := by omega
    have hq0 : (0 : Int) ≤ (q : Int) := by omega
    have hqi : (q : Int) < (n : Int) := by omega
    have hwq : IntKind.i64.wrap (q : Int) = (q : Int) := IntWalk.i64_in _ (by omega)
    by_cases h10 : text[q] = 10
    · have hq : ((((⟨text.toArray⟩ : ByteArray)[q]'hqs).toNat : Int) != 10) = false := by rw [hat, h10]; rfl
      have HE : Hid (Ended text) := Lib.hid (ended_last (.inr ⟨by omega, by
        have e : text.length - 1 = q := by rw [← HN.out]; omega
        simp only [e]
        exact h10⟩))
      clear hat h10 hqn
      by_cases hb : k < 0 ∨ 1000000 < k ∨ v < 0 ∨ 1000 < v
      · have hb' : k < 0 ∨ (¬ k < 0 ∧ 1000000 < k) ∨ (¬ k < 0 ∧ ¬ 1000000 < k ∧ v < 0) ∨ (¬ k < 0 ∧ ¬ 1000000 < k ∧ ¬ v < 0 ∧ 1000 < v) := by omega
        clear hb
        rcases hb' with h | ⟨g1, h⟩ | ⟨g1, g2, h⟩ | ⟨g1, g2, g3, h⟩
        all_goals
          go_wp2
          go_ret
          exact ⟨rfl, HV1.out.bel⟩
      · have g1 : ¬ k < 0 := by omega
        have g2 : ¬ 1000000 < k := by omega
        have g3 : ¬ v < 0 := by omega
        have g4 : ¬ 1000 < v := by omega
        have hk : 0 ≤ k ∧ k ≤ 1000000 := by omega
        have hv : 0 ≤ v ∧ v ≤ 1000 := by omega
        clear hb
        have HKL := Lib.hid (keeps_law HE.out (show text.length ≤ 2900 by rw [← HN.out]; omega) hk hv)
        have HSH := Lib.hid (keeps_shape HE.out (show text.length ≤ 2900 by rw [← HN.out]; omega) hk hv)
        have hik := (itoa_plain hk.1 (show k ≤ 9999999 by omega)).2
        have hiv := (itoa_plain hv.1 (show v ≤ 9999999 by omega)).2
        obtain ⟨P, hP⟩ : ∃ P, P = sayL sPut [k, v] ++ [10] := ⟨_, rfl⟩
        obtain ⟨G, hG⟩ : ∃ G, G = sayL sGet [k] ++ [10] := ⟨_, rfl⟩
        have hPl : P.length ≤ 30 := by rw [hP]; simp [sayL, keysA, sPut]; omega
        have hPB : (⟨#[112, 117, 116, 32]⟩ : ByteArray) ++ ⟨(Lib.itoa k).toArray⟩ ++ ⟨#[32]⟩ ++ ⟨(Lib.itoa v).toArray⟩ ++ ⟨#[10]⟩ = ⟨P.toArray⟩ := by
          rw [show (⟨#[112, 117, 116, 32]⟩ : ByteArray) = ⟨[112, 117, 116, 32].toArray⟩ from rfl, show (⟨#[32]⟩ : ByteArray) = ⟨[32].toArray⟩ from rfl, show (⟨#[10]⟩ : ByteArray) = ⟨[10].toArray⟩ from rfl, str_cat, str_cat, str_cat, str_cat, hP]
          simp [sayL, keysA, sPut]
        have hGB : (⟨(text ++ P).toArray⟩ : ByteArray) ++ ⟨#[103, 101, 116, 32]⟩ ++ ⟨(Lib.itoa k).toArray⟩ ++ ⟨#[10]⟩ = ⟨((text ++ P) ++ G).toArray⟩ := by
          rw [show (⟨#[103, 101, 116, 32]⟩ : ByteArray) = ⟨[103, 101, 116, 32].toArray⟩ from rfl, show (⟨#[10]⟩ : ByteArray) = ⟨[10].toArray⟩ from rfl, str_cat, str_cat, str_cat, hG]
          simp [sayL, keysA, sGet]
        rw [← hP, ← hG] at HKL HSH
        have hsP : (⟨P.toArray⟩ : ByteArray).size = P.length := by simp [ByteArray.size]
        have hsTP : (⟨(text ++ P).toArray⟩ : ByteArray).size = n + P.length := by rw [HN.out]; simp [ByteArray.size]
        have hTP : (⟨text.toArray⟩ : ByteArray) ++ ⟨P.toArray⟩ = ⟨(text ++ P).toArray⟩ := str_cat _ _
        obtain ⟨T1, hT1⟩ : ∃ T1, T1 = text ++ P := ⟨_, rfl⟩
        rw [← hT1] at HKL HSH hGB hTP hsTP
        obtain ⟨T2, hT2⟩ : ∃ T2, T2 = T1 ++ G := ⟨_, rfl⟩
        rw [← hT2] at HKL HSH hGB
        clear hT1 hT2
        have HPB := Lib.hid hPB; have HGB := Lib.hid hGB; have HTP := Lib.hid hTP
        clear hTP
        have HK := Lib.hid hk; have HVV := Lib.hid hv
        clear hP hG hPB hGB
        have q1 : ¬ 9223372036854775807 < 4 + (Lib.itoa k).length := by omega
        have q2 : ¬ 9223372036854775807 < 4 + (Lib.itoa k).length + 1 := by omega
        have q3 : ¬ 9223372036854775807 < 4 + (Lib.itoa k).length + 1 + (Lib.itoa v).length := by omega
        have q4 : ¬ 9223372036854775807 < 4 + (Lib.itoa k).length + 1 + (Lib.itoa v).length + 1 := by omega
        have q5 : ¬ 9223372036854775807 < n + P.length := by omega
        have q6 : ¬ 9223372036854775807 < n + P.length + 4 := by omega
        have q7 : ¬ 9223372036854775807 < n + P.length + 4 + (Lib.itoa k).length := by omega
        have q8 : ¬ 9223372036854775807 < n + P.length + 4 + (Lib.itoa k).length + 1 := by omega
        have q9 : ¬ 9223372036854775807 < (Lib.itoa v).length + 1 := by omega
        go_wp2_with fail
        refine (rdigits_int k HK.out.1 (by have := HK.out.2; omega) _).mono ?_
        rintro e w2 ⟨rfl, rfl⟩
        go_wp2_with fail
        refine (rdigits_int v HVV.out.1 (by have := HVV.out.2; omega) _).mono ?_
        rintro e w3 ⟨rfl, rfl⟩
        go_upto_region 7 with fail
        rw [HPB.out]
        go_wp2_with fail
        rw [HTP.out]
        refine (HV1.out.run T1).mono ?_
        rintro e w4 ⟨rfl, hv4⟩
        have HV4 := Lib.hid hv4
        clear hv4
        go_wp2_with fail
        refine (lastLine5 (runM T1) (by have := runM_len T1; omega) HSH.out.1 _).mono ?_
        rintro e w5 ⟨rfl, rfl⟩
        obtain ⟨A, hA⟩ : ∃ A, A = lastL (runM T1) := ⟨_, rfl⟩
        rw [← hA] at HKL ⊢
        clear hA
        go_wp2_with fail
        refine (rdigits_int k HK.out.1 (by have := HK.out.2; omega) _).mono ?_
        rintro e w6 ⟨rfl, rfl⟩
        go_wp2_with fail
        rw [HTP.out, HGB.out]
        refine (HV4.out.run T2).mono ?_
        rintro e w7 ⟨rfl, hv7⟩
        have HV7 := Lib.hid hv7
        clear hv7
        go_wp2_with fail
        refine (lastLine5 (runM T2) (by have := runM_len T2; omega) HSH.out.2 _).mono ?_
        rintro e w8 ⟨rfl, rfl⟩
        obtain ⟨B, hB⟩ : ∃ B, B = lastL (runM T2) := ⟨_, rfl⟩
        rw [← hB] at HKL ⊢
        clear hB
        rcases HKL.out with hf | ⟨⟨z, hz⟩, hB⟩
        · have hA : A = [69, 114, 114, 70, 117, 108, 108, 10] := hf
          subst hA
          go_wp2
          go_ret
          exact ⟨rfl, HV7.out.bel⟩
        · have hA1 : (A == [69, 114, 114, 70, 117, 108, 108, 10]) = false := by rw [hz]; rfl
          have hA2 : (⟨A.toArray⟩ : ByteArray).extract 0 2 = ⟨#[111, 107]⟩ := by
            have h2 := ext_left [111, 107] (z ++ [10])
            rw [hz]
            exact h2
          have hA3 : (3 : Int) ≤ (A.length : Int) := by rw [hz]; simp [sOk]; omega
          have hA4 : (2 : Nat) ≤ A.length := by omega
          have hsA : (⟨A.toArray⟩ : ByteArray).size = A.length := by simp [ByteArray.size]
          clear hz HKL
          have HDB : Hid ((⟨(Lib.itoa v).toArray⟩ : ByteArray) ++ ⟨#[10]⟩ = ⟨(Lib.itoa v ++ [10]).toArray⟩) := Lib.hid (by rw [show (⟨#[10]⟩ : ByteArray) = ⟨[10].toArray⟩ from rfl, str_cat])
          rcases hB with hB | hB
          · subst hB
            go_wp2_with fail
            refine (rdigits_int v HVV.out.1 (by have := HVV.out.2; omega) _).mono ?_
            rintro e w9 ⟨rfl, rfl⟩
            have hdb := HDB.out
            go_wp2
            go_ret
            exact ⟨rfl, HV7.out.bel⟩
          · have hB' : B = [69, 114, 114, 70, 117, 108, 108, 10] := hB
            subst hB'
            clear hB
            have hq : ([69, 114, 114, 70, 117, 108, 108, 10] : List UInt8) ≠ Lib.itoa v ++ [10] := fun e => by
              have hd := itoa_dig HVV.out.1
              cases hI : Lib.itoa v with
              | nil => rw [hI] at e; simp at e
              | cons x r =>
                rw [hI] at e hd
                simp only [List.cons_append, List.cons.injEq] at e
                have := (hd x (by simp)).2
                rw [← e.1] at this
                exact absurd this (by decide)
            have hq2 : (([69, 114, 114, 70, 117, 108, 108, 10] : List UInt8) == Lib.itoa v ++ [10]) = false := beq_eq_false_iff_ne.2 hq
            go_wp2_with fail
            refine (rdigits_int v HVV.out.1 (by have := HVV.out.2; omega) _).mono ?_
            rintro e w9 ⟨rfl, rfl⟩
            have hdb := HDB.out
            go_wp2
            go_ret
            exact ⟨rfl, HV7.out.bel⟩
    · have hq : ((((⟨text.toArray⟩ : ByteArray)[q]'hqs).toNat : Int) != 10) = true := by
        rw [hat]
        exact bne_iff_ne.2 fun e => h10 (UInt8.toNat_inj.1 (by omega))
      clear hat h10 hqn
      go_wp2
      go_ret
      exact ⟨rfl, HV1.out.bel⟩
theorem deskKeeps_walk (x0 : ByteArray) (x1 x2 : Int) (w : World) (h0 : x0.size ≤ maxLen) (_ : I64 x1) (_ : I64 x2) (hg : Tab w ∧ Errs w ∧ Handle w) :
    Calls Tryz.prog 8 #[.string x0, .int .i64 x1, .int .i64 x2] w fun e w' => e = .returned (.bool true) ∧ Below w.heap.size w w' := by
  have h := deskKeeps_any x0.data.toList (by rw [show x0.data.toList.length = x0.size from (Lib.size_eq x0).symm]; exact h0) x1 x2 w hg
  rw [show (⟨x0.data.toList.toArray⟩ : ByteArray) = x0 from ByteArray.ext (by simp)] at h
  exact h
end Go.Proofs.YticckfioggeaeaaGreatDoor
