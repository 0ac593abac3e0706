/-
  BloomOrder: the walk.
-/
import Derived.Test.YtnpokcjdnlmheaaBloomLaw
import Derived.Test.YtnpokcjdnlmheaaSameTurned
namespace Go.Proofs.Ytnpokcjdnlmheaa
open Go.RowKit

theorem bloomOrder_no (bits hashes : Int) (a : Option Addr) (c : Nat) (ks : List Int) (w : World) (hx : IntsIn w w.heap.size a ks) (hr : Reached ks) (h : ¬ (1 ≤ bits ∧ bits ≤ 128 ∧ 1 ≤ hashes ∧ hashes ≤ 4)) :
    Calls Try.prog 5 #[.int .i64 bits, .int .i64 hashes, .slice a ks.length c] w fun e w' => e = .returned (.bool true) ∧ Below w.heap.size w w' := by
  unfold Reached reachBytes at hr
  have HR := Lib.hid hr; clear hr
  go_enter Try.func5, Try.ntmps5
  go_wp2_with fail
  refine (bloomFact_any _).mono ?_
  rintro e w1 ⟨rfl, hb1⟩
  go_wp2_with fail
  refine (filled_no _ _ _ _ _ _ h).mono ?_
  rintro e w2 ⟨rfl, rfl⟩
  go_wp2_with fail
  refine (turned_any a _ c w.heap.size ks _ rfl (hx.below hb1) hb1.size HR.out).mono ?_
  rintro e w2 ⟨v, rfl, hv, hb2⟩
  obtain ⟨av, cv, rfl, _⟩ := hv.shape
  clear hv
  go_wp2_with fail
  refine (filled_no _ _ _ _ _ _ h).mono ?_
  rintro e w3 ⟨rfl, rfl⟩
  have hbel := hb1.trans (hb2.mono hb1.size)
  by_cases h1 : 1 ≤ bits ∧ bits ≤ 128
  · have h2 : hashes < 1 ∨ 4 < hashes := by omega
    obtain ⟨h3, h4⟩ := h1
    go_wp2_with (first
      | (go_at_call 14; refine (in_yes _ _ _ _ (by omega) (by omega)).mono ?_; rintro e w' ⟨rfl, rfl⟩)
      | (go_at_call 14; refine (in_no _ _ _ _ (by omega)).mono ?_; rintro e w' ⟨rfl, rfl⟩))
    go_ret
    exact ⟨rfl, hbel⟩
  · have h2 : bits < 1 ∨ 128 < bits := by omega
    go_wp2_with (go_at_call 14; refine (in_no _ _ _ _ (by omega)).mono ?_; rintro e w' ⟨rfl, rfl⟩)
    go_ret
    exact ⟨rfl, hbel⟩

set_option maxHeartbeats 1000000 in
set_option maxRecDepth 100000 in
theorem bloomOrder_yes (n hashes : Nat) (h1 : 1 ≤ (n : Int)) (h2 : (n : Int) ≤ 128) (h3 : 1 ≤ (hashes : Int)) (h4 : (hashes : Int) ≤ 4) (a : Option Addr) (c : Nat) (ks : List Int) (w : World)
    (hx : IntsIn w w.heap.size a ks) (hr : Reached ks) :
    Calls Try.prog 5 #[.int .i64 n, .int .i64 hashes, .slice a ks.length c] w fun e w' => e = .returned (.bool true) ∧ Below w.heap.size w w' := by
  have HM := Lib.hid (reached_max hr)
  unfold Reached reachBytes at hr
  have HR := Lib.hid hr; clear hr
  go_enter Try.func5, Try.ntmps5
  go_wp2_with fail
  refine (bloomFact_any _).mono ?_
  rintro e w1 ⟨rfl, hb1⟩
  go_wp2_with fail
  refine (filled_yes n hashes a _ c w.heap.size ks _ rfl (hx.below hb1) hb1.size HM.out h1 h2 h3 h4).mono ?_
  rintro e w2 ⟨b, g, rfl, hf, hbw, hgw, hb2⟩
  have hbel2 := hb1.trans (hb2.mono hb1.size)
  have hbl := hf.top.lt
  have hgl := hf.arr.lt
  go_wp2_with fail
  refine (turned_any a _ c w.heap.size ks _ rfl (hx.below hbel2) hbel2.size HR.out).mono ?_
  rintro e w3 ⟨v, rfl, hv, hb3⟩
  have HF := Lib.hid (hf.below hb3 (Nat.le_refl _)); clear hf
  obtain ⟨av, cv, rfl, hvi⟩ := hv.shape
  clear hv
  go_wp2_with fail
  refine (filled_yes n hashes av ks.length cv w3.heap.size ks.reverse _ List.length_reverse hvi (Nat.le_refl _) HM.out h1 h2 h3 h4).mono ?_
  rintro e w4 ⟨b', g', rfl, hf', hbw', hgw', hb4⟩
  have HF1 := Lib.hid (HF.out.below hb4 (Nat.le_refl _)); clear HF
  have HF' := Lib.hid hf'; clear hf' hvi
  have hsz3 := hb3.size
  have hsz4 := hb4.size
  have hsz1 := hb1.size
  have hbel := (hbel2.trans (hb3.mono hbel2.size)).trans (hb4.mono (by have := hbel2.size; omega))
  by_cases hlen : (ks.length : Int) ≤ 40
  · have hlt : b < w4.heap.size := HF1.out.top.lt
    have e1 : ks.take 40 = ks := List.take_of_length_le (by omega)
    have e2 : ks.reverse.take 40 = ks.reverse := List.take_of_length_le (by rw [List.length_reverse]; omega)
    have hE : fillB n hashes ks.reverse = fillB n hashes ks := fill_ext (by omega) (by simp)
    have hF1 := HF1.out
    have hF2 := HF'.out
    rw [e1] at hF1
    rw [e2, hE] at hF2
    have hM := fill_many n hashes n ks
    have hL := fillB_len n hashes ks
    have hA := fill_again (n := n) (hashes := hashes) (by omega) ks ks (fun _ h => h)
    generalize hG : fillB n hashes ks = F at hF1 hF2 hM hL hA
    have HG := Lib.hid hG; have HL := Lib.hid hL; have HA := Lib.hid hA
    clear e1 e2 hE hG hL hA HF1 HF'
    have HF1 := Lib.hid hF1; have HF2 := Lib.hid hF2
    clear hF1 hF2
    have hmul0 : (0 : Int) ≤ (hashes : Int) * (ks.length : Int) := Int.mul_nonneg (by omega) (by omega)
    have hmul1 : (hashes : Int) * (ks.length : Int) ≤ 160 := by
      have : (hashes : Int) * (ks.length : Int) ≤ 4 * 40 := Int.mul_le_mul h4 hlen (by omega) (by omega)
      omega
    have hmul2 : ((setTo F n).length : Int) ≤ (hashes : Int) * (ks.length : Int) := by
      have : ((hashes * ks.length : Nat) : Int) = (hashes : Int) * (ks.length : Int) := Int.natCast_mul _ _
      omega
    go_wp2_with fail
    refine (bloomSet_any b g F hashes _ HF1.out (by rw [HL.out]; exact h2)).mono ?_
    rintro e w5 ⟨a5, c5, he, hi5, hb5⟩
    rw [HL.out] at he hi5
    subst he
    have HI5 := Lib.hid hi5; clear hi5
    go_wp2_with fail
    refine (bloomSet_any b' g' F hashes _ (HF2.out.below hb5 (Nat.le_refl _)) (by rw [HL.out]; exact h2)).mono ?_
    rintro e w6 ⟨a6, c6, he, hi6, hb6⟩
    rw [HL.out] at he hi6
    subst he
    have HI6 := Lib.hid hi6; clear hi6
    have HK6 : Hid (NewInts w6 w4.heap.size a5 (setTo F n)) := Lib.hid (HI5.out.keep (Keep.of_below hb6 (Nat.le_refl _)) (F := []) (by simp))
    go_wp2_with fail
    refine (ints_same_keep a5 a6 _ c5 c6 _ _ (setTo F n) _ rfl HK6.out.ints HI6.out.ints (by have := setTo_len F n; unfold maxLen; omega)).mono ?_
    rintro e w7 ⟨rfl, hk7⟩
    have HF7 := Lib.hid ((HF1.out.below hb5 (Nat.le_refl _)).keep ((Keep.of_below hb6 (Nat.le_refl _)).trans hk7) (by simp))
    have HI7 : Hid (NewInts w7 w4.heap.size a5 (setTo F n)) := Lib.hid (HK6.out.keep hk7 (by simp))
    have hsz5 := hb5.size
    have hsz6 := hb6.size
    have hsz7 := hk7.size
    have hbel7 := ((hbel.trans (hb5.mono (by have := hbel.size; omega))).trans (hb6.mono (by have := hbel.size; omega))).trans (hk7.below (by have := hbel.size; omega) (by simp))
    clear HI5 HI6 HK6
    go_wp2_with fail
    go_loopw [13] (fun i wr => ∃ k : Nat, k ≤ ks.length ∧ i = .int .i64 k ∧ FilterAt wr b g F hashes ∧ NewInts wr w4.heap.size a5 (setTo F n) ∧ Below w.heap.size w wr) (fun i _ => ks.length - (intOf i).toNat)
    case atStart => exact ⟨0, Nat.zero_le _, rfl, HF7.out, HI7.out, hbel7⟩
    case round =>
      obtain ⟨k, hk, rfl, hw, hi, hbw7⟩ := hrel
      have HW := Lib.hid hw; have HI := Lib.hid hi; clear hw hi
      by_cases hlt : k < ks.length
      · obtain ⟨bx, off, rfl, hbB, hc⟩ := hx.at_ hlt
        have hcw := (hbw7.cell (p := ⟨bx, off + k, none⟩) hbB).trans hc
        have HM : Hid (ks[k] ∈ ks) := Lib.hid (List.getElem_mem hlt)
        obtain ⟨x, hxx⟩ : ∃ x, x = ks[k] := ⟨_, rfl⟩
        rw [← hxx] at hcw HM
        clear hxx hc
        have hk0 : (0 : Int) ≤ (k : Int) := by omega
        have hkn : (k : Int) < (ks.length : Int) := by omega
        have HE : Hid (addB hashes F x = F) := Lib.hid (by
          have := fill_again (n := n) (hashes := hashes) (by omega) ks [x] (by simpa using HM.out)
          rw [HG.out] at this
          simpa using this)
        go_wp2_with fail
        refine (bloomAdd_some _ _ _ _ x _ HW.out (by rw [HL.out]; exact h1) (by rw [HL.out]; exact h2) h4).mono ?_
        rintro e w8 ⟨v, rfl, hf8, hk8⟩
        rw [HE.out] at hf8
        go_wp2
        go_roundw
        case rel => exact ⟨k + 1, hlt, by go_num, hf8, HI.out.keep hk8 (by simp; omega), hbw7.trans (hk8.below hbw7.size (by simp; omega))⟩
        case measure => simp [intOf]; omega
      · go_wp2_with fail
        refine (bloomSet_any b g F hashes _ HW.out (by rw [HL.out]; exact h2)).mono ?_
        rintro e w9 ⟨a9, c9, he, hi9, hb9⟩
        rw [HL.out] at he hi9
        subst he
        have HI9 := Lib.hid hi9; clear hi9
        go_wp2_with fail
        refine (ints_same_keep a9 a5 _ c9 c5 _ _ (setTo F n) _ rfl HI9.out.ints (HI.out.keep (Keep.of_below hb9 (Nat.le_refl _)) (F := []) (by simp)).ints (by have := setTo_len F n; unfold maxLen; omega)).mono ?_
        rintro e w10 ⟨rfl, hk10⟩
        go_wp2
        go_ret
        exact ⟨rfl, (hbw7.trans (hb9.mono hbw7.size)).trans (hk10.below (by have := hbw7.size; have := hb9.size; omega) (by simp))⟩
  · have hl40 : (40 : Int) < (ks.length : Int) := by omega
    go_wp2
    go_ret
    exact ⟨rfl, hbel⟩

theorem bloomOrder_walk (x0 x1 : Int) (a2 : Option Addr) (c2 : Nat) (l2 : List Int) (w : World) (_ : I64 x0) (_ : I64 x1) (h2 : IntsIn w w.heap.size a2 l2) (_ : ∀ y ∈ l2, I64 y) (m2 : Reached l2) :
    Calls Try.prog 5 #[.int .i64 x0, .int .i64 x1, .slice a2 l2.length c2] w fun e w' => e = .returned (.bool true) ∧ Below w.heap.size w w' := by
  by_cases h : 1 ≤ x0 ∧ x0 ≤ 128 ∧ 1 ≤ x1 ∧ x1 ≤ 4
  · obtain ⟨h1, h2', h3, h4⟩ := h
    obtain ⟨d, rfl⟩ := Int.eq_ofNat_of_zero_le (show 0 ≤ x0 by omega)
    obtain ⟨e, rfl⟩ := Int.eq_ofNat_of_zero_le (show 0 ≤ x1 by omega)
    exact bloomOrder_yes d e h1 h2' h3 h4 a2 c2 l2 w h2 m2
  · exact bloomOrder_no x0 x1 a2 c2 l2 w h2 m2 h
end Go.Proofs.Ytnpokcjdnlmheaa
