/-
  A filter filled with keys; the filters' closed fact.
-/
import Derived.Test.YtnpokcjdnlmheaaBloom2
import Derived.Test.YtnpokcjdnlmheaaIn
import Derived.Test.YtnpokcjdnlmheaaSameInts
namespace Go.Proofs.Ytnpokcjdnlmheaa
open Go.RowKit

/-- One key more, if it may be. -/
def addB (hashes : Nat) (bits : List Bool) (key : Int) : List Bool := if 0 ≤ key ∧ key ≤ 1000000 then setK key bits.length hashes bits else bits
theorem addB_len (hashes : Nat) (bits : List Bool) (key : Int) : (addB hashes bits key).length = bits.length := by
  unfold addB; split
  · exact setK_len _ _ _ _
  · rfl
def fillB (n hashes : Nat) (ks : List Int) : List Bool := ks.foldl (addB hashes) (List.replicate n false)
theorem foldl_addB_len (hashes : Nat) (ks : List Int) (bits : List Bool) : (ks.foldl (addB hashes) bits).length = bits.length := by
  induction ks generalizing bits with
  | nil => rfl
  | cons k r ih => rw [List.foldl_cons, ih, addB_len]
theorem fillB_len (n hashes : Nat) (ks : List Int) : (fillB n hashes ks).length = n := by
  unfold fillB; rw [foldl_addB_len]; simp

def AddBPost (w : World) (b g : Nat) (bits : List Bool) (hashes : Nat) (key : Int) (e : Ending) (w' : World) : Prop :=
  ∃ v, e = .returned v ∧ FilterAt w' b g (addB hashes bits key) hashes ∧ Keep [g] w w'

theorem bloomAdd_some (b g : Nat) (bits : List Bool) (hashes : Nat) (key : Int) (w : World) (hf : FilterAt w b g bits hashes) (h3 : 1 ≤ (bits.length : Int)) (h4 : (bits.length : Int) ≤ 128) (h5 : (hashes : Int) ≤ 4) :
    Calls Try.prog 23 #[.pointer (some ⟨b, 0, none⟩), .int .i64 key] w (AddBPost w b g bits hashes key) := by
  by_cases h : 0 ≤ key ∧ key ≤ 1000000
  · refine (bloomAdd_yes b g bits hashes key w hf h.1 h.2 h3 h4 h5).mono ?_
    rintro e w' ⟨rfl, hf', hk⟩
    exact ⟨_, rfl, by unfold addB; rw [if_pos h]; exact hf', hk⟩
  · refine (bloomAdd_no b key w (by omega)).mono ?_
    rintro e w' ⟨rfl, rfl⟩
    exact ⟨_, rfl, by unfold addB; rw [if_neg h]; exact hf, Keep.refl _ _⟩

theorem filled_no (bits hashes : Int) (a : Option Addr) (n c : Nat) (w : World) (h : ¬ (1 ≤ bits ∧ bits ≤ 128 ∧ 1 ≤ hashes ∧ hashes ≤ 4)) :
    Calls Try.prog 18 #[.int .i64 bits, .int .i64 hashes, .slice a n c] w fun e w' => e = .returned (.tuple #[.pointer none, .bool false]) ∧ w = w' := by
  go_enter Try.func18, Try.ntmps18
  go_wp2_with (go_at_call 35; refine (bloomNew_no _ _ _ h).mono ?_; rintro e w' ⟨rfl, rfl⟩)
  go_ret2
  exact ⟨rfl, rfl⟩

def FilledPost (w : World) (n hashes : Nat) (ks : List Int) (e : Ending) (w' : World) : Prop :=
  ∃ b g, e = .returned (.tuple #[.pointer (some ⟨b, 0, none⟩), .bool true]) ∧ FilterAt w' b g (fillB n hashes (ks.take 40)) hashes ∧ w.heap.size ≤ b ∧ w.heap.size ≤ g ∧ Below w.heap.size w w'

set_option maxRecDepth 100000 in
theorem filled_yes (n hashes : Nat) (a : Option Addr) (m c B : Nat) (ks : List Int) (w : World) (hm : ks.length = m) (hk : IntsIn w B a ks) (hB : B ≤ w.heap.size) (hM : m ≤ maxLen) (h1 : 1 ≤ (n : Int)) (h2 : (n : Int) ≤ 128) (h3 : 1 ≤ (hashes : Int)) (h4 : (hashes : Int) ≤ 4) :
    Calls Try.prog 18 #[.int .i64 n, .int .i64 hashes, .slice a m c] w (FilledPost w n hashes ks) := by
  have HM := Lib.hid hm; have HX := Lib.hid hM; clear hm hM
  go_enter Try.func18, Try.ntmps18
  go_wp2_with fail
  refine (bloomNew_yes n hashes _ h1 h2 h3 h4).mono ?_
  rintro e w1 ⟨rfl, hf, hb1⟩
  have HF := Lib.hid hf; clear hf
  go_wp2_with fail
  go_loopw [10] (fun i wr => ∃ k : Nat, k ≤ m ∧ k ≤ 40 ∧ i = .int .i64 k ∧ FilterAt wr (w.heap.size + 1) w.heap.size (fillB n hashes (ks.take k)) hashes ∧ Below w.heap.size w wr) (fun i _ => m - (intOf i).toNat)
  case atStart => exact ⟨0, Nat.zero_le _, Nat.zero_le _, rfl, HF.out, hb1⟩
  case round =>
    obtain ⟨k, hkm, hk4, rfl, hw, hbel⟩ := hrel
    have HW := Lib.hid hw; clear hw
    by_cases hlt : k < m ∧ k < 40
    · obtain ⟨hlt, hlt4⟩ := hlt
      have hkl : k < ks.length := by rw [HM.out]; exact hlt
      obtain ⟨b, off, rfl, hbB, hc⟩ := hk.at_ hkl
      have hcw := (hbel.cell (p := ⟨b, off + k, none⟩) (by show b < _; omega)).trans hc
      have HT : Hid (fillB n hashes (ks.take (k + 1)) = addB hashes (fillB n hashes (ks.take k)) ks[k]) := Lib.hid (by
        unfold fillB; rw [List.take_succ_eq_append_getElem hkl, List.foldl_append]; rfl)
      obtain ⟨x, hx⟩ : ∃ x, x = ks[k] := ⟨_, rfl⟩
      rw [← hx] at hcw HT
      clear hc hx hkl
      have hk0 : (0 : Int) ≤ (k : Int) := by omega
      have hkn : (k : Int) < (m : Int) := by omega
      have hk40 : (k : Int) < 40 := by omega
      have hfl := fillB_len n hashes (ks.take k)
      have HL := Lib.hid hfl; clear hfl
      go_wp2_with fail
      refine (bloomAdd_some _ _ _ _ x _ HW.out (by rw [HL.out]; exact h1) (by rw [HL.out]; exact h2) h4).mono ?_
      rintro e w2 ⟨v, rfl, hf2, hk2⟩
      go_wp2
      go_roundw
      case rel => exact ⟨k + 1, hlt, hlt4, by go_num, by rw [HT.out]; exact hf2, hbel.trans (hk2.below hbel.size (by simp))⟩
      case measure => simp [intOf]; omega
    · have hx : ¬ (k : Int) < (m : Int) ∨ ((k : Int) < (m : Int) ∧ ¬ (k : Int) < 40) := by omega
      have HT : Hid (ks.take 40 = ks.take k) := Lib.hid (by
        rcases hx with hx | ⟨_, hx⟩
        · rw [List.take_of_length_le (by rw [HM.out]; omega), List.take_of_length_le (by rw [HM.out]; omega)]
        · rw [show k = 40 by omega])
      clear hlt
      rcases hx with hx | ⟨hx, hx2⟩
      all_goals
        go_wp2
        go_ret2
        exact ⟨_, _, rfl, by rw [HT.out]; exact HW.out, by omega, by omega, hbel⟩

def bloomF : List Bool := setK 3 128 2 (List.replicate 128 false)
theorem bloomF_len : bloomF.length = 128 := by unfold bloomF; rw [setK_len]; simp
theorem bloomF_a : hasK 3 bloomF.length bloomF 2 = true := by decide +kernel
theorem bloomF_b : hasK 4 bloomF.length bloomF 2 = false := by decide +kernel
theorem bloomF_c : setTo bloomF bloomF.length = [21, 34] := by decide +kernel

theorem bloomFact_any (w : World) :
    Calls Try.prog 17 #[] w fun e w' => e = .returned (.bool true) ∧ Below w.heap.size w w' := by
  go_enter Try.func17, Try.ntmps17
  go_wp2_with fail
  refine (bloomNew_yes 128 2 _ (by decide) (by decide) (by decide) (by decide)).mono ?_
  rintro e w1 ⟨rfl, hf, hb1⟩
  have HF := Lib.hid hf; clear hf
  go_wp2_with fail
  refine (bloomAdd_yes _ _ _ 2 3 _ HF.out (by decide) (by decide) (by simp) (by simp) (by decide)).mono ?_
  rintro e w2 ⟨rfl, hf2, hk2⟩
  rw [List.length_replicate] at hf2
  have HF2 : Hid (FilterAt w2 (w.heap.size + 1) w.heap.size bloomF 2) := Lib.hid hf2
  clear hf2
  go_wp2_with fail
  refine (bloomHas_yes _ _ bloomF 2 3 _ HF2.out (by decide) (by decide) (by rw [bloomF_len]; decide) (by rw [bloomF_len]; decide) (by decide)).mono ?_
  rintro e w3 ⟨he, hk3⟩
  rw [bloomF_a] at he
  subst he
  go_wp2_with fail
  refine (bloomHas_yes _ _ bloomF 2 4 _ (HF2.out.keep hk3 (by simp)) (by decide) (by decide) (by rw [bloomF_len]; decide) (by rw [bloomF_len]; decide) (by decide)).mono ?_
  rintro e w4 ⟨he, hk4⟩
  rw [bloomF_b] at he
  subst he
  go_wp2_with fail
  refine (bloomSet_any _ _ bloomF 2 _ (HF2.out.keep (hk3.trans hk4) (by simp)) (by rw [bloomF_len]; decide)).mono ?_
  rintro e w5 ⟨a, c, he, hi, hb5⟩
  rw [bloomF_c] at he hi
  subst he
  go_wp2_with fail
  refine (ints_same_keep a (some ⟨w5.heap.size, 0, none⟩) 2 c 2 w5.heap.size (w5.heap.size + 1) [21, 34] _ rfl (hi.ints.keep fun k hk => Below.heap_alloc _ _ _ hk) (fun _ => ⟨w5.heap.size, 0, rfl, by omega, fun i x hx => by
    match i, hx with
    | 0, hx => simp at hx; subst hx; simp
    | 1, hx => simp at hx; subst hx; simp⟩) (by decide)).mono ?_
  rintro e w6 ⟨rfl, hk6⟩
  go_wp2
  go_ret
  refine ⟨rfl, ?_⟩
  have hw4 : Below w.heap.size w w4 := hb1.trans (((hk2.mono (by simp)).trans ((hk3.mono (by simp)).trans (hk4.mono (by simp)))).below (F := [w.heap.size]) hb1.size (by simp))
  exact ((hw4.trans (hb5.mono hw4.size)).alloc (by have := hw4.size; have := hb5.size; omega) _).trans (hk6.below (by simp; have := hw4.size; have := hb5.size; omega) (by simp))
end Go.Proofs.Ytnpokcjdnlmheaa
