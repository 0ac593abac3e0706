/-
  CohereStill: the walk.
-/
import Derived.Test.YtjnghpambjjlkaaCohereDone
import Derived.Test.YtjnghpambjjlkaaLift
namespace Go.Proofs.Ytjnghpambjjlkaa
open Go.RowKit

theorem read_again (n p k : Nat) (s : Cs) (h : s.st p k ≠ 0) : s.read n p k = s := by unfold Cs.read; exact if_neg h
theorem write_again_mv (n p k : Nat) (v : Int) (s : Cs) (h : s.st p k = 2) : (s.write n p k v).mv = s.mv := by unfold Cs.write; rw [if_pos h]; rfl

/-- Caches of the call's own, behind k steps. -/
def CRel (w : World) (b g n m : Nat) (i : Value) (wr : World) : Prop :=
  ∃ (k : Nat) (s : Cs) (last : Nat → Int), k ≤ m ∧ k ≤ 80 ∧ i = .int .i64 k ∧ CAt wr b g n s ∧ Sized n s ∧ CInv n s last ∧ 0 ≤ s.mv ∧ s.mv ≤ 5 * k ∧ Below w.heap.size w wr

theorem cRel_step {w wr w2 : World} {b g n m k : Nat} {s : Cs} {last : Nat → Int} {l : List Int} (hn : (n : Int) ≤ 4) (hlt : k < m) (hlt8 : k < 80) (hz : Sized n s) (hi : CInv n s last) (h0 : 0 ≤ s.mv) (h1 : s.mv ≤ 5 * k) (hbel : Below w.heap.size w wr) (hb : w.heap.size ≤ b) (hg : w.heap.size ≤ g)
    (hc : CAt w2 b g n (cStep n s l)) (hk : Keep [b, g] wr w2) : CRel w b g n m (.int .i64 (k + 1)) w2 := by
  obtain ⟨a1, a2⟩ := cStep_inv l hz hi
  obtain ⟨b1, b2⟩ := cStep_mv n s l
  exact ⟨k + 1, _, _, hlt, hlt8, by simp, hc, a1, a2, by omega, by omega, hbel.trans (hk.below hbel.size (by simp; omega))⟩

theorem cohereStill_no (n : Int) (a : Option Addr) (m c : Nat) (p k v : Int) (w : World) (h : n < 1 ∨ 4 < n) :
    Calls Try.prog 9 #[.int .i64 n, .slice a m c, .int .i64 p, .int .i64 k, .int .i64 v] w fun e w' => e = .returned (.bool true) ∧ Below w.heap.size w w' := by
  rcases h with h | h
  · have h' : ¬ 1 ≤ n := by omega
    go_enter Try.func9, Try.ntmps9
    go_wp2_with (first
      | (go_at_call 25; refine (cohereFact_any _).mono ?_; rintro e w1 ⟨rfl, hb1⟩)
      | (go_at_call 26; refine (cohereNew_no _ _ (by omega)).mono ?_; rintro e w2 ⟨rfl, rfl⟩))
    go_ret
    exact ⟨rfl, hb1⟩
  · have h' : 1 ≤ n := by omega
    go_enter Try.func9, Try.ntmps9
    go_wp2_with (first
      | (go_at_call 25; refine (cohereFact_any _).mono ?_; rintro e w1 ⟨rfl, hb1⟩)
      | (go_at_call 26; refine (cohereNew_no _ _ (by omega)).mono ?_; rintro e w2 ⟨rfl, rfl⟩))
    go_ret
    exact ⟨rfl, hb1⟩

set_option maxHeartbeats 1000000 in
set_option maxRecDepth 100000 in
theorem cohereStill_yes (n : Nat) (h1 : 1 ≤ (n : Int)) (h2 : (n : Int) ≤ 4) (a : Option Addr) (c : Nat) (xss : List (List Int)) (p k v : Int) (w : World) (hx : RowsIn w w.heap.size a xss) (hn : xss.length ≤ maxLen) :
    Calls Try.prog 9 #[.int .i64 n, .slice a xss.length c, .int .i64 p, .int .i64 k, .int .i64 v] w fun e w' => e = .returned (.bool true) ∧ Below w.heap.size w w' := by
  have HN := Lib.hid hn; clear hn
  go_enter Try.func9, Try.ntmps9
  go_wp2_with fail
  refine (cohereFact_any _).mono ?_
  rintro e w1 ⟨rfl, hb1⟩
  go_wp2_with fail
  refine (cohereNew_yes n _ h1 h2).mono ?_
  rintro e w2 ⟨rfl, hs, hb2⟩
  have hsz1 := hb1.size
  have HS : Hid (CAt w2 (w1.heap.size + 1) w1.heap.size n (c0 n)) := Lib.hid hs
  clear hs
  have hbw : Below w.heap.size w w2 := hb1.trans (hb2.mono hsz1)
  go_wp2_with fail
  go_loopw [14] (CRel w (w1.heap.size + 1) w1.heap.size n xss.length) (fun i _ => xss.length - (intOf i).toNat)
  case atStart => exact ⟨0, c0 n, fun _ => 0, by omega, by omega, rfl, HS.out, (c0_inv n).1, (c0_inv n).2, (by show (0 : Int) ≤ 0; omega), (by show (0 : Int) ≤ 5 * ((0 : Nat) : Int); omega), hbw⟩
  case round =>
    obtain ⟨j, s, last, hj, hj8, rfl, hs, hz, hi, hm0, hm1, hbel⟩ := hrel
    have HS := Lib.hid hs; have HZ := Lib.hid hz; have HI := Lib.hid hi; clear hs hz hi
    by_cases hlt : j < xss.length ∧ j < 80
    · obtain ⟨hlt, hlt8⟩ := hlt
      obtain ⟨bx, off, a', c', rfl, hbB, hcell, hrow⟩ := hx.at_ hlt
      have hcell2 := (hbel.cell (p := ⟨bx, off + j, none⟩) hbB).trans hcell
      have HR := Lib.hid (hrow.below hbel)
      obtain ⟨l, hl⟩ : ∃ l, l = xss[j] := ⟨_, rfl⟩
      rw [← hl] at hcell2 HR
      clear hl hcell hrow
      have hj80 : (j : Int) < 80 := by omega
      have hjn : (j : Int) < (xss.length : Int) := by omega
      go_wp2_with fail
      refine (done_any _ _ n s a' _ c' _ l _ rfl HR.out HS.out h2 hm0 (by omega)).mono ?_
      rintro e w3 ⟨rfl, hc3, hk3⟩
      go_wp2
      go_roundw
      case rel => exact cRel_step h2 hlt hlt8 HZ.out HI.out hm0 hm1 hbel (by omega) hsz1 hc3 hk3
      case measure => simp [intOf]; omega
    · have hx : ¬ (j : Int) < (xss.length : Int) ∨ ((j : Int) < (xss.length : Int) ∧ ¬ (j : Int) < 80) := by omega
      clear hlt
      have hend : ∀ w' : World, Keep [w1.heap.size + 1, w1.heap.size] wr w' → Below w.heap.size w w' := fun w' hk => hbel.trans (hk.below hbel.size (by simp; omega))
      have HE := Lib.hid hend; clear hend
      by_cases hr : 0 ≤ p ∧ p < n ∧ 0 ≤ k ∧ k ≤ 3
      · obtain ⟨r1, r2, r3, r4⟩ := hr
        obtain ⟨pp, rfl⟩ := Int.eq_ofNat_of_zero_le r1
        obtain ⟨kk, rfl⟩ := Int.eq_ofNat_of_zero_le r3
        obtain ⟨z1, i1, t1, _⟩ := read_inv HZ.out HI.out (p := pp) (k := kk) (by omega) (by omega)
        have mv1 := read_mv n pp kk s
        obtain ⟨s1, hs1⟩ : ∃ s1, s1 = s.read n pp kk := ⟨_, rfl⟩
        rw [← hs1] at z1 i1 t1 mv1
        have HR1 := Lib.hid hs1; clear hs1
        have HZ1 := Lib.hid z1; have HI1 := Lib.hid i1; have HT1 := Lib.hid t1; clear z1 i1 t1
        by_cases hv : 0 ≤ v ∧ v ≤ 1000
        · obtain ⟨v1, v2⟩ := hv
          obtain ⟨z2, i2, t2⟩ := write_inv (v := v) HZ1.out HI1.out (p := pp) (k := kk) (by omega) (by omega)
          have mv2 := write_mv n pp kk v s1
          obtain ⟨s2, hs2⟩ : ∃ s2, s2 = s1.write n pp kk v := ⟨_, rfl⟩
          rw [← hs2] at z2 i2 t2 mv2
          have HR2 := Lib.hid hs2; clear hs2
          obtain ⟨z3, i3, t3⟩ := write_inv (v := v) z2 i2 (p := pp) (k := kk) (by omega) (by omega)
          have mv3 := write_again_mv n pp kk v s2 t2
          obtain ⟨s3, hs3⟩ : ∃ s3, s3 = s2.write n pp kk v := ⟨_, rfl⟩
          rw [← hs3] at t3 mv3
          have HR3 := Lib.hid hs3; have HM3 := Lib.hid mv3; have HT3 := Lib.hid t3; clear hs3 mv3 t3 z3 i3 z2 i2 t2
          rcases hx with hx | ⟨hx, hx2⟩
          all_goals
            go_wp2_with fail
            refine (cRead_yes _ _ n pp kk s _ HS.out h2 r2 r4 hm0 (by omega)).mono ?_
            rintro e w4 ⟨rfl, hc4, hk4⟩
            rw [← HR1.out] at hc4
            have HC4 := Lib.hid hc4; clear hc4
            go_wp2_with fail
            refine (moves_any _ _ n s1 _ HC4.out).mono ?_
            rintro e w5 ⟨rfl, rfl⟩
            go_wp2_with fail
            refine (cRead_yes _ _ n pp kk s1 _ HC4.out h2 r2 r4 (by omega) (by omega)).mono ?_
            rintro e w5 ⟨rfl, hc5, hk5⟩
            rw [read_again n pp kk s1 HT1.out] at hc5
            have HC5 := Lib.hid hc5; clear hc5
            go_wp2_with fail
            refine (moves_any _ _ n s1 _ HC5.out).mono ?_
            rintro e w6 ⟨rfl, rfl⟩
            go_wp2_with fail
            refine (cWrite_yes _ _ n pp kk v s1 _ HC5.out h2 r2 r4 v1 v2 (by omega) (by omega)).mono ?_
            rintro e w6 ⟨rfl, hc6, hk6⟩
            rw [← HR2.out] at hc6
            have HC6 := Lib.hid hc6; clear hc6
            go_wp2_with fail
            refine (moves_any _ _ n s2 _ HC6.out).mono ?_
            rintro e w7 ⟨rfl, rfl⟩
            go_wp2_with fail
            refine (cWrite_yes _ _ n pp kk v s2 _ HC6.out h2 r2 r4 v1 v2 (by omega) (by omega)).mono ?_
            rintro e w7 ⟨rfl, hc7, hk7⟩
            rw [← HR3.out] at hc7
            have HC7 := Lib.hid hc7; clear hc7
            go_wp2_with fail
            refine (cRead_yes _ _ n pp kk s3 _ HC7.out h2 r2 r4 (by have := HM3.out; omega) (by have := HM3.out; omega)).mono ?_
            rintro e w8 ⟨rfl, hc8, hk8⟩
            rw [read_again n pp kk s3 (by rw [HT3.out]; decide)] at hc8
            have HC8 := Lib.hid hc8; clear hc8
            go_wp2_with fail
            refine (moves_any _ _ n s3 _ HC8.out).mono ?_
            rintro e w9 ⟨he, rfl⟩
            rw [HM3.out] at he
            subst he
            go_wp2
            go_ret
            exact ⟨by simp, HE.out _ (hk4.trans (hk5.trans (hk6.trans (hk7.trans hk8))))⟩
        · have hv' : ¬ (0 ≤ (pp : Int) ∧ (pp : Int) < n ∧ 0 ≤ (kk : Int) ∧ (kk : Int) ≤ 3 ∧ 0 ≤ v ∧ v ≤ 1000) := fun hh => hv ⟨hh.2.2.2.2.1, hh.2.2.2.2.2⟩
          have HV := Lib.hid hv'; clear hv hv'
          rcases hx with hx | ⟨hx, hx2⟩
          all_goals
            go_wp2_with fail
            refine (cRead_yes _ _ n pp kk s _ HS.out h2 r2 r4 hm0 (by omega)).mono ?_
            rintro e w4 ⟨rfl, hc4, hk4⟩
            rw [← HR1.out] at hc4
            have HC4 := Lib.hid hc4; clear hc4
            go_wp2_with fail
            refine (moves_any _ _ n s1 _ HC4.out).mono ?_
            rintro e w5 ⟨rfl, rfl⟩
            go_wp2_with fail
            refine (cRead_yes _ _ n pp kk s1 _ HC4.out h2 r2 r4 (by omega) (by omega)).mono ?_
            rintro e w5 ⟨rfl, hc5, hk5⟩
            rw [read_again n pp kk s1 HT1.out] at hc5
            have HC5 := Lib.hid hc5; clear hc5
            go_wp2_with fail
            refine (moves_any _ _ n s1 _ HC5.out).mono ?_
            rintro e w6 ⟨rfl, rfl⟩
            go_wp2_with fail
            refine (cWrite_no _ _ n s1 pp kk v _ HC5.out h2 HV.out).mono ?_
            rintro e w6 ⟨rfl, rfl⟩
            go_wp2_with fail
            refine (moves_any _ _ n s1 _ HC5.out).mono ?_
            rintro e w7 ⟨rfl, rfl⟩
            go_wp2_with fail
            refine (cWrite_no _ _ n s1 pp kk v _ HC5.out h2 HV.out).mono ?_
            rintro e w7 ⟨rfl, rfl⟩
            go_wp2_with fail
            refine (cRead_yes _ _ n pp kk s1 _ HC5.out h2 r2 r4 (by omega) (by omega)).mono ?_
            rintro e w8 ⟨rfl, hc8, hk8⟩
            rw [read_again n pp kk s1 HT1.out] at hc8
            have HC8 := Lib.hid hc8; clear hc8
            go_wp2_with fail
            refine (moves_any _ _ n s1 _ HC8.out).mono ?_
            rintro e w9 ⟨rfl, rfl⟩
            go_wp2
            go_ret
            exact ⟨by simp, HE.out _ (hk4.trans (hk5.trans hk8))⟩
      · have hv' : ¬ (0 ≤ p ∧ p < n ∧ 0 ≤ k ∧ k ≤ 3 ∧ 0 ≤ v ∧ v ≤ 1000) := fun hh => hr ⟨hh.1, hh.2.1, hh.2.2.1, hh.2.2.2.1⟩
        have HV := Lib.hid hv'; have HR := Lib.hid hr; clear hr hv'
        rcases hx with hx | ⟨hx, hx2⟩
        all_goals
          go_wp2_with (first
            | (go_at_call 30; refine (cRead_no _ _ n s p k _ HS.out h2 HR.out).mono ?_; rintro e w4 ⟨rfl, rfl⟩)
            | (go_at_call 35; refine (cWrite_no _ _ n s p k v _ HS.out h2 HV.out).mono ?_; rintro e w4 ⟨rfl, rfl⟩)
            | (go_at_call 34; refine (moves_any _ _ n s _ HS.out).mono ?_; rintro e w4 ⟨rfl, rfl⟩))
          go_ret
          exact ⟨by simp, hbel⟩

theorem cohereStill_walk (x0 : Int) (a1 : Option Addr) (c1 : Nat) (l1 : List (List Int)) (x2 x3 x4 : Int) (w : World) (_ : I64 x0) (h2 : RowsIn w w.heap.size a1 l1) (_ : ∀ r ∈ l1, r.length ≤ maxLen ∧ ∀ y ∈ r, I64 y) (m2 : l1.length ≤ maxLen) (_ : I64 x2) (_ : I64 x3) (_ : I64 x4) :
    Calls Try.prog 9 #[.int .i64 x0, .slice a1 l1.length c1, .int .i64 x2, .int .i64 x3, .int .i64 x4] w fun e w' => e = .returned (.bool true) ∧ Below w.heap.size w w' := by
  by_cases h : 1 ≤ x0 ∧ x0 ≤ 4
  · obtain ⟨h1, h2'⟩ := h
    obtain ⟨d, rfl⟩ := Int.eq_ofNat_of_zero_le (show 0 ≤ x0 by omega)
    exact cohereStill_yes d h1 h2' a1 c1 l1 x2 x3 x4 w h2 m2
  · exact cohereStill_no x0 a1 _ c1 x2 x3 x4 w (by omega)
end Go.Proofs.Ytjnghpambjjlkaa
