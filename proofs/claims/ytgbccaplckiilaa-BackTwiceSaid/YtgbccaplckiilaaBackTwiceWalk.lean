/-
  BackTwice: the walk.
-/
import Derived.Test.YtgbccaplckiilaaBackHeld2
import Derived.Test.YtgbccaplckiilaaBackFlushWalk
namespace Go.Proofs.Ytgbccaplckiilaa
open Go.RowKit

theorem backTwice_no (n : Int) (a : Option Addr) (m c : Nat) (w : World) (h : n < 1 ∨ 8 < n) :
    Calls Try.prog 7 #[.int .i64 n, .slice a m c] w fun e w' => e = .returned (.bool true) ∧ Below w.heap.size w w' := by
  go_enter Try.func7, Try.ntmps7
  go_wp2_with (first
    | (go_at_call 17; refine (backFact_any _).mono ?_; rintro e w1 ⟨rfl, hb1⟩)
    | (go_at_call 10; refine (bNew_no _ _ h).mono ?_; rintro e w2 ⟨rfl, rfl⟩)
    | (go_at_call 18; refine (in_no _ _ _ _ h).mono ?_; rintro e w' ⟨rfl, rfl⟩))
  go_ret
  exact ⟨rfl, hb1⟩

set_option maxHeartbeats 1000000 in
theorem backTwice_yes (n : Nat) (h1 : 1 ≤ (n : Int)) (h2 : (n : Int) ≤ 8) (a : Option Addr) (c : Nat) (xss : List (List Int)) (w : World) (hx : RowsIn w w.heap.size a xss) (hn : xss.length ≤ maxLen) :
    Calls Try.prog 7 #[.int .i64 n, .slice a xss.length c] w fun e w' => e = .returned (.bool true) ∧ Below w.heap.size w w' := by
  have HN := Lib.hid hn; clear hn
  have HX := Lib.hid hx; clear hx
  go_enter Try.func7, Try.ntmps7
  go_wp2_with fail
  refine (backFact_any _).mono ?_
  rintro e w1 ⟨rfl, hb1⟩
  go_wp2_with fail
  refine (bNew_ok n _ h1 h2).mono ?_
  rintro e w2 ⟨rfl, hat, hb2⟩
  have hsz1 := hb1.size
  have hbw : Below w.heap.size w w2 := hb1.trans (hb2.mono hsz1)
  have HAT := Lib.hid hat; clear hat
  go_wp2_with fail
  refine (used_any w1.heap.size n w.heap.size _ bs0 a c xss _ HAT.out (by omega) (by omega) (bs0_inv n) (HX.out.below hbw) HN.out hsz1 (by simp [Value.ownBlock])).mono ?_
  rintro e w3 ⟨u, v, rfl, hus, hinv⟩
  have hk3 := BK.of_used hbw hus hsz1
  have hnw : wrs (xss.take 100) ≤ 1000 := by have := (wrs_bd (xss.take 100)).2; simp at this; omega
  have hii : BInv n u.s u.last 100 (wrs (xss.take 100)) := hinv
  have hle := hii.le; have g0 := hii.wr0; have g1 := hii.wr
  obtain ⟨s, hs⟩ : ∃ s, s = u.s := ⟨_, rfl⟩
  rw [← hs] at hii hle g0 g1 hk3
  have HK3 := Lib.hid hk3
  have HRNG := Lib.hid hii.rng; have HCL : Hid (AllClean (flushB s)) := Lib.hid hii.flush.2.2
  have hii2 : BInv n (flushB s) u.last 100 (wrs (xss.take 100)) := hii.flush.1
  have HRNG2 := Lib.hid hii2.rng
  have f0 := hii2.wr0; have f1 := hii2.wr
  obtain ⟨k, hk⟩ : ∃ k, k = s.fr.length := ⟨_, rfl⟩
  have HK := Lib.hid hk
  have hk8 : k ≤ 8 := by omega
  clear hus hinv hbw hb1 hb2 hii hii2 hs hk3 hk HAT
  go_wp2_with fail
  refine (bHeld_any _ n v s _ HK3.out.at_ (by omega)).mono ?_
  rintro e w4 ⟨vA, vB, rfl, hA, hB, hb4⟩
  obtain ⟨aA, cA, rfl, hnA, _⟩ := hA.new
  rw [show (s.fr.map (·.1)).length = k by simp [HK.out]]
  have HA4 := Lib.hid (HK3.out.newInts hnA)
  have HK4 := Lib.hid (HK3.out.keep (Below.keep0 hb4))
  clear hA hB hnA hb4 HK3
  go_wp2_with fail
  refine (bFlush_any _ n v s _ HK4.out.at_ (by have := HK.out; omega) HRNG.out g0 (by omega)).mono ?_
  rintro e w5 ⟨rfl, hat5, hk5⟩
  have HA5 := Lib.hid (HK4.out.ints HA4.out hk5)
  have HK5 := Lib.hid (HK4.out.step hat5 hk5)
  clear hat5 hk5 HK4 HA4
  go_wp2_with fail
  refine (bMoves_any _ n v (flushB s) _ HK5.out.at_).mono ?_
  rintro e w6 ⟨rfl, q6, rfl⟩
  have HK6 := Lib.hid (HK5.out.keep ((Keep.refl _ w5).drewN q6))
  have HA6 := Lib.hid (HA5.out.keep0 ((Keep.refl _ w5).drewN q6))
  clear HK5 HA5
  go_wp2_with fail
  refine (bDisk_any _ n v (flushB s) _ HK6.out.at_).mono ?_
  rintro e w7 ⟨a7, c7, rfl, hn7, hb7⟩
  have HD7 := Lib.hid (HK6.out.newInts hn7)
  have HA7 := Lib.hid (HA6.out.keep0 (Below.keep0 hb7))
  have HK7 := Lib.hid (HK6.out.keep (Below.keep0 hb7))
  clear hn7 hb7 HK6 HA6
  go_wp2_with fail
  refine (bHeld_any _ n v (flushB s) _ HK7.out.at_ (by rw [flush_len]; have := HK.out; omega)).mono ?_
  rintro e w8 ⟨vA8, vB8, rfl, hA, hB, hb8⟩
  rw [flush_keys] at hA
  obtain ⟨a8, c8, rfl, hn8, _⟩ := hA.new
  obtain ⟨b8, d8, rfl, hm8⟩ := hB.new
  rw [show (s.fr.map (·.1)).length = k by simp [HK.out], show ((flushB s).fr.map (·.2.2)).length = k by simp [HK.out, flush_len]]
  have HH8 := Lib.hid (HK7.out.newInts hn8)
  have HM8 := Lib.hid (HK7.out.newBools hm8)
  have HD8 := Lib.hid (HD7.out.keep0 (Below.keep0 hb8))
  have HA8 := Lib.hid (HA7.out.keep0 (Below.keep0 hb8))
  have HK8 := Lib.hid (HK7.out.keep (Below.keep0 hb8))
  clear hn8 hm8 hA hB hb8 HK7 HA7 HD7
  go_wp2_with fail
  refine (bFlush_any _ n v (flushB s) _ HK8.out.at_ (by rw [flush_len]; have := HK.out; omega) HRNG2.out f0 (by omega)).mono ?_
  rintro e w9 ⟨rfl, hat9, hk9⟩
  rw [flush_clean HCL.out] at hat9
  have HH9 := Lib.hid (HK8.out.ints HH8.out hk9)
  have HM9 := Lib.hid (HK8.out.bools HM8.out hk9)
  have HD9 := Lib.hid (HK8.out.ints HD8.out hk9)
  have HA9 := Lib.hid (HK8.out.ints HA8.out hk9)
  have HK9 := Lib.hid (HK8.out.step hat9 hk9)
  clear hat9 hk9 HK8 HA8 HD8 HM8 HH8
  go_wp2_with fail
  refine (bMoves_any _ n v (flushB s) _ HK9.out.at_).mono ?_
  rintro e w10 ⟨rfl, q10, rfl⟩
  have HH10 := Lib.hid (HH9.out.keep0 ((Keep.refl _ w9).drewN q10))
  have HM10 := Lib.hid (HM9.out.keep0 ((Keep.refl _ w9).drewN q10))
  have HD10 := Lib.hid (HD9.out.keep0 ((Keep.refl _ w9).drewN q10))
  have HA10 := Lib.hid (HA9.out.keep0 ((Keep.refl _ w9).drewN q10))
  have HK10 := Lib.hid (HK9.out.keep ((Keep.refl _ w9).drewN q10))
  clear HK9 HA9 HD9 HM9 HH9
  obtain ⟨wA, hwA⟩ : ∃ wA, wA = w9.drewN q10 := ⟨_, rfl⟩
  rw [← hwA] at HH10 HM10 HD10 HA10 HK10 ⊢
  clear hwA
  have HDL : Hid ((flushB s).disk.length = 8) := Lib.hid HK10.out.at_.dl
  have hle8 : ((flushB s).fr.map (·.2.2)).length = k := by simp [HK.out, flush_len]
  obtain ⟨D, hD⟩ : ∃ D, D = (flushB s).fr.map (·.2.2) := ⟨_, rfl⟩
  have HDC : Hid (∀ (i : Nat) (x : Bool), D[i]? = some x → x = false) := Lib.hid fun i x hx => by
    rw [hD, List.getElem?_map, Option.map_eq_some_iff] at hx
    obtain ⟨y, hy, rfl⟩ := hx
    exact HCL.out y (List.mem_of_getElem? hy)
  rw [← hD] at HM10 hle8
  clear hD
  go_wp2_with fail
  go_loopw [17] (fun i wr => ∃ j : Nat, j ≤ k ∧ i = .int .i64 j ∧ wr = wA) (fun i _ => k - (intOf i).toNat)
  case atStart => exact ⟨0, by omega, rfl, rfl⟩
  case round =>
    obtain ⟨j, hj, rfl, rfl⟩ := hrel
    by_cases hlt : j < k
    · obtain ⟨bb, rfl, _, _, hc⟩ := HM10.out (by omega)
      have hjl : j < D.length := by omega
      have hcx : wr.cell? ⟨bb, j, none⟩ = some (.bool false) := by
        have := hc j D[j] (List.getElem?_eq_getElem hjl)
        rwa [HDC.out j D[j] (List.getElem?_eq_getElem hjl)] at this
      clear hc
      have hjk : (j : Int) < (k : Int) := by omega
      have hj0 : (0 : Int) ≤ (j : Int) := by omega
      go_wp2
      go_roundw
      case rel => exact ⟨j + 1, hlt, by simp, trivial⟩
      case measure => simp [intOf]; omega
    · obtain rfl : j = k := by omega
      go_wp2_with fail
      refine (bDisk_any _ n v (flushB s) _ HK10.out.at_).mono ?_
      rintro e w11 ⟨a11, c11, rfl, hn11, hb11⟩
      have HE11 := Lib.hid hn11.ints
      have HH11 := Lib.hid (HH10.out.keep0 (Below.keep0 hb11)).ints
      have HD11 := Lib.hid (HD10.out.keep0 (Below.keep0 hb11)).ints
      have HA11 := Lib.hid (HA10.out.keep0 (Below.keep0 hb11)).ints
      have HB11 := Lib.hid (HK10.out.keep (Below.keep0 hb11)).bel
      clear hn11 hb11
      go_wp2_with fail
      refine (ints_same_keep a7 a11 8 c7 c11 _ _ (flushB s).disk _ HDL.out HD11.out HE11.out (by decide)).mono ?_
      rintro e w12 ⟨rfl, hk12⟩
      have HB12 := Lib.hid (HB11.out.trans (hk12.below HB11.out.size (by simp)))
      have HH12 := Lib.hid (HH11.out.keep (fun g hg => hk12.block g hg (by simp)))
      have HA12 := Lib.hid (HA11.out.keep (fun g hg => hk12.block g hg (by simp)))
      clear hk12
      go_wp2_with fail
      refine (ints_same_keep a8 aA j c8 cA _ _ (s.fr.map (·.1)) _ (by simp [HK.out]) HH12.out HA12.out (by unfold maxLen; omega)).mono ?_
      rintro e w13 ⟨rfl, hk13⟩
      go_wp2
      go_ret
      exact ⟨by simp, HB12.out.trans (hk13.below HB12.out.size (by simp))⟩

theorem backTwice_walk (x0 : Int) (a1 : Option Addr) (c1 : Nat) (l1 : List (List Int)) (w : World) (_ : I64 x0) (h2 : RowsIn w w.heap.size a1 l1) (_ : ∀ r ∈ l1, r.length ≤ maxLen ∧ ∀ y ∈ r, I64 y) (m2 : l1.length ≤ maxLen) :
    Calls Try.prog 7 #[.int .i64 x0, .slice a1 l1.length c1] w fun e w' => e = .returned (.bool true) ∧ Below w.heap.size w w' := by
  by_cases h : 1 ≤ x0 ∧ x0 ≤ 8
  · obtain ⟨h1, h2'⟩ := h
    obtain ⟨d, rfl⟩ := Int.eq_ofNat_of_zero_le (show 0 ≤ x0 by omega)
    exact backTwice_yes d h1 h2' a1 c1 l1 w h2 m2
  · exact backTwice_no x0 a1 _ c1 w (by omega)
end Go.Proofs.Ytgbccaplckiilaa
