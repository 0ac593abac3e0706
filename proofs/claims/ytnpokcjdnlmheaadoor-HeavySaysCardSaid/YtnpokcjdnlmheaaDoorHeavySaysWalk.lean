/-
  HeavySays: the walk (printed by wip/gen_heavysays.py).
-/
import Derived.Test.YtnpokcjdnlmheaaDoorHeavyPl
import Derived.Test.YtnpokcjdnlmheaaDoorErrIs
import Derived.Test.YtnpokcjdnlmheaaDoorLiftDoor
namespace Go.Proofs.YtnpokcjdnlmheaaDoor
open Go.RowKit

set_option maxHeartbeats 4000000 in
set_option maxRecDepth 100000 in
theorem heavySays_ok (a0 : Option Addr) (c0 n : Nat) (l0 : List Int) (kp : Nat) (x1 : Int) (hx : x1 = kp) (hn4 : n ≤ 40) (hall : allB l0 0 1000000 = true) (hk1 : 1 ≤ (kp : Int)) (hk2 : (kp : Int) ≤ 8) (w : World) (h0 : IntsIn w w.heap.size a0 l0) (hn : l0.length = n) (hg : Handle w) :
    Calls Tryd.prog 5 #[.slice a0 n c0, .int .i64 x1] w fun e w' => e = .returned (.bool true) ∧ Below w.heap.size w w' := by
  have H0 := Lib.hid h0; have HN := Lib.hid hn; have HG := Lib.hid hg
  have hw0 := hg.lt
  clear h0 hn hg
  subst hx
  have HALL := Lib.hid hall; clear hall
  have hn4i : (n : Int) ≤ 40 := by omega
  have HLK : Hid ((keepOf kp l0).length ≤ 1000) := Lib.hid (by have := (keepOf_mg (keep := kp) l0).choose_spec.len; omega)
  have HLS : Hid ((spaceOf kp l0).length ≤ 1000) := Lib.hid (by have := (spaceOf_ss (keep := kp) (by omega) l0).len; omega)
  go_enter Tryd.func5, Tryd.ntmps5
  go_wp2_with fail
  refine (kKeys_ok a0 n c0 _ l0 kp _ HN.out H0.out hn4 HALL.out hk1 hk2).mono ?_
  rintro e w' ⟨rfl, rfl⟩
  go_wp2_with fail
  refine (hCheck_ok a0 n c0 _ l0 kp _ HN.out H0.out hn4 HALL.out hk1 hk2).mono ?_
  rintro e w' ⟨rfl, rfl⟩
  go_wp2_with fail
  refine (eError_n .nilIface 0 _ (.inl ⟨rfl, rfl⟩) HG.out).mono ?_
  rintro e w1 ⟨rfl, hb1⟩
  have HB1 := Lib.hid hb1
  clear hb1
  go_wp2_with fail
  refine (rkeep a0 n c0 kp l0 false _ HN.out (H0.out.on HB1.out) hn4 hk1 hk2).mono ?_
  rintro e w2 ⟨vA, rfl, hkA, hb2⟩
  have HKA2 := Lib.hid hkA
  clear hkA
  have HB2 := Lib.hid (HB1.out.trans (hb2.mono HB1.out.size))
  clear hb2
  go_wp2_with fail
  refine (rkeep a0 n c0 kp l0 true _ HN.out (H0.out.on HB2.out) hn4 hk1 hk2).mono ?_
  rintro e w3 ⟨vB, rfl, hkB, hb3⟩
  have HKA3 := Lib.hid (HKA2.out.below hb3)
  have HKB3 := Lib.hid hkB
  clear hkB
  have HB3 := Lib.hid (HB2.out.trans (hb3.mono HB2.out.size))
  clear hb3
  go_wp2_with fail
  refine (keep_okX a0 n c0 kp l0 _ HN.out (H0.out.on HB3.out) hn4 HALL.out hk1 hk2).mono ?_
  rintro e w4 ⟨vK, D, rfl, _, hkK, hb4⟩
  have HKA4 := Lib.hid (HKA3.out.below hb4)
  have HKB4 := Lib.hid (HKB3.out.below hb4)
  have HKK4 := Lib.hid hkK
  clear hkK
  have HB4 := Lib.hid (HB3.out.trans (hb4.mono HB3.out.size))
  clear hb4
  go_wp2_with fail
  refine (eError_n .nilIface 0 _ (.inl ⟨rfl, rfl⟩) (HG.out.below HB4.out hw0)).mono ?_
  rintro e w5 ⟨rfl, hb5⟩
  have HKA5 := Lib.hid (HKA4.out.below hb5)
  have HKB5 := Lib.hid (HKB4.out.below hb5)
  have HKK5 := Lib.hid (HKK4.out.below hb5)
  have HB5 := Lib.hid (HB4.out.trans (hb5.mono HB4.out.size))
  clear hb5
  go_wp2_with fail
  refine (kepts_at vK vA _ _ (keepOf kp l0) _ HKK5.out HKA5.out (Nat.lt_of_lt_of_le hw0 HB5.out.size) HLK.out).mono ?_
  rintro e w6 ⟨rfl, hb6⟩
  have HKB6 := Lib.hid (HKB5.out.below hb6)
  have HB6 := Lib.hid (HB5.out.trans (hb6.mono HB5.out.size))
  clear hb6
  go_wp2_with fail
  refine (space_ok a0 n c0 kp l0 _ HN.out (H0.out.on HB6.out) hn4 HALL.out hk1 hk2).mono ?_
  rintro e w7 ⟨vS, rfl, hkS, hb7⟩
  have HKB7 := Lib.hid (HKB6.out.below hb7)
  have HKS7 := Lib.hid hkS
  clear hkS
  have HB7 := Lib.hid (HB6.out.trans (hb7.mono HB6.out.size))
  clear hb7
  go_wp2_with fail
  refine (eError_n .nilIface 0 _ (.inl ⟨rfl, rfl⟩) (HG.out.below HB7.out hw0)).mono ?_
  rintro e w8 ⟨rfl, hb8⟩
  have HKB8 := Lib.hid (HKB7.out.below hb8)
  have HKS8 := Lib.hid (HKS7.out.below hb8)
  have HB8 := Lib.hid (HB7.out.trans (hb8.mono HB7.out.size))
  clear hb8
  go_wp2_with fail
  refine (kepts_at vS vB _ _ (spaceOf kp l0) _ HKS8.out HKB8.out (Nat.lt_of_lt_of_le hw0 HB8.out.size) HLS.out).mono ?_
  rintro e w9 ⟨rfl, hb9⟩
  have HB9 := Lib.hid (HB8.out.trans (hb9.mono HB8.out.size))
  clear hb9
  go_wp2_with fail
  refine (kKeys_ok a0 n c0 _ l0 1 _ HN.out (H0.out.on HB9.out) hn4 HALL.out (by decide) (by decide)).mono ?_
  rintro e w' ⟨rfl, rfl⟩
  go_wp2_with fail
  refine (rkeep a0 n c0 1 l0 false _ HN.out (H0.out.on HB9.out) hn4 (by decide) (by decide)).mono ?_
  rintro e w10 ⟨vC, rfl, hkC, hb10⟩
  have HB10 := Lib.hid (HB9.out.trans (hb10.mono HB9.out.size))
  clear hb10
  rw [show kOf false 1 l0 = keepOf 1 l0 from rfl] at hkC
  have HLE := Lib.hid (keepOf_mg (keep := 1) l0).choose_spec.len
  obtain ⟨L1, hL1⟩ : ∃ L1, L1 = keepOf 1 l0 := ⟨_, rfl⟩
  rw [← hL1] at hkC HLE
  have HL1 := Lib.hid hL1
  clear hL1
  have hle1 := HLE.out
  clear HLE
  match L1, hle1, HL1, hkC with
  | [], _, HL1, hkC =>
    obtain ⟨aC, gC, cC, rfl, _, _, _, _⟩ := hkC.view 0 (Nat.lt_of_lt_of_le hw0 HB10.out.size)
    clear hkC hle1
    go_wp2_with fail
    refine (vote_okX a0 n c0 l0 _ HN.out (H0.out.on HB10.out) hn4 HALL.out).mono ?_
    rintro e w11 ⟨hb11, ⟨_, rfl⟩ | ⟨y, hy, rfl⟩⟩
    · have HB11 := Lib.hid (HB10.out.trans (hb11.mono HB10.out.size))
      clear hb11
      go_wp2_with fail
      refine (eError_n .nilIface 0 _ (.inl ⟨rfl, rfl⟩) (HG.out.below HB11.out hw0)).mono ?_
      rintro e w12 ⟨rfl, hb12⟩
      have HB12 := Lib.hid (HB11.out.trans (hb12.mono HB11.out.size))
      clear hb12
      go_wp2
      go_ret
      exact ⟨by simp, HB12.out⟩
    · rw [← HL1.out] at hy; cases hy
  | [y], _, HL1, hkC =>
    obtain ⟨gC, cC, restC, rfl, _, _, _, hblkC, _⟩ := hkC.front (by simp)
    obtain ⟨hcC, _⟩ := blk_kin hblkC 0 y rfl
    clear hkC hblkC hle1
    obtain ⟨s, hs⟩ : ∃ s, times l0 y.1 = s := ⟨_, rfl⟩
    have hs0 : 0 ≤ s := by rw [← hs]; exact times_nonneg _ _
    have hs4 : s ≤ 40 := by rw [← hs]; have := times_le l0 y.1; have := HN.out; omega
    have HSM := Lib.hid hs
    have hv64 : wrap64 (2 * s) = 2 * s := by unfold wrap64; omega
    have hv : IntKind.i64.wrap (2 * s) = 2 * s := IntWalk.i64_in _ (by omega)
    clear hs
    go_wp2_with fail
    refine (times_is a0 n c0 _ l0 y.1 s _ HSM.out HN.out (H0.out.on HB10.out) (by omega)).mono ?_
    rintro e w' ⟨rfl, rfl⟩
    go_wp2_with fail
    refine (vote_okX a0 n c0 l0 _ HN.out (H0.out.on HB10.out) hn4 HALL.out).mono ?_
    rintro e w11 ⟨hb11, ⟨hy, rfl⟩ | ⟨y2, hy, rfl⟩⟩
    · rw [← HL1.out] at hy; cases hy
    · rw [← HL1.out] at hy
      injection hy with hy _
      subst hy
      rw [HSM.out]
      by_cases hm : (n : Int) < 2 * s
      · have hd : decide ((n : Int) < 2 * s) = true := by simpa using hm
        rw [hd]
        have HB11 := Lib.hid (HB10.out.trans (hb11.mono HB10.out.size))
        clear hb11
        go_wp2_with fail
        refine (eError_n .nilIface 0 _ (.inl ⟨rfl, rfl⟩) (HG.out.below HB11.out hw0)).mono ?_
        rintro e w12 ⟨rfl, hb12⟩
        have HB12 := Lib.hid (HB11.out.trans (hb12.mono HB11.out.size))
        clear hb12
        go_wp2
        go_ret
        exact ⟨by simp, HB12.out⟩
      · have hd : decide ((n : Int) < 2 * s) = false := by simpa using hm
        rw [hd]
        have HB11 := Lib.hid (HB10.out.trans (hb11.mono HB10.out.size))
        clear hb11
        go_wp2_with fail
        refine (eError_n .nilIface 0 _ (.inl ⟨rfl, rfl⟩) (HG.out.below HB11.out hw0)).mono ?_
        rintro e w12 ⟨rfl, hb12⟩
        have HB12 := Lib.hid (HB11.out.trans (hb12.mono HB11.out.size))
        clear hb12
        go_wp2
        go_ret
        exact ⟨by simp, HB12.out⟩
  | _ :: _ :: _, hle1, _, _ => simp at hle1

set_option maxHeartbeats 4000000 in
set_option maxRecDepth 100000 in
theorem heavySays_keep (a0 : Option Addr) (c0 n : Nat) (l0 : List Int) (x1 : Int) (hn4 : n ≤ 40) (hall : allB l0 0 1000000 = true) (hk : x1 < 1 ∨ 8 < x1) (w : World) (h0 : IntsIn w w.heap.size a0 l0) (hn : l0.length = n) (hg : Handle w) :
    Calls Tryd.prog 5 #[.slice a0 n c0, .int .i64 x1] w fun e w' => e = .returned (.bool true) ∧ Below w.heap.size w w' := by
  have H0 := Lib.hid h0; have HN := Lib.hid hn; have HG := Lib.hid hg
  have hw0 := hg.lt
  clear h0 hn hg
  have HALL := Lib.hid hall; clear hall
  have HBAD : Hid (allB l0 0 1000000 = false ∨ x1 < 1 ∨ 8 < x1) := Lib.hid (.inr hk)
  clear hk
  have hn4i : (n : Int) ≤ 40 := by omega
  go_enter Tryd.func5, Tryd.ntmps5
  go_wp2_with fail
  refine (kKeys_range a0 n c0 _ l0 x1 _ HN.out H0.out hn4 HBAD.out).mono ?_
  rintro e w' ⟨rfl, rfl⟩
  go_wp2_with fail
  refine (hCheck_range a0 n c0 _ l0 x1 _ HN.out H0.out hn4 HBAD.out).mono ?_
  rintro e w' ⟨rfl, rfl⟩
  go_wp2_with fail
  refine (eError_n (errv 1) 1 _ (.inr rfl) HG.out).mono ?_
  rintro e w1 ⟨rfl, hb1⟩
  have HB1 := Lib.hid hb1
  clear hb1
  go_wp2_with fail
  refine (keep_bad1 a0 n c0 _ l0 x1 _ HN.out (H0.out.on HB1.out) hn4 HBAD.out).mono ?_
  rintro e w' ⟨rfl, rfl⟩
  go_wp2_with fail
  refine (eError_n (errv 1) 1 _ (.inr rfl) (HG.out.below HB1.out hw0)).mono ?_
  rintro e w2 ⟨rfl, hb2⟩
  have HB2 := Lib.hid (HB1.out.trans (hb2.mono HB1.out.size))
  clear hb2
  go_wp2_with fail
  refine (kepts_at (.slice none 0 0) (.slice none 0 0) 0 0 [] _ (KAt.nil _ _) (KAt.nil _ _) (Nat.lt_of_lt_of_le hw0 HB2.out.size) (by decide)).mono ?_
  rintro e w3 ⟨rfl, hb3⟩
  have HB3 := Lib.hid (HB2.out.trans (hb3.mono HB2.out.size))
  clear hb3
  go_wp2_with fail
  refine (space_bad1 a0 n c0 _ l0 x1 _ HN.out (H0.out.on HB3.out) hn4 HBAD.out).mono ?_
  rintro e w' ⟨rfl, rfl⟩
  go_wp2_with fail
  refine (eError_n (errv 1) 1 _ (.inr rfl) (HG.out.below HB3.out hw0)).mono ?_
  rintro e w4 ⟨rfl, hb4⟩
  have HB4 := Lib.hid (HB3.out.trans (hb4.mono HB3.out.size))
  clear hb4
  go_wp2_with fail
  refine (kepts_at (.slice none 0 0) (.slice none 0 0) 0 0 [] _ (KAt.nil _ _) (KAt.nil _ _) (Nat.lt_of_lt_of_le hw0 HB4.out.size) (by decide)).mono ?_
  rintro e w5 ⟨rfl, hb5⟩
  have HB5 := Lib.hid (HB4.out.trans (hb5.mono HB4.out.size))
  clear hb5
  go_wp2_with fail
  refine (kKeys_ok a0 n c0 _ l0 1 _ HN.out (H0.out.on HB5.out) hn4 HALL.out (by decide) (by decide)).mono ?_
  rintro e w' ⟨rfl, rfl⟩
  go_wp2_with fail
  refine (rkeep a0 n c0 1 l0 false _ HN.out (H0.out.on HB5.out) hn4 (by decide) (by decide)).mono ?_
  rintro e w6 ⟨vC, rfl, hkC, hb6⟩
  have HB6 := Lib.hid (HB5.out.trans (hb6.mono HB5.out.size))
  clear hb6
  rw [show kOf false 1 l0 = keepOf 1 l0 from rfl] at hkC
  have HLE := Lib.hid (keepOf_mg (keep := 1) l0).choose_spec.len
  obtain ⟨L1, hL1⟩ : ∃ L1, L1 = keepOf 1 l0 := ⟨_, rfl⟩
  rw [← hL1] at hkC HLE
  have HL1 := Lib.hid hL1
  clear hL1
  have hle1 := HLE.out
  clear HLE
  match L1, hle1, HL1, hkC with
  | [], _, HL1, hkC =>
    obtain ⟨aC, gC, cC, rfl, _, _, _, _⟩ := hkC.view 0 (Nat.lt_of_lt_of_le hw0 HB6.out.size)
    clear hkC hle1
    go_wp2_with fail
    refine (vote_okX a0 n c0 l0 _ HN.out (H0.out.on HB6.out) hn4 HALL.out).mono ?_
    rintro e w7 ⟨hb7, ⟨_, rfl⟩ | ⟨y, hy, rfl⟩⟩
    · have HB7 := Lib.hid (HB6.out.trans (hb7.mono HB6.out.size))
      clear hb7
      go_wp2_with fail
      refine (eError_n .nilIface 0 _ (.inl ⟨rfl, rfl⟩) (HG.out.below HB7.out hw0)).mono ?_
      rintro e w8 ⟨rfl, hb8⟩
      have HB8 := Lib.hid (HB7.out.trans (hb8.mono HB7.out.size))
      clear hb8
      go_wp2
      go_ret
      exact ⟨by simp, HB8.out⟩
    · rw [← HL1.out] at hy; cases hy
  | [y], _, HL1, hkC =>
    obtain ⟨gC, cC, restC, rfl, _, _, _, hblkC, _⟩ := hkC.front (by simp)
    obtain ⟨hcC, _⟩ := blk_kin hblkC 0 y rfl
    clear hkC hblkC hle1
    obtain ⟨s, hs⟩ : ∃ s, times l0 y.1 = s := ⟨_, rfl⟩
    have hs0 : 0 ≤ s := by rw [← hs]; exact times_nonneg _ _
    have hs4 : s ≤ 40 := by rw [← hs]; have := times_le l0 y.1; have := HN.out; omega
    have HSM := Lib.hid hs
    have hv64 : wrap64 (2 * s) = 2 * s := by unfold wrap64; omega
    have hv : IntKind.i64.wrap (2 * s) = 2 * s := IntWalk.i64_in _ (by omega)
    clear hs
    go_wp2_with fail
    refine (times_is a0 n c0 _ l0 y.1 s _ HSM.out HN.out (H0.out.on HB6.out) (by omega)).mono ?_
    rintro e w' ⟨rfl, rfl⟩
    go_wp2_with fail
    refine (vote_okX a0 n c0 l0 _ HN.out (H0.out.on HB6.out) hn4 HALL.out).mono ?_
    rintro e w7 ⟨hb7, ⟨hy, rfl⟩ | ⟨y2, hy, rfl⟩⟩
    · rw [← HL1.out] at hy; cases hy
    · rw [← HL1.out] at hy
      injection hy with hy _
      subst hy
      rw [HSM.out]
      by_cases hm : (n : Int) < 2 * s
      · have hd : decide ((n : Int) < 2 * s) = true := by simpa using hm
        rw [hd]
        have HB7 := Lib.hid (HB6.out.trans (hb7.mono HB6.out.size))
        clear hb7
        go_wp2_with fail
        refine (eError_n .nilIface 0 _ (.inl ⟨rfl, rfl⟩) (HG.out.below HB7.out hw0)).mono ?_
        rintro e w8 ⟨rfl, hb8⟩
        have HB8 := Lib.hid (HB7.out.trans (hb8.mono HB7.out.size))
        clear hb8
        go_wp2
        go_ret
        exact ⟨by simp, HB8.out⟩
      · have hd : decide ((n : Int) < 2 * s) = false := by simpa using hm
        rw [hd]
        have HB7 := Lib.hid (HB6.out.trans (hb7.mono HB6.out.size))
        clear hb7
        go_wp2_with fail
        refine (eError_n .nilIface 0 _ (.inl ⟨rfl, rfl⟩) (HG.out.below HB7.out hw0)).mono ?_
        rintro e w8 ⟨rfl, hb8⟩
        have HB8 := Lib.hid (HB7.out.trans (hb8.mono HB7.out.size))
        clear hb8
        go_wp2
        go_ret
        exact ⟨by simp, HB8.out⟩
  | _ :: _ :: _, hle1, _, _ => simp at hle1

set_option maxHeartbeats 4000000 in
set_option maxRecDepth 100000 in
theorem heavySays_full (a0 : Option Addr) (c0 n : Nat) (l0 : List Int) (x1 : Int) (hbig : 40 < n) (w : World) (h0 : IntsIn w w.heap.size a0 l0) (hn : l0.length = n) (hg : Handle w) :
    Calls Tryd.prog 5 #[.slice a0 n c0, .int .i64 x1] w fun e w' => e = .returned (.bool true) ∧ Below w.heap.size w w' := by
  have H0 := Lib.hid h0; have HN := Lib.hid hn; have HG := Lib.hid hg
  have hw0 := hg.lt
  clear h0 hn hg
  go_enter Tryd.func5, Tryd.ntmps5
  go_wp2_with fail
  refine (kKeys_full a0 n c0 x1 _ hbig).mono ?_
  rintro e w' ⟨rfl, rfl⟩
  go_wp2_with fail
  refine (hCheck_full a0 n c0 x1 _ hbig).mono ?_
  rintro e w' ⟨rfl, rfl⟩
  go_wp2_with fail
  refine (eError_n (errv 4) 4 _ (.inr rfl) HG.out).mono ?_
  rintro e w1 ⟨rfl, hb1⟩
  have HB1 := Lib.hid hb1
  clear hb1
  go_wp2_with fail
  refine (keep_bad4 a0 n c0 x1 _ hbig).mono ?_
  rintro e w' ⟨rfl, rfl⟩
  go_wp2_with fail
  refine (eError_n (errv 4) 4 _ (.inr rfl) (HG.out.below HB1.out hw0)).mono ?_
  rintro e w2 ⟨rfl, hb2⟩
  have HB2 := Lib.hid (HB1.out.trans (hb2.mono HB1.out.size))
  clear hb2
  go_wp2_with fail
  refine (kepts_at (.slice none 0 0) (.slice none 0 0) 0 0 [] _ (KAt.nil _ _) (KAt.nil _ _) (Nat.lt_of_lt_of_le hw0 HB2.out.size) (by decide)).mono ?_
  rintro e w3 ⟨rfl, hb3⟩
  have HB3 := Lib.hid (HB2.out.trans (hb3.mono HB2.out.size))
  clear hb3
  go_wp2_with fail
  refine (space_bad4 a0 n c0 x1 _ hbig).mono ?_
  rintro e w' ⟨rfl, rfl⟩
  go_wp2_with fail
  refine (eError_n (errv 4) 4 _ (.inr rfl) (HG.out.below HB3.out hw0)).mono ?_
  rintro e w4 ⟨rfl, hb4⟩
  have HB4 := Lib.hid (HB3.out.trans (hb4.mono HB3.out.size))
  clear hb4
  go_wp2_with fail
  refine (kepts_at (.slice none 0 0) (.slice none 0 0) 0 0 [] _ (KAt.nil _ _) (KAt.nil _ _) (Nat.lt_of_lt_of_le hw0 HB4.out.size) (by decide)).mono ?_
  rintro e w5 ⟨rfl, hb5⟩
  have HB5 := Lib.hid (HB4.out.trans (hb5.mono HB4.out.size))
  clear hb5
  go_wp2_with fail
  refine (kKeys_full a0 n c0 1 _ hbig).mono ?_
  rintro e w' ⟨rfl, rfl⟩
  go_wp2_with fail
  refine (vote_bad4 a0 n c0 _ hbig).mono ?_
  rintro e w' ⟨rfl, rfl⟩
  go_wp2_with fail
  refine (eError_n (errv 4) 4 _ (.inr rfl) (HG.out.below HB5.out hw0)).mono ?_
  rintro e w6 ⟨rfl, hb6⟩
  have HB6 := Lib.hid (HB5.out.trans (hb6.mono HB5.out.size))
  clear hb6
  go_wp2
  go_ret
  exact ⟨by simp, HB6.out⟩

set_option maxHeartbeats 4000000 in
set_option maxRecDepth 100000 in
theorem heavySays_range (a0 : Option Addr) (c0 n : Nat) (l0 : List Int) (x1 : Int) (hn4 : n ≤ 40) (hall : allB l0 0 1000000 = false) (w : World) (h0 : IntsIn w w.heap.size a0 l0) (hn : l0.length = n) (hg : Handle w) :
    Calls Tryd.prog 5 #[.slice a0 n c0, .int .i64 x1] w fun e w' => e = .returned (.bool true) ∧ Below w.heap.size w w' := by
  have H0 := Lib.hid h0; have HN := Lib.hid hn; have HG := Lib.hid hg
  have hw0 := hg.lt
  clear h0 hn hg
  have HALL := Lib.hid hall; clear hall
  have HBAD : Hid (allB l0 0 1000000 = false ∨ x1 < 1 ∨ 8 < x1) := Lib.hid (.inl HALL.out)
  go_enter Tryd.func5, Tryd.ntmps5
  go_wp2_with fail
  refine (kKeys_range a0 n c0 _ l0 x1 _ HN.out H0.out hn4 HBAD.out).mono ?_
  rintro e w' ⟨rfl, rfl⟩
  go_wp2_with fail
  refine (hCheck_range a0 n c0 _ l0 x1 _ HN.out H0.out hn4 HBAD.out).mono ?_
  rintro e w' ⟨rfl, rfl⟩
  go_wp2_with fail
  refine (eError_n (errv 1) 1 _ (.inr rfl) HG.out).mono ?_
  rintro e w1 ⟨rfl, hb1⟩
  have HB1 := Lib.hid hb1
  clear hb1
  go_wp2_with fail
  refine (keep_bad1 a0 n c0 _ l0 x1 _ HN.out (H0.out.on HB1.out) hn4 HBAD.out).mono ?_
  rintro e w' ⟨rfl, rfl⟩
  go_wp2_with fail
  refine (eError_n (errv 1) 1 _ (.inr rfl) (HG.out.below HB1.out hw0)).mono ?_
  rintro e w2 ⟨rfl, hb2⟩
  have HB2 := Lib.hid (HB1.out.trans (hb2.mono HB1.out.size))
  clear hb2
  go_wp2_with fail
  refine (kepts_at (.slice none 0 0) (.slice none 0 0) 0 0 [] _ (KAt.nil _ _) (KAt.nil _ _) (Nat.lt_of_lt_of_le hw0 HB2.out.size) (by decide)).mono ?_
  rintro e w3 ⟨rfl, hb3⟩
  have HB3 := Lib.hid (HB2.out.trans (hb3.mono HB2.out.size))
  clear hb3
  go_wp2_with fail
  refine (space_bad1 a0 n c0 _ l0 x1 _ HN.out (H0.out.on HB3.out) hn4 HBAD.out).mono ?_
  rintro e w' ⟨rfl, rfl⟩
  go_wp2_with fail
  refine (eError_n (errv 1) 1 _ (.inr rfl) (HG.out.below HB3.out hw0)).mono ?_
  rintro e w4 ⟨rfl, hb4⟩
  have HB4 := Lib.hid (HB3.out.trans (hb4.mono HB3.out.size))
  clear hb4
  go_wp2_with fail
  refine (kepts_at (.slice none 0 0) (.slice none 0 0) 0 0 [] _ (KAt.nil _ _) (KAt.nil _ _) (Nat.lt_of_lt_of_le hw0 HB4.out.size) (by decide)).mono ?_
  rintro e w5 ⟨rfl, hb5⟩
  have HB5 := Lib.hid (HB4.out.trans (hb5.mono HB4.out.size))
  clear hb5
  go_wp2_with fail
  refine (kKeys_range a0 n c0 _ l0 1 _ HN.out (H0.out.on HB5.out) hn4 (.inl HALL.out)).mono ?_
  rintro e w' ⟨rfl, rfl⟩
  go_wp2_with fail
  refine (vote_bad1 a0 n c0 _ l0 _ HN.out (H0.out.on HB5.out) hn4 HALL.out).mono ?_
  rintro e w' ⟨rfl, rfl⟩
  go_wp2_with fail
  refine (eError_n (errv 1) 1 _ (.inr rfl) (HG.out.below HB5.out hw0)).mono ?_
  rintro e w6 ⟨rfl, hb6⟩
  have HB6 := Lib.hid (HB5.out.trans (hb6.mono HB5.out.size))
  clear hb6
  go_wp2
  go_ret
  exact ⟨by simp, HB6.out⟩

theorem heavySays_walk (a0 : Option Addr) (c0 : Nat) (l0 : List Int) (x1 : Int) (w : World) (h0 : IntsIn w w.heap.size a0 l0) (_ : ∀ y ∈ l0, I64 y) (_ : Reached l0) (_ : I64 x1) (hg : Handle w) :
    Calls Tryd.prog 5 #[.slice a0 l0.length c0, .int .i64 x1] w fun e w' => e = .returned (.bool true) ∧ Below w.heap.size w w' := by
  by_cases h4 : l0.length ≤ 40
  · cases hall : allB l0 0 1000000 with
    | false => exact heavySays_range a0 c0 _ l0 x1 h4 hall w h0 rfl hg
    | true =>
      by_cases hk : 1 ≤ x1 ∧ x1 ≤ 8
      · obtain ⟨kp, hkp⟩ := Int.eq_ofNat_of_zero_le (show 0 ≤ x1 by omega)
        exact heavySays_ok a0 c0 _ l0 kp x1 hkp h4 hall (by omega) (by omega) w h0 rfl hg
      · exact heavySays_keep a0 c0 _ l0 x1 h4 hall (by omega) w h0 rfl hg
  · exact heavySays_full a0 c0 _ l0 x1 (by omega) w h0 rfl hg
end Go.Proofs.YtnpokcjdnlmheaaDoor
