/-
  LeasePlays: wait, give back, none of them (printed by wip/gen_leaseplays2.py).
-/
import Derived.Test.YtjnghpambjjlkaaDoorLeaseBlk
namespace Go.Proofs.YtjnghpambjjlkaaDoor
open Go.RowKit

set_option maxHeartbeats 20000000 in
set_option maxRecDepth 100000 in
theorem lp_arm0 (w wr : World) (b g bx n b3 off3 c' : Nat) (x : Int) : LPGoal w wr b g bx n b3 off3 c' 0 x := by
  intro s k gh ch gu cu K' r0 r1 r2 r3 r4 r5 r6 r8 r10 r13 r14 r15 r16 r17 r18 r19 r20 r21 r22 r23 r24 r25 r26 r27 r28 r29 r30 r31 r32 r33 r34 r35 r36 r37 r38 r39 r40 r41 r42 r43 r44 r45 r46 r47 r48 r49 r50 r51 r52 r53 r54 r55 r56 r57 r58 r59 r60 r61 r62 r63 r64 r65 r66 r67 r69 r70 r71 r72 r73 r74 r75 r76 r77 r78 r79 r80 r81 r82 r83 r84 r85 r86 r87 r88 r89 r90 r91 r92 r93 r94 r95 r96 r97 r98 r99 r100 r101 r102 r103 r104 r105 r106 r107 r108 r109 r110 r111 r112 r113 r114 r115 r116 r117 r118 r119 r120 r121 r122 r123 r124 r125 r126 r127 r128 r129 r130 r131 r132 r133 r134 r135 r136 r137 r138 r139 r140 r141 r142 r143 r144 r145 r146 r147 r148 r149 r150 r151 r152 r153 r154 r155 r156 r157 r158 r159 r160 r161 r162 r163 r164 r165 r166 r167 r168 r169 r170 r171 r172 r173 r174 r175 r176 r177 r178 r179 r180 r181 r182 r183 r184 r185 r186 r187 r188 r189 r190 r191 r192 r193 r194 r195 r196 r197 r198 r199 r200 r201 r202 r203 r204 r205 r206 r207 r208 r209 r210 r211 r212 r213 r214 r215 r216 hin haf
  have HPS := Lib.hid hin.ps; have HI := Lib.hid hin.inv; have HLK := Lib.hid hin.lk; have HC3 := Lib.hid hin.row; have HH := Lib.hid hin.hh
  have h2 := hin.h2
  have hw0 := HH.out.lt
  have hn4 : n ≤ 4 := by omega
  have HAF := Lib.hid haf
  clear hin haf
  obtain ⟨hy0, hy1⟩ := HC3.out wr HPS.out.bel
  obtain ⟨x0, x1, x2, x3, x4, x5, f0, f1, f2, f3, f4, f5⟩ := HPS.out.cells
  conv => arg 2; whnf
  obtain ⟨s2, hs2⟩ : ∃ s2, s2 = lStep n s 0 x := ⟨_, rfl⟩
  have HI2 : Hid (LInv n s2) := Lib.hid (by rw [hs2]; exact lStep_inv _ _ HI.out)
  obtain ⟨en, hen⟩ : ∃ en, en = wE s x := ⟨_, rfl⟩
  have HS2 := Lib.hid hs2; have HEN := Lib.hid hen
  clear hs2 hen
  go_wp2
  go_region_with (first
    | (go_at_call 22; refine (rWait n gh ch gu cu k s x _ (HPS.out.kl.keep0 ((Keep.refl _ _).drew)) HLK.out HI.out hn4).mono ?_; rintro e w4 ⟨k2, hlk4, hp4⟩; rw [← HS2.out] at hlk4; rw [← HEN.out] at hp4; obtain ⟨gh2, ch2, gu2, cu2, rfl, hkl4, hb4⟩ := hp4; have HLK2 := Lib.hid hlk4; have hps4 := (HPS.out.keep ((Keep.refl _ _).drew)).below hb4; have ⟨x0, x1, x2, x3, x4, x5, f0, f1, f2, f3, f4, f5⟩ := hps4.cells; have HKL4 := Lib.hid hkl4; have HPS4 := Lib.hid hps4; clear hkl4 hps4 hb4 hlk4)
    | fail)
  all_goals
    obtain ⟨w5, hw5⟩ : ∃ w5, w5 = set6 w4 bx (.int .i64 k2.now) (.int .i64 k2.term) (.int .i64 k2.value) (.int .i64 k2.want) (.slice (some ⟨gh2, 0, none⟩) n ch2) (.slice (some ⟨gu2, 0, none⟩) n cu2) := ⟨_, rfl⟩
    have hps5 : LPS w w5 b g bx n s k2 gh2 ch2 gu2 cu2 := by rw [hw5]; exact HPS4.out.setRef HKL4.out
    rw [show ((((((w4.setCell ⟨bx, 0, none⟩ (.int .i64 k2.now)).setCell ⟨bx, 1, none⟩ (.int .i64 k2.term)).setCell ⟨bx, 2, none⟩ (.int .i64 k2.value)).setCell ⟨bx, 3, none⟩ (.int .i64 k2.want)).setCell ⟨bx, 4, none⟩ (.slice (some ⟨gh2, 0, none⟩) n ch2)).setCell ⟨bx, 5, none⟩ (.slice (some ⟨gu2, 0, none⟩) n cu2)) = w5 from hw5.symm]
    have HPS5 := Lib.hid hps5
    clear hps5 hw5 HPS4 HKL4 x0 x1 x2 x3 x4 x5 f0 f1 f2 f3 f4 f5 hy0 hy1
    obtain ⟨hy0, hy1⟩ := HC3.out w5 HPS5.out.bel
    go_wp2_with fail
    refine (pWait b g n s x _ HPS5.out.lat HI.out).mono ?_
    rintro e w6 ⟨er, rfl, herr, hl6, hk6⟩
    rw [← HS2.out] at hl6; rw [← HEN.out] at herr
    have HPS6 := Lib.hid (HPS5.out.prog hk6 hl6); have HER := Lib.hid herr
    clear hl6 hk6 herr hy0 hy1
    go_wp2_with fail
    refine (eError_n er en _ HER.out (HH.out.below HPS6.out.bel hw0)).mono ?_
    rintro e w8 ⟨rfl, hbE⟩
    have HPS8 := Lib.hid (HPS6.out.below hbE)
    clear hbE
    go_wp2
    (try simp only [Exit.inBlock, Exit.then])
    have hfin := HAF.out
    unfold LPAfter at hfin
    apply hfin
    exact ⟨s2, k2, gh2, ch2, gu2, cu2, HPS8.out, HI2.out, HLK2.out⟩

set_option maxHeartbeats 20000000 in
set_option maxRecDepth 100000 in
theorem lp_arm3 (w wr : World) (b g bx n b3 off3 c' : Nat) (x : Int) : LPGoal w wr b g bx n b3 off3 c' 3 x := by
  intro s k gh ch gu cu K' r0 r1 r2 r3 r4 r5 r6 r8 r10 r13 r14 r15 r16 r17 r18 r19 r20 r21 r22 r23 r24 r25 r26 r27 r28 r29 r30 r31 r32 r33 r34 r35 r36 r37 r38 r39 r40 r41 r42 r43 r44 r45 r46 r47 r48 r49 r50 r51 r52 r53 r54 r55 r56 r57 r58 r59 r60 r61 r62 r63 r64 r65 r66 r67 r69 r70 r71 r72 r73 r74 r75 r76 r77 r78 r79 r80 r81 r82 r83 r84 r85 r86 r87 r88 r89 r90 r91 r92 r93 r94 r95 r96 r97 r98 r99 r100 r101 r102 r103 r104 r105 r106 r107 r108 r109 r110 r111 r112 r113 r114 r115 r116 r117 r118 r119 r120 r121 r122 r123 r124 r125 r126 r127 r128 r129 r130 r131 r132 r133 r134 r135 r136 r137 r138 r139 r140 r141 r142 r143 r144 r145 r146 r147 r148 r149 r150 r151 r152 r153 r154 r155 r156 r157 r158 r159 r160 r161 r162 r163 r164 r165 r166 r167 r168 r169 r170 r171 r172 r173 r174 r175 r176 r177 r178 r179 r180 r181 r182 r183 r184 r185 r186 r187 r188 r189 r190 r191 r192 r193 r194 r195 r196 r197 r198 r199 r200 r201 r202 r203 r204 r205 r206 r207 r208 r209 r210 r211 r212 r213 r214 r215 r216 hin haf
  have HPS := Lib.hid hin.ps; have HI := Lib.hid hin.inv; have HLK := Lib.hid hin.lk; have HC3 := Lib.hid hin.row; have HH := Lib.hid hin.hh
  have h2 := hin.h2
  have hw0 := HH.out.lt
  have hn4 : n ≤ 4 := by omega
  have HAF := Lib.hid haf
  clear hin haf
  obtain ⟨hy0, hy1⟩ := HC3.out wr HPS.out.bel
  obtain ⟨x0, x1, x2, x3, x4, x5, f0, f1, f2, f3, f4, f5⟩ := HPS.out.cells
  conv => arg 2; whnf
  obtain ⟨s2, hs2⟩ : ∃ s2, s2 = lStep n s 3 x := ⟨_, rfl⟩
  have HI2 : Hid (LInv n s2) := Lib.hid (by rw [hs2]; exact lStep_inv _ _ HI.out)
  obtain ⟨en, hen⟩ : ∃ en, en = bE n s x := ⟨_, rfl⟩
  have HS2 := Lib.hid hs2; have HEN := Lib.hid hen
  clear hs2 hen
  go_wp2
  go_region_with (first
    | (go_at_call 28; refine (rBack n gh ch gu cu k s x _ (HPS.out.kl.keep0 ((Keep.refl _ _).drew)) HLK.out HI.out hn4).mono ?_; rintro e w4 ⟨k2, hlk4, hp4⟩; rw [← HS2.out] at hlk4; rw [← HEN.out] at hp4; obtain ⟨gh2, ch2, gu2, cu2, rfl, hkl4, hb4⟩ := hp4; have HLK2 := Lib.hid hlk4; have hps4 := (HPS.out.keep ((Keep.refl _ _).drew)).below hb4; have ⟨x0, x1, x2, x3, x4, x5, f0, f1, f2, f3, f4, f5⟩ := hps4.cells; have HKL4 := Lib.hid hkl4; have HPS4 := Lib.hid hps4; clear hkl4 hps4 hb4 hlk4)
    | fail)
  all_goals
    obtain ⟨w5, hw5⟩ : ∃ w5, w5 = set6 w4 bx (.int .i64 k2.now) (.int .i64 k2.term) (.int .i64 k2.value) (.int .i64 k2.want) (.slice (some ⟨gh2, 0, none⟩) n ch2) (.slice (some ⟨gu2, 0, none⟩) n cu2) := ⟨_, rfl⟩
    have hps5 : LPS w w5 b g bx n s k2 gh2 ch2 gu2 cu2 := by rw [hw5]; exact HPS4.out.setRef HKL4.out
    rw [show ((((((w4.setCell ⟨bx, 0, none⟩ (.int .i64 k2.now)).setCell ⟨bx, 1, none⟩ (.int .i64 k2.term)).setCell ⟨bx, 2, none⟩ (.int .i64 k2.value)).setCell ⟨bx, 3, none⟩ (.int .i64 k2.want)).setCell ⟨bx, 4, none⟩ (.slice (some ⟨gh2, 0, none⟩) n ch2)).setCell ⟨bx, 5, none⟩ (.slice (some ⟨gu2, 0, none⟩) n cu2)) = w5 from hw5.symm]
    have HPS5 := Lib.hid hps5
    clear hps5 hw5 HPS4 HKL4 x0 x1 x2 x3 x4 x5 f0 f1 f2 f3 f4 f5 hy0 hy1
    obtain ⟨hy0, hy1⟩ := HC3.out w5 HPS5.out.bel
    go_wp2_with fail
    refine (pBack b g n s x _ HPS5.out.lat h2).mono ?_
    rintro e w6 ⟨er, rfl, herr, hl6, hk6⟩
    rw [← HS2.out] at hl6; rw [← HEN.out] at herr
    have HPS6 := Lib.hid (HPS5.out.prog hk6 hl6); have HER := Lib.hid herr
    clear hl6 hk6 herr hy0 hy1
    go_wp2_with fail
    refine (eError_n er en _ HER.out (HH.out.below HPS6.out.bel hw0)).mono ?_
    rintro e w8 ⟨rfl, hbE⟩
    have HPS8 := Lib.hid (HPS6.out.below hbE)
    clear hbE
    go_wp2
    (try simp only [Exit.inBlock, Exit.then])
    have hfin := HAF.out
    unfold LPAfter at hfin
    apply hfin
    exact ⟨s2, k2, gh2, ch2, gu2, cu2, HPS8.out, HI2.out, HLK2.out⟩

set_option maxRecDepth 100000 in
theorem lp_armE (w wr : World) (b g bx n b3 off3 c' : Nat) (m x : Int) (e0 : ¬ m = 0) (e1 : ¬ m = 1) (e2 : ¬ m = 2) (e3 : ¬ m = 3) : LPGoal w wr b g bx n b3 off3 c' m x := by
  intro s k gh ch gu cu K' r0 r1 r2 r3 r4 r5 r6 r8 r10 r13 r14 r15 r16 r17 r18 r19 r20 r21 r22 r23 r24 r25 r26 r27 r28 r29 r30 r31 r32 r33 r34 r35 r36 r37 r38 r39 r40 r41 r42 r43 r44 r45 r46 r47 r48 r49 r50 r51 r52 r53 r54 r55 r56 r57 r58 r59 r60 r61 r62 r63 r64 r65 r66 r67 r69 r70 r71 r72 r73 r74 r75 r76 r77 r78 r79 r80 r81 r82 r83 r84 r85 r86 r87 r88 r89 r90 r91 r92 r93 r94 r95 r96 r97 r98 r99 r100 r101 r102 r103 r104 r105 r106 r107 r108 r109 r110 r111 r112 r113 r114 r115 r116 r117 r118 r119 r120 r121 r122 r123 r124 r125 r126 r127 r128 r129 r130 r131 r132 r133 r134 r135 r136 r137 r138 r139 r140 r141 r142 r143 r144 r145 r146 r147 r148 r149 r150 r151 r152 r153 r154 r155 r156 r157 r158 r159 r160 r161 r162 r163 r164 r165 r166 r167 r168 r169 r170 r171 r172 r173 r174 r175 r176 r177 r178 r179 r180 r181 r182 r183 r184 r185 r186 r187 r188 r189 r190 r191 r192 r193 r194 r195 r196 r197 r198 r199 r200 r201 r202 r203 r204 r205 r206 r207 r208 r209 r210 r211 r212 r213 r214 r215 r216 hin haf
  have HPS := Lib.hid hin.ps; have HI := Lib.hid hin.inv; have HLK := Lib.hid hin.lk; have HC3 := Lib.hid hin.row; have HH := Lib.hid hin.hh
  have h2 := hin.h2
  have hw0 := HH.out.lt
  have hn4 : n ≤ 4 := by omega
  have HAF := Lib.hid haf
  clear hin haf
  obtain ⟨hy0, hy1⟩ := HC3.out wr HPS.out.bel
  obtain ⟨x0, x1, x2, x3, x4, x5, f0, f1, f2, f3, f4, f5⟩ := HPS.out.cells
  conv => arg 2; whnf
  have g0 : (m == 0) = false := beq_eq_false_iff_ne.2 e0
  have g1 : (m == 1) = false := beq_eq_false_iff_ne.2 e1
  have g2 : (m == 2) = false := beq_eq_false_iff_ne.2 e2
  have g3 : (m == 3) = false := beq_eq_false_iff_ne.2 e3
  go_wp2
  (try simp only [Exit.inBlock, Exit.then])
  have hfin := HAF.out
  unfold LPAfter at hfin
  apply hfin
  exact ⟨s, k, gh, ch, gu, cu, HPS.out, HI.out, HLK.out⟩
end Go.Proofs.YtjnghpambjjlkaaDoor
