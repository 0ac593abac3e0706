/-
  CoherePlays: leave (printed by wip/gen_cohereplays3.py).
-/
import Derived.Test.YtjnghpambjjlkaaDoorCohereBlk
namespace Go.Proofs.YtjnghpambjjlkaaDoor
open Go.RowKit

set_option maxHeartbeats 20000000 in
set_option maxRecDepth 100000 in
theorem cp_armY4 (w wr : World) (b g bx n N b3 off3 c' i p k : Nat) (rest : List Int) (hpn : p < n) (hk4 : k < 4) : CPGoal w wr b g bx n N b3 off3 c' 4 i 0 p k rest := by
  intro s gm cm gs cs gv cv K' r0 r1 r2 r3 r4 r6 r8 r12 r13 r14 r15 r16 r17 r18 r19 r20 r21 r22 r23 r24 r25 r26 r27 r28 r29 r30 r31 r32 r33 r34 r35 r36 r37 r38 r39 r40 r41 r42 r43 r44 r45 r46 r47 r48 r49 r50 r51 r52 r53 r54 r55 r56 r57 r58 r59 r60 r61 r62 r63 r64 r65 r66 r67 r68 r70 r71 r72 r73 r74 r75 r76 r77 r78 r79 r80 r81 r82 r83 r84 r85 r86 r87 r88 r89 r90 r91 r92 r93 r94 r95 r96 r97 r98 r99 r100 r101 r102 r103 r104 r105 r106 r107 r108 r109 r110 r111 r112 r113 r114 r115 r116 r117 r118 r119 r120 r121 r122 r123 r124 r125 r126 r127 r128 r129 r130 r131 r132 r133 r134 r135 r136 r137 r138 r139 r140 r141 r142 r143 r144 r145 r146 r147 r148 r149 r150 r151 r152 r153 r154 r155 r156 r157 r158 r159 r160 r161 r162 r163 r164 r165 r166 r167 r168 r169 r170 r171 r172 r173 r174 r175 r176 r177 r178 r179 r180 r181 r182 r183 r184 r185 r186 r187 r188 r189 r190 r191 r192 r193 r194 r195 r196 r197 r198 r199 r200 r201 r202 r203 r204 r205 r206 r207 r208 r209 r210 r211 r212 r213 r214 r215 r216 r217 r218 r219 r220 r221 r222 r223 r224 r225 r226 r227 r228 r229 r230 r231 r232 r233 r234 r235 r236 hin haf
  have HPS := Lib.hid hin.ps; have HC3 := Lib.hid hin.row; have HH := Lib.hid hin.hh; have HN := Lib.hid hin.hN; have HM := Lib.hid hin.len
  have h1 := hin.h1; have h2 := hin.h2; have hm0 := hin.m0; have hm1 := hin.m1; have hj8 := hin.i8
  have hw0 := HH.out.lt
  have HAF := Lib.hid haf
  clear hin haf
  have hy0 : wr.cell? ⟨b3, off3, none⟩ = some (.int .i64 (p : Int)) := HC3.out wr HPS.out.bel 0 _ rfl
  have hy1 : wr.cell? ⟨b3, off3 + 1, none⟩ = some (.int .i64 (k : Int)) := HC3.out wr HPS.out.bel 1 _ rfl
  conv => arg 2; whnf
  have hpi : (p : Int) < (n : Int) := by omega
  have r1 : (0 : Int) ≤ (p : Int) := by omega
  have r2 : (p : Int) ≤ (n : Int) - 1 := by omega
  have r3 : (0 : Int) ≤ (k : Int) := by omega
  have r4 : (k : Int) ≤ 3 := by omega
  have hmv := leave_mv n p k s
  obtain ⟨t, ht⟩ : ∃ t, t = s.leave n p k := ⟨_, rfl⟩
  rw [← ht] at hmv
  have HT := Lib.hid ht
  obtain ⟨ee, hee⟩ : ∃ ee : Int, ee = (if s.st p k = 0 then 5 else 0) := ⟨_, rfl⟩
  obtain ⟨ev', hev⟩ : ∃ ev' : Value, ev' = (if s.st p k = 0 then errv 5 else .nilIface) := ⟨_, rfl⟩
  have HEE := Lib.hid hee; have HEV := Lib.hid hev
  have HERR : Hid (ErrN ev' ee) := Lib.hid (by rw [hee, hev]; by_cases h : s.st p k = 0 <;> simp [h, ErrN])
  obtain ⟨x0, x1, x2, x3, x4, f0, f1, f2, f3, f4⟩ := HPS.out.cells
  clear ht hee hev
  go_wp2_with fail
  have HSK : Hid (∀ w' : World, Below w.heap.size w w' → w'.cell? ⟨b3, off3, none⟩ = some (.int .i64 (p : Int)) ∧ w'.cell? ⟨b3, off3 + 1, none⟩ = some (.int .i64 (k : Int))) := Lib.hid fun w' hb => ⟨HC3.out w' hb 0 _ rfl, HC3.out w' hb 1 _ rfl⟩
  go_region_with (first
    | (go_at_call 38; refine (kLeave n N p k gm cm gs cs gv cv s _ (HPS.out.kc.keep0 (Keep.refl _ _).drew) (by omega) hpn hk4 hm0 (by omega)).mono ?_; rintro e w4 ⟨gm', cm', gs', cs', gv', cv', rfl, hkc4, hb4⟩; rw [← HT.out] at hkc4 ⊢; rw [← HEE.out]; have hps4 := (HPS.out.keep (Keep.refl _ _).drew).below hb4; have ⟨x0, x1, x2, x3, x4, f0, f1, f2, f3, f4⟩ := hps4.cells; have HKC4 := Lib.hid hkc4; have HPS4 := Lib.hid hps4; clear hkc4 hps4 hb4)
    | fail)
  all_goals
    obtain ⟨w5, hw5⟩ : ∃ w5, w5 = set5 w4 bx (.int .i64 n) (.slice (some ⟨gm', 0, none⟩) 4 cm') (.slice (some ⟨gs', 0, none⟩) N cs') (.slice (some ⟨gv', 0, none⟩) N cv') (.int .i64 t.mv) := ⟨_, rfl⟩
    have hps5 : PS w w5 b g bx n N s t gm' cm' gs' cs' gv' cv' := by rw [hw5]; exact HPS4.out.setRef HKC4.out
    rw [show (((((w4.setCell ⟨bx, 0, none⟩ (.int .i64 n)).setCell ⟨bx, 1, none⟩ (.slice (some ⟨gm', 0, none⟩) 4 cm')).setCell ⟨bx, 2, none⟩ (.slice (some ⟨gs', 0, none⟩) N cs')).setCell ⟨bx, 3, none⟩ (.slice (some ⟨gv', 0, none⟩) N cv')).setCell ⟨bx, 4, none⟩ (.int .i64 t.mv)) = w5 from hw5.symm]
    clear x0 x1 x2 x3 x4 f0 f1 f2 f3 f4
    have HPS5 := Lib.hid hps5
    clear hps5 hw5 HPS4 HKC4
    go_wp2_with fail
    go_region_held3 (fun w' => w'.cell? ⟨b3, off3, none⟩ = some (.int .i64 (p : Int)) ∧ w'.cell? ⟨b3, off3 + 1, none⟩ = some (.int .i64 (k : Int)))
      (first | exact HSK.out _ HPS5.out.bel.drew | exact HSK.out _ HPS6.out.bel | exact HSK.out _ HPS8.out.bel | fail)
      (first
      | (go_at_call 39; refine (cLeave_yes b g n p k s _ (HPS5.out.keep (Keep.refl _ _).drew).cat h2 hpi (by omega) hm0 (by omega)).mono ?_; rintro e w6 ⟨rfl, hc6, hk6⟩; rw [← HT.out] at hc6; rw [← HEV.out]; have HPS6 := Lib.hid ((HPS5.out.keep (Keep.refl _ _).drew).prog hk6 hc6); clear hc6 hk6)
      | (go_at_call 13; refine (eError_n ev' ee _ HERR.out (HH.out.below HPS6.out.bel hw0)).mono ?_; rintro e w8 ⟨rfl, hbE⟩; have HPS8 := Lib.hid (HPS6.out.below hbE); clear hbE))
    all_goals
      go_wp2_with fail
      (try simp only [Exit.inBlock, Exit.then])
      have hfin := HAF.out
      unfold CPAfter at hfin
      apply hfin
      exact ⟨t, gm', cm', gs', cs', gv', cv', HPS8.out, by omega, by omega⟩
end Go.Proofs.YtjnghpambjjlkaaDoor
