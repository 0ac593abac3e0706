/-
  BackPlays: read (printed by wip/gen_backplays.py).
-/
import Derived.Test.YtgbccaplckiilaaDoorBackBlk
set_option linter.unusedVariables false
namespace Go.Proofs.YtgbccaplckiilaaDoor
open Go.RowKit

set_option maxHeartbeats 20000000 in
set_option maxRecDepth 100000 in
theorem bp_arm1 (w wr : World) (b bx slots j : Nat) (a3 : Option Addr) (c' : Nat) (k : Int) : BPGoal w wr b bx slots j a3 1 c' [k] := by
  intro n v s aB aH aV aD cB cH cV cD K' r0 r1 r2 r3 r4 r6 r8 r11 r12 r13 r14 r15 r16 r17 r18 r19 r20 r21 r22 r23 r24 r25 r26 r27 r28 r29 r30 r31 r32 r33 r34 r35 r36 r37 r38 r39 r40 r41 r42 r43 r44 r45 r46 r47 r49 r50 r51 r52 r53 r54 r55 r56 r57 r58 r59 r60 r61 r62 r63 r64 r65 r66 r67 r68 r69 r70 r71 r72 r73 r74 r75 r76 r77 r78 r79 r80 r81 r82 r83 r84 r85 r86 r87 r88 r89 r90 r91 r92 r93 r94 r95 r96 r97 r98 r99 r100 r101 r102 r103 r104 r105 r106 r107 r108 r109 r110 r111 r112 r113 r114 r115 r116 r117 r118 r119 r120 r121 r122 r123 r124 r125 r126 r127 r128 r129 r130 r131 r132 r133 r134 r135 r136 r137 r138 r139 r140 r141 r142 r143 r144 r145 r146 r147 r148 r149 r150 r151 r152 r153 r154 r155 r156 r157 r158 r159 r160 r161 r162 r163 r164 r165 r166 r167 r168 r169 r170 r171 r172 r173 r174 r175 r176 r177 r178 r179 r180 r181 r182 r183 r184 r185 hin haf
  have HPS := Lib.hid hin.ps; have HI := Lib.hid hin.inv; have HR := Lib.hid hin.row; have HH := Lib.hid hin.hh; have HAF := Lib.hid haf
  have h1 := hin.h1; have h8 := hin.h8; have hj := hin.hj
  have hw0 := HH.out.lt
  obtain ⟨hle, hrng, hr0, hr1, hq0, hq1, hdl⟩ := HI.out.bd hj
  have HRNG := Lib.hid hrng
  clear hin haf hrng hdl
  conv => arg 2; whnf
  obtain ⟨b3, off3, rfl, hb3, hc3⟩ := HR.out (by simp)
  have HC3 : Hid (∀ w' : World, Below w.heap.size w w' → w'.cell? ⟨b3, off3, none⟩ = some (.int .i64 k)) := Lib.hid fun w' hb => (hb.cell (p := ⟨b3, off3, none⟩) hb3).trans (hc3 0 k rfl)
  clear hc3
  have hy0 := HC3.out wr HPS.out.bel
  obtain ⟨x0, x1, x2, x3, x4, x5, x6, f0, f1, f2, f3, f4, f5, f6⟩ := HPS.out.cells
  by_cases hk : 0 ≤ k ∧ k ≤ 7
  · obtain ⟨k0, k7⟩ := hk
    obtain ⟨kk, rfl⟩ := Int.eq_ofNat_of_zero_le k0
    obtain ⟨x, d, r, hx⟩ := useB_head slots s kk true
    obtain ⟨t, ht⟩ : ∃ t, t = useB slots s kk true := ⟨_, rfl⟩
    have HI2 : Hid (BI slots t (j + 1)) := Lib.hid (by rw [ht]; exact HI.out.read h1 k7)
    have HX := Lib.hid hx; have HT := Lib.hid ht
    clear hx ht
    go_wp2_with (go_at_call 5; refine (in_yes _ _ _ _ k0 k7).mono ?_; rintro e w' ⟨rfl, rfl⟩)
    go_region_with (first
      | (go_at_call 8; refine (kUseRead slots kk n s aB aH aV aD cB cH cV cD x d r _ HPS.out.hn h1 h8 hle HRNG.out (by omega) hr0 (by omega) hq0 (by omega) HX.out (HPS.out.keep0 ((Keep.refl [] wr).drewN 1)).inn).mono ?_; rintro e w4 ⟨V4, rfl, hds, hb4⟩; obtain ⟨n2, aB2, aH2, aV2, aD2, cB2, cH2, cV2, cD2, hn2, rfl, hin2⟩ := hds; have HPS4 := Lib.hid ((HPS.out.keep0 ((Keep.refl [] wr).drewN 1)).below hb4); have HIN2 := Lib.hid hin2; have HN2 := Lib.hid hn2; clear hb4 hin2 hn2; obtain ⟨x0, x1, x2, x3, x4, x5, x6, f0, f1, f2, f3, f4, f5, f6⟩ := HPS4.out.cells)
      | fail)
    all_goals
      go_upto_region 18 with fail
      rw [← HT.out] at HIN2 HN2 ⊢
      obtain ⟨w5, hw5⟩ : ∃ w', w' = set7 w4 bx (.int .i64 slots) (.slice aB2 8 cB2) (.slice aH2 n2 cH2) (.slice aV2 n2 cV2) (.slice aD2 n2 cD2) (.int .i64 t.reads) (.int .i64 t.writes) := ⟨_, rfl⟩
      rw [show (((((((w4.setCell ⟨bx, 0, none⟩ (.int .i64 slots)).setCell ⟨bx, 1, none⟩ (.slice aB2 8 cB2)).setCell ⟨bx, 2, none⟩ (.slice aH2 n2 cH2)).setCell ⟨bx, 3, none⟩ (.slice aV2 n2 cV2)).setCell ⟨bx, 4, none⟩ (.slice aD2 n2 cD2)).setCell ⟨bx, 5, none⟩ (.int .i64 t.reads)).setCell ⟨bx, 6, none⟩ (.int .i64 t.writes)) = w5 from hw5.symm]
      have HPS5 : Hid (PBS w w5 b bx slots n2 v s t aB2 aH2 aV2 aD2 cB2 cH2 cV2 cD2) := Lib.hid (by rw [hw5]; exact HPS4.out.ref HIN2.out HN2.out)
      clear x0 x1 x2 x3 x4 x5 x6 f0 f1 f2 f3 f4 f5 f6 hy0 hw5
      have hy0 := HC3.out w5 HPS5.out.bel
      go_wp2_with fail
      refine (bRead_ok b kk slots v s _ HPS5.out.bat h1 h8 hle HRNG.out k7 hr0 (by omega) hq0 (by omega) x d r HX.out).mono ?_
      rintro e w6 ⟨v', rfl, hb6, hk6, ho6⟩
      rw [← HT.out] at hb6
      have HPS6 := Lib.hid (HPS5.out.prog hk6 hb6 ho6)
      clear hb6 hk6 ho6 hy0
      go_wp2_with fail
      refine (eError_n .nilIface 0 _ (.inl ⟨rfl, rfl⟩) (HH.out.below HPS6.out.bel hw0)).mono ?_
      rintro e w8 ⟨rfl, hbE⟩
      have HPS8 := Lib.hid (HPS6.out.below hbE)
      clear hbE
      go_wp2
      (try simp only [Exit.inBlock, Exit.then])
      have hfin := HAF.out
      unfold BPAfter at hfin
      apply hfin
      exact ⟨t, _, _, _, _, _, _, _, _, _, _, HPS8.out, HI2.out⟩
  · have hk' : k < 0 ∨ 7 < k := by omega
    clear hk
    go_wp2_with (first
      | (go_at_call 5; refine (in_no _ _ _ _ hk').mono ?_; rintro e w' ⟨rfl, rfl⟩)
      | (go_at_call 9; refine (bRead_no b k _ hk').mono ?_; rintro e w' ⟨rfl, rfl⟩)
      | (go_at_call 6; refine (eError_n (errv 1) 1 _ (.inr rfl) (HH.out.below HPS.out.bel hw0)).mono ?_; rintro e w8 ⟨rfl, hbE⟩; have HPS8 := Lib.hid (HPS.out.below hbE); clear hbE))
    (try simp only [Exit.inBlock, Exit.then])
    have hfin := HAF.out
    unfold BPAfter at hfin
    apply hfin
    exact ⟨s, _, _, _, _, _, _, _, _, _, _, HPS8.out, HI.out.mono⟩

end Go.Proofs.YtgbccaplckiilaaDoor
