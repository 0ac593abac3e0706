/-
  AddPage: its second loop (printed by wip/gen_pageadd.py).
-/
import Derived.Test.YthldhbcidcmmaaaDoorPageAddMine
namespace Go.Proofs.YthldhbcidcmmaaaDoor
open Go.RowKit
set_option linter.unusedVariables false

theorem own_past {wr w2 : World} {b : Nat} {v vd : Value} {l : List Int} {o : Obj} (hv : OwnInts wr b v l) (hne : ∀ x, v.ownBlock = some x → vd.ownBlock ≠ some x) (hgrow : (wr.alloc o).grownBy w2 vd.ownBlock) : OwnInts w2 b v l :=
  hv.keep fun g hg => by
    have hl := (World.ownsRow.lt hv g hg).2
    exact (hgrow.block g (by simp; omega) (fun e => hne g hg e.symm)).trans (Below.heap_alloc _ _ g hl)
theorem own_new {wr : World} {b : Nat} {v vd vd' : Value} {l : List Int} {o : Obj} (hv : OwnInts wr b v l) (hne : ∀ x, v.ownBlock = some x → vd.ownBlock ≠ some x) (hat : vd'.ownBlock = vd.ownBlock ∨ vd'.ownBlock = some (wr.alloc o).heap.size) : ∀ x, v.ownBlock = some x → vd'.ownBlock ≠ some x := fun x hx hd => by
  rcases hat with e2 | e2
  · exact hne x hx (by rw [← e2]; exact hd)
  · rw [e2] at hd
    simp only [Option.some.injEq] at hd
    have h1 : wr.heap.size < (wr.alloc o).heap.size := by simp
    have h2 := (World.ownsRow.lt hv x hx).2
    omega
structure SplitIn (P : Nat → Prop) (w5 : World) (B : Nat) (S : List Int) (k e1 E i1 n2 : Nat) (dp1 : Nat → Nat) (bD cD bK cK D : Nat) (a2 : Option Addr) (L1 : List Int) : Prop where
  pos : ∀ y ∈ S, 0 ≤ y ∧ y ≤ 1000000
  l1 : L1 = cls S k e1
  len : L1.length = 3
  fx2 : ∀ w', Below w5.heap.size w5 w' → IntsIn w' w'.heap.size a2 L1
  ee : 2 ^ e1 = E
  e5 : e1 < 6
  n64 : n2 ≤ 64
  i64 : i1 ≤ 64
  rk : i1 % E = k % E
  same : ∀ j : Nat, (j : Int) % 2 ^ e1 = (k : Int) % 2 ^ e1 → dp1 j = e1
  at_ : ∀ i, i < n2 → ∃ a m c, (cls S i (dp1 i)).length = m ∧ (∀ x, (Value.slice a m c).ownBlock = some x → x < w5.heap.size ∧ P x) ∧ ∀ w', Below w5.heap.size w5 w' → (w'.cell? ⟨B, 0, none⟩ = some (.int .i64 D) ∧ w'.cell? ⟨B, 1, none⟩ = some (.slice (some ⟨bD, 0, none⟩) n2 cD) ∧ w'.cell? ⟨B, 2, none⟩ = some (.slice (some ⟨bK, 0, none⟩) n2 cK) ∧ w'.cell? ⟨bD, i, none⟩ = some (.int .i64 (dp1 i)) ∧ w'.cell? ⟨bK, i, none⟩ = some (.slice a m c)) ∧ OwnInts w' 0 (.slice a m c) (cls S i (dp1 i)) ∧ IntsIn w' w'.heap.size a (cls S i (dp1 i))
  hP : ∀ x, w5.heap.size ≤ x → P x
  p0 : ∀ w', Below w5.heap.size w5 w' → w'.cell? ⟨B, 1, none⟩ = some (.slice (some ⟨bD, 0, none⟩) n2 cD)
def SplitAfter (P : Nat → Prop) (K' : Act → World → Prop) (w5 : World) (B : Nat) (S : List Int) (k e1 i1 n2 : Nat) (dp1 : Nat → Nat) (a2 : Option Addr) (c2 : Nat) (r0 r1 r3 r4 r5 r6 r9 r10 r15 r16 r17 r18 r19 r20 r21 r22 r23 r24 r25 r26 r27 r28 r29 r30 r31 r32 r33 r34 r35 r36 r37 r38 r39 r40 r41 r42 r43 r44 r45 r46 r47 r48 r49 r50 r51 r52 r53 r54 r55 r56 r57 r58 r59 r60 r61 r62 r63 r64 r65 r66 r67 r68 r69 r70 r71 r72 r73 r74 r75 r76 r77 r78 r79 r80 r81 r82 r83 r84 r85 r86 r87 r88 r89 r90 r91 r92 r93 r94 r95 r96 r97 r98 r99 r100 r101 r102 r103 r104 r105 r106 r107 r108 r109 r110 r111 r112 r113 r114 r115 r116 r117 r118 r119 r120 r121 r122 r123 r124 r125 r126 r127 r128 r129 r130 r131 r132 r133 r134 r135 r136 r137 r138 r139 r140 r141 r142 r143 r144 r145 r146 r147 r148 r149 r150 r151 r152 r153 r154 r155 r156 r157 r158 r159 r160 r161 r162 r163 r164 r165 r166 r167 r168 r169 r170 r171 r172 r173 r174 r175 r176 r177 r178 r179 r180 r181 r182 r183 r184 r185 r186 r187 r188 r189 r190 r191 r192 r193 r194 r195 r196 r197 r198 r199 r200 r201 r202 r203 r204 r205 r206 r207 r208 r209 r210 r211 r212 r213 r214 r215 r216 r217 r218 r219 r220 r221 r222 : Value) : Prop :=
  ∀ (j12 j13 j14 j15 j16 j93 j94 j95 j96 j97 j98 j99 j100 j101 j102 j103 j104 j105 j106 j107 j108 j109 j110 j111 j112 j113 j114 j115 j116 j117 j118 j119 j120 j121 j122 j123 j124 j125 j126 j127 j128 j129 j130 j131 j132 j133 j134 j135 j136 j137 j138 j139 j140 j141 j142 j143 j144 j145 j146 j147 j148 j149 j150 j151 j152 j153 j154 j155 j156 j157 j158 j159 j160 j161 j162 j163 j164 j165 j166 j167 j168 j169 : Value) (w' : World), (∃ vs, SL w5 w' k e1 S dp1 n2 n2 j12 j13 vs ∧ AllP P vs) → K' { tmps := #[r0, r1, .pointer (some ⟨B, 0, none⟩), r3, r4, r5, r6, .int .i64 i1, .int .i64 e1, r9, r10, .slice a2 3 c2, j12, j13, j14, j15, j16, r17, r18, r19, r20, r21, r22, r23, r24, r25, r26, r27, r28, r29, r30, r31, r32, r33, r34, r35, r36, r37, r38, r39, r40, r41, r42, r43, r44, r45, r46, r47, r48, r49, r50, r51, r52, r53, r54, r55, r56, r57, r58, r59, r60, r61, r62, r63, r64, r65, r66, r67, r68, r69, r70, r71, r72, r73, r74, r75, r76, r77, r78, r79, r80, r81, r82, r83, r84, r85, r86, r87, r88, r89, r90, r91, r92, j93, j94, j95, j96, j97, j98, j99, j100, j101, j102, j103, j104, j105, j106, j107, j108, j109, j110, j111, j112, j113, j114, j115, j116, j117, j118, j119, j120, j121, j122, j123, j124, j125, j126, j127, j128, j129, j130, j131, j132, j133, j134, j135, j136, j137, j138, j139, j140, j141, j142, j143, j144, j145, j146, j147, j148, j149, j150, j151, j152, j153, j154, j155, j156, j157, j158, j159, j160, j161, j162, j163, j164, j165, j166, j167, j168, j169, r170, r171, r172, r173, r174, r175, r176, r177, r178, r179, r180, r181, r182, r183, r184, r185, r186, r187, r188, r189, r190, r191, r192, r193, r194, r195, r196, r197, r198, r199, r200, r201, r202, r203, r204, r205, r206, r207, r208, r209, r210, r211, r212, r213, r214, r215, r216, r217, r218, r219, r220, r221, r222], defers := [] } w'
set_option maxHeartbeats 8000000 in
set_option maxRecDepth 1000000 in
theorem pa_split (P : Nat → Prop) (w5 : World) (B : Nat) (S : List Int) (k e1 E i1 n2 : Nat) (dp1 : Nat → Nat) (bD cD bK cK D : Nat) (a2 : Option Addr) (c2 : Nat) (L1 : List Int) (K' : Act → World → Prop) (r0 r1 r3 r4 r5 r6 r9 r10 r15 r16 r17 r18 r19 r20 r21 r22 r23 r24 r25 r26 r27 r28 r29 r30 r31 r32 r33 r34 r35 r36 r37 r38 r39 r40 r41 r42 r43 r44 r45 r46 r47 r48 r49 r50 r51 r52 r53 r54 r55 r56 r57 r58 r59 r60 r61 r62 r63 r64 r65 r66 r67 r68 r69 r70 r71 r72 r73 r74 r75 r76 r77 r78 r79 r80 r81 r82 r83 r84 r85 r86 r87 r88 r89 r90 r91 r92 r93 r94 r95 r96 r97 r98 r99 r100 r101 r102 r103 r104 r105 r106 r107 r108 r109 r110 r111 r112 r113 r114 r115 r116 r117 r118 r119 r120 r121 r122 r123 r124 r125 r126 r127 r128 r129 r130 r131 r132 r133 r134 r135 r136 r137 r138 r139 r140 r141 r142 r143 r144 r145 r146 r147 r148 r149 r150 r151 r152 r153 r154 r155 r156 r157 r158 r159 r160 r161 r162 r163 r164 r165 r166 r167 r168 r169 r170 r171 r172 r173 r174 r175 r176 r177 r178 r179 r180 r181 r182 r183 r184 r185 r186 r187 r188 r189 r190 r191 r192 r193 r194 r195 r196 r197 r198 r199 r200 r201 r202 r203 r204 r205 r206 r207 r208 r209 r210 r211 r212 r213 r214 r215 r216 r217 r218 r219 r220 r221 r222 : Value) (hin : SplitIn P w5 B S k e1 E i1 n2 dp1 bD cD bK cK D a2 L1) (haf : SplitAfter P K' w5 B S k e1 i1 n2 dp1 a2 c2 r0 r1 r3 r4 r5 r6 r9 r10 r15 r16 r17 r18 r19 r20 r21 r22 r23 r24 r25 r26 r27 r28 r29 r30 r31 r32 r33 r34 r35 r36 r37 r38 r39 r40 r41 r42 r43 r44 r45 r46 r47 r48 r49 r50 r51 r52 r53 r54 r55 r56 r57 r58 r59 r60 r61 r62 r63 r64 r65 r66 r67 r68 r69 r70 r71 r72 r73 r74 r75 r76 r77 r78 r79 r80 r81 r82 r83 r84 r85 r86 r87 r88 r89 r90 r91 r92 r93 r94 r95 r96 r97 r98 r99 r100 r101 r102 r103 r104 r105 r106 r107 r108 r109 r110 r111 r112 r113 r114 r115 r116 r117 r118 r119 r120 r121 r122 r123 r124 r125 r126 r127 r128 r129 r130 r131 r132 r133 r134 r135 r136 r137 r138 r139 r140 r141 r142 r143 r144 r145 r146 r147 r148 r149 r150 r151 r152 r153 r154 r155 r156 r157 r158 r159 r160 r161 r162 r163 r164 r165 r166 r167 r168 r169 r170 r171 r172 r173 r174 r175 r176 r177 r178 r179 r180 r181 r182 r183 r184 r185 r186 r187 r188 r189 r190 r191 r192 r193 r194 r195 r196 r197 r198 r199 r200 r201 r202 r203 r204 r205 r206 r207 r208 r209 r210 r211 r212 r213 r214 r215 r216 r217 r218 r219 r220 r221 r222) :
    (paBlk 2).wp Tryd.prog (Exit.then K' NoExit) { tmps := #[r0, r1, .pointer (some ⟨B, 0, none⟩), r3, r4, r5, r6, .int .i64 i1, .int .i64 e1, r9, r10, .slice a2 3 c2, .slice none 0 0, .slice none 0 0, .int .i64 0, r15, r16, r17, r18, r19, r20, r21, r22, r23, r24, r25, r26, r27, r28, r29, r30, r31, r32, r33, r34, r35, r36, r37, r38, r39, r40, r41, r42, r43, r44, r45, r46, r47, r48, r49, r50, r51, r52, r53, r54, r55, r56, r57, r58, r59, r60, r61, r62, r63, r64, r65, r66, r67, r68, r69, r70, r71, r72, r73, r74, r75, r76, r77, r78, r79, r80, r81, r82, r83, r84, r85, r86, r87, r88, r89, r90, r91, r92, r93, r94, r95, r96, r97, r98, r99, r100, r101, r102, r103, r104, r105, r106, r107, r108, r109, r110, r111, r112, r113, r114, r115, r116, r117, r118, r119, r120, r121, r122, r123, r124, r125, r126, r127, r128, r129, r130, r131, r132, r133, r134, r135, r136, r137, r138, r139, r140, r141, r142, r143, r144, r145, r146, r147, r148, r149, r150, r151, r152, r153, r154, r155, r156, r157, r158, r159, r160, r161, r162, r163, r164, r165, r166, r167, r168, r169, r170, r171, r172, r173, r174, r175, r176, r177, r178, r179, r180, r181, r182, r183, r184, r185, r186, r187, r188, r189, r190, r191, r192, r193, r194, r195, r196, r197, r198, r199, r200, r201, r202, r203, r204, r205, r206, r207, r208, r209, r210, r211, r212, r213, r214, r215, r216, r217, r218, r219, r220, r221, r222], defers := [] } w5 := by
  have HAF := Lib.hid haf; have HI := Lib.hid hin
  have he5 := hin.e5
  have hn64 := hin.n64
  have hi64 := hin.i64
  have HEE := Lib.hid hin.ee
  have hE64 : E ≤ 64 := by rw [← hin.ee]; exact Nat.pow_le_pow_right (n := 2) (by decide) (show e1 ≤ 6 by omega)
  have hE0 : 0 < E := by rw [← hin.ee]; exact Nat.pow_pos (by decide)
  have hE1i : (1 : Int) ≤ (E : Int) := by omega
  have hE0i : (0 : Int) < (E : Int) := by omega
  have hEnz : ¬ (E : Int) = 0 := by omega
  obtain ⟨q1, hr1⟩ : ∃ q1, q1 = i1 % E := ⟨_, rfl⟩
  have HR1 := Lib.hid hr1
  have hrm := div_facts i1 E
  rw [← hr1] at hrm
  obtain ⟨_, _, hr1a, hr1b⟩ := hrm
  clear hin haf hr1
  obtain ⟨i0, hi, hz0, hz1, hz2⟩ := info_parts info_int
  obtain ⟨ir, hir, hzr0, hzr1, hzr2⟩ := info_parts info_rows0
  conv => arg 2; whnf
  go_wp2
  go_loopw [12, 13, 14, 15, 16] (fun vd vk i _ _ wr => SLRel P w5 k e1 S dp1 n2 vd vk i wr) (fun _ _ i _ _ _ => n2 - (intOf i).toNat)
  case atStart => exact ⟨0, [], by omega, rfl, SL.start _ _ _ _ _, by simp [AllP]⟩
  case round =>
    obtain ⟨j, vs, hj, rfl, hsl, hap⟩ := hrel
    have HAP := Lib.hid hap
    clear hap
    by_cases hlt : j < n2
    · obtain ⟨aj, mj, cj, hmj, hown0, hfj⟩ := HI.out.at_ j hlt
      obtain ⟨⟨x0, x1, x2, zd, zk⟩, hoj, _⟩ := hfj _ hsl.bel
      have hji : (j : Int) < (n2 : Int) := by omega
      have hj0 : (0 : Int) ≤ (j : Int) := by omega
      obtain ⟨rj, hrj⟩ : ∃ rj, rj = j % E := ⟨_, rfl⟩
      have hdm := div_facts j E
      rw [← hrj] at hdm
      obtain ⟨_, _, hrja, hrjb⟩ := hdm
      obtain ⟨dj, hdj⟩ : ∃ dj, dj = dp1 j := ⟨_, rfl⟩
      rw [← hdj] at zd hfj hmj
      have HDJ := Lib.hid hdj; have HRJ := Lib.hid hrj; have HFJ := Lib.hid hfj; have HMJ := Lib.hid hmj; have HVL := Lib.hid hsl.step0; have HOW0 := Lib.hid hown0
      have HQ2 : Hid (∀ q, SL w5 (wr.drewN q) k e1 S dp1 j j _ _ vs) := Lib.hid fun q => hsl.below (((Keep.refl [] wr).drewN q).below (Nat.le_refl _) (by simp))
      clear hsl hoj hdj hrj hfj hmj hown0
      by_cases hcl : rj = q1
      · have hclb : (((rj : Nat) : Int) != ((q1 : Nat) : Int)) = false := by rw [hcl]; simp
        have HCL : Hid ((j : Int) % 2 ^ e1 = (k : Int) % 2 ^ e1) := Lib.hid (by
          rw [cast_mod, HEE.out, ← HRJ.out, hcl, HR1.out, HI.out.rk])
        have hdje : (((dj : Nat) : Int) != ((e1 : Nat) : Int)) = false := by
          have : dj = e1 := by rw [HDJ.out]; exact HI.out.same j HCL.out
          rw [this]; simp
        clear hcl
        go_wp2
        go_quiet ((go_at_call 42; exact quiet_eq (pow2_is e1 E _ (by omega) HEE.out)))
        go_upto_block 4 with fail
        have hsq := HQ2.out nq
        clear HQ2 x0 x1 x2 zd zk
        generalize wr.drewN nq = w8 at hsq ⊢
        have HSQ := Lib.hid hsq
        have hb8 := hsq.bel
        have hs8 := hb8.size
        have HB8 := Lib.hid hb8
        obtain ⟨bj, hbj⟩ : ∃ bj, decide (j / 2 ^ e1 % 2 = 1) = bj := ⟨_, rfl⟩
        have HBJ := Lib.hid hbj
        have HMI := Lib.hid (MineIn.mk (w8 := w8) (e1 := e1) (E := E) (j := j) (a2 := a2) (L1 := L1) (bj := bj) HI.out.len (fun y hy => by rw [HI.out.l1] at hy; exact HI.out.pos y (mem_cls.1 hy).1) (fun w' hb => HI.out.fx2 _ (HB8.out.trans (hb.mono hs8))) HEE.out (by omega) (by omega) hbj)
        clear hsq hb8 hbj
        refine Code.wp_mono noExit_then (pa_mine w8 e1 E j a2 c2 L1 bj _ _ _ _ _ _ _ _ _ _ _ _ _ _ _ _ _ _ _ _ _ _ _ _ _ _ _ _ _ _ _ _ _ _ _ _ _ _ _ _ _ _ _ _ _ _ _ _ _ _ _ _ _ _ _ _ _ _ _ _ _ _ _ _ _ _ _ _ _ _ _ _ _ _ _ _ _ _ _ _ _ _ _ _ _ _ _ _ _ _ _ _ _ _ _ _ _ _ _ _ _ _ _ _ _ _ _ _ _ _ _ _ _ _ _ _ _ _ _ _ _ _ _ _ _ _ _ _ _ _ _ _ _ _ _ _ _ _ _ _ _ _ _ _ _ _ _ _ _ _ _ _ _ _ _ _ _ _ _ _ _ _ _ _ _ _ _ _ _ _ _ _ _ _ _ _ _ _ _ _ _ _ _ _ _ _ _ _ _ _ _ _ _ _ _ _ _ _ _ _ _ _ _ _ _ _ _ _ _ _ _ _ _ _ _ _ _ _ _ HMI.out ?_)
        unfold MineAfter
        intro j15 j16 j134 j135 j136 j137 j138 j139 j140 j141 j142 j143 j144 j145 j146 j147 j148 j149 j150 j151 j152 j153 j154 j155 j156 j157 j158 j159 j160 w9 hmine hb9
        obtain ⟨am, cm, em, _⟩ := hmine.shape
        obtain ⟨lm, hlm⟩ : ∃ lm, lm = (L1.filter fun y => bitN e1 y == bj).length := ⟨_, rfl⟩
        rw [← hlm] at em
        subst em
        have hs9 := hb9.size
        have HMN : Hid (OwnInts w9 0 (.slice am lm cm) (cls S j (splitAt dp1 k e1 j))) := Lib.hid (by
          rw [splitAt_in HCL.out, ← cls_bit (fun x hx => (HI.out.pos x hx).1) HCL.out HBJ.out, ← HI.out.l1]
          exact World.ownsRow.mono hmine (Nat.zero_le _))
        have HNE : Hid (∀ x, (Value.slice am lm cm).ownBlock = some x → u12.ownBlock ≠ some x) := Lib.hid fun x hx hd => by
          have h1 := (World.ownsRow.lt hmine x hx).1
          have h2 := (World.ownsRow.lt HSQ.out.d x hd).2
          omega
        have HS9 := Lib.hid (HSQ.out.below hb9)
        have HED : Hid ((e1 : Int) + 1 = (splitAt dp1 k e1 j : Int)) := Lib.hid (by rw [splitAt_in HCL.out]; push_cast; rfl)
        have HPV : Hid (∀ x, (Value.slice am lm cm).ownBlock = some x → P x) := Lib.hid fun x hx => HI.out.hP x (Nat.le_trans hs8 (World.ownsRow.lt hmine x hx).1)
        clear hmine hb9 HMI hlm
        go_wp2_with (first
          | (at_builtin; refine wpList_append_own_at _ rfl (.tmp 161) (.tmp 164) 22 rfl w5.heap.size 3 i0 (.int .i64 0) 1 8 Tryd.underlying22 hi hz0 hz1 hz2 rfl (by decide) _ _ _ rfl (HS9.out.d.alloc _) ⟨w9.heap.size, 0, none⟩ 1 1 [.int .i64 (e1 + 1)] rfl rfl (cell_one_new _ _ _) (by intro u hu; simp at hu; subst hu; rfl) (by rw [deepL_len]; unfold maxLen; omega) (by rw [deepL_len]; omega) (by simp; have := HS9.out.bel.size; omega) ?_; intro vd' w10 hown' hgrow _ hat; have HSD := Lib.hid (HS9.out.stepD HED.out (by unfold OwnInts; simpa [ints] using hown') hgrow hat); have HMN2 := Lib.hid (own_past HMN.out HNE.out hgrow); have HNE2 := Lib.hid (own_new HMN.out HNE.out hat); have hs10 := HSD.out.bel.size; clear hown' hgrow hat)
          | (at_builtin; refine wpList_append_own _ rfl (.tmp 166) (.tmp 168) 33 rfl w5.heap.size 22 ir (.slice none 0 0) 1 24 Tryd.underlying33 hir hzr0 hzr1 hzr2 rfl (by decide) _ _ _ rfl (HSD.out.k.alloc _) ⟨w10.heap.size, 0, none⟩ 1 1 [.slice am lm cm] rfl rfl (cell_one_new _ _ _) (by intro u hu; simp at hu; subst hu; rfl) (by rw [HVL.out.1]; unfold maxLen; omega) (by rw [HVL.out.1]; omega) (by simp; omega) ?_; intro vk' w11 hown' hgrow _; have HSK := Lib.hid (HSD.out.stepK HMN2.out HNE2.out (by unfold OwnV; simpa using hown') hgrow); clear hown' hgrow))
        go_roundw
        case rel => exact ⟨j + 1, _, hlt, by simp, HSK.out, HAP.out.snoc HPV.out⟩
        case measure => simp [intOf]; omega
      · have hclb : (((rj : Nat) : Int) != ((q1 : Nat) : Int)) = true := bne_iff_ne.2 (by omega)
        have HCL : Hid (¬ (j : Int) % 2 ^ e1 = (k : Int) % 2 ^ e1) := Lib.hid (by
          rw [cast_mod, HEE.out, ← HRJ.out, ← HI.out.rk, ← HR1.out]; exact hcl)
        clear hcl
        go_wp2
        go_quiet ((go_at_call 42; exact quiet_eq (pow2_is e1 E _ (by omega) HEE.out)))
        go_upto_region 26 with fail
        have hsq := HQ2.out nq
        clear HQ2 x0 x1 x2 zd zk
        generalize wr.drewN nq = w9 at hsq ⊢
        have HS9 := Lib.hid hsq
        have hs9 := hsq.bel.size
        obtain ⟨⟨x0, x1, x2, zd, zk⟩, _, _⟩ := HFJ.out _ hsq.bel
        have HPV : Hid (∀ x, (Value.slice aj mj cj).ownBlock = some x → P x) := Lib.hid fun x hx => (HOW0.out x hx).2
        have HED : Hid ((dj : Int) = (splitAt dp1 k e1 j : Int)) := Lib.hid (by rw [splitAt_out HCL.out, HDJ.out])
        clear hsq
        go_wp2_with (first
          | (at_builtin; refine wpList_append_own_at _ rfl (.tmp 118) (.tmp 124) 22 rfl w5.heap.size 3 i0 (.int .i64 0) 1 8 Tryd.underlying22 hi hz0 hz1 hz2 rfl (by decide) _ _ _ rfl (HS9.out.d.alloc _) ⟨w9.heap.size, 0, none⟩ 1 1 [.int .i64 dj] rfl rfl (cell_one_new _ _ _) (by intro u hu; simp at hu; subst hu; rfl) (by rw [deepL_len]; unfold maxLen; omega) (by rw [deepL_len]; omega) (by simp; have := HS9.out.bel.size; omega) ?_; intro vd' w10 hown' hgrow _ hat; have HSD := Lib.hid (HS9.out.stepD HED.out (by unfold OwnInts; simpa [ints] using hown') hgrow hat); obtain ⟨⟨x0, x1, x2, zd, zk⟩, hoj, _⟩ := HFJ.out _ HSD.out.bel; have HMN2 : Hid (OwnInts w10 0 (.slice aj mj cj) (cls S j (splitAt dp1 k e1 j))) := Lib.hid (by rw [splitAt_out HCL.out, ← HDJ.out]; exact hoj); have HNE2 : Hid (∀ x, (Value.slice aj mj cj).ownBlock = some x → vd'.ownBlock ≠ some x) := Lib.hid (fun x hx hd => by have h1 := (HOW0.out x hx).1; have h2 := (World.ownsRow.lt HSD.out.d x hd).1; omega); have hs10 := HSD.out.bel.size; clear hown' hgrow hat hoj)
          | (at_builtin; refine wpList_append_own _ rfl (.tmp 126) (.tmp 132) 33 rfl w5.heap.size 22 ir (.slice none 0 0) 1 24 Tryd.underlying33 hir hzr0 hzr1 hzr2 rfl (by decide) _ _ _ rfl (HSD.out.k.alloc _) ⟨w10.heap.size, 0, none⟩ 1 1 [.slice aj mj cj] rfl rfl (cell_one_new _ _ _) (by intro u hu; simp at hu; subst hu; rfl) (by rw [HVL.out.1]; unfold maxLen; omega) (by rw [HVL.out.1]; omega) (by simp; omega) ?_; intro vk' w11 hown' hgrow _; have HSK := Lib.hid (HSD.out.stepK HMN2.out HNE2.out (by unfold OwnV; simpa using hown') hgrow); clear hown' hgrow))
        go_roundw
        case rel => exact ⟨j + 1, _, hlt, by simp, HSK.out, HAP.out.snoc HPV.out⟩
        case measure => simp [intOf]; omega
    · obtain rfl : j = n2 := by omega
      have x1 := HI.out.p0 _ hsl.bel
      have HSL := Lib.hid hsl
      clear hsl
      go_wp2
      (try simp only [Exit.inBlock, Exit.then])
      have hfin := HAF.out
      unfold SplitAfter at hfin
      exact hfin _ _ _ _ _ _ _ _ _ _ _ _ _ _ _ _ _ _ _ _ _ _ _ _ _ _ _ _ _ _ _ _ _ _ _ _ _ _ _ _ _ _ _ _ _ _ _ _ _ _ _ _ _ _ _ _ _ _ _ _ _ _ _ _ _ _ _ _ _ _ _ _ _ _ _ _ _ _ _ _ _ _ _ ⟨_, HSL.out, HAP.out⟩
end Go.Proofs.YthldhbcidcmmaaaDoor
