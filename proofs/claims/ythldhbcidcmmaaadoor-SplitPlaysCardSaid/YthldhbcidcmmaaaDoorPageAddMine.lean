/-
  AddPage: its third loop (printed by wip/gen_pageadd.py).
-/
import Derived.Test.YthldhbcidcmmaaaDoorPageAddBase
import Derived.Deep.CutBlock
namespace Go.Proofs.YthldhbcidcmmaaaDoor
open Go.RowKit
set_option linter.unusedVariables false

/-- The block of that number in a function's text. -/
def findBlock (id : Nat) : Code → Option Code
  | .block i c => if i = id then some (.block i c) else findBlock id c
  | .seq a b => match findBlock id a with | some c => some c | none => findBlock id b
  | .cond _ a b => match findBlock id a with | some c => some c | none => findBlock id b
  | .loop b => findBlock id b
  | _ => none
noncomputable def paBlk (id : Nat) : Code := match Tryd.f16.body with | some c => (match findBlock id c with | some d => d | none => .skip) | none => .skip
/-- No other way out. -/
def NoExit (_ : Exit) (_ : Act) (_ : World) : Prop := False
theorem noExit_then {K : Act → World → Prop} {Q : Exit → Act → World → Prop} (e : Exit) (a : Act) (w : World) (h : Exit.then K NoExit e a w) : Exit.then K Q e a w := by
  cases e with
  | normal => exact h
  | exit id => exact (h : False).elim
  | goto l => exact (h : False).elim
  | ret => exact (h : False).elim
  | panic ch => exact (h : False).elim
  | outgrown => exact (h : False).elim
structure MineIn (w8 : World) (e1 E j : Nat) (a2 : Option Addr) (L1 : List Int) (bj : Bool) : Prop where
  len : L1.length = 3
  lb : ∀ y ∈ L1, 0 ≤ y ∧ y ≤ 1000000
  fx : ∀ w', Below w8.heap.size w8 w' → IntsIn w' w'.heap.size a2 L1
  ee : 2 ^ e1 = E
  e6 : e1 ≤ 6
  j64 : j ≤ 64
  bit : decide (j / 2 ^ e1 % 2 = 1) = bj
def MineAfter (K' : Act → World → Prop) (w8 : World) (e1 j : Nat) (a2 : Option Addr) (c2 : Nat) (L1 : List Int) (bj : Bool) (r0 r1 r2 r3 r4 r5 r6 r7 r9 r10 r12 r13 r17 r18 r19 r20 r21 r22 r23 r24 r25 r26 r27 r28 r29 r30 r31 r32 r33 r34 r35 r36 r37 r38 r39 r40 r41 r42 r43 r44 r45 r46 r47 r48 r49 r50 r51 r52 r53 r54 r55 r56 r57 r58 r59 r60 r61 r62 r63 r64 r65 r66 r67 r68 r69 r70 r71 r72 r73 r74 r75 r76 r77 r78 r79 r80 r81 r82 r83 r84 r85 r86 r87 r88 r89 r90 r91 r92 r93 r94 r95 r96 r97 r98 r99 r100 r101 r102 r103 r104 r105 r106 r107 r108 r109 r110 r111 r112 r113 r114 r115 r116 r117 r118 r119 r120 r121 r122 r123 r124 r125 r126 r127 r128 r129 r130 r131 r132 r133 r134 r135 r136 r137 r138 r139 r140 r141 r142 r143 r144 r145 r146 r147 r148 r149 r150 r151 r152 r153 r154 r155 r156 r157 r158 r159 r160 r161 r162 r163 r164 r165 r166 r167 r168 r169 r170 r171 r172 r173 r174 r175 r176 r177 r178 r179 r180 r181 r182 r183 r184 r185 r186 r187 r188 r189 r190 r191 r192 r193 r194 r195 r196 r197 r198 r199 r200 r201 r202 r203 r204 r205 r206 r207 r208 r209 r210 r211 r212 r213 r214 r215 r216 r217 r218 r219 r220 r221 r222 : Value) : Prop :=
  ∀ (j15 j16 j134 j135 j136 j137 j138 j139 j140 j141 j142 j143 j144 j145 j146 j147 j148 j149 j150 j151 j152 j153 j154 j155 j156 j157 j158 j159 j160 : Value) (w' : World), OwnInts w' w8.heap.size j15 (L1.filter fun y => bitN e1 y == bj) → Below w8.heap.size w8 w' → K' { tmps := #[r0, r1, r2, r3, r4, r5, r6, r7, .int .i64 e1, r9, r10, .slice a2 3 c2, r12, r13, .int .i64 j, j15, j16, r17, r18, r19, r20, r21, r22, r23, r24, r25, r26, r27, r28, r29, r30, r31, r32, r33, r34, r35, r36, r37, r38, r39, r40, r41, r42, r43, r44, r45, r46, r47, r48, r49, r50, r51, r52, r53, r54, r55, r56, r57, r58, r59, r60, r61, r62, r63, r64, r65, r66, r67, r68, r69, r70, r71, r72, r73, r74, r75, r76, r77, r78, r79, r80, r81, r82, r83, r84, r85, r86, r87, r88, r89, r90, r91, r92, r93, r94, r95, r96, r97, r98, r99, r100, r101, r102, r103, r104, r105, r106, r107, r108, r109, r110, r111, r112, r113, r114, r115, r116, r117, r118, r119, r120, r121, r122, r123, r124, r125, r126, r127, r128, r129, r130, r131, r132, r133, j134, j135, j136, j137, j138, j139, j140, j141, j142, j143, j144, j145, j146, j147, j148, j149, j150, j151, j152, j153, j154, j155, j156, j157, j158, j159, j160, r161, r162, r163, r164, r165, r166, r167, r168, r169, r170, r171, r172, r173, r174, r175, r176, r177, r178, r179, r180, r181, r182, r183, r184, r185, r186, r187, r188, r189, r190, r191, r192, r193, r194, r195, r196, r197, r198, r199, r200, r201, r202, r203, r204, r205, r206, r207, r208, r209, r210, r211, r212, r213, r214, r215, r216, r217, r218, r219, r220, r221, r222], defers := [] } w'
set_option maxHeartbeats 8000000 in
set_option maxRecDepth 1000000 in
theorem pa_mine (w8 : World) (e1 E j : Nat) (a2 : Option Addr) (c2 : Nat) (L1 : List Int) (bj : Bool) (K' : Act → World → Prop) (r0 r1 r2 r3 r4 r5 r6 r7 r9 r10 r12 r13 r17 r18 r19 r20 r21 r22 r23 r24 r25 r26 r27 r28 r29 r30 r31 r32 r33 r34 r35 r36 r37 r38 r39 r40 r41 r42 r43 r44 r45 r46 r47 r48 r49 r50 r51 r52 r53 r54 r55 r56 r57 r58 r59 r60 r61 r62 r63 r64 r65 r66 r67 r68 r69 r70 r71 r72 r73 r74 r75 r76 r77 r78 r79 r80 r81 r82 r83 r84 r85 r86 r87 r88 r89 r90 r91 r92 r93 r94 r95 r96 r97 r98 r99 r100 r101 r102 r103 r104 r105 r106 r107 r108 r109 r110 r111 r112 r113 r114 r115 r116 r117 r118 r119 r120 r121 r122 r123 r124 r125 r126 r127 r128 r129 r130 r131 r132 r133 r134 r135 r136 r137 r138 r139 r140 r141 r142 r143 r144 r145 r146 r147 r148 r149 r150 r151 r152 r153 r154 r155 r156 r157 r158 r159 r160 r161 r162 r163 r164 r165 r166 r167 r168 r169 r170 r171 r172 r173 r174 r175 r176 r177 r178 r179 r180 r181 r182 r183 r184 r185 r186 r187 r188 r189 r190 r191 r192 r193 r194 r195 r196 r197 r198 r199 r200 r201 r202 r203 r204 r205 r206 r207 r208 r209 r210 r211 r212 r213 r214 r215 r216 r217 r218 r219 r220 r221 r222 : Value) (hin : MineIn w8 e1 E j a2 L1 bj) (haf : MineAfter K' w8 e1 j a2 c2 L1 bj r0 r1 r2 r3 r4 r5 r6 r7 r9 r10 r12 r13 r17 r18 r19 r20 r21 r22 r23 r24 r25 r26 r27 r28 r29 r30 r31 r32 r33 r34 r35 r36 r37 r38 r39 r40 r41 r42 r43 r44 r45 r46 r47 r48 r49 r50 r51 r52 r53 r54 r55 r56 r57 r58 r59 r60 r61 r62 r63 r64 r65 r66 r67 r68 r69 r70 r71 r72 r73 r74 r75 r76 r77 r78 r79 r80 r81 r82 r83 r84 r85 r86 r87 r88 r89 r90 r91 r92 r93 r94 r95 r96 r97 r98 r99 r100 r101 r102 r103 r104 r105 r106 r107 r108 r109 r110 r111 r112 r113 r114 r115 r116 r117 r118 r119 r120 r121 r122 r123 r124 r125 r126 r127 r128 r129 r130 r131 r132 r133 r134 r135 r136 r137 r138 r139 r140 r141 r142 r143 r144 r145 r146 r147 r148 r149 r150 r151 r152 r153 r154 r155 r156 r157 r158 r159 r160 r161 r162 r163 r164 r165 r166 r167 r168 r169 r170 r171 r172 r173 r174 r175 r176 r177 r178 r179 r180 r181 r182 r183 r184 r185 r186 r187 r188 r189 r190 r191 r192 r193 r194 r195 r196 r197 r198 r199 r200 r201 r202 r203 r204 r205 r206 r207 r208 r209 r210 r211 r212 r213 r214 r215 r216 r217 r218 r219 r220 r221 r222) :
    (paBlk 4).wp Tryd.prog (Exit.then K' NoExit) { tmps := #[r0, r1, r2, r3, r4, r5, r6, r7, .int .i64 e1, r9, r10, .slice a2 3 c2, r12, r13, .int .i64 j, .slice none 0 0, .int .i64 0, r17, r18, r19, r20, r21, r22, r23, r24, r25, r26, r27, r28, r29, r30, r31, r32, r33, r34, r35, r36, r37, r38, r39, r40, r41, r42, r43, r44, r45, r46, r47, r48, r49, r50, r51, r52, r53, r54, r55, r56, r57, r58, r59, r60, r61, r62, r63, r64, r65, r66, r67, r68, r69, r70, r71, r72, r73, r74, r75, r76, r77, r78, r79, r80, r81, r82, r83, r84, r85, r86, r87, r88, r89, r90, r91, r92, r93, r94, r95, r96, r97, r98, r99, r100, r101, r102, r103, r104, r105, r106, r107, r108, r109, r110, r111, r112, r113, r114, r115, r116, r117, r118, r119, r120, r121, r122, r123, r124, r125, r126, r127, r128, r129, r130, r131, r132, r133, r134, r135, r136, r137, r138, r139, r140, r141, r142, r143, r144, r145, r146, r147, r148, r149, r150, r151, r152, r153, r154, r155, r156, r157, r158, r159, r160, r161, r162, r163, r164, r165, r166, r167, r168, r169, r170, r171, r172, r173, r174, r175, r176, r177, r178, r179, r180, r181, r182, r183, r184, r185, r186, r187, r188, r189, r190, r191, r192, r193, r194, r195, r196, r197, r198, r199, r200, r201, r202, r203, r204, r205, r206, r207, r208, r209, r210, r211, r212, r213, r214, r215, r216, r217, r218, r219, r220, r221, r222], defers := [] } w8 := by
  have HAF := Lib.hid haf; have HI := Lib.hid hin
  have he6 := hin.e6
  have hj64 := hin.j64
  have HEE := Lib.hid hin.ee
  have hE64 : E ≤ 64 := by rw [← hin.ee]; exact Nat.pow_le_pow_right (n := 2) (by decide) he6
  have hE0 : 0 < E := by rw [← hin.ee]; exact Nat.pow_pos (by decide)
  have hE1i : (1 : Int) ≤ (E : Int) := by omega
  have hE0i : (0 : Int) < (E : Int) := by omega
  have hEnz : ¬ (E : Int) = 0 := by omega
  obtain ⟨jq, hjq⟩ : ∃ jq, jq = j / E := ⟨_, rfl⟩
  obtain ⟨jb, hjb⟩ : ∃ jb, jb = jq % 2 := ⟨_, rfl⟩
  have hj1 := div_facts j E
  have hj2 := div_facts jq 2
  rw [← hjq] at hj1
  rw [← hjb] at hj2
  obtain ⟨hj1a, hj1b, _, _⟩ := hj1
  obtain ⟨_, _, hj2a, hj2b⟩ := hj2
  have hj2a' : (jq : Int) % 2 = (jb : Int) := hj2a
  have hj2b' : (jq : Int).tmod 2 = (jb : Int) := hj2b
  have hjb2 : jb < 2 := by rw [hjb]; exact Nat.mod_lt _ (by decide)
  have hjq6 : jq ≤ 64 := by rw [hjq]; exact Nat.le_trans (Nat.div_le_self _ _) hj64
  have HJB : Hid (jb = j / 2 ^ e1 % 2) := Lib.hid (by rw [hjb, hjq, hin.ee])
  have HM2 := Lib.hid hin.len
  have hs8 := Nat.le_refl w8.heap.size
  clear hin haf hjq hjb hj2a hj2b
  obtain ⟨i0, hi, hz0, hz1, hz2⟩ := info_parts info_int
  conv => arg 2; whnf
  go_wp2
  go_loopw [15, 16] (fun vm q wr => MineRel w8 L1 e1 bj vm q wr) (fun _ q _ => 3 - (intOf q).toNat)
  case atStart => exact ⟨0, by omega, rfl, by simpa using OwnInts.nil _ _, Below.refl _ _⟩
  case round =>
    obtain ⟨p, hp, rfl, hown, hb9⟩ := hrel
    rw [HM2.out] at hp
    have hin9 := HI.out.fx _ hb9
    have HOW9 := Lib.hid hown; have HB9 := Lib.hid hb9
    have hs9 := hb9.size
    by_cases hltp : p < 3
    · have hpl : p < L1.length := by rw [HM2.out]; exact hltp
      obtain ⟨b9, o9, rfl, hb9l, hcy⟩ := hin9.at_ hpl
      have hyb := HI.out.lb _ (List.getElem_mem hpl)
      have HFS := Lib.hid (filt_succ (fun y => bitN e1 y == bj) hpl)
      obtain ⟨y, hy⟩ : ∃ y, y = L1[p] := ⟨_, rfl⟩
      rw [← hy] at hcy hyb HFS
      obtain ⟨yk, rfl⟩ := Int.eq_ofNat_of_zero_le hyb.1
      have hyk6 : yk ≤ 1000000 := by omega
      obtain ⟨yq, hyq⟩ : ∃ yq, yq = yk / E := ⟨_, rfl⟩
      obtain ⟨yb, hybb⟩ : ∃ yb, yb = yq % 2 := ⟨_, rfl⟩
      have hy1 := div_facts yk E
      have hy2 := div_facts yq 2
      rw [← hyq] at hy1
      rw [← hybb] at hy2
      obtain ⟨hy1a, hy1b, _, _⟩ := hy1
      obtain ⟨_, _, hy2a, hy2b⟩ := hy2
      have hy2a' : (yq : Int) % 2 = (yb : Int) := hy2a
      have hy2b' : (yq : Int).tmod 2 = (yb : Int) := hy2b
      have hyq6 : yq ≤ 1000000 := by rw [hyq]; exact Nat.le_trans (Nat.div_le_self _ _) hyk6
      have hyb2 : yb < 2 := by rw [hybb]; exact Nat.mod_lt _ (by decide)
      have hbitE : (bitN e1 (yk : Int) == bj) = decide (yb = jb) := by
        rw [bitN_nat, ← HI.out.bit, ← HJB.out, HEE.out, ← hyq, ← hybb]
        rw [Bool.eq_iff_iff]
        simp only [beq_iff_eq, decide_eq_decide, decide_eq_true_eq]
        omega
      rw [hbitE] at HFS
      have hp0 : (0 : Int) ≤ (p : Int) := by omega
      have hfl : ((L1.take p).filter fun y => bitN e1 y == bj).length ≤ 3 := by
        have h1 := List.length_filter_le (fun y => bitN e1 y == bj) (L1.take p)
        rw [List.length_take] at h1
        omega
      have HQ9 : Hid (∀ q, OwnInts (wr.drewN q) w8.heap.size _ ((L1.take p).filter fun y => bitN e1 y == bj) ∧ Below w8.heap.size w8 (wr.drewN q) ∧ (wr.drewN q).cell? ⟨b9, o9 + p, none⟩ = some (.int .i64 yk)) := Lib.hid fun q => ⟨hown, ⟨hb9.os, hb9.tape, hb9.output, hb9.size, hb9.block⟩, hcy⟩
      clear hown hb9 hin9 hy hyq hybb hy2a hy2b hbitE hyb
      by_cases hyj : yb = jb
      · have hyjb : (((yb : Nat) : Int) == ((jb : Nat) : Int)) = true := by rw [hyj]; simp
        have HFS2 : Hid ((L1.take (p + 1)).filter (fun y => bitN e1 y == bj) = (L1.take p).filter (fun y => bitN e1 y == bj) ++ [(yk : Int)]) := Lib.hid (by rw [HFS.out, if_pos (by simpa using hyj)])
        clear hyj
        go_wp2
        go_quiet ((go_at_call 42; exact quiet_eq (pow2_is e1 E _ (by omega) HEE.out)))
        go_upto_region 33 with fail
        have hq9 := HQ9.out nq
        clear HQ9 hcy HOW9 HB9 hs9
        generalize wr.drewN nq = w9 at hq9 ⊢
        obtain ⟨hown, hb9, hcy⟩ := hq9
        have HOW9 := Lib.hid hown; have HB9 := Lib.hid hb9
        have hs9 := hb9.size
        clear hown hb9
        go_wp2_with (at_builtin; refine wpList_append_own _ rfl _ _ 22 rfl w8.heap.size 3 i0 (.int .i64 0) 1 8 Tryd.underlying22 hi hz0 hz1 hz2 rfl (by decide) _ _ _ rfl (HOW9.out.alloc _) ⟨w9.heap.size, 0, none⟩ 1 1 [.int .i64 yk] rfl rfl (cell_one_new _ _ _) (by intro u hu; simp at hu; subst hu; rfl) (by unfold maxLen; omega) (by omega) (by simp; omega) ?_; intro v' w10 hown' hgrow _; have HOX : Hid (OwnInts w10 w8.heap.size v' ((L1.take (p + 1)).filter fun y => bitN e1 y == bj)) := Lib.hid (by rw [HFS2.out]; unfold OwnInts; simpa [ints] using hown'); have HBX : Hid (Below w8.heap.size w8 w10) := Lib.hid ((HB9.out.alloc hs9 _).grown hgrow (by simp; omega) (fun x hx => (World.ownsRow.lt HOW9.out x hx).1)); clear hown' hgrow)
        go_roundw
        case rel => exact ⟨p + 1, hpl, by simp, HOX.out, HBX.out⟩
        case measure => simp [intOf]; omega
      · have hyjb : (((yb : Nat) : Int) == ((jb : Nat) : Int)) = false := beq_eq_false_iff_ne.2 (by omega)
        have HFS2 : Hid ((L1.take (p + 1)).filter (fun y => bitN e1 y == bj) = (L1.take p).filter (fun y => bitN e1 y == bj)) := Lib.hid (by rw [HFS.out, if_neg (by simpa using hyj)])
        clear hyj
        go_wp2
        go_quiet ((go_at_call 42; exact quiet_eq (pow2_is e1 E _ (by omega) HEE.out)))
        go_wp2
        go_roundw
        case rel => exact ⟨p + 1, hpl, by simp, by rw [HFS2.out]; exact (HQ9.out _).1, (HQ9.out _).2.1⟩
        case measure => simp [intOf]; omega
    · obtain rfl : p = 3 := by omega
      rw [List.take_of_length_le (by rw [HM2.out]; exact Nat.le_refl _)] at hown
      go_wp2
      (try simp only [Exit.inBlock, Exit.then])
      have hfin := HAF.out
      unfold MineAfter at hfin
      exact hfin _ _ _ _ _ _ _ _ _ _ _ _ _ _ _ _ _ _ _ _ _ _ _ _ _ _ _ _ _ _ hown hb9
end Go.Proofs.YthldhbcidcmmaaaDoor
