/-
  LeasePlays: the switch, the state (printed by wip/gen_leaseplays2.py).
-/
import Derived.Test.YtjnghpambjjlkaaDoorLeaseTwo
import Derived.Test.YtjnghpambjjlkaaDoorLift
import Derived.Deep.RegionHeld3
import Derived.Deep.RegionWith
import Derived.Deep.RegionLaw
import Derived.Deep.DeepCutAuto
import Derived.Deep.CutBlock
namespace Go.Proofs.YtjnghpambjjlkaaDoor
open Go.RowKit

/-- The program's lender (at s), and the reference's (at k) in the variable bx. -/
structure LPS (w0 wr : World) (b g bx n : Nat) (s : Ls) (k : Kl) (gh ch gu cu : Nat) : Prop where
  lat : LAt wr b g n s
  box : Blk wr bx 46 (lTop n gh ch gu cu k)
  kl : KL wr n k gh gu
  bel : Below w0.heap.size w0 wr
  hb : w0.heap.size ≤ b
  hg : w0.heap.size ≤ g
  hbx : w0.heap.size ≤ bx
section
variable {w0 wr w' : World} {b g bx n : Nat} {s s' : Ls} {k k' : Kl} {gh ch gu cu gh' ch' gu' cu' : Nat}
theorem LPS.cells (q : LPS w0 wr b g bx n s k gh ch gu cu) : wr.cell? ⟨bx, 0, none⟩ = some (.int .i64 k.now) ∧ wr.cell? ⟨bx, 1, none⟩ = some (.int .i64 k.term) ∧ wr.cell? ⟨bx, 2, none⟩ = some (.int .i64 k.value) ∧ wr.cell? ⟨bx, 3, none⟩ = some (.int .i64 k.want) ∧ wr.cell? ⟨bx, 4, none⟩ = some (.slice (some ⟨gh, 0, none⟩) n ch) ∧ wr.cell? ⟨bx, 5, none⟩ = some (.slice (some ⟨gu, 0, none⟩) n cu) ∧ wr.frozen? ⟨bx, 0, none⟩ = false ∧ wr.frozen? ⟨bx, 1, none⟩ = false ∧ wr.frozen? ⟨bx, 2, none⟩ = false ∧ wr.frozen? ⟨bx, 3, none⟩ = false ∧ wr.frozen? ⟨bx, 4, none⟩ = false ∧ wr.frozen? ⟨bx, 5, none⟩ = false :=
  ⟨q.box.cell_ (i := 0) rfl, q.box.cell_ (i := 1) rfl, q.box.cell_ (i := 2) rfl, q.box.cell_ (i := 3) rfl, q.box.cell_ (i := 4) rfl, q.box.cell_ (i := 5) rfl, q.box.free 0, q.box.free 1, q.box.free 2, q.box.free 3, q.box.free 4, q.box.free 5⟩
theorem LPS.keep (q : LPS w0 wr b g bx n s k gh ch gu cu) (hk : Keep [] wr w') : LPS w0 w' b g bx n s k gh ch gu cu :=
  ⟨q.lat.keep hk (by simp), q.box.keep hk (by simp), q.kl.keep0 hk, q.bel.trans (hk.below q.bel.size (by simp)), q.hb, q.hg, q.hbx⟩
theorem LPS.below (q : LPS w0 wr b g bx n s k gh ch gu cu) (hb : Below wr.heap.size wr w') : LPS w0 w' b g bx n s k gh ch gu cu := q.keep (Keep.of_below hb (Nat.le_refl _))
theorem LPS.nb (q : LPS w0 wr b g bx n s k gh ch gu cu) : b ≠ bx ∧ g ≠ bx := ⟨q.lat.top.ne q.box (by decide), q.lat.arr.ne q.box (by decide)⟩
theorem LPS.setRef (q : LPS w0 wr b g bx n s k gh ch gu cu) (hc : KL wr n k' gh' gu') : LPS w0 (set6 wr bx (.int .i64 k'.now) (.int .i64 k'.term) (.int .i64 k'.value) (.int .i64 k'.want) (.slice (some ⟨gh', 0, none⟩) n ch') (.slice (some ⟨gu', 0, none⟩) n cu')) b g bx n s k' gh' ch' gu' cu' :=
  ⟨q.lat.keep (keep6 _ _ _ _ _ _ _ _) (by have := q.nb; simp; omega), blk6 q.box _ _ _ _ _ _, hc.keep1 (keep6 _ _ _ _ _ _ _ _) q.box (by decide), q.bel.trans ((keep6 _ _ _ _ _ _ _ _).below q.bel.size (by have := q.hbx; simpa using this)), q.hb, q.hg, q.hbx⟩
theorem LPS.prog (q : LPS w0 wr b g bx n s k gh ch gu cu) (hk : Keep [b, g] wr w') (hc : LAt w' b g n s') : LPS w0 w' b g bx n s' k gh ch gu cu :=
  ⟨hc, q.box.keep hk (by have := q.nb; simp; omega), q.kl.keep2 hk q.lat.top (by decide) q.lat.arr (by decide), q.bel.trans (hk.below q.bel.size (by have := q.hb; have := q.hg; simp; omega)), q.hb, q.hg, q.hbx⟩
theorem LPS.keepY (q : LPS w0 wr b g bx n s k gh ch gu cu) {yb : Nat} {cs : List Value} (hy : Blk wr yb 46 cs) (hne : yb ≠ bx) (hge : w0.heap.size ≤ yb) (hk : Keep [yb] wr w') : LPS w0 w' b g bx n s k gh ch gu cu :=
  ⟨q.lat.keep hk (by have := q.lat.top.ne hy (by decide); have := q.lat.arr.ne hy (by decide); simp; omega), q.box.keep hk (by simp; omega), q.kl.keep1 hk hy (by decide), q.bel.trans (hk.below q.bel.size (by simpa using hge)), q.hb, q.hg, q.hbx⟩
end
def LPRel (w : World) (b g bx n m : Nat) (i : Value) (wr : World) : Prop :=
  ∃ (j : Nat) (s : Ls) (k : Kl) (gh ch gu cu : Nat), j ≤ m ∧ j ≤ 80 ∧ i = .int .i64 j ∧ LPS w wr b g bx n s k gh ch gu cu ∧ LInv n s ∧ LK n s k

set_option linter.unusedVariables false
/-- The block of that number in a function's text. -/
def findBlock (id : Nat) : Code → Option Code
  | .block i c => if i = id then some (.block i c) else findBlock id c
  | .seq a b => match findBlock id a with | some c => some c | none => findBlock id b
  | .cond _ a b => match findBlock id a with | some c => some c | none => findBlock id b
  | .loop b => findBlock id b
  | _ => none
/-- The switch of the round. -/
noncomputable def lpBlk : Code := match Tryd.f5.body with | some c => (match findBlock 2 c with | some d => d | none => .skip) | none => .skip
def LPB (w : World) (b g bx n : Nat) (wx : World) : Prop := ∃ (s2 : Ls) (k2 : Kl) (gh2 ch2 gu2 cu2 : Nat), LPS w wx b g bx n s2 k2 gh2 ch2 gu2 cu2 ∧ LInv n s2 ∧ LK n s2 k2
/-- What a round's switch starts from. -/
structure LPIn (w wr : World) (b g bx n b3 off3 : Nat) (m x : Int) (s : Ls) (k : Kl) (gh ch gu cu : Nat) : Prop where
  ps : LPS w wr b g bx n s k gh ch gu cu
  inv : LInv n s
  lk : LK n s k
  row : ∀ w' : World, Below w.heap.size w w' → w'.cell? ⟨b3, off3, none⟩ = some (.int .i64 m) ∧ w'.cell? ⟨b3, off3 + 1, none⟩ = some (.int .i64 x)
  hh : Handle w
  h2 : (n : Int) ≤ 4
/-- What follows the switch. -/
def LPAfter (K' : Act → World → Prop) (w : World) (b g bx n b3 off3 c' : Nat) (m : Int) (r0 r1 r2 r3 r4 r5 r6 r8 r10 r13 r14 r15 r16 r17 r18 r19 r20 r21 r22 r23 r24 r25 r26 r27 r28 r29 r30 r31 r32 r33 r34 r35 r36 r37 r38 r39 r40 r41 r42 r43 r44 r45 r46 r47 r48 r49 r50 r51 r52 r53 r54 r55 r56 r57 r58 r59 r60 r61 r62 r63 r64 r65 r66 r67 r69 r70 r71 r72 r73 r74 r75 r76 r77 r78 r79 r80 r81 r82 r83 r84 r85 r86 r87 r88 r89 r90 r91 r92 r93 r94 r95 r96 r97 r98 r99 r100 r101 r102 r103 r104 r105 r106 r107 r108 r109 r110 r111 r112 r113 r114 r115 r116 r117 r118 r119 r120 r121 r122 r123 r124 r125 r126 r127 r128 r129 r130 r131 r132 r133 r134 r135 r136 r137 r138 r139 r140 r141 r142 r143 r144 r145 r146 r147 r148 r149 r150 r151 r152 r153 r154 r155 r156 r157 r158 r159 r160 r161 r162 r163 r164 r165 r166 r167 r168 r169 r170 r171 r172 r173 r174 r175 r176 r177 r178 r179 r180 r181 r182 r183 r184 r185 r186 r187 r188 r189 r190 r191 r192 r193 r194 r195 r196 r197 r198 r199 r200 r201 r202 r203 r204 r205 r206 r207 r208 r209 r210 r211 r212 r213 r214 r215 r216 : Value) : Prop :=
  ∀ (j6 j12 j13 j14 j15 j16 j17 j18 j19 j20 j21 j22 j69 j70 j71 j72 j73 j74 j75 j76 j77 j78 j79 j80 j81 j82 j83 j84 j85 j86 j87 j88 j89 j90 j91 j92 j93 j94 j95 j96 j97 j98 j99 j100 j101 j102 j103 j104 j105 j106 j107 j108 j109 j110 j111 j112 j113 j114 j115 j116 j117 j118 j119 j120 j121 j122 j123 j124 j125 j126 j127 j128 j129 j130 j131 j132 j133 j134 j135 j136 j137 j138 j139 j140 j141 j142 j143 j144 j145 j146 j147 j148 j149 j150 j151 j152 j153 j154 j155 j156 j157 j158 j159 j160 j161 j162 : Value) (w' : World), LPB w b g bx n w' → K' { tmps := #[r0, r1, r2, r3, r4, r5, j6, .pointer (some ⟨b, 0, none⟩), r8, .pointer (some ⟨bx, 0, none⟩), r10, .slice (some ⟨b3, off3, none⟩) 2 c', j12, j13, j14, j15, j16, j17, j18, j19, j20, j21, j22, r23, r24, r25, r26, r27, r28, r29, r30, r31, r32, r33, r34, r35, r36, r37, r38, r39, r40, r41, r42, r43, r44, r45, r46, r47, r48, r49, r50, r51, r52, r53, r54, r55, r56, r57, r58, r59, r60, r61, r62, r63, r64, r65, r66, r67, .int .i64 m, j69, j70, j71, j72, j73, j74, j75, j76, j77, j78, j79, j80, j81, j82, j83, j84, j85, j86, j87, j88, j89, j90, j91, j92, j93, j94, j95, j96, j97, j98, j99, j100, j101, j102, j103, j104, j105, j106, j107, j108, j109, j110, j111, j112, j113, j114, j115, j116, j117, j118, j119, j120, j121, j122, j123, j124, j125, j126, j127, j128, j129, j130, j131, j132, j133, j134, j135, j136, j137, j138, j139, j140, j141, j142, j143, j144, j145, j146, j147, j148, j149, j150, j151, j152, j153, j154, j155, j156, j157, j158, j159, j160, j161, j162, r163, r164, r165, r166, r167, r168, r169, r170, r171, r172, r173, r174, r175, r176, r177, r178, r179, r180, r181, r182, r183, r184, r185, r186, r187, r188, r189, r190, r191, r192, r193, r194, r195, r196, r197, r198, r199, r200, r201, r202, r203, r204, r205, r206, r207, r208, r209, r210, r211, r212, r213, r214, r215, r216], defers := [] } w'
/-- No other way out. -/
def NoExit (_ : Exit) (_ : Act) (_ : World) : Prop := False
theorem noExit_then {K : Act → World → Prop} {Q : Exit → Act → World → Prop} (e : Exit) (a : Act) (w : World) (h : Exit.then K NoExit e a w) : Exit.then K Q e a w := by
  cases e with
  | normal => exact h
  | exit id => exact (h : False).elim
  | goto l => exact (h : False).elim
  | ret => exact (h : False).elim
  | panic ch => exact (h : False).elim
  | outgrown => exact (h : False).elim
/-- The switch comes to its end, and the two go with each other there. -/
def LPGoal (w wr : World) (b g bx n b3 off3 c' : Nat) (m x : Int) : Prop :=
  ∀ (s : Ls) (k : Kl) (gh ch gu cu : Nat) (K' : Act → World → Prop) (r0 r1 r2 r3 r4 r5 r6 r8 r10 r13 r14 r15 r16 r17 r18 r19 r20 r21 r22 r23 r24 r25 r26 r27 r28 r29 r30 r31 r32 r33 r34 r35 r36 r37 r38 r39 r40 r41 r42 r43 r44 r45 r46 r47 r48 r49 r50 r51 r52 r53 r54 r55 r56 r57 r58 r59 r60 r61 r62 r63 r64 r65 r66 r67 r69 r70 r71 r72 r73 r74 r75 r76 r77 r78 r79 r80 r81 r82 r83 r84 r85 r86 r87 r88 r89 r90 r91 r92 r93 r94 r95 r96 r97 r98 r99 r100 r101 r102 r103 r104 r105 r106 r107 r108 r109 r110 r111 r112 r113 r114 r115 r116 r117 r118 r119 r120 r121 r122 r123 r124 r125 r126 r127 r128 r129 r130 r131 r132 r133 r134 r135 r136 r137 r138 r139 r140 r141 r142 r143 r144 r145 r146 r147 r148 r149 r150 r151 r152 r153 r154 r155 r156 r157 r158 r159 r160 r161 r162 r163 r164 r165 r166 r167 r168 r169 r170 r171 r172 r173 r174 r175 r176 r177 r178 r179 r180 r181 r182 r183 r184 r185 r186 r187 r188 r189 r190 r191 r192 r193 r194 r195 r196 r197 r198 r199 r200 r201 r202 r203 r204 r205 r206 r207 r208 r209 r210 r211 r212 r213 r214 r215 r216 : Value), LPIn w wr b g bx n b3 off3 m x s k gh ch gu cu →
    LPAfter K' w b g bx n b3 off3 c' m r0 r1 r2 r3 r4 r5 r6 r8 r10 r13 r14 r15 r16 r17 r18 r19 r20 r21 r22 r23 r24 r25 r26 r27 r28 r29 r30 r31 r32 r33 r34 r35 r36 r37 r38 r39 r40 r41 r42 r43 r44 r45 r46 r47 r48 r49 r50 r51 r52 r53 r54 r55 r56 r57 r58 r59 r60 r61 r62 r63 r64 r65 r66 r67 r69 r70 r71 r72 r73 r74 r75 r76 r77 r78 r79 r80 r81 r82 r83 r84 r85 r86 r87 r88 r89 r90 r91 r92 r93 r94 r95 r96 r97 r98 r99 r100 r101 r102 r103 r104 r105 r106 r107 r108 r109 r110 r111 r112 r113 r114 r115 r116 r117 r118 r119 r120 r121 r122 r123 r124 r125 r126 r127 r128 r129 r130 r131 r132 r133 r134 r135 r136 r137 r138 r139 r140 r141 r142 r143 r144 r145 r146 r147 r148 r149 r150 r151 r152 r153 r154 r155 r156 r157 r158 r159 r160 r161 r162 r163 r164 r165 r166 r167 r168 r169 r170 r171 r172 r173 r174 r175 r176 r177 r178 r179 r180 r181 r182 r183 r184 r185 r186 r187 r188 r189 r190 r191 r192 r193 r194 r195 r196 r197 r198 r199 r200 r201 r202 r203 r204 r205 r206 r207 r208 r209 r210 r211 r212 r213 r214 r215 r216 →
    lpBlk.wp Tryd.prog (Exit.then K' NoExit) { tmps := #[r0, r1, r2, r3, r4, r5, r6, .pointer (some ⟨b, 0, none⟩), r8, .pointer (some ⟨bx, 0, none⟩), r10, .slice (some ⟨b3, off3, none⟩) 2 c', .int .i64 0, r13, r14, r15, r16, r17, r18, r19, r20, r21, r22, r23, r24, r25, r26, r27, r28, r29, r30, r31, r32, r33, r34, r35, r36, r37, r38, r39, r40, r41, r42, r43, r44, r45, r46, r47, r48, r49, r50, r51, r52, r53, r54, r55, r56, r57, r58, r59, r60, r61, r62, r63, r64, r65, r66, r67, .int .i64 m, r69, r70, r71, r72, r73, r74, r75, r76, r77, r78, r79, r80, r81, r82, r83, r84, r85, r86, r87, r88, r89, r90, r91, r92, r93, r94, r95, r96, r97, r98, r99, r100, r101, r102, r103, r104, r105, r106, r107, r108, r109, r110, r111, r112, r113, r114, r115, r116, r117, r118, r119, r120, r121, r122, r123, r124, r125, r126, r127, r128, r129, r130, r131, r132, r133, r134, r135, r136, r137, r138, r139, r140, r141, r142, r143, r144, r145, r146, r147, r148, r149, r150, r151, r152, r153, r154, r155, r156, r157, r158, r159, r160, r161, r162, r163, r164, r165, r166, r167, r168, r169, r170, r171, r172, r173, r174, r175, r176, r177, r178, r179, r180, r181, r182, r183, r184, r185, r186, r187, r188, r189, r190, r191, r192, r193, r194, r195, r196, r197, r198, r199, r200, r201, r202, r203, r204, r205, r206, r207, r208, r209, r210, r211, r212, r213, r214, r215, r216], defers := [] } wr
end Go.Proofs.YtjnghpambjjlkaaDoor
