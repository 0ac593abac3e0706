/-
  CoherePlays: the switch, the state (printed by wip/gen_cohereplays3.py).
-/
import Derived.Test.YtjnghpambjjlkaaDoorCohereRef3
import Derived.Test.YtjnghpambjjlkaaDoorCohereNew
import Derived.Test.YtjnghpambjjlkaaDoorCohereMoves
import Derived.Test.YtjnghpambjjlkaaDoorCohereOps2
import Derived.Test.YtjnghpambjjlkaaDoorErrIs
import Derived.Test.YtjnghpambjjlkaaDoorIn
import Derived.Test.YtjnghpambjjlkaaDoorLift
import Derived.Deep.QuietTactic
import Derived.BigQuiet
import Derived.BigRegion
import Derived.Deep.RegionHeld3
import Derived.Deep.RegionWith
import Derived.Deep.DeepCutAuto
import Derived.Deep.CutBlock
namespace Go.Proofs.YtjnghpambjjlkaaDoor
open Go.RowKit

theorem state_no (b g n : Nat) (s : Cs) (p k : Int) (w : World) (hs : CAt w b g n s) (hn : (n : Int) ≤ 4) (h : ¬ (0 ≤ p ∧ p < n ∧ 0 ≤ k ∧ k ≤ 3)) :
    Calls Tryd.prog 40 #[.pointer (some ⟨b, 0, none⟩), .int .i64 p, .int .i64 k] w fun e w' => e = .returned (.tuple #[.int .i64 (-1), .int .i64 0]) ∧ w = w' := by
  go_enter Tryd.func40, Tryd.ntmps40
  go_wp2_with (go_at_call 51; refine (check_no b g n s p k _ hs hn h).mono ?_; rintro e w' ⟨rfl, rfl⟩)
  go_ret2
  exact ⟨rfl, rfl⟩
theorem memory_no (b : Nat) (k : Int) (w : World) (h : k < 0 ∨ 3 < k) : Calls Tryd.prog 41 #[.pointer (some ⟨b, 0, none⟩), .int .i64 k] w fun e w' => e = .returned (.int .i64 (-1)) ∧ w = w' := by
  go_enter Tryd.func41, Tryd.ntmps41
  go_wp2_with (go_at_call 43; refine (within_no _ _ _ _ h).mono ?_; rintro e w' ⟨rfl, rfl⟩)
  go_ret
  exact ⟨rfl, rfl⟩

/-- The program's caches (at s), and the reference's (at t) in the variable bx. -/
structure PS (w0 wr : World) (b g bx n N : Nat) (s t : Cs) (gm cm gs cs gv cv : Nat) : Prop where
  cat : CAt wr b g n s
  box : Blk wr bx 66 (kTop n N gm cm gs cs gv cv t.mv)
  kc : KC wr n N t gm gs gv
  bel : Below w0.heap.size w0 wr
  hb : w0.heap.size ≤ b
  hg : w0.heap.size ≤ g
  hbx : w0.heap.size ≤ bx
section
variable {w0 wr w' : World} {b g bx n N : Nat} {s s' t t' : Cs} {gm cm gs cs gv cv gm' cm' gs' cs' gv' cv' : Nat}
theorem PS.cells (k : PS w0 wr b g bx n N s t gm cm gs cs gv cv) : wr.cell? ⟨bx, 0, none⟩ = some (.int .i64 n) ∧ wr.cell? ⟨bx, 1, none⟩ = some (.slice (some ⟨gm, 0, none⟩) 4 cm) ∧ wr.cell? ⟨bx, 2, none⟩ = some (.slice (some ⟨gs, 0, none⟩) N cs) ∧ wr.cell? ⟨bx, 3, none⟩ = some (.slice (some ⟨gv, 0, none⟩) N cv) ∧ wr.cell? ⟨bx, 4, none⟩ = some (.int .i64 t.mv) ∧
    wr.frozen? ⟨bx, 0, none⟩ = false ∧ wr.frozen? ⟨bx, 1, none⟩ = false ∧ wr.frozen? ⟨bx, 2, none⟩ = false ∧ wr.frozen? ⟨bx, 3, none⟩ = false ∧ wr.frozen? ⟨bx, 4, none⟩ = false :=
  ⟨k.box.cell_ (i := 0) rfl, k.box.cell_ (i := 1) rfl, k.box.cell_ (i := 2) rfl, k.box.cell_ (i := 3) rfl, k.box.cell_ (i := 4) rfl, k.box.free 0, k.box.free 1, k.box.free 2, k.box.free 3, k.box.free 4⟩
theorem PS.keep (k : PS w0 wr b g bx n N s t gm cm gs cs gv cv) (hk : Keep [] wr w') : PS w0 w' b g bx n N s t gm cm gs cs gv cv :=
  ⟨k.cat.keep hk (by simp), k.box.keep hk (by simp), k.kc.keep0 hk, k.bel.trans (hk.below k.bel.size (by simp)), k.hb, k.hg, k.hbx⟩
theorem PS.below (k : PS w0 wr b g bx n N s t gm cm gs cs gv cv) (hb : Below wr.heap.size wr w') : PS w0 w' b g bx n N s t gm cm gs cs gv cv := k.keep (Keep.of_below hb (Nat.le_refl _))
theorem PS.nb (k : PS w0 wr b g bx n N s t gm cm gs cs gv cv) : b ≠ bx ∧ g ≠ bx := ⟨k.cat.top.ne k.box (by decide), k.cat.arr.ne k.box (by decide)⟩
theorem PS.setRef (k : PS w0 wr b g bx n N s t gm cm gs cs gv cv) (hc : KC wr n N t' gm' gs' gv') : PS w0 (set5 wr bx (.int .i64 n) (.slice (some ⟨gm', 0, none⟩) 4 cm') (.slice (some ⟨gs', 0, none⟩) N cs') (.slice (some ⟨gv', 0, none⟩) N cv') (.int .i64 t'.mv)) b g bx n N s t' gm' cm' gs' cs' gv' cv' :=
  ⟨k.cat.keep (keep5 _ _ _ _ _ _ _) (by have := k.nb; simp; omega), blk5 k.box _ _ _ _ _, hc.keep1 (keep5 _ _ _ _ _ _ _) k.box (by decide), k.bel.trans ((keep5 _ _ _ _ _ _ _).below k.bel.size (by have := k.hbx; simpa using this)), k.hb, k.hg, k.hbx⟩
theorem PS.prog (k : PS w0 wr b g bx n N s t gm cm gs cs gv cv) (hk : Keep [b, g] wr w') (hc : CAt w' b g n s') : PS w0 w' b g bx n N s' t gm cm gs cs gv cv :=
  ⟨hc, k.box.keep hk (by have := k.nb; simp; omega), k.kc.keep2 hk k.cat.top (by decide) k.cat.arr (by decide), k.bel.trans (hk.below k.bel.size (by have := k.hb; have := k.hg; simp; omega)), k.hb, k.hg, k.hbx⟩
end
def PRel (w : World) (b g bx n N m : Nat) (i : Value) (wr : World) : Prop :=
  ∃ (j : Nat) (s : Cs) (gm cm gs cs gv cv : Nat), j ≤ m ∧ j ≤ 80 ∧ i = .int .i64 j ∧ PS w wr b g bx n N s s gm cm gs cs gv cv ∧ 0 ≤ s.mv ∧ s.mv ≤ 5 * j

set_option linter.unusedVariables false
/-- The block of that number in a function's text. -/
def cpFind (id : Nat) : Code → Option Code
  | .block i c => if i = id then some (.block i c) else cpFind id c
  | .seq a b => match cpFind id a with | some c => some c | none => cpFind id b
  | .cond _ a b => match cpFind id a with | some c => some c | none => cpFind id b
  | .loop b => cpFind id b
  | _ => none
/-- The switch of the round. -/
noncomputable def cpBlk : Code := match Tryd.f6.body with | some c => (match cpFind 2 c with | some d => d | none => .skip) | none => .skip
def CPB (w : World) (b g bx n N i : Nat) (wx : World) : Prop := ∃ (t : Cs) (gm cm gs cs gv cv : Nat), PS w wx b g bx n N t t gm cm gs cs gv cv ∧ 0 ≤ t.mv ∧ t.mv ≤ 5 * ((i : Int) + 1)
/-- What a round's switch starts from. -/
structure CPIn (w wr : World) (b g bx n N b3 off3 m i : Nat) (x y : Int) (rest : List Int) (s : Cs) (gm cm gs cs gv cv : Nat) : Prop where
  ps : PS w wr b g bx n N s s gm cm gs cs gv cv
  m0 : 0 ≤ s.mv
  m1 : s.mv ≤ 5 * i
  i8 : i < 80
  row : ∀ w' : World, Below w.heap.size w w' → ∀ (q : Nat) (z : Int), (x :: y :: rest)[q]? = some z → w'.cell? ⟨b3, off3 + q, none⟩ = some (.int .i64 z)
  hh : Handle w
  h1 : 1 ≤ (n : Int)
  h2 : (n : Int) ≤ 4
  hN : N = 4 * n
  len : m = (x :: y :: rest).length
/-- What follows the switch. -/
def CPAfter (K' : Act → World → Prop) (w : World) (b g bx n N b3 off3 c' m i : Nat) (r0 r1 r2 r3 r4 r6 r8 r12 r13 r14 r15 r16 r17 r18 r19 r20 r21 r22 r23 r24 r25 r26 r27 r28 r29 r30 r31 r32 r33 r34 r35 r36 r37 r38 r39 r40 r41 r42 r43 r44 r45 r46 r47 r48 r49 r50 r51 r52 r53 r54 r55 r56 r57 r58 r59 r60 r61 r62 r63 r64 r65 r66 r67 r68 r70 r71 r72 r73 r74 r75 r76 r77 r78 r79 r80 r81 r82 r83 r84 r85 r86 r87 r88 r89 r90 r91 r92 r93 r94 r95 r96 r97 r98 r99 r100 r101 r102 r103 r104 r105 r106 r107 r108 r109 r110 r111 r112 r113 r114 r115 r116 r117 r118 r119 r120 r121 r122 r123 r124 r125 r126 r127 r128 r129 r130 r131 r132 r133 r134 r135 r136 r137 r138 r139 r140 r141 r142 r143 r144 r145 r146 r147 r148 r149 r150 r151 r152 r153 r154 r155 r156 r157 r158 r159 r160 r161 r162 r163 r164 r165 r166 r167 r168 r169 r170 r171 r172 r173 r174 r175 r176 r177 r178 r179 r180 r181 r182 r183 r184 r185 r186 r187 r188 r189 r190 r191 r192 r193 r194 r195 r196 r197 r198 r199 r200 r201 r202 r203 r204 r205 r206 r207 r208 r209 r210 r211 r212 r213 r214 r215 r216 r217 r218 r219 r220 r221 r222 r223 r224 r225 r226 r227 r228 r229 r230 r231 r232 r233 r234 r235 r236 : Value) : Prop :=
  ∀ (j4 j10 j11 j12 j13 j70 j71 j72 j73 j74 j75 j76 j77 j78 j79 j80 j81 j82 j83 j84 j85 j86 j87 j88 j89 j90 j91 j92 j93 j94 j95 j96 j97 j98 j99 j100 j101 j102 j103 j104 j105 j106 j107 j108 j109 j110 j111 j112 j113 j114 j115 j116 j117 j118 j119 j120 j121 j122 j123 j124 j125 j126 j127 j128 j129 j130 j131 j132 j133 j134 j135 j136 j137 j138 j139 j140 j141 j142 j143 j144 j145 j146 j147 j148 j149 j150 j151 j152 j153 j154 j155 j156 j157 j158 j159 j160 j161 j162 j163 j164 j165 j166 j167 j168 : Value) (w' : World), CPB w b g bx n N i w' → K' { tmps := #[r0, r1, r2, r3, j4, .pointer (some ⟨b, 0, none⟩), r6, .pointer (some ⟨bx, 0, none⟩), r8, .slice (some ⟨b3, off3, none⟩) m c', j10, j11, j12, j13, r14, r15, r16, r17, r18, r19, r20, r21, r22, r23, r24, r25, r26, r27, r28, r29, r30, r31, r32, r33, r34, r35, r36, r37, r38, r39, r40, r41, r42, r43, r44, r45, r46, r47, r48, r49, r50, r51, r52, r53, r54, r55, r56, r57, r58, r59, r60, r61, r62, r63, r64, r65, r66, r67, r68, .int .i64 m, j70, j71, j72, j73, j74, j75, j76, j77, j78, j79, j80, j81, j82, j83, j84, j85, j86, j87, j88, j89, j90, j91, j92, j93, j94, j95, j96, j97, j98, j99, j100, j101, j102, j103, j104, j105, j106, j107, j108, j109, j110, j111, j112, j113, j114, j115, j116, j117, j118, j119, j120, j121, j122, j123, j124, j125, j126, j127, j128, j129, j130, j131, j132, j133, j134, j135, j136, j137, j138, j139, j140, j141, j142, j143, j144, j145, j146, j147, j148, j149, j150, j151, j152, j153, j154, j155, j156, j157, j158, j159, j160, j161, j162, j163, j164, j165, j166, j167, j168, r169, r170, r171, r172, r173, r174, r175, r176, r177, r178, r179, r180, r181, r182, r183, r184, r185, r186, r187, r188, r189, r190, r191, r192, r193, r194, r195, r196, r197, r198, r199, r200, r201, r202, r203, r204, r205, r206, r207, r208, r209, r210, r211, r212, r213, r214, r215, r216, r217, r218, r219, r220, r221, r222, r223, r224, r225, r226, r227, r228, r229, r230, r231, r232, r233, r234, r235, r236], defers := [] } w'
/-- No other way out. -/
def CpNoExit (_ : Exit) (_ : Act) (_ : World) : Prop := False
theorem cpNoExit_then {K : Act → World → Prop} {Q : Exit → Act → World → Prop} (e : Exit) (a : Act) (w : World) (h : Exit.then K CpNoExit e a w) : Exit.then K Q e a w := by
  cases e with
  | normal => exact h
  | exit id => exact (h : False).elim
  | goto l => exact (h : False).elim
  | ret => exact (h : False).elim
  | panic ch => exact (h : False).elim
  | outgrown => exact (h : False).elim
/-- The switch comes to its end, and the two go with each other there. -/
def CPGoal (w wr : World) (b g bx n N b3 off3 c' m i : Nat) (e x y : Int) (rest : List Int) : Prop :=
  ∀ (s : Cs) (gm cm gs cs gv cv : Nat) (K' : Act → World → Prop) (r0 r1 r2 r3 r4 r6 r8 r12 r13 r14 r15 r16 r17 r18 r19 r20 r21 r22 r23 r24 r25 r26 r27 r28 r29 r30 r31 r32 r33 r34 r35 r36 r37 r38 r39 r40 r41 r42 r43 r44 r45 r46 r47 r48 r49 r50 r51 r52 r53 r54 r55 r56 r57 r58 r59 r60 r61 r62 r63 r64 r65 r66 r67 r68 r70 r71 r72 r73 r74 r75 r76 r77 r78 r79 r80 r81 r82 r83 r84 r85 r86 r87 r88 r89 r90 r91 r92 r93 r94 r95 r96 r97 r98 r99 r100 r101 r102 r103 r104 r105 r106 r107 r108 r109 r110 r111 r112 r113 r114 r115 r116 r117 r118 r119 r120 r121 r122 r123 r124 r125 r126 r127 r128 r129 r130 r131 r132 r133 r134 r135 r136 r137 r138 r139 r140 r141 r142 r143 r144 r145 r146 r147 r148 r149 r150 r151 r152 r153 r154 r155 r156 r157 r158 r159 r160 r161 r162 r163 r164 r165 r166 r167 r168 r169 r170 r171 r172 r173 r174 r175 r176 r177 r178 r179 r180 r181 r182 r183 r184 r185 r186 r187 r188 r189 r190 r191 r192 r193 r194 r195 r196 r197 r198 r199 r200 r201 r202 r203 r204 r205 r206 r207 r208 r209 r210 r211 r212 r213 r214 r215 r216 r217 r218 r219 r220 r221 r222 r223 r224 r225 r226 r227 r228 r229 r230 r231 r232 r233 r234 r235 r236 : Value), CPIn w wr b g bx n N b3 off3 m i x y rest s gm cm gs cs gv cv →
    CPAfter K' w b g bx n N b3 off3 c' m i r0 r1 r2 r3 r4 r6 r8 r12 r13 r14 r15 r16 r17 r18 r19 r20 r21 r22 r23 r24 r25 r26 r27 r28 r29 r30 r31 r32 r33 r34 r35 r36 r37 r38 r39 r40 r41 r42 r43 r44 r45 r46 r47 r48 r49 r50 r51 r52 r53 r54 r55 r56 r57 r58 r59 r60 r61 r62 r63 r64 r65 r66 r67 r68 r70 r71 r72 r73 r74 r75 r76 r77 r78 r79 r80 r81 r82 r83 r84 r85 r86 r87 r88 r89 r90 r91 r92 r93 r94 r95 r96 r97 r98 r99 r100 r101 r102 r103 r104 r105 r106 r107 r108 r109 r110 r111 r112 r113 r114 r115 r116 r117 r118 r119 r120 r121 r122 r123 r124 r125 r126 r127 r128 r129 r130 r131 r132 r133 r134 r135 r136 r137 r138 r139 r140 r141 r142 r143 r144 r145 r146 r147 r148 r149 r150 r151 r152 r153 r154 r155 r156 r157 r158 r159 r160 r161 r162 r163 r164 r165 r166 r167 r168 r169 r170 r171 r172 r173 r174 r175 r176 r177 r178 r179 r180 r181 r182 r183 r184 r185 r186 r187 r188 r189 r190 r191 r192 r193 r194 r195 r196 r197 r198 r199 r200 r201 r202 r203 r204 r205 r206 r207 r208 r209 r210 r211 r212 r213 r214 r215 r216 r217 r218 r219 r220 r221 r222 r223 r224 r225 r226 r227 r228 r229 r230 r231 r232 r233 r234 r235 r236 →
    cpBlk.wp Tryd.prog (Exit.then K' CpNoExit) { tmps := #[r0, r1, r2, r3, r4, .pointer (some ⟨b, 0, none⟩), r6, .pointer (some ⟨bx, 0, none⟩), r8, .slice (some ⟨b3, off3, none⟩) m c', .int .i64 e, .int .i64 0, r12, r13, r14, r15, r16, r17, r18, r19, r20, r21, r22, r23, r24, r25, r26, r27, r28, r29, r30, r31, r32, r33, r34, r35, r36, r37, r38, r39, r40, r41, r42, r43, r44, r45, r46, r47, r48, r49, r50, r51, r52, r53, r54, r55, r56, r57, r58, r59, r60, r61, r62, r63, r64, r65, r66, r67, r68, .int .i64 m, r70, r71, r72, r73, r74, r75, r76, r77, r78, r79, r80, r81, r82, r83, r84, r85, r86, r87, r88, r89, r90, r91, r92, r93, r94, r95, r96, r97, r98, r99, r100, r101, r102, r103, r104, r105, r106, r107, r108, r109, r110, r111, r112, r113, r114, r115, r116, r117, r118, r119, r120, r121, r122, r123, r124, r125, r126, r127, r128, r129, r130, r131, r132, r133, r134, r135, r136, r137, r138, r139, r140, r141, r142, r143, r144, r145, r146, r147, r148, r149, r150, r151, r152, r153, r154, r155, r156, r157, r158, r159, r160, r161, r162, r163, r164, r165, r166, r167, r168, r169, r170, r171, r172, r173, r174, r175, r176, r177, r178, r179, r180, r181, r182, r183, r184, r185, r186, r187, r188, r189, r190, r191, r192, r193, r194, r195, r196, r197, r198, r199, r200, r201, r202, r203, r204, r205, r206, r207, r208, r209, r210, r211, r212, r213, r214, r215, r216, r217, r218, r219, r220, r221, r222, r223, r224, r225, r226, r227, r228, r229, r230, r231, r232, r233, r234, r235, r236], defers := [] } wr
end Go.Proofs.YtjnghpambjjlkaaDoor
