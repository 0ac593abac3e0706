/-
  BackPlays: the state, the switch (printed by wip/gen_backplays.py).
-/
import Derived.Test.YtgbccaplckiilaaDoorBackRefLaw
import Derived.Test.YtgbccaplckiilaaDoorIn
import Derived.Test.YtgbccaplckiilaaDoorErrIs
import Derived.Test.YtgbccaplckiilaaDoorSameInts
import Derived.Test.YtgbccaplckiilaaDoorLift
import Derived.Deep.RegionHeld3
import Derived.Deep.RegionWith
import Derived.Deep.DeepCutAuto
import Derived.Deep.CutBlock
set_option linter.unusedVariables false
namespace Go.Proofs.YtgbccaplckiilaaDoor
open Go.RowKit

/-- The program's cache (at s), and the reference's (at t) in the variable bx. -/
structure PBS (w0 wr : World) (b bx slots n : Nat) (v : Value) (s t : BSt) (aB aH aV aD : Option Addr) (cB cH cV cD : Nat) : Prop where
  bat : BAt wr b v slots s
  box : Blk wr bx 32 (dTop slots aB aH aV aD 8 n n n cB cH cV cD t.reads t.writes)
  inn : DIn wr aB aH aV aD 8 n n n cB cH cV cD t.disk (hdL t.fr) (vaL t.fr) (diL t.fr) t.reads t.writes
  hn : n = t.fr.length
  bel : Below w0.heap.size w0 wr
  hb : w0.heap.size ≤ b
  hbx : w0.heap.size ≤ bx
  hv : ∀ g, v.ownBlock = some g → w0.heap.size ≤ g
theorem oi_neq {w : World} {base g : Nat} {v u : Value} {l : List Int} {ba : Nat} {L : List Fr} (h : OwnInts w base v l) (hf : FAt w ba u L) (hu : u.ownBlock = some g) : v.ownBlock ≠ some g := by
  rcases hf.shape with ⟨rfl, _⟩ | ⟨g', cap, rest, rfl, _, _, _, hb, _⟩
  · simp [Value.ownBlock] at hu
  · simp [Value.ownBlock] at hu
    subst hu
    exact oi_ne h hb (by decide)
theorem oi_keepO {w w' : World} {b slots base : Nat} {v u : Value} {l : List Int} {s : BSt} (h : OwnInts w base u l) (hk : KeepO b v w w') (hb : BAt w b v slots s) : OwnInts w' base u l := by
  obtain ⟨F, hF, hx⟩ := hk
  refine h.keep fun g hg => hF.block g (World.ownsRow.lt h g hg).2 fun hm => ?_
  rcases hx g hm with e | e
  · subst e; exact oi_ne h hb.top (by decide) hg
  · exact oi_neq h hb.fr e.symm hg
section
variable {w0 wr w' : World} {b bx slots n : Nat} {v v' : Value} {s s' t t' : BSt} {aB aH aV aD : Option Addr} {cB cH cV cD : Nat}
theorem PBS.cells (q : PBS w0 wr b bx slots n v s t aB aH aV aD cB cH cV cD) : wr.cell? ⟨bx, 0, none⟩ = some (.int .i64 slots) ∧ wr.cell? ⟨bx, 1, none⟩ = some (.slice aB 8 cB) ∧ wr.cell? ⟨bx, 2, none⟩ = some (.slice aH n cH) ∧ wr.cell? ⟨bx, 3, none⟩ = some (.slice aV n cV) ∧ wr.cell? ⟨bx, 4, none⟩ = some (.slice aD n cD) ∧ wr.cell? ⟨bx, 5, none⟩ = some (.int .i64 t.reads) ∧ wr.cell? ⟨bx, 6, none⟩ = some (.int .i64 t.writes) ∧ wr.frozen? ⟨bx, 0, none⟩ = false ∧ wr.frozen? ⟨bx, 1, none⟩ = false ∧ wr.frozen? ⟨bx, 2, none⟩ = false ∧ wr.frozen? ⟨bx, 3, none⟩ = false ∧ wr.frozen? ⟨bx, 4, none⟩ = false ∧ wr.frozen? ⟨bx, 5, none⟩ = false ∧ wr.frozen? ⟨bx, 6, none⟩ = false :=
  ⟨q.box.cell_ (i := 0) rfl, q.box.cell_ (i := 1) rfl, q.box.cell_ (i := 2) rfl, q.box.cell_ (i := 3) rfl, q.box.cell_ (i := 4) rfl, q.box.cell_ (i := 5) rfl, q.box.cell_ (i := 6) rfl, q.box.free 0, q.box.free 1, q.box.free 2, q.box.free 3, q.box.free 4, q.box.free 5, q.box.free 6⟩
theorem PBS.keep0 (q : PBS w0 wr b bx slots n v s t aB aH aV aD cB cH cV cD) (hk : Keep [] wr w') : PBS w0 w' b bx slots n v s t aB aH aV aD cB cH cV cD :=
  ⟨⟨q.bat.top.keep hk (by simp), q.bat.dl, q.bat.fr.keepF hk (by simp)⟩, q.box.keep hk (by simp), q.inn.keep0 hk, q.hn, q.bel.trans (hk.below q.bel.size (by simp)), q.hb, q.hbx, q.hv⟩
theorem PBS.below (q : PBS w0 wr b bx slots n v s t aB aH aV aD cB cH cV cD) (hb : Below wr.heap.size wr w') : PBS w0 w' b bx slots n v s t aB aH aV aD cB cH cV cD := q.keep0 (Keep.of_below hb (Nat.le_refl _))
theorem PBS.nb (q : PBS w0 wr b bx slots n v s t aB aH aV aD cB cH cV cD) : b ≠ bx := q.bat.top.ne q.box (by decide)
theorem PBS.nv (q : PBS w0 wr b bx slots n v s t aB aH aV aD cB cH cV cD) : v.ownBlock ≠ some bx := by
  intro e
  rcases q.bat.fr.shape with ⟨rfl, _⟩ | ⟨g', cap, rest, rfl, _, _, _, hb, _⟩
  · simp [Value.ownBlock] at e
  · simp [Value.ownBlock] at e
    exact hb.ne q.box (by decide) e
theorem PBS.keepB (q : PBS w0 wr b bx slots n v s t aB aH aV aD cB cH cV cD) (hk : Keep [bx] wr w') : BAt w' b v slots s :=
  ⟨q.bat.top.keep hk (by simpa using q.nb), q.bat.dl, q.bat.fr.keepF hk (by simp; exact fun e => q.nv e.symm)⟩
theorem PBS.ref {n' : Nat} {aB' aH' aV' aD' : Option Addr} {cB' cH' cV' cD' : Nat} (q : PBS w0 wr b bx slots n v s t aB aH aV aD cB cH cV cD) (hc : DIn wr aB' aH' aV' aD' 8 n' n' n' cB' cH' cV' cD' t'.disk (hdL t'.fr) (vaL t'.fr) (diL t'.fr) t'.reads t'.writes) (hn : n' = t'.fr.length) :
    PBS w0 (set7 wr bx (.int .i64 slots) (.slice aB' 8 cB') (.slice aH' n' cH') (.slice aV' n' cV') (.slice aD' n' cD') (.int .i64 t'.reads) (.int .i64 t'.writes)) b bx slots n' v s t' aB' aH' aV' aD' cB' cH' cV' cD' :=
  have hk := keep7 wr bx (.int .i64 slots) (.slice aB' 8 cB') (.slice aH' n' cH') (.slice aV' n' cV') (.slice aD' n' cD') (.int .i64 t'.reads) (.int .i64 t'.writes)
  ⟨q.keepB hk, blk7 q.box _ _ _ _ _ _ _, hc.keep1 hk q.box (by decide), hn, q.bel.trans (hk.below q.bel.size (by have := q.hbx; simpa using this)), q.hb, q.hbx, q.hv⟩
theorem PBS.prog (q : PBS w0 wr b bx slots n v s t aB aH aV aD cB cH cV cD) (hk : KeepO b v wr w') (hc : BAt w' b v' slots s') (ho : OwnNew wr v v') : PBS w0 w' b bx slots n v' s' t aB aH aV aD cB cH cV cD :=
  ⟨hc, hk.blk q.box (fun e => q.nb e.symm) q.nv, { q.inn with B := oi_keepO q.inn.B hk q.bat, H := oi_keepO q.inn.H hk q.bat, V := oi_keepO q.inn.V hk q.bat, D := oi_keepO q.inn.D hk q.bat }, q.hn, q.bel.trans (hk.old q.bel.size q.hb q.hv), q.hb, q.hbx, fun g hg => by
    rcases ho g hg with e | e
    · exact q.hv g e
    · have := q.bel.size; omega⟩
theorem PBS.crash (q : PBS w0 wr b bx slots n v s t aB aH aV aD cB cH cV cD) (hk : Keep [b] wr w') (hc : BAt w' b (.slice none 0 0) slots s') : PBS w0 w' b bx slots n (.slice none 0 0) s' t aB aH aV aD cB cH cV cD :=
  ⟨hc, q.box.keep hk (by have := q.nb; simp; omega), q.inn.keep1 hk q.bat.top (by decide), q.hn, q.bel.trans (hk.below q.bel.size (by have := q.hb; simpa using this)), q.hb, q.hbx, fun g hg => by simp [Value.ownBlock] at hg⟩
end
theorem bs0_inv' (slots : Nat) : BInv slots bs0 (List.replicate 8 0) 0 0 where
  dl := rfl
  ll := rfl
  le := by simp [bs0]
  rng := by simp [bs0]
  nd := by simp [bs0]
  val := by simp [bs0]
  cln := by simp [bs0]
  out := fun b hb _ => rfl
  rd0 := by simp [bs0]
  rd := by simp [bs0]
  wr0 := by simp [bs0]
  wr := by simp [bs0]
/-- What holds of the cache after so many steps. -/
def BI (slots : Nat) (s : BSt) (j : Nat) : Prop := ∃ last, BInv slots s last j j
theorem BI.mono {slots j : Nat} {s : BSt} (h : BI slots s j) : BI slots s (j + 1) := by obtain ⟨l, h⟩ := h; exact ⟨l, h.mono (by omega) (by omega)⟩
theorem BI.read {slots j : Nat} {s : BSt} (h : BI slots s j) (h1 : 1 ≤ slots) {k : Nat} (hk : (k : Int) ≤ 7) : BI slots (useB slots s k true) (j + 1) := by
  obtain ⟨l, h⟩ := h; exact ⟨l, (h.read h1 (by omega) hk).1.mono (by omega) (by omega)⟩
theorem BI.write {slots j : Nat} {s : BSt} (h : BI slots s j) (h1 : 1 ≤ slots) {k : Nat} (hk : (k : Int) ≤ 7) (x : Int) : BI slots (putB (useB slots s k false) x) (j + 1) := by
  obtain ⟨l, h⟩ := h; exact ⟨_, (h.write h1 x (by omega) hk).mono (by omega) (by omega)⟩
theorem BI.flush {slots j : Nat} {s : BSt} (h : BI slots s j) : BI slots (flushB s) (j + 1) := by
  obtain ⟨l, h⟩ := h; exact ⟨l, h.flush.1.mono (by omega) (by omega)⟩
theorem BI.crash {slots j : Nat} {s : BSt} (h : BI slots s j) : BI slots (crashB s) (j + 1) := by
  obtain ⟨l, h⟩ := h
  exact ⟨s.disk, { dl := h.dl, ll := h.dl, le := Nat.zero_le _, rng := by simp [crashB], nd := by simp [crashB], val := by simp [crashB], cln := by simp [crashB], out := fun _ _ _ => rfl, rd0 := h.rd0, rd := by have := h.rd; show s.reads ≤ _; omega, wr0 := h.wr0, wr := by have := h.wr; show s.writes + _ ≤ _; simp [crashB]; omega }⟩
theorem BI.bd {slots j : Nat} {s : BSt} (h : BI slots s j) (hj : j ≤ 100) : s.fr.length ≤ slots ∧ (∀ x ∈ s.fr, 0 ≤ x.1 ∧ x.1 ≤ 7) ∧ 0 ≤ s.reads ∧ s.reads ≤ 1000 ∧ 0 ≤ s.writes ∧ s.writes ≤ 1000 ∧ s.disk.length = 8 := by
  obtain ⟨l, h⟩ := h
  have h1 := h.rd; have h2 := h.wr
  exact ⟨h.le, h.rng, h.rd0, by omega, h.wr0, by omega, h.dl⟩

/-- The block of that number in a function's text. -/
def findBlock (id : Nat) : Code → Option Code
  | .block i c => if i = id then some (.block i c) else findBlock id c
  | .seq a b => match findBlock id a with | some c => some c | none => findBlock id b
  | .cond _ a b => match findBlock id a with | some c => some c | none => findBlock id b
  | .loop b => findBlock id b
  | _ => none
/-- The switch of the round. -/
noncomputable def bpBlk : Code := match Tryd.f3.body with | some c => (match findBlock 2 c with | some d => d | none => .skip) | none => .skip
def BPB (w : World) (b bx slots j : Nat) (wx : World) : Prop := ∃ (s2 : BSt) (v2 : Value) (n2 : Nat) (aB aH aV aD : Option Addr) (cB cH cV cD : Nat), PBS w wx b bx slots n2 v2 s2 s2 aB aH aV aD cB cH cV cD ∧ BI slots s2 (j + 1)
/-- What a round's switch starts from. -/
structure BPIn (w wr : World) (b bx slots n j : Nat) (v : Value) (s : BSt) (a3 : Option Addr) (l : List Int) (aB aH aV aD : Option Addr) (cB cH cV cD : Nat) : Prop where
  ps : PBS w wr b bx slots n v s s aB aH aV aD cB cH cV cD
  inv : BI slots s j
  row : IntsIn w w.heap.size a3 l
  hh : Handle w
  h1 : 1 ≤ slots
  h8 : slots ≤ 8
  hj : j ≤ 100
/-- What follows the switch. -/
def BPAfter (K' : Act → World → Prop) (w : World) (b bx slots j : Nat) (a3 : Option Addr) (m c' : Nat) (r0 r1 r2 r3 r4 r6 r8 r11 r12 r13 r14 r15 r16 r17 r18 r19 r20 r21 r22 r23 r24 r25 r26 r27 r28 r29 r30 r31 r32 r33 r34 r35 r36 r37 r38 r39 r40 r41 r42 r43 r44 r45 r46 r47 r49 r50 r51 r52 r53 r54 r55 r56 r57 r58 r59 r60 r61 r62 r63 r64 r65 r66 r67 r68 r69 r70 r71 r72 r73 r74 r75 r76 r77 r78 r79 r80 r81 r82 r83 r84 r85 r86 r87 r88 r89 r90 r91 r92 r93 r94 r95 r96 r97 r98 r99 r100 r101 r102 r103 r104 r105 r106 r107 r108 r109 r110 r111 r112 r113 r114 r115 r116 r117 r118 r119 r120 r121 r122 r123 r124 r125 r126 r127 r128 r129 r130 r131 r132 r133 r134 r135 r136 r137 r138 r139 r140 r141 r142 r143 r144 r145 r146 r147 r148 r149 r150 r151 r152 r153 r154 r155 r156 r157 r158 r159 r160 r161 r162 r163 r164 r165 r166 r167 r168 r169 r170 r171 r172 r173 r174 r175 r176 r177 r178 r179 r180 r181 r182 r183 r184 r185 : Value) : Prop :=
  ∀ (j10 j11 j12 j13 j49 j50 j51 j52 j53 j54 j55 j56 j57 j58 j59 j60 j61 j62 j63 j64 j65 j66 j67 j68 j69 j70 j71 j72 j73 j74 j75 j76 j77 j78 j79 j80 j81 j82 j83 j84 j85 j86 j87 j88 j89 j90 j91 j92 j93 j94 j95 j96 j97 j98 j99 j100 j101 j102 j103 j104 j105 j106 j107 j108 j109 j110 j111 j112 j113 j114 j115 j116 j117 j118 j119 j120 j121 j122 j123 j124 j125 j126 j127 j128 : Value) (w' : World), BPB w b bx slots j w' → K' { tmps := #[r0, r1, r2, r3, r4, .pointer (some ⟨b, 0, none⟩), r6, .pointer (some ⟨bx, 0, none⟩), r8, .slice a3 m c', j10, j11, j12, j13, r14, r15, r16, r17, r18, r19, r20, r21, r22, r23, r24, r25, r26, r27, r28, r29, r30, r31, r32, r33, r34, r35, r36, r37, r38, r39, r40, r41, r42, r43, r44, r45, r46, r47, .int .i64 (m : Nat), j49, j50, j51, j52, j53, j54, j55, j56, j57, j58, j59, j60, j61, j62, j63, j64, j65, j66, j67, j68, j69, j70, j71, j72, j73, j74, j75, j76, j77, j78, j79, j80, j81, j82, j83, j84, j85, j86, j87, j88, j89, j90, j91, j92, j93, j94, j95, j96, j97, j98, j99, j100, j101, j102, j103, j104, j105, j106, j107, j108, j109, j110, j111, j112, j113, j114, j115, j116, j117, j118, j119, j120, j121, j122, j123, j124, j125, j126, j127, j128, r129, r130, r131, r132, r133, r134, r135, r136, r137, r138, r139, r140, r141, r142, r143, r144, r145, r146, r147, r148, r149, r150, r151, r152, r153, r154, r155, r156, r157, r158, r159, r160, r161, r162, r163, r164, r165, r166, r167, r168, r169, r170, r171, r172, r173, r174, r175, r176, r177, r178, r179, r180, r181, r182, r183, r184, r185], defers := [] } w'
/-- No other way out. -/
def NoExit (_ : Exit) (_ : Act) (_ : World) : Prop := False
theorem noExit_then {K : Act → World → Prop} {Q : Exit → Act → World → Prop} (e : Exit) (a : Act) (w : World) (h : Exit.then K NoExit e a w) : Exit.then K Q e a w := by
  cases e with
  | normal => exact h
  | exit id => exact (h : False).elim
  | goto l => exact (h : False).elim
  | ret => exact (h : False).elim
  | panic ch => exact (h : False).elim
  | outgrown => exact (h : False).elim
/-- The switch comes to its end, and the two go with each other there. -/
def BPGoal (w wr : World) (b bx slots j : Nat) (a3 : Option Addr) (m c' : Nat) (l : List Int) : Prop :=
  ∀ (n : Nat) (v : Value) (s : BSt) (aB aH aV aD : Option Addr) (cB cH cV cD : Nat) (K' : Act → World → Prop) (r0 r1 r2 r3 r4 r6 r8 r11 r12 r13 r14 r15 r16 r17 r18 r19 r20 r21 r22 r23 r24 r25 r26 r27 r28 r29 r30 r31 r32 r33 r34 r35 r36 r37 r38 r39 r40 r41 r42 r43 r44 r45 r46 r47 r49 r50 r51 r52 r53 r54 r55 r56 r57 r58 r59 r60 r61 r62 r63 r64 r65 r66 r67 r68 r69 r70 r71 r72 r73 r74 r75 r76 r77 r78 r79 r80 r81 r82 r83 r84 r85 r86 r87 r88 r89 r90 r91 r92 r93 r94 r95 r96 r97 r98 r99 r100 r101 r102 r103 r104 r105 r106 r107 r108 r109 r110 r111 r112 r113 r114 r115 r116 r117 r118 r119 r120 r121 r122 r123 r124 r125 r126 r127 r128 r129 r130 r131 r132 r133 r134 r135 r136 r137 r138 r139 r140 r141 r142 r143 r144 r145 r146 r147 r148 r149 r150 r151 r152 r153 r154 r155 r156 r157 r158 r159 r160 r161 r162 r163 r164 r165 r166 r167 r168 r169 r170 r171 r172 r173 r174 r175 r176 r177 r178 r179 r180 r181 r182 r183 r184 r185 : Value), BPIn w wr b bx slots n j v s a3 l aB aH aV aD cB cH cV cD →
    BPAfter K' w b bx slots j a3 m c' r0 r1 r2 r3 r4 r6 r8 r11 r12 r13 r14 r15 r16 r17 r18 r19 r20 r21 r22 r23 r24 r25 r26 r27 r28 r29 r30 r31 r32 r33 r34 r35 r36 r37 r38 r39 r40 r41 r42 r43 r44 r45 r46 r47 r49 r50 r51 r52 r53 r54 r55 r56 r57 r58 r59 r60 r61 r62 r63 r64 r65 r66 r67 r68 r69 r70 r71 r72 r73 r74 r75 r76 r77 r78 r79 r80 r81 r82 r83 r84 r85 r86 r87 r88 r89 r90 r91 r92 r93 r94 r95 r96 r97 r98 r99 r100 r101 r102 r103 r104 r105 r106 r107 r108 r109 r110 r111 r112 r113 r114 r115 r116 r117 r118 r119 r120 r121 r122 r123 r124 r125 r126 r127 r128 r129 r130 r131 r132 r133 r134 r135 r136 r137 r138 r139 r140 r141 r142 r143 r144 r145 r146 r147 r148 r149 r150 r151 r152 r153 r154 r155 r156 r157 r158 r159 r160 r161 r162 r163 r164 r165 r166 r167 r168 r169 r170 r171 r172 r173 r174 r175 r176 r177 r178 r179 r180 r181 r182 r183 r184 r185 →
    bpBlk.wp Tryd.prog (Exit.then K' NoExit) { tmps := #[r0, r1, r2, r3, r4, .pointer (some ⟨b, 0, none⟩), r6, .pointer (some ⟨bx, 0, none⟩), r8, .slice a3 m c', .int .i64 0, r11, r12, r13, r14, r15, r16, r17, r18, r19, r20, r21, r22, r23, r24, r25, r26, r27, r28, r29, r30, r31, r32, r33, r34, r35, r36, r37, r38, r39, r40, r41, r42, r43, r44, r45, r46, r47, .int .i64 (m : Nat), r49, r50, r51, r52, r53, r54, r55, r56, r57, r58, r59, r60, r61, r62, r63, r64, r65, r66, r67, r68, r69, r70, r71, r72, r73, r74, r75, r76, r77, r78, r79, r80, r81, r82, r83, r84, r85, r86, r87, r88, r89, r90, r91, r92, r93, r94, r95, r96, r97, r98, r99, r100, r101, r102, r103, r104, r105, r106, r107, r108, r109, r110, r111, r112, r113, r114, r115, r116, r117, r118, r119, r120, r121, r122, r123, r124, r125, r126, r127, r128, r129, r130, r131, r132, r133, r134, r135, r136, r137, r138, r139, r140, r141, r142, r143, r144, r145, r146, r147, r148, r149, r150, r151, r152, r153, r154, r155, r156, r157, r158, r159, r160, r161, r162, r163, r164, r165, r166, r167, r168, r169, r170, r171, r172, r173, r174, r175, r176, r177, r178, r179, r180, r181, r182, r183, r184, r185], defers := [] } wr
end Go.Proofs.YtgbccaplckiilaaDoor
