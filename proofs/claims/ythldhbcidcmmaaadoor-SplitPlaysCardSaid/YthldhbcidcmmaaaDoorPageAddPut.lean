/-
  AddPage: its fourth loop (printed by wip/gen_pageadd.py).
-/
import Derived.Test.YthldhbcidcmmaaaDoorPageAddMine
import Derived.Test.YthldhbcidcmmaaaDoorRefPut0
namespace Go.Proofs.YthldhbcidcmmaaaDoor
open Go.RowKit
set_option linter.unusedVariables false

structure PL (w5 wr : World) (S : List Int) (deep : Nat → Nat) (j : Nat) (vk : Value) (vals : List Value) : Prop where
  k : OwnV wr w5.heap.size vk vals
  r : ValsOf wr vals (keysL j S deep)
  bel : Below w5.heap.size w5 wr
section
variable {w5 wr w2 : World} {S : List Int} {deep : Nat → Nat} {j : Nat} {vk vk' v : Value} {vals : List Value} {o : Obj}
theorem PL.start (w5 : World) (S : List Int) (deep : Nat → Nat) : PL w5 w5 S deep 0 (.slice none 0 0) [] := ⟨World.ownsRow_nil _ _ _ _, ValsOf.nil _, Below.refl _ _⟩
theorem PL.below (h : PL w5 wr S deep j vk vals) (hb : Below wr.heap.size wr w2) : PL w5 w2 S deep j vk vals :=
  ⟨h.k.keep fun g hg => hb.block g (World.ownsRow.lt h.k g hg).2, h.r.bel hb, h.bel.trans (hb.mono h.bel.size)⟩
theorem PL.len (h : PL w5 wr S deep j vk vals) : vals.length = j := by rw [h.r.1, keysL_len]
theorem PL.step (h : PL w5 wr S deep j vk vals) (hv : OwnInts wr 0 v (cls S j (deep j))) (hown : OwnV w2 w5.heap.size vk' (vals ++ [v])) (hgrow : (wr.alloc o).grownBy w2 vk.ownBlock) : PL w5 w2 S deep (j + 1) vk' (vals ++ [v]) := by
  have hk : ∀ g, g < wr.heap.size → some g ≠ vk.ownBlock → w2.heap[g]? = wr.heap[g]? := fun g hg hne => (hgrow.block g (by simp; omega) hne).trans (Below.heap_alloc _ _ g hg)
  have hkI : ∀ {b : Nat} {u : Value} {l : List Int}, OwnInts wr b u l → OwnInts w2 b u l := fun {b u l} hu => hu.keep fun g hg => by
    obtain ⟨cs, hcs⟩ := own_block hu hg
    exact hk g hcs.lt (fun e2 => by
      obtain ⟨ds, hds⟩ := ownv_block h.k e2.symm
      exact hcs.ne hds (by decide) rfl)
  refine ⟨hown, ?_, (h.bel.alloc h.bel.size _).grown hgrow (by have := h.bel.size; simp; omega) (fun y hy => (World.ownsRow.lt h.k y hy).1)⟩
  rw [keysL_succ]
  refine ValsOf.snoc ⟨h.r.1, fun i xs hx => ?_⟩ (hkI hv)
  obtain ⟨u, h1, h2⟩ := h.r.2 i xs hx
  exact ⟨u, h1, hkI h2⟩
end
def PLRel (P : Nat → Prop) (w5 : World) (S : List Int) (deep : Nat → Nat) (n : Nat) (vk i : Value) (wr : World) : Prop := ∃ j vals, j ≤ n ∧ i = .int .i64 j ∧ PL w5 wr S deep j vk vals ∧ AllP P vals
structure PutIn (P : Nat → Prop) (w5 : World) (B : Nat) (S : List Int) (k e1 E i1 n : Nat) (deep : Nat → Nat) (bD cD bK cK D : Nat) : Prop where
  up : Up S
  nin : ¬ (k : Int) ∈ S
  ee : 2 ^ e1 = E
  e6 : e1 ≤ 6
  n64 : n ≤ 64
  i64 : i1 ≤ 64
  rk : i1 % E = k % E
  dk : e1 = deep k
  same : ∀ i j : Nat, ((i : Int) % 2 ^ deep j = (j : Int) % 2 ^ deep j) → deep i = deep j
  few : ∀ i : Nat, (cls S i (deep i)).length ≤ 3
  at_ : ∀ i, i < n → ∃ a m c, (cls S i (deep i)).length = m ∧ (∀ x, (Value.slice a m c).ownBlock = some x → x < w5.heap.size ∧ P x) ∧ ∀ w', Below w5.heap.size w5 w' → (w'.cell? ⟨B, 0, none⟩ = some (.int .i64 D) ∧ w'.cell? ⟨B, 1, none⟩ = some (.slice (some ⟨bD, 0, none⟩) n cD) ∧ w'.cell? ⟨B, 2, none⟩ = some (.slice (some ⟨bK, 0, none⟩) n cK) ∧ w'.cell? ⟨bD, i, none⟩ = some (.int .i64 (deep i)) ∧ w'.cell? ⟨bK, i, none⟩ = some (.slice a m c)) ∧ OwnInts w' 0 (.slice a m c) (cls S i (deep i)) ∧ IntsIn w' w'.heap.size a (cls S i (deep i))
  hP : ∀ x, w5.heap.size ≤ x → P x
  p0 : ∀ w', Below w5.heap.size w5 w' → w'.cell? ⟨B, 2, none⟩ = some (.slice (some ⟨bK, 0, none⟩) n cK)
def PutAfter (P : Nat → Prop) (K' : Act → World → Prop) (w5 : World) (B : Nat) (S : List Int) (k e1 i1 n : Nat) (deep : Nat → Nat) (r0 r3 r4 r5 r6 r7 r8 r9 r10 r11 r12 r13 r14 r15 r16 r21 r22 r23 r24 r25 r26 r27 r28 r29 r30 r31 r32 r33 r34 r35 r36 r37 r38 r39 r40 r41 r42 r43 r44 r45 r46 r47 r48 r49 r50 r51 r52 r53 r54 r55 r56 r57 r58 r59 r60 r61 r62 r63 r64 r65 r66 r67 r68 r69 r70 r71 r72 r73 r74 r75 r76 r77 r78 r79 r80 r81 r82 r83 r84 r85 r86 r87 r88 r89 r90 r91 r92 r93 r94 r95 r96 r97 r98 r99 r100 r101 r102 r103 r104 r105 r106 r107 r108 r109 r110 r111 r112 r113 r114 r115 r116 r117 r118 r119 r120 r121 r122 r123 r124 r125 r126 r127 r128 r129 r130 r131 r132 r133 r134 r135 r136 r137 r138 r139 r140 r141 r142 r143 r144 r145 r146 r147 r148 r149 r150 r151 r152 r153 r154 r155 r156 r157 r158 r159 r160 r161 r162 r163 r164 r165 r166 r167 r168 r169 r170 r171 r172 r173 r174 r175 r176 r177 r178 r179 r180 r181 r182 r183 r184 r185 r186 r187 r188 r189 r190 r191 r192 r193 r194 r195 r196 r197 r198 r199 r200 r201 r202 r203 r204 r205 r206 r207 r208 r209 r210 r211 r212 r213 r214 r215 r216 r217 r218 r219 r220 r221 r222 : Value) : Prop :=
  ∀ (j19 j20 j185 j186 j187 j188 j189 j190 j191 j192 j193 j194 j195 j196 j197 j198 j199 j200 j201 j202 j203 j204 j205 j206 j207 j208 j209 j210 j211 j212 j213 j214 j215 j216 j217 j218 j219 : Value) (w' : World), (∃ vs, PL w5 w' (insK k S) deep n j19 vs ∧ AllP P vs) → K' { tmps := #[r0, .int .i64 k, .pointer (some ⟨B, 0, none⟩), r3, r4, r5, r6, r7, r8, r9, r10, r11, r12, r13, r14, r15, r16, .int .i64 i1, .int .i64 e1, j19, j20, r21, r22, r23, r24, r25, r26, r27, r28, r29, r30, r31, r32, r33, r34, r35, r36, r37, r38, r39, r40, r41, r42, r43, r44, r45, r46, r47, r48, r49, r50, r51, r52, r53, r54, r55, r56, r57, r58, r59, r60, r61, r62, r63, r64, r65, r66, r67, r68, r69, r70, r71, r72, r73, r74, r75, r76, r77, r78, r79, r80, r81, r82, r83, r84, r85, r86, r87, r88, r89, r90, r91, r92, r93, r94, r95, r96, r97, r98, r99, r100, r101, r102, r103, r104, r105, r106, r107, r108, r109, r110, r111, r112, r113, r114, r115, r116, r117, r118, r119, r120, r121, r122, r123, r124, r125, r126, r127, r128, r129, r130, r131, r132, r133, r134, r135, r136, r137, r138, r139, r140, r141, r142, r143, r144, r145, r146, r147, r148, r149, r150, r151, r152, r153, r154, r155, r156, r157, r158, r159, r160, r161, r162, r163, r164, r165, r166, r167, r168, r169, r170, r171, r172, r173, r174, r175, r176, r177, r178, r179, r180, r181, r182, r183, r184, j185, j186, j187, j188, j189, j190, j191, j192, j193, j194, j195, j196, j197, j198, j199, j200, j201, j202, j203, j204, j205, j206, j207, j208, j209, j210, j211, j212, j213, j214, j215, j216, j217, j218, j219, r220, r221, r222], defers := [] } w'
set_option maxHeartbeats 8000000 in
set_option maxRecDepth 1000000 in
theorem pa_put (P : Nat → Prop) (w5 : World) (B : Nat) (S : List Int) (k e1 E i1 n : Nat) (deep : Nat → Nat) (bD cD bK cK D : Nat) (K' : Act → World → Prop) (r0 r3 r4 r5 r6 r7 r8 r9 r10 r11 r12 r13 r14 r15 r16 r21 r22 r23 r24 r25 r26 r27 r28 r29 r30 r31 r32 r33 r34 r35 r36 r37 r38 r39 r40 r41 r42 r43 r44 r45 r46 r47 r48 r49 r50 r51 r52 r53 r54 r55 r56 r57 r58 r59 r60 r61 r62 r63 r64 r65 r66 r67 r68 r69 r70 r71 r72 r73 r74 r75 r76 r77 r78 r79 r80 r81 r82 r83 r84 r85 r86 r87 r88 r89 r90 r91 r92 r93 r94 r95 r96 r97 r98 r99 r100 r101 r102 r103 r104 r105 r106 r107 r108 r109 r110 r111 r112 r113 r114 r115 r116 r117 r118 r119 r120 r121 r122 r123 r124 r125 r126 r127 r128 r129 r130 r131 r132 r133 r134 r135 r136 r137 r138 r139 r140 r141 r142 r143 r144 r145 r146 r147 r148 r149 r150 r151 r152 r153 r154 r155 r156 r157 r158 r159 r160 r161 r162 r163 r164 r165 r166 r167 r168 r169 r170 r171 r172 r173 r174 r175 r176 r177 r178 r179 r180 r181 r182 r183 r184 r185 r186 r187 r188 r189 r190 r191 r192 r193 r194 r195 r196 r197 r198 r199 r200 r201 r202 r203 r204 r205 r206 r207 r208 r209 r210 r211 r212 r213 r214 r215 r216 r217 r218 r219 r220 r221 r222 : Value) (hin : PutIn P w5 B S k e1 E i1 n deep bD cD bK cK D) (haf : PutAfter P K' w5 B S k e1 i1 n deep r0 r3 r4 r5 r6 r7 r8 r9 r10 r11 r12 r13 r14 r15 r16 r21 r22 r23 r24 r25 r26 r27 r28 r29 r30 r31 r32 r33 r34 r35 r36 r37 r38 r39 r40 r41 r42 r43 r44 r45 r46 r47 r48 r49 r50 r51 r52 r53 r54 r55 r56 r57 r58 r59 r60 r61 r62 r63 r64 r65 r66 r67 r68 r69 r70 r71 r72 r73 r74 r75 r76 r77 r78 r79 r80 r81 r82 r83 r84 r85 r86 r87 r88 r89 r90 r91 r92 r93 r94 r95 r96 r97 r98 r99 r100 r101 r102 r103 r104 r105 r106 r107 r108 r109 r110 r111 r112 r113 r114 r115 r116 r117 r118 r119 r120 r121 r122 r123 r124 r125 r126 r127 r128 r129 r130 r131 r132 r133 r134 r135 r136 r137 r138 r139 r140 r141 r142 r143 r144 r145 r146 r147 r148 r149 r150 r151 r152 r153 r154 r155 r156 r157 r158 r159 r160 r161 r162 r163 r164 r165 r166 r167 r168 r169 r170 r171 r172 r173 r174 r175 r176 r177 r178 r179 r180 r181 r182 r183 r184 r185 r186 r187 r188 r189 r190 r191 r192 r193 r194 r195 r196 r197 r198 r199 r200 r201 r202 r203 r204 r205 r206 r207 r208 r209 r210 r211 r212 r213 r214 r215 r216 r217 r218 r219 r220 r221 r222) :
    (paBlk 6).wp Tryd.prog (Exit.then K' NoExit) { tmps := #[r0, .int .i64 k, .pointer (some ⟨B, 0, none⟩), r3, r4, r5, r6, r7, r8, r9, r10, r11, r12, r13, r14, r15, r16, .int .i64 i1, .int .i64 e1, .slice none 0 0, .int .i64 0, r21, r22, r23, r24, r25, r26, r27, r28, r29, r30, r31, r32, r33, r34, r35, r36, r37, r38, r39, r40, r41, r42, r43, r44, r45, r46, r47, r48, r49, r50, r51, r52, r53, r54, r55, r56, r57, r58, r59, r60, r61, r62, r63, r64, r65, r66, r67, r68, r69, r70, r71, r72, r73, r74, r75, r76, r77, r78, r79, r80, r81, r82, r83, r84, r85, r86, r87, r88, r89, r90, r91, r92, r93, r94, r95, r96, r97, r98, r99, r100, r101, r102, r103, r104, r105, r106, r107, r108, r109, r110, r111, r112, r113, r114, r115, r116, r117, r118, r119, r120, r121, r122, r123, r124, r125, r126, r127, r128, r129, r130, r131, r132, r133, r134, r135, r136, r137, r138, r139, r140, r141, r142, r143, r144, r145, r146, r147, r148, r149, r150, r151, r152, r153, r154, r155, r156, r157, r158, r159, r160, r161, r162, r163, r164, r165, r166, r167, r168, r169, r170, r171, r172, r173, r174, r175, r176, r177, r178, r179, r180, r181, r182, r183, r184, r185, r186, r187, r188, r189, r190, r191, r192, r193, r194, r195, r196, r197, r198, r199, r200, r201, r202, r203, r204, r205, r206, r207, r208, r209, r210, r211, r212, r213, r214, r215, r216, r217, r218, r219, r220, r221, r222], defers := [] } w5 := by
  have HAF := Lib.hid haf; have HI := Lib.hid hin
  have he6 := hin.e6
  have hn64 := hin.n64
  have hi64 := hin.i64
  have HEE := Lib.hid hin.ee
  have hE64 : E ≤ 64 := by rw [← hin.ee]; exact Nat.pow_le_pow_right (n := 2) (by decide) he6
  have hE0 : 0 < E := by rw [← hin.ee]; exact Nat.pow_pos (by decide)
  have hE1i : (1 : Int) ≤ (E : Int) := by omega
  have hE0i : (0 : Int) < (E : Int) := by omega
  have hEnz : ¬ (E : Int) = 0 := by omega
  obtain ⟨q1, hq1⟩ : ∃ q1, q1 = i1 % E := ⟨_, rfl⟩
  have HR1 := Lib.hid hq1
  have hrm := div_facts i1 E
  rw [← hq1] at hrm
  obtain ⟨_, _, hr1a, hr1b⟩ := hrm
  clear hin haf hq1
  obtain ⟨ir, hir, hzr0, hzr1, hzr2⟩ := info_parts info_rows0
  conv => arg 2; whnf
  go_wp2
  go_loopw [19, 20] (fun vk i wr => PLRel P w5 (insK k S) deep n vk i wr) (fun _ i _ => n - (intOf i).toNat)
  case atStart => exact ⟨0, [], by omega, rfl, PL.start _ _ _, by simp [AllP]⟩
  case round =>
    obtain ⟨j, vs, hj, rfl, hsl, hap⟩ := hrel
    have HAP := Lib.hid hap
    clear hap
    by_cases hlt : j < n
    · obtain ⟨aj, mj, cj, hmj, hown0, hfj⟩ := HI.out.at_ j hlt
      obtain ⟨⟨x0, x1, x2, zd, zk⟩, hoj, _⟩ := hfj _ hsl.bel
      have hji : (j : Int) < (n : Int) := by omega
      have hj0 : (0 : Int) ≤ (j : Int) := by omega
      have hmj3 : mj ≤ 3 := by rw [← hmj]; exact HI.out.few j
      obtain ⟨rj, hrj⟩ : ∃ rj, rj = j % E := ⟨_, rfl⟩
      have hdm := div_facts j E
      rw [← hrj] at hdm
      obtain ⟨_, _, hrja, hrjb⟩ := hdm
      have HRJ := Lib.hid hrj; have HFJ := Lib.hid hfj; have HMJ := Lib.hid hmj; have HVL := Lib.hid hsl.len; have HOW0 := Lib.hid hown0
      have HQ2 : Hid (∀ q, PL w5 (wr.drewN q) (insK k S) deep j _ vs) := Lib.hid fun q => hsl.below (((Keep.refl [] wr).drewN q).below (Nat.le_refl _) (by simp))
      clear hsl hoj hrj hfj hmj hown0 zd
      by_cases hcl : rj = q1
      · have hclb : (((rj : Nat) : Int) == ((q1 : Nat) : Int)) = true := by rw [hcl]; simp
        have hcc : (j : Int) % 2 ^ e1 = (k : Int) % 2 ^ e1 := by rw [cast_mod, HEE.out, ← HRJ.out, hcl, HR1.out, HI.out.rk]
        have hdj : deep j = e1 := by rw [HI.out.dk]; exact HI.out.same j k (by rw [← HI.out.dk]; exact hcc)
        have HINS : Hid (cls (insK k S) j (deep j) = insK k (cls S j (deep j))) := Lib.hid (by rw [cls_ins HI.out.up HI.out.nin, if_pos (by rw [hdj]; exact hcc.symm)])
        clear hcl hcc hdj
        go_wp2
        go_quiet ((go_at_call 42; exact quiet_eq (pow2_is e1 E _ (by omega) HEE.out)))
        go_upto_region 44 with fail
        have hsq := HQ2.out nq
        clear HQ2 x0 x1 x2 zk
        generalize wr.drewN nq = w9 at hsq ⊢
        have HS9 := Lib.hid hsq
        have hs9 := hsq.bel.size
        obtain ⟨⟨x0, x1, x2, _, zk⟩, hoj, _⟩ := HFJ.out _ hsq.bel
        obtain ⟨L, hL⟩ : ∃ L, L = cls S j (deep j) := ⟨_, rfl⟩
        have HLU : Hid (Up L) := Lib.hid (by rw [hL]; exact HI.out.up.filter _)
        have HLN : Hid (¬ (k : Int) ∈ L) := Lib.hid (by rw [hL]; exact fun h => HI.out.nin (mem_cls.1 h).1)
        have HLL : Hid (L.length = mj) := Lib.hid (by rw [hL]; exact HMJ.out)
        rw [← hL] at hoj
        have HOJ := Lib.hid hoj
        have HIL : Hid (cls (insK k S) j (deep j) = insK k L) := Lib.hid (by rw [HINS.out, hL])
        have HND : Hid (((k : Int) :: L).Nodup) := Lib.hid (List.nodup_cons.2 ⟨HLN.out, HLU.out.imp fun h => Int.ne_of_lt h⟩)
        clear hsq hoj hL
        go_wp2_with (first
          | (go_at_call 44; refine (rPut0 _ 0 (k : Int) L _ HOJ.out (by rw [HLL.out]; omega)).mono ?_; rintro e w10 ⟨v4, rfl, hv4, hb4⟩; obtain ⟨a4, c4, e4, hin4⟩ := hv4.shape; obtain ⟨n4, hn4⟩ : ∃ n4, n4 = ((k : Int) :: L).length := ⟨_, rfl⟩; rw [← hn4] at e4; subst e4; have hn44 : n4 ≤ 4 := (by rw [hn4, List.length_cons, HLL.out]; omega); have HN4 := Lib.hid hn4.symm; have HIN4 := Lib.hid hin4; have HS10 := Lib.hid (HS9.out.below hb4); clear hv4 hn4 hin4 hb4)
          | (go_at_call 43; refine (rising_any _ _ _ _ _ HN4.out HIN4.out HND.out (by omega)).mono ?_; rintro e w11 ⟨v5, r5, rfl, hv5, hp5, hu5, hb5⟩; obtain rfl := rise_ins HLU.out HLN.out hp5 hu5; rw [← HIL.out] at hv5; obtain ⟨a5, c5, e5, _⟩ := hv5.shape; obtain ⟨n5, hn5⟩ : ∃ n5, n5 = (cls (insK k S) j (deep j)).length := ⟨_, rfl⟩; rw [← hn5] at e5; subst e5; have HPV : Hid (∀ x, (Value.slice a5 n5 c5).ownBlock = some x → P x) := Lib.hid (fun x hx => HI.out.hP x (Nat.le_trans HS10.out.bel.size (World.ownsRow.lt hv5 x hx).1)); have HV5 := Lib.hid (World.ownsRow.mono hv5 (Nat.zero_le _)); have HS11 := Lib.hid (HS10.out.below hb5); clear hv5 hn5 hb5 hp5 hu5)
          | (at_builtin; refine wpList_append_own _ rfl (.tmp 201) (.tmp 210) 33 rfl w5.heap.size 22 ir (.slice none 0 0) 1 24 Tryd.underlying33 hir hzr0 hzr1 hzr2 rfl (by decide) _ _ _ rfl (HS11.out.k.alloc _) ⟨w11.heap.size, 0, none⟩ 1 1 [.slice a5 n5 c5] rfl rfl (cell_one_new _ _ _) (by intro u hu; simp at hu; subst hu; rfl) (by rw [HVL.out]; unfold maxLen; omega) (by rw [HVL.out]; omega) (by simp; have := HS11.out.bel.size; omega) ?_; intro vk' w12 hown' hgrow _; have HSK := Lib.hid (HS11.out.step HV5.out (by unfold OwnV; simpa using hown') hgrow); clear hown' hgrow))
        go_roundw
        case rel => exact ⟨j + 1, _, hlt, by simp, HSK.out, HAP.out.snoc HPV.out⟩
        case measure => simp [intOf]; omega
      · have hclb : (((rj : Nat) : Int) == ((q1 : Nat) : Int)) = false := beq_eq_false_iff_ne.2 (by omega)
        have HINS : Hid (cls (insK k S) j (deep j) = cls S j (deep j)) := Lib.hid (by
          rw [cls_ins HI.out.up HI.out.nin, if_neg]
          intro hh
          have hd := HI.out.same k j hh
          rw [← hd, ← HI.out.dk] at hh
          rw [cast_mod, HEE.out, ← HRJ.out, ← HI.out.rk, ← HR1.out] at hh
          exact hcl hh.symm)
        clear hcl
        go_wp2
        go_quiet ((go_at_call 42; exact quiet_eq (pow2_is e1 E _ (by omega) HEE.out)))
        go_upto_region 45 with fail
        have hsq := HQ2.out nq
        clear HQ2 x0 x1 x2 zk
        generalize wr.drewN nq = w9 at hsq ⊢
        have HS9 := Lib.hid hsq
        have hs9 := hsq.bel.size
        obtain ⟨⟨x0, x1, x2, _, zk⟩, hoj, _⟩ := HFJ.out _ hsq.bel
        have HPV : Hid (∀ x, (Value.slice aj mj cj).ownBlock = some x → P x) := Lib.hid fun x hx => (HOW0.out x hx).2
        rw [← HINS.out] at hoj
        have HOJ := Lib.hid hoj
        clear hsq hoj
        go_wp2_with (at_builtin; refine wpList_append_own _ rfl (.tmp 212) (.tmp 218) 33 rfl w5.heap.size 22 ir (.slice none 0 0) 1 24 Tryd.underlying33 hir hzr0 hzr1 hzr2 rfl (by decide) _ _ _ rfl (HS9.out.k.alloc _) ⟨w9.heap.size, 0, none⟩ 1 1 [.slice aj mj cj] rfl rfl (cell_one_new _ _ _) (by intro u hu; simp at hu; subst hu; rfl) (by rw [HVL.out]; unfold maxLen; omega) (by rw [HVL.out]; omega) (by simp; have := HS9.out.bel.size; omega) ?_; intro vk' w12 hown' hgrow _; have HSK := Lib.hid (HS9.out.step HOJ.out (by unfold OwnV; simpa using hown') hgrow); clear hown' hgrow)
        go_roundw
        case rel => exact ⟨j + 1, _, hlt, by simp, HSK.out, HAP.out.snoc HPV.out⟩
        case measure => simp [intOf]; omega
    · obtain rfl : j = n := by omega
      have x2 := HI.out.p0 _ hsl.bel
      have HSL := Lib.hid hsl
      clear hsl
      go_wp2
      (try simp only [Exit.inBlock, Exit.then])
      have hfin := HAF.out
      unfold PutAfter at hfin
      exact hfin _ _ _ _ _ _ _ _ _ _ _ _ _ _ _ _ _ _ _ _ _ _ _ _ _ _ _ _ _ _ _ _ _ _ _ _ _ _ ⟨_, HSL.out, HAP.out⟩
end Go.Proofs.YthldhbcidcmmaaaDoor
