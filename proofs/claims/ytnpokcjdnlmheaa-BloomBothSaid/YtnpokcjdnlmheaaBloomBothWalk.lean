/-
  BloomBoth: the walk.
-/
import Derived.Test.YtnpokcjdnlmheaaBloomLaw
import Derived.Test.YtnpokcjdnlmheaaAppend
namespace Go.Proofs.Ytnpokcjdnlmheaa
open Go.RowKit

theorem or_fill {n hashes : Nat} (hn : 0 < n) (ks ls : List Int) : orK (fillB n hashes ks) (fillB n hashes ls) n = fillB n hashes (ks ++ ls) := by
  apply eq_of_getD (by rw [orK_len, fillB_len, fillB_len])
  intro i hi
  rw [orK_len, fillB_len] at hi
  rw [fill_iff n hashes hn _ i hi]
  have h1 := fill_iff n hashes hn ks i hi
  have h2 := fill_iff n hashes hn ls i hi
  have hl : i < (fillB n hashes ks).length := by rw [fillB_len]; exact hi
  have e : (orK (fillB n hashes ks) (fillB n hashes ls) n).getD i false = ((fillB n hashes ks).getD i false || (fillB n hashes ls).getD i false) := by
    simp [orK, List.getD, List.getElem?_mapIdx, List.getElem?_eq_getElem hl, hi]
  rw [e, Bool.or_eq_true, h1, h2]
  simp only [Sets, List.mem_append, or_and_right, exists_or]

theorem own5 {w : World} {base : Nat} {v : Value} {n : Nat} {xs ys : List Int} (h : w.ownsRow base 3 1 v n (ints xs ++ ints ys)) : ∃ a c, v = .slice a n c ∧ IntsIn w w.heap.size a (xs ++ ys) := by
  have e : ints xs ++ ints ys = ints (xs ++ ys) := by simp [ints]
  have hl : n = (xs ++ ys).length := by have := h.1; simp [ints] at this ⊢; omega
  rw [e] at h
  subst hl
  exact OwnInts.shape h

set_option maxHeartbeats 1000000 in
set_option maxRecDepth 100000 in
theorem bloomBoth_any (x0 x1 : Int) (a2 : Option Addr) (c2 : Nat) (l2 : List Int) (a3 : Option Addr) (c3 : Nat) (l3 : List Int) (w : World) (h2 : IntsIn w w.heap.size a2 l2) (z2 : a2 = none → c2 = 0) (h3 : IntsIn w w.heap.size a3 l3) (z3 : a3 = none → c3 = 0)
    (m2 : (l2.length : Int) ≤ 20000000000000) (m3 : (l3.length : Int) ≤ 20000000000000) :
    Calls Try.prog 6 #[.int .i64 x0, .int .i64 x1, .slice a2 l2.length c2, .slice a3 l3.length c3] w fun e w' => e = .returned (.bool true) ∧ Below w.heap.size w w' := by
  obtain ⟨i0, hi, hz0, hz1, hz2⟩ := info_parts info_int
  by_cases hlen : (l2.length : Int) + (l3.length : Int) ≤ 40
  · go_enter Try.func6, Try.ntmps6
    go_wp2_with fail
    refine (bloomFact_any _).mono ?_
    rintro e w1 ⟨rfl, hb1⟩
    by_cases h : 1 ≤ x0 ∧ x0 ≤ 128 ∧ 1 ≤ x1 ∧ x1 ≤ 4
    · obtain ⟨g1, g2, g3, g4⟩ := h
      obtain ⟨n, rfl⟩ := Int.eq_ofNat_of_zero_le (show 0 ≤ x0 by omega)
      obtain ⟨hashes, rfl⟩ := Int.eq_ofNat_of_zero_le (show 0 ≤ x1 by omega)
      go_wp2_with fail
      refine (filled_yes n hashes a2 _ c2 w.heap.size l2 _ rfl (h2.below hb1) hb1.size (by unfold maxLen; omega) g1 g2 g3 g4).mono ?_
      rintro e w2 ⟨b, g, rfl, hf, hbw, hgw, hb2⟩
      have hbel2 := hb1.trans (hb2.mono hb1.size)
      go_wp2_with fail
      refine (filled_yes n hashes a3 _ c3 w.heap.size l3 _ rfl (h3.below hbel2) hbel2.size (by unfold maxLen; omega) g1 g2 g3 g4).mono ?_
      rintro e w3 ⟨b', g', rfl, hf', hbw', hgw', hb3⟩
      have hbelA := hbel2.trans (hb3.mono hbel2.size)
      have hgl := hf.arr.lt
      have HF := Lib.hid (hf.below hb3 (Nat.le_refl _)); have HF' := Lib.hid hf'; clear hf hf'
      have HX2 := Lib.hid h2; have HX3 := Lib.hid h3; clear h2 h3
      go_wp2_with (first | (at_builtin; refine wpList_append_src rfl (.tmp 41) (.tmp 42) 30 rfl w3.heap.size 3 i0 (.int .i64 0) 8 Try.underlying30 hi hz0 hz1 hz2 rfl (.slice none 0 0) 0 [] rfl (World.ownsRow_nil _ _ _ _) a2 l2.length c2 (ints l2) rfl (src_ints rfl (HX2.out.below (by exact hbelA)) z2) (ints_one _) (by unfold maxLen; omega) (by omega) (by omega) ?_; intro v4 w4 hown4 hgrow4; have hk4 : Keep [] w3 w4 := (Keep.refl [] w3).grown hgrow4 (by simp [Value.ownBlock]); have hbelB := hbelA.trans (hk4.below hbelA.size (by simp)); simp only [Nat.zero_add, List.nil_append] at hown4) | (at_builtin; refine wpList_append_src rfl (.tmp 47) (.tmp 48) 30 rfl w3.heap.size 3 i0 (.int .i64 0) 8 Try.underlying30 hi hz0 hz1 hz2 rfl v4 l2.length (ints l2) rfl hown4 a3 l3.length c3 (ints l3) rfl (src_ints rfl (HX3.out.below (by exact hbelB)) z3) (ints_one _) (by unfold maxLen; omega) (by omega) hk4.size ?_; intro v5 w5 hown5 hgrow5; obtain ⟨a5, c5, hv5, hn5⟩ := own5 hown5; subst hv5))
      have hr5 := hown4.lt
      have hk5 : Keep [] w3 w5 := hk4.grown hgrow5 (by
        intro x hx hlt
        have := (hr5 x hx).1
        omega)
      have hbel5 := hbelA.trans (hk5.below hbelA.size (by simp))
      have HF5 := Lib.hid (HF.out.keep hk5 (by simp)); have HF5' := Lib.hid (HF'.out.keep hk5 (by simp))
      clear hown4 hown5 hgrow4 hgrow5 hr5 HF HF'
      refine (filled_yes n hashes a5 _ c5 w5.heap.size (l2 ++ l3) _ List.length_append hn5 (Nat.le_refl _) (by unfold maxLen; omega) g1 g2 g3 g4).mono ?_
      rintro e w6 ⟨b6, g6, rfl, hf6, hbw6, hgw6, hb6⟩
      have HF6 := Lib.hid hf6; clear hf6
      have HG := Lib.hid (HF5.out.below hb6 (Nat.le_refl _)); have HG' := Lib.hid (HF5'.out.below hb6 (Nat.le_refl _))
      clear HF5 HF5'
      have e2 : l2.take 40 = l2 := List.take_of_length_le (by omega)
      have e3 : l3.take 40 = l3 := List.take_of_length_le (by omega)
      have e23 : (l2 ++ l3).take 40 = l2 ++ l3 := List.take_of_length_le (by rw [List.length_append]; omega)
      have hG := HG.out; have hG' := HG'.out; have hF6 := HF6.out
      rw [e2] at hG
      rw [e3] at hG'
      rw [e23] at hF6
      have hO := or_fill (n := n) (hashes := hashes) (by omega) l2 l3
      have hA := fillB_len n hashes l2
      have hB := fillB_len n hashes l3
      have hC := fillB_len n hashes (l2 ++ l3)
      generalize fillB n hashes l2 = A at hG hO hA
      generalize fillB n hashes l3 = B at hG' hO hB
      generalize fillB n hashes (l2 ++ l3) = C at hF6 hO hC
      have HG := Lib.hid hG; have HG' := Lib.hid hG'; have HF6 := Lib.hid hF6; have HO := Lib.hid hO; have HA := Lib.hid hA; have HB := Lib.hid hB; have HC := Lib.hid hC
      clear hG hG' hF6 hO hA hB hC e2 e3 e23
      go_wp2_with fail
      refine (bloomSet_any b' g' B hashes _ HG'.out (by rw [HB.out]; exact g2)).mono ?_
      rintro e w7 ⟨a7, c7, he, hi7, hb7⟩
      rw [HB.out] at he hi7
      subst he
      have HI7 := Lib.hid hi7; clear hi7
      go_wp2_with fail
      refine (both_yes b g b' g' n A B hashes _ (HG.out.below hb7 (Nat.le_refl _)) (HG'.out.below hb7 (Nat.le_refl _)) HA.out HB.out g2 (by omega)).mono ?_
      rintro e w8 ⟨rfl, hf8, hg8, hk8⟩
      rw [HA.out, HO.out] at hf8
      have HF8 := Lib.hid hf8; have HG8 := Lib.hid hg8; clear hf8 hg8
      have HF68 : Hid (FilterAt w8 b6 g6 C hashes) := Lib.hid ((HF6.out.below hb7 (Nat.le_refl _)).keep hk8 (by have := HG.out.arr.lt; have := hk5.size; have := hb3.size; have := hbel2.size; simp; omega))
      go_wp2_with fail
      refine (bloomSet_any b g C hashes _ HF8.out (by rw [HC.out]; exact g2)).mono ?_
      rintro e w9 ⟨a9, c9, he, hi9, hb9⟩
      rw [HC.out] at he hi9
      subst he
      have HI9 := Lib.hid hi9; clear hi9
      go_wp2_with fail
      refine (bloomSet_any b6 g6 C hashes _ (HF68.out.below hb9 (Nat.le_refl _)) (by rw [HC.out]; exact g2)).mono ?_
      rintro e w10 ⟨a10, c10, he, hi10, hb10⟩
      rw [HC.out] at he hi10
      subst he
      have HI10 := Lib.hid hi10; clear hi10
      go_wp2_with fail
      refine (ints_same_keep a9 a10 _ c9 c10 _ _ (setTo C n) _ rfl (HI9.out.keep (Keep.of_below hb10 (Nat.le_refl _)) (F := []) (by simp)).ints HI10.out.ints (by have := setTo_len C n; unfold maxLen; omega)).mono ?_
      rintro e w11 ⟨rfl, hk11⟩
      have h811 : Keep [] w8 w11 := ((Keep.of_below hb9 (Nat.le_refl _)).trans (Keep.of_below hb10 (Nat.le_refl _))).trans hk11
      go_wp2_with fail
      refine (bloomSet_any b' g' B hashes _ (HG8.out.keep h811 (by simp)) (by rw [HB.out]; exact g2)).mono ?_
      rintro e w12 ⟨a12, c12, he, hi12, hb12⟩
      rw [HB.out] at he hi12
      subst he
      have HI12 := Lib.hid hi12; clear hi12
      have h812 := h811.trans (Keep.of_below hb12 (Nat.le_refl _))
      go_wp2_with fail
      refine (ints_same_keep a12 a7 _ c12 c7 _ _ (setTo B n) _ rfl HI12.out.ints ((HI7.out.keep hk8 (by simp; have := HG.out.arr.lt; omega)).keep h812 (by simp)).ints (by have := setTo_len B n; unfold maxLen; omega)).mono ?_
      rintro e w13 ⟨rfl, hk13⟩
      go_wp2
      go_ret
      have hq1 := hbel5.trans (hb6.mono hbel5.size)
      have hq2 := hq1.trans (hb7.mono hq1.size)
      have hq3 := hq2.trans (hk8.below hq2.size (by have := hb1.size; simp; omega))
      exact ⟨rfl, hq3.trans ((h812.trans hk13).below hq3.size (by simp))⟩
    · have hin : ¬ (1 ≤ x0 ∧ x0 ≤ 128) ∨ ((1 ≤ x0 ∧ x0 ≤ 128) ∧ ¬ (1 ≤ x1 ∧ x1 ≤ 4)) := by omega
      have HX2 := Lib.hid h2; have HX3 := Lib.hid h3; clear h2 h3
      have hbelA := hb1
      rcases hin with hin | ⟨hin1, hin⟩
      all_goals
        go_wp2_with fail
        refine (filled_no _ _ _ _ _ _ h).mono ?_
        rintro e w2 ⟨rfl, rfl⟩
        go_wp2_with fail
        refine (filled_no _ _ _ _ _ _ h).mono ?_
        rintro e w2 ⟨rfl, rfl⟩
        go_wp2_with (first | (at_builtin; refine wpList_append_src rfl (.tmp 41) (.tmp 42) 30 rfl w1.heap.size 3 i0 (.int .i64 0) 8 Try.underlying30 hi hz0 hz1 hz2 rfl (.slice none 0 0) 0 [] rfl (World.ownsRow_nil _ _ _ _) a2 l2.length c2 (ints l2) rfl (src_ints rfl (HX2.out.below (by exact hbelA)) z2) (ints_one _) (by unfold maxLen; omega) (by omega) (by omega) ?_; intro v4 w4 hown4 hgrow4; have hk4 : Keep [] w1 w4 := (Keep.refl [] w1).grown hgrow4 (by simp [Value.ownBlock]); have hbelB := hbelA.trans (hk4.below hbelA.size (by simp)); simp only [Nat.zero_add, List.nil_append] at hown4) | (at_builtin; refine wpList_append_src rfl (.tmp 47) (.tmp 48) 30 rfl w1.heap.size 3 i0 (.int .i64 0) 8 Try.underlying30 hi hz0 hz1 hz2 rfl v4 l2.length (ints l2) rfl hown4 a3 l3.length c3 (ints l3) rfl (src_ints rfl (HX3.out.below (by exact hbelB)) z3) (ints_one _) (by unfold maxLen; omega) (by omega) hk4.size ?_; intro v5 w5 hown5 hgrow5; obtain ⟨a5, c5, hv5, hn5⟩ := own5 hown5; subst hv5))
        have hr5 := hown4.lt
        have hk5 : Keep [] w1 w5 := hk4.grown hgrow5 (by
          intro x hx hlt
          have := (hr5 x hx).1
          omega)
        refine (filled_no _ _ _ _ _ _ h).mono ?_
        rintro e w2 ⟨rfl, rfl⟩
        go_wp2_with (first
          | (go_at_call 14; refine (in_yes _ _ _ _ (by omega) (by omega)).mono ?_; rintro e w' ⟨rfl, rfl⟩)
          | (go_at_call 14; refine (in_no _ _ _ _ (by omega)).mono ?_; rintro e w' ⟨rfl, rfl⟩))
        go_ret
        exact ⟨rfl, hb1.trans (hk5.below hb1.size (by simp))⟩
  · have hl : (40 : Int) < (l2.length : Int) + (l3.length : Int) := by omega
    go_enter Try.func6, Try.ntmps6
    go_wp2_with fail
    refine (bloomFact_any _).mono ?_
    rintro e w1 ⟨rfl, hb1⟩
    go_wp2_with fail
    go_ret
    exact ⟨rfl, hb1⟩

theorem bloomBoth_walk (x0 x1 : Int) (a2 : Option Addr) (c2 : Nat) (l2 : List Int) (a3 : Option Addr) (c3 : Nat) (l3 : List Int) (w : World) (_ : I64 x0) (_ : I64 x1) (h2 : IntsIn w w.heap.size a2 l2) (_ : ∀ y ∈ l2, I64 y) (m2 : Reached l2) (z2 : a2 = none → c2 = 0)
    (h3 : IntsIn w w.heap.size a3 l3) (_ : ∀ y ∈ l3, I64 y) (m3 : Reached l3) (z3 : a3 = none → c3 = 0) :
    Calls Try.prog 6 #[.int .i64 x0, .int .i64 x1, .slice a2 l2.length c2, .slice a3 l3.length c3] w fun e w' => e = .returned (.bool true) ∧ Below w.heap.size w w' := by
  unfold Reached reachBytes at m2 m3
  exact bloomBoth_any x0 x1 a2 c2 l2 a3 c3 l3 w h2 z2 h3 z3 (by omega) (by omega)
end Go.Proofs.Ytnpokcjdnlmheaa
