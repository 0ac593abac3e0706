/-
  HeavyKeep: the walk.
-/
import Derived.Test.YtnpokcjdnlmheaaHeavyFact
import Derived.Test.YtnpokcjdnlmheaaHeavySmall
import Derived.Test.YtnpokcjdnlmheaaLift
namespace Go.Proofs.Ytnpokcjdnlmheaa
open Go.RowKit

def cntL (L : List (Int × Int)) (ask : Int) : Int := L.foldl (fun a x => if x.1 = ask then x.2 else a) 0
theorem cntL_succ {L : List (Int × Int)} {k : Nat} (ask : Int) (h : k < L.length) : cntL (L.take (k + 1)) ask = if L[k].1 = ask then L[k].2 else cntL (L.take k) ask := by
  unfold cntL
  rw [List.take_succ_eq_append_getElem h, List.foldl_append]
  rfl
theorem sumC_succ {L : List (Int × Int)} {k : Nat} (h : k < L.length) : sumC (L.take (k + 1)) = sumC (L.take k) + L[k].2 := by
  rw [List.take_succ_eq_append_getElem h, sumC_append]; simp [sumC]
theorem cntL_cases : ∀ (k : Nat) (L : List (Int × Int)) (ask : Int), k ≤ L.length → ((∃ x ∈ L, x.1 = ask ∧ cntL (L.take k) ask = x.2) ∨ ((∀ j (hj : j < L.length), j < k → L[j].1 ≠ ask) ∧ cntL (L.take k) ask = 0))
  | 0, L, ask, _ => .inr ⟨fun j hj h => by omega, by simp [cntL]⟩
  | k + 1, L, ask, h => by
    rw [cntL_succ ask h]
    by_cases e : L[k].1 = ask
    · rw [if_pos e]; exact .inl ⟨_, List.getElem_mem h, e, rfl⟩
    · rw [if_neg e]
      rcases cntL_cases k L ask (by omega) with h1 | ⟨h1, h2⟩
      · exact .inl h1
      · refine .inr ⟨fun j hj hjk => ?_, h2⟩
        rcases Nat.lt_or_ge j k with g | g
        · exact h1 j hj g
        · obtain rfl : j = k := by omega
          exact e
theorem MG.miss {keep : Nat} {P : List Int} {L : List (Int × Int)} {D : Int} (h : MG keep P L D) (ask : Int) : 0 ≤ cntL L ask ∧ cntL L ask ≤ times P ask ∧ times P ask - cntL L ask ≤ D := by
  have hc := cntL_cases L.length L ask (Nat.le_refl _)
  rw [List.take_of_length_le (Nat.le_refl _)] at hc
  have hn := times_nonneg P ask
  rcases hc with ⟨x, hx, rfl, e⟩ | ⟨hno, e⟩
  · have := h.low x hx; rw [e]; omega
  · have := h.out ask (fun x hx he => by
      obtain ⟨j, hj, rfl⟩ := List.getElem_of_mem hx
      exact hno j hj hj he)
    rw [e]; omega
theorem sumC_take_le : ∀ (L : List (Int × Int)) (k : Nat), (∀ x ∈ L, 0 ≤ x.2) → 0 ≤ sumC (L.take k) ∧ sumC (L.take k) ≤ sumC L
  | [], k, _ => by simp [sumC]
  | x :: L, 0, h => by
    have := sumC_take_le L L.length (fun y hy => h y (by simp [hy]))
    rw [List.take_of_length_le (Nat.le_refl _)] at this
    have := h x (by simp)
    simp only [List.take_zero, sumC]; omega
  | x :: L, k + 1, h => by
    have := sumC_take_le L k (fun y hy => h y (by simp [hy]))
    have := h x (by simp)
    simp only [List.take_succ_cons, sumC]; omega

theorem times_is (a : Option Addr) (n c B : Nat) (l : List Int) (x t : Int) (w : World) (ht : times l x = t) (hl : l.length = n) (h : IntsIn w B a l) (hn : n ≤ 100000000000) :
    Calls Try.prog 30 #[.slice a n c, .int .i64 x] w fun e w' => e = .returned (.int .i64 t) ∧ w = w' := by
  rw [← ht]; exact times_any a n c B l x w hl h hn

def HkRel (w2 : World) (L : List (Int × Int)) (ask : Int) (all count i : Value) (wr : World) : Prop :=
  ∃ k : Nat, k ≤ L.length ∧ i = .int .i64 k ∧ all = .int .i64 (sumC (L.take k)) ∧ count = .int .i64 (cntL (L.take k) ask) ∧ Keep [] w2 wr

set_option maxHeartbeats 4000000 in
set_option maxRecDepth 100000 in
theorem heavyKeep_walk (a0 : Option Addr) (c0 : Nat) (l0 : List Int) (x1 x2 : Int) (w : World) (h0 : IntsIn w w.heap.size a0 l0) (_ : ∀ y ∈ l0, I64 y) (_ : Reached l0) (_ : I64 x1) (_ : I64 x2) :
    Calls Try.prog 9 #[.slice a0 l0.length c0, .int .i64 x1, .int .i64 x2] w fun e w' => e = .returned (.bool true) ∧ Below w.heap.size w w' := by
  have H0 := Lib.hid h0; clear h0
  obtain ⟨n, hn⟩ : ∃ n, n = l0.length := ⟨_, rfl⟩
  rw [← hn]
  have HN := Lib.hid hn.symm; clear hn
  by_cases hok : n ≤ 40 ∧ allB l0 0 1000000 = true ∧ 1 ≤ x1 ∧ x1 ≤ 8
  · obtain ⟨hn4, hall, hk1, hk2⟩ := hok
    obtain ⟨kp, rfl⟩ := Int.eq_ofNat_of_zero_le (show 0 ≤ x1 by omega)
    have HALL := Lib.hid hall; clear hall
    have hn4i : (n : Int) ≤ 40 := by omega
    go_enter Try.func9, Try.ntmps9
    go_wp2_with fail
    refine (heavyFact_any _).mono ?_
    rintro e wf ⟨rfl, hbf⟩
    have hsf := hbf.size
    have HBF := Lib.hid hbf; clear hbf
    go_wp2_with fail
    refine (keep_ok a0 n c0 kp l0 _ HN.out ((H0.out.below HBF.out).more hsf) hn4 HALL.out hk1 hk2).mono ?_
    rintro e w2 ⟨v, L, D, rfl, hmg, hkat, hb⟩
    have hdz : 0 < wf.heap.size ∨ wf.heap.size = 0 := by omega
    obtain ⟨av, g, cap, rfl, hag, hkin, hgL⟩ : ∃ av g cap, v = .slice av L.length cap ∧ (0 < L.length → av = some ⟨g, 0, none⟩) ∧ KIn w2 g L ∧ (0 < L.length → g < w2.heap.size) := by
      obtain ⟨a, g, cap, hv, ha, ⟨_, _, h3⟩ | ⟨h1, h2, h3, h4, rest, h5, h6⟩⟩ := hkat.shape
      · subst h3
        exact ⟨a, 0, cap, hv, fun h => by simp at h, fun i x h => by simp at h, fun h => by simp at h⟩
      · exact ⟨a, g, cap, hv, ha, blk_kin h5, fun _ => h5.lt⟩
    obtain ⟨ll, hll⟩ : ∃ ll, ll = L.length := ⟨_, rfl⟩
    rw [← hll] at hag hgL ⊢
    have hlk := hmg.len
    have hsum := hmg.sum
    have hll8 : (ll : Int) ≤ 8 := by omega
    have HB2 := Lib.hid (HBF.out.trans (hb.mono hsf))
    have HMG := Lib.hid hmg; have HAG := Lib.hid hag; have HKIN := Lib.hid hkin; have HGL := Lib.hid hgL; have HLL := Lib.hid hll; have HSUM := Lib.hid hsum
    have HIN2 : Hid (IntsIn w2 w.heap.size a0 l0) := Lib.hid (H0.out.below HB2.out)
    clear hmg hkat hb hag hkin hgL hll hlk hsum hdz
    go_wp2
    go_loopw [10, 11, 12] (fun all count i wr => HkRel w2 L x2 all count i wr) (fun _ _ i _ => ll - (intOf i).toNat)
    case atStart => exact ⟨0, by omega, rfl, rfl, rfl, Keep.refl _ _⟩
    case round =>
      obtain ⟨k, hk, rfl, rfl, rfl, hkr⟩ := hrel
      have HK := Lib.hid hkr; clear hkr
      have hnn : ∀ x ∈ L, 0 ≤ x.2 := fun x hx => by have := HMG.out.bd hx; omega
      have hst := sumC_take_le L k hnn
      have hsum40 : sumC L ≤ 40 := by
        have h1 := HSUM.out
        have h2 := HMG.out.pos
        have h3 : 0 ≤ D * ((kp : Int) + 1) := Int.mul_nonneg h2 (by omega)
        have := HN.out
        omega
      by_cases hlt : k < ll
      · have hkL : k < L.length := by have := HLL.out; omega
        have HS1 := Lib.hid (sumC_succ hkL)
        have HC1 := Lib.hid (cntL_succ x2 hkL)
        have hbd := HMG.out.bd (List.getElem_mem hkL)
        have hlow := HMG.out.low _ (List.getElem_mem hkL)
        obtain ⟨y, hy⟩ : ∃ y, y = L[k] := ⟨_, rfl⟩
        have hy2 : L[k]? = some y := by rw [hy]; exact List.getElem?_eq_getElem hkL
        rw [← hy] at HS1 HC1 hbd hlow
        obtain ⟨p0, p1⟩ := (HKIN.out.keep HK.out (HGL.out (by omega)) (by simp)) k y hy2
        obtain rfl := HAG.out (by omega)
        obtain ⟨s, hs⟩ : ∃ s, s = sumC (L.take k) := ⟨_, rfl⟩
        obtain ⟨ct, hct⟩ : ∃ ct, ct = cntL (L.take k) x2 := ⟨_, rfl⟩
        obtain ⟨t, ht⟩ : ∃ t, times l0 y.1 = t := ⟨_, rfl⟩
        rw [← hs] at HS1 hst ⊢
        rw [← hct] at HC1 ⊢
        rw [ht] at hlow
        have hy1 : 1 ≤ y.2 := hbd.1
        have hyl : y.2 ≤ 40 := by have := hbd.2; have := HN.out; omega
        have hyt : y.2 ≤ t := hlow.2.1
        have hs0 : 0 ≤ s := hst.1
        have hs4 : s ≤ 40 := by omega
        have HT := Lib.hid ht
        have HIN3 : Hid (IntsIn wr w.heap.size a0 l0) := Lib.hid (HIN2.out.keep (fun b hb => HK.out.block b (by have := HB2.out.size; omega) (by simp)))
        clear hy hy2 hs hct ht hbd hlow hst hnn hsum40
        have hki : (k : Int) < (ll : Int) := by omega
        have hk0 : (0 : Int) ≤ (k : Int) := by omega
        have hd1 : decide (y.2 < 1) = false := by simp; omega
        go_wp2
        go_quiet ((go_at_call 30; exact quiet_eq (times_is a0 n c0 w.heap.size l0 _ t _ HT.out HN.out (HIN3.out.drewN _) (by omega))))
        by_cases e : y.1 = x2
        · go_wp2
          go_roundw
          case rel => exact ⟨k + 1, hkL, by simp, by rw [HS1.out], by rw [HC1.out, if_pos e], HK.out.drewN _⟩
          case measure => simp [intOf]; omega
        · go_wp2
          go_roundw
          case rel => exact ⟨k + 1, hkL, by simp, by rw [HS1.out], by rw [HC1.out, if_neg e], HK.out.drewN _⟩
          case measure => simp [intOf]; omega
      · obtain rfl : k = ll := by have := HLL.out; omega
        have e : L.take k = L := List.take_of_length_le (by have := HLL.out; omega)
        rw [e] at hst ⊢
        have hmiss := HMG.out.miss x2
        obtain ⟨s, hs⟩ : ∃ s, s = sumC L := ⟨_, rfl⟩
        obtain ⟨ct, hct⟩ : ∃ ct, ct = cntL L x2 := ⟨_, rfl⟩
        obtain ⟨t, ht⟩ : ∃ t, times l0 x2 = t := ⟨_, rfl⟩
        have hsum := HSUM.out
        have hDp := HMG.out.pos
        rw [← hs] at hst hsum hsum40 ⊢
        rw [← hct, ht] at hmiss
        rw [← hct]
        have hkpp : (0 : Int) ≤ (kp : Int) + 1 := by omega
        have hmul := Int.mul_le_mul_of_nonneg_right hmiss.2.2 hkpp
        have hmul0 : 0 ≤ (t - ct) * ((kp : Int) + 1) := Int.mul_nonneg (by omega) hkpp
        have htn : t ≤ 40 := by rw [← ht]; have := times_le l0 x2; have := HN.out; omega
        obtain ⟨p, hp⟩ : ∃ p, (t - ct) * ((kp : Int) + 1) = p := ⟨_, rfl⟩
        rw [hp] at hmul hmul0
        have hln := HN.out
        have hple : p ≤ (n : Int) - s := by omega
        have hp40 : p ≤ 40 := by omega
        have hp0 : 0 ≤ p := hmul0
        have hs0 := hst.1
        have hct0 := hmiss.1
        have hctt := hmiss.2.1
        have hwp : IntKind.i64.wrap ((t - ct) * ((kp : Int) + 1)) = p := by rw [hp]; exact IntWalk.i64_in _ (by omega)
        have hlk : (k : Int) ≤ (kp : Int) := by have := HMG.out.len; have := HLL.out; omega
        have HT := Lib.hid ht
        have HIN3 : Hid (IntsIn wr w.heap.size a0 l0) := Lib.hid (HIN2.out.keep (fun b hb => HK.out.block b (by have := HB2.out.size; omega) (by simp)))
        clear e hs hct ht hmul hmul0 hsum hst hmiss hln hnn
        have hkk : ¬ (k : Int) < (k : Int) := by omega
        go_wp2_with fail
        refine (times_is a0 n c0 w.heap.size l0 x2 t _ HT.out HN.out HIN3.out (by omega)).mono ?_
        rintro e w5 ⟨rfl, rfl⟩
        have hw64 : wrap64 p = p := by unfold wrap64; omega
        go_wp2
        go_ret
        exact ⟨by simp, HB2.out.trans (HK.out.below HB2.out.size (by simp))⟩
  · have hbad : 40 < n ∨ (n ≤ 40 ∧ (allB l0 0 1000000 = false ∨ x1 < 1 ∨ 8 < x1)) := by
      cases g : allB l0 0 1000000 with
      | true => rw [g] at hok; simp at hok ⊢; omega
      | false => simp; omega
    have HBAD := Lib.hid hbad; clear hbad hok
    go_enter Try.func9, Try.ntmps9
    go_wp2_with fail
    refine (heavyFact_any _).mono ?_
    rintro e wf ⟨rfl, hbf⟩
    have HBF := Lib.hid hbf; clear hbf
    go_wp2_with fail
    refine (keep_bad a0 n c0 _ l0 x1 _ HN.out (H0.out.below HBF.out) HBAD.out).mono ?_
    rintro e w2 ⟨er, rfl, rfl⟩
    go_wp2
    go_ret
    exact ⟨by simp, HBF.out⟩
end Go.Proofs.Ytnpokcjdnlmheaa
