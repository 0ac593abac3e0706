/-
  SketchOrder: the walk.
-/
import Derived.Test.YtnpokcjdnlmheaaSketchOrderLaw
import Derived.Test.YtnpokcjdnlmheaaSketchAddsWalk
import Derived.Test.YtnpokcjdnlmheaaSameInts
namespace Go.Proofs.Ytnpokcjdnlmheaa
open Go.RowKit

theorem skStep_none (width : Nat) (s : List (List Int) × Int) {l : List Int} (h : ¬ l.length = 2) : skStep width s l = s := by
  have : pick l = none := by
    unfold pick
    split
    · simp at h
    · rfl
  simp [skStep, this]

def StepPost (w : World) (b g cap : Nat) (L : List Nat) (width : Nat) (s : List (List Int) × Int) (l : List Int) (e : Ending) (w' : World) : Prop :=
  ∃ v, e = .returned v ∧ SketchAt w' b g cap L width (skStep width s l).1 (skStep width s l).2 ∧ Keep (b :: L) w w'

/-- Add, as a step. -/
theorem add_step (b g cap : Nat) (L : List Nat) (width : Nat) (s : List (List Int) × Int) (x y : Int) (w : World) (hs : SketchAt w b g cap L width s.1 s.2) (hL0 : 0 < L.length) (hL : L.length ≤ 4) (hw1 : 1 ≤ (width : Int)) (hw2 : (width : Int) ≤ 16)
    (hi : SkInv width s.1 s.2) (hsum : s.2 ≤ 60000) :
    Calls Try.prog 15 #[.pointer (some ⟨b, 0, none⟩), .int .i64 x, .int .i64 y] w (StepPost w b g cap L width s [x, y]) := by
  by_cases h : 0 ≤ x ∧ x ≤ 1000000 ∧ 0 ≤ y ∧ y ≤ 1000
  · have e : skStep width s [x, y] = (skAdd x y width s.1, s.2 + y) := by simp only [skStep, pick]; rw [if_pos h]
    obtain ⟨h1, h2, h3, h4⟩ := h
    refine (add_ok b g cap L width s.1 s.2 x y w hs hL0 hL hw1 hw2 h1 h2 h3 h4 hi.2 (by omega) (skBd_inv hi (by omega))).mono ?_
    rintro _ w' ⟨rfl, hs', hk⟩
    exact ⟨_, rfl, by rw [e]; exact hs', hk⟩
  · have e : skStep width s [x, y] = s := by simp only [skStep, pick]; rw [if_neg h]
    refine (add_range b x y w h).mono ?_
    rintro _ w' ⟨rfl, rfl⟩
    exact ⟨_, rfl, by rw [e]; exact hs, Keep.refl _ _⟩

theorem SketchAt.lt {w : World} {b g cap : Nat} {L : List Nat} {width : Nat} {rows : List (List Int)} {sum : Int} (hs : SketchAt w b g cap L width rows sum) : ∀ x ∈ b :: g :: L, x < w.heap.size := by
  intro x hx
  obtain ⟨cur, hc, _⟩ := hs.lead
  rcases List.mem_cons.1 hx with rfl | hx
  · exact hs.top.lt
  rcases List.mem_cons.1 hx with rfl | hx
  · exact hc.lt
  obtain ⟨k, hk, rfl⟩ := List.mem_iff_getElem.1 hx
  have hk' : k < rows.length := by rw [hs.len]; exact hk
  exact (hs.row k L[k] rows[k] (List.getElem?_eq_getElem hk) (List.getElem?_eq_getElem hk')).2.lt

def OrdRel (w : World) (b1 g1 c1 : Nat) (L1 : List Nat) (b2 g2 c2 : Nat) (L2 : List Nat) (depth width n : Nat) (ls : List (List Int)) (i : Value) (wr : World) : Prop :=
  ∃ k : Nat, k ≤ n ∧ i = .int .i64 k ∧ SketchAt wr b1 g1 c1 L1 width (skRun depth width (ls.take k)).1 (skRun depth width (ls.take k)).2 ∧
    SketchAt wr b2 g2 c2 L2 width (skRun depth width (ls.reverse.take k)).1 (skRun depth width (ls.reverse.take k)).2 ∧ Below w.heap.size w wr

theorem sketchOrder_no (depth width : Int) (a : Option Addr) (n c : Nat) (w : World) (h : ¬ (1 ≤ depth ∧ depth ≤ 4 ∧ 1 ≤ width ∧ width ≤ 16)) :
    Calls Try.prog 8 #[.int .i64 depth, .int .i64 width, .slice a n c] w fun e w' => e = .returned (.bool true) ∧ Below w.heap.size w w' := by
  by_cases h1 : 1 ≤ depth ∧ depth ≤ 4
  · have h2 : width < 1 ∨ 16 < width := by omega
    obtain ⟨h3, h4⟩ := h1
    go_enter Try.func8, Try.ntmps8
    go_wp2_with (first
      | (go_at_call 12; refine (sketchFact_any _).mono ?_; rintro e w1 ⟨rfl, hb1⟩)
      | (go_at_call 13; refine (sketchNew_no _ _ _ h).mono ?_; rintro e w2 ⟨rfl, rfl⟩)
      | (go_at_call 14; refine (in_yes _ _ _ _ (by omega) (by omega)).mono ?_; rintro e w' ⟨rfl, rfl⟩)
      | (go_at_call 14; refine (in_no _ _ _ _ (by omega)).mono ?_; rintro e w' ⟨rfl, rfl⟩))
    go_ret
    exact ⟨rfl, hb1⟩
  · have h2 : depth < 1 ∨ 4 < depth := by omega
    go_enter Try.func8, Try.ntmps8
    go_wp2_with (first
      | (go_at_call 12; refine (sketchFact_any _).mono ?_; rintro e w1 ⟨rfl, hb1⟩)
      | (go_at_call 13; refine (sketchNew_no _ _ _ h).mono ?_; rintro e w2 ⟨rfl, rfl⟩)
      | (go_at_call 14; refine (in_no _ _ _ _ (by omega)).mono ?_; rintro e w' ⟨rfl, rfl⟩))
    go_ret
    exact ⟨rfl, hb1⟩

set_option maxHeartbeats 2000000 in
set_option maxRecDepth 100000 in
theorem sketchOrder_yes (depth width : Nat) (h1 : 1 ≤ (depth : Int)) (h2 : (depth : Int) ≤ 4) (h3 : 1 ≤ (width : Int)) (h4 : (width : Int) ≤ 16) (a : Option Addr) (c : Nat) (xss : List (List Int)) (w : World)
    (hx : RowsIn w w.heap.size a xss) (hn : xss.length ≤ maxLen) :
    Calls Try.prog 8 #[.int .i64 depth, .int .i64 width, .slice a xss.length c] w fun e w' => e = .returned (.bool true) ∧ Below w.heap.size w w' := by
  have HN := Lib.hid hn; clear hn
  go_enter Try.func8, Try.ntmps8
  go_wp2_with fail
  refine (sketchFact_any _).mono ?_
  rintro e w1 ⟨rfl, hb1⟩
  go_wp2_with fail
  refine (sketchNew_yes depth width _ h1 h2 h3 h4).mono ?_
  rintro e w2 ⟨g1, c1, L1, rfl, hs1, hg1, hLb1, hb2⟩
  go_wp2_with fail
  refine (sketchNew_yes depth width _ h1 h2 h3 h4).mono ?_
  rintro e w3 ⟨g2, c2, L2, rfl, hs2, hg2, hLb2, hb3⟩
  have hsz1 := hb1.size
  have hsz2 := hb2.size
  have hlen1 := hs1.len
  have hlen2 := hs2.len
  rw [List.length_replicate] at hlen1 hlen2
  have hL1 : 0 < L1.length := by omega
  have hL14 : L1.length ≤ 4 := by omega
  have hL2 : 0 < L2.length := by omega
  have hL24 : L2.length ≤ 4 := by omega
  clear hlen1 hlen2
  have hlt1 := hs1.lt
  have HD : Hid (∀ x ∈ w1.heap.size :: g1 :: L1, x ∉ w2.heap.size :: g2 :: L2) := Lib.hid (by
    intro x hx hx2
    have hlt := hlt1 x hx
    rcases List.mem_cons.1 hx2 with h | h
    · omega
    rcases List.mem_cons.1 h with h | h
    · omega
    · have := hLb2 x h; omega)
  have HF1 : Hid (∀ x ∈ w1.heap.size :: L1, w.heap.size ≤ x) := Lib.hid (by
    intro x hx
    rcases List.mem_cons.1 hx with h | h
    · omega
    · have := hLb1 x h; omega)
  have HF2 : Hid (∀ x ∈ w2.heap.size :: L2, w.heap.size ≤ x) := Lib.hid (by
    intro x hx
    rcases List.mem_cons.1 hx with h | h
    · omega
    · have := hLb2 x h; omega)
  have HS1 := Lib.hid (hs1.keep (Keep.of_below hb3 (Nat.le_refl _)) (F := []) (by simp)); clear hs1
  have HS2 := Lib.hid hs2; clear hs2
  have hbw : Below w.heap.size w w3 := (hb1.trans (hb2.mono hsz1)).trans (hb3.mono (by omega))
  clear hlt1 hLb1 hLb2 hg1 hg2
  obtain ⟨m, hm⟩ : ∃ m : Nat, m = min 60 xss.length := ⟨_, rfl⟩
  have hm6 : m ≤ 60 := by omega
  have hmn : m ≤ xss.length := by omega
  obtain ⟨ls, hls⟩ : ∃ ls, ls = xss.take m := ⟨_, rfl⟩
  have hlsl : ls.length = m := by rw [hls, List.length_take]; omega
  have HM := Lib.hid hm; have HLS := Lib.hid hls; have HLL := Lib.hid hlsl
  clear hm hls hlsl
  by_cases hgt : 60 < (xss.length : Int)
  all_goals
    go_wp2
    first | rw [show (60 : Int) = (m : Int) by have := HM.out; omega] | rw [show (xss.length : Int) = (m : Int) by have := HM.out; omega]
    go_loopw [13] (OrdRel w w1.heap.size g1 c1 L1 w2.heap.size g2 c2 L2 depth width m ls) (fun i _ => m - (intOf i).toNat)
    case atStart => exact ⟨0, Nat.zero_le _, rfl, HS1.out, HS2.out, hbw⟩
    case round =>
      obtain ⟨k, hk, rfl, hA, hB, hbel⟩ := hrel
      have HA := Lib.hid hA; have HB := Lib.hid hB
      clear hA hB
      by_cases hlt : k < m
      · obtain ⟨b, off, a', c', rfl, hbB, hcell, hrow⟩ := hx.at_ (show k < xss.length by omega)
        obtain ⟨j, hj⟩ : ∃ j : Nat, (m : Int) - 1 - (k : Int) = (j : Int) := ⟨m - 1 - k, by omega⟩
        have hjm : j < xss.length := by omega
        obtain ⟨b', off', a'', c'', hbo, hbB', hcj, hrow'⟩ := hx.at_ hjm
        simp only [Option.some.injEq, Addr.mk.injEq, and_true] at hbo
        obtain ⟨rfl, rfl⟩ := hbo
        obtain ⟨l, hl⟩ : ∃ l, l = xss[k] := ⟨_, rfl⟩
        obtain ⟨l', hl'⟩ : ∃ l', l' = xss[j] := ⟨_, rfl⟩
        rw [← hl] at hcell hrow
        rw [← hl'] at hcj hrow'
        have HT1 : Hid (skRun depth width (ls.take (k + 1)) = skStep width (skRun depth width (ls.take k)) l) := Lib.hid (by
          have hkl : k < ls.length := by rw [HLL.out]; exact hlt
          rw [List.take_succ_eq_append_getElem hkl, skRun_snoc]
          congr 1
          rw [hl]; simp [HLS.out])
        have HT2 : Hid (skRun depth width (ls.reverse.take (k + 1)) = skStep width (skRun depth width (ls.reverse.take k)) l') := Lib.hid (by
          have hkl : k < ls.reverse.length := by rw [List.length_reverse, HLL.out]; exact hlt
          rw [List.take_succ_eq_append_getElem hkl, skRun_snoc]
          congr 1
          rw [hl', List.getElem_reverse]
          have e : ls.length - 1 - k = j := by rw [HLL.out]; omega
          simp [HLS.out] at e ⊢
          congr 1)
        clear hl hl'
        have hcell2 := (hbel.cell (p := ⟨b, off + k, none⟩) hbB).trans hcell
        clear hcell
        have hkn : (k : Int) < (m : Int) := by omega
        have hkn2 : (k : Int) < (xss.length : Int) := by omega
        have hj0 : (j : Int) < (xss.length : Int) := by omega
        have hm1 : (1 : Int) ≤ (m : Int) := by omega
        by_cases hl2 : l.length = 2
        · -- a pair first
          obtain ⟨x, y, rfl⟩ : ∃ x y, l = [x, y] := by
            match l, hl2 with
            | [x, y], _ => exact ⟨x, y, rfl⟩
          obtain ⟨b3, off3, rfl, hb3, hx0, hx1⟩ := (hrow.below hbel).two
          clear hl2
          go_wp2
          go_still_tail 13, (by kernel_rfl)
          go_wp2_with fail
          refine (add_step _ g1 c1 L1 width _ x y _ HA.out.drew hL1 hL14 h3 h4 (skRun_inv depth width (by omega) _).1 (by have := (skRun_inv depth width (by omega) (ls.take k)).2.1; have := List.length_take_le k ls; omega)).mono ?_
          rintro e wa ⟨v, rfl, hA, hk1⟩
          have HA1 := Lib.hid hA; clear hA
          have HB1 := Lib.hid (HB.out.keep (((Keep.refl [] wr).drew.mono (by simp)).trans hk1) (fun x hx hx2 => HD.out x (by rcases List.mem_cons.1 hx2 with h | h <;> simp [h]) hx))
          have hba := hbel.drew.trans (hk1.below (by simpa using hbel.size) HF1.out)
          clear hx0 hx1 hb3 hcell2

          have hcell3 := (hba.cell (p := ⟨b, off + j, none⟩) hbB).trans hcj
          by_cases hl2' : l'.length = 2
          · -- P2
            obtain ⟨x2, y2, rfl⟩ : ∃ x y, l' = [x, y] := by
              match l', hl2' with
              | [x, y], _ => exact ⟨x, y, rfl⟩
            obtain ⟨b4, off4, rfl, hb4, hz0, hz1⟩ := (hrow'.below hba).two
            clear hl2'
            go_wp2
            have hq1 : IntKind.i64.wrap ((m : Int) - 1) = (m : Int) - 1 := IntWalk.i64_in _ (by omega)
            have hq2 : IntKind.i64.wrap ((m : Int) - 1 - (k : Int)) = (j : Int) := by rw [hj]; exact IntWalk.i64_in _ (by omega)
            have hq5 : IntKind.i64.wrap (j : Int) = (j : Int) := IntWalk.i64_in _ (by omega)
            have hq3 : ((j : Int)).toNat = j := by omega
            have hq4 : (0 : Int) ≤ (j : Int) := by omega
            go_still_tail 19, (by kernel_rfl)
            clear hq1 hq2 hq3 hq4 hq5
            go_wp2_with fail
            refine (add_step _ g2 c2 L2 width _ x2 y2 _ HB1.out.drew hL2 hL24 h3 h4 (skRun_inv depth width (by omega) _).1 (by have := (skRun_inv depth width (by omega) (ls.reverse.take k)).2.1; have := List.length_take_le k ls.reverse; omega)).mono ?_
            rintro e wb ⟨v2, rfl, hB, hk2⟩
            have HB2 := Lib.hid hB; clear hB
            have HA2 := Lib.hid (HA1.out.keep (((Keep.refl [] wa).drew.mono (by simp)).trans hk2) (fun x hx hx2 => HD.out x hx (by rcases List.mem_cons.1 hx2 with h | h <;> simp [h])))
            have hbb := hba.drew.trans (hk2.below (by simpa using hba.size) HF2.out)
            go_wp2
            go_roundw
            case rel => exact ⟨k + 1, hlt, by go_num, by rw [HT1.out]; exact HA2.out, by rw [HT2.out]; exact HB2.out, hbb⟩
            case measure => simp [intOf]; omega
          · -- N2
            have hl3' : ((l'.length : Int) == 2) = false := beq_eq_false_iff_ne.2 (by omega)
            have hB : SketchAt wa w2.heap.size g2 c2 L2 width (skStep width (skRun depth width (ls.reverse.take k)) l').1 (skStep width (skRun depth width (ls.reverse.take k)) l').2 := by rw [skStep_none _ _ hl2']; exact HB1.out
            have HB2 := Lib.hid hB; clear hB
            have HA2 := HA1
            obtain ⟨wb, rfl⟩ : ∃ wb : World, wb = wa := ⟨_, rfl⟩
            have hbb := hba
            go_wp2
            go_roundw
            case rel => exact ⟨k + 1, hlt, by go_num, by rw [HT1.out]; exact HA2.out, by rw [HT2.out]; exact HB2.out, hbb⟩
            case measure => simp [intOf]; omega
        · -- N1
          have hl3 : ((l.length : Int) == 2) = false := beq_eq_false_iff_ne.2 (by omega)
          have hA : SketchAt wr w1.heap.size g1 c1 L1 width (skStep width (skRun depth width (ls.take k)) l).1 (skStep width (skRun depth width (ls.take k)) l).2 := by rw [skStep_none _ _ hl2]; exact HA.out
          have HA1 := Lib.hid hA; clear hA
          have HB1 := HB
          obtain ⟨wa, rfl⟩ : ∃ wa : World, wa = wr := ⟨_, rfl⟩
          have hba := hbel

          have hcell3 := (hba.cell (p := ⟨b, off + j, none⟩) hbB).trans hcj
          by_cases hl2' : l'.length = 2
          · -- P2
            obtain ⟨x2, y2, rfl⟩ : ∃ x y, l' = [x, y] := by
              match l', hl2' with
              | [x, y], _ => exact ⟨x, y, rfl⟩
            obtain ⟨b4, off4, rfl, hb4, hz0, hz1⟩ := (hrow'.below hba).two
            clear hl2'
            go_wp2
            have hq1 : IntKind.i64.wrap ((m : Int) - 1) = (m : Int) - 1 := IntWalk.i64_in _ (by omega)
            have hq2 : IntKind.i64.wrap ((m : Int) - 1 - (k : Int)) = (j : Int) := by rw [hj]; exact IntWalk.i64_in _ (by omega)
            have hq5 : IntKind.i64.wrap (j : Int) = (j : Int) := IntWalk.i64_in _ (by omega)
            have hq3 : ((j : Int)).toNat = j := by omega
            have hq4 : (0 : Int) ≤ (j : Int) := by omega
            go_still_tail 19, (by kernel_rfl)
            clear hq1 hq2 hq3 hq4 hq5
            go_wp2_with fail
            refine (add_step _ g2 c2 L2 width _ x2 y2 _ HB1.out.drew hL2 hL24 h3 h4 (skRun_inv depth width (by omega) _).1 (by have := (skRun_inv depth width (by omega) (ls.reverse.take k)).2.1; have := List.length_take_le k ls.reverse; omega)).mono ?_
            rintro e wb ⟨v2, rfl, hB, hk2⟩
            have HB2 := Lib.hid hB; clear hB
            have HA2 := Lib.hid (HA1.out.keep (((Keep.refl [] wa).drew.mono (by simp)).trans hk2) (fun x hx hx2 => HD.out x hx (by rcases List.mem_cons.1 hx2 with h | h <;> simp [h])))
            have hbb := hba.drew.trans (hk2.below (by simpa using hba.size) HF2.out)
            go_wp2
            go_roundw
            case rel => exact ⟨k + 1, hlt, by go_num, by rw [HT1.out]; exact HA2.out, by rw [HT2.out]; exact HB2.out, hbb⟩
            case measure => simp [intOf]; omega
          · -- N2
            have hl3' : ((l'.length : Int) == 2) = false := beq_eq_false_iff_ne.2 (by omega)
            have hB : SketchAt wa w2.heap.size g2 c2 L2 width (skStep width (skRun depth width (ls.reverse.take k)) l').1 (skStep width (skRun depth width (ls.reverse.take k)) l').2 := by rw [skStep_none _ _ hl2']; exact HB1.out
            have HB2 := Lib.hid hB; clear hB
            have HA2 := HA1
            obtain ⟨wb, rfl⟩ : ∃ wb : World, wb = wa := ⟨_, rfl⟩
            have hbb := hba
            go_wp2
            go_roundw
            case rel => exact ⟨k + 1, hlt, by go_num, by rw [HT1.out]; exact HA2.out, by rw [HT2.out]; exact HB2.out, hbb⟩
            case measure => simp [intOf]; omega
      · obtain rfl : k = m := by omega
        have e1 : ls.take k = ls := List.take_of_length_le (by rw [HLL.out]; omega)
        have e2 : ls.reverse.take k = ls.reverse := List.take_of_length_le (by rw [List.length_reverse, HLL.out]; omega)
        obtain ⟨q1, q2, q3⟩ := skRun_inv depth width (by omega) ls
        have hA := HA.out
        have hB := HB.out
        rw [e1] at hA
        rw [e2, skRun_reverse] at hB
        generalize skRun depth width ls = s at hA hB q1 q2 q3
        have HA := Lib.hid hA; have HB := Lib.hid hB; have HQ := Lib.hid q1
        have HQ3 := Lib.hid q3
        clear hA hB q1 q2 e1 e2 hlt q3
        obtain ⟨wo, rfl⟩ : ∃ wo : World, wo = wr := ⟨_, rfl⟩
        go_wp2_with fail
        go_loopw [14] (fun j wx => ∃ r : Nat, r ≤ depth ∧ j = .int .i64 r ∧ SketchAt wx w1.heap.size g1 c1 L1 width s.1 s.2 ∧ SketchAt wx w2.heap.size g2 c2 L2 width s.1 s.2 ∧ Below w.heap.size w wx) (fun j _ => depth - (intOf j).toNat)
        case atStart => exact ⟨0, Nat.zero_le _, rfl, HA.out, HB.out, hbel⟩
        case round =>
          obtain ⟨r, hrd, rfl, hsx, hsy, hbx⟩ := hrel
          have HSX := Lib.hid hsx; have HSY := Lib.hid hsy; clear hsx hsy
          by_cases hlt : r < depth
          · have hrr : r < s.1.length := by rw [HQ3.out]; exact hlt
            obtain ⟨p1, _, _⟩ := HQ.out.1 _ (List.getElem_mem hrr)
            have HP1 := Lib.hid p1; clear p1
            go_wp2_with fail
            refine (row_ok _ g1 c1 L1 width s.1 s.2 r _ HSX.out hL14 h3 h4 hrr).mono ?_
            rintro e wy ⟨v, rfl, hv, hby⟩
            have HV := Lib.hid hv; clear hv
            go_wp2_with fail
            refine (row_ok _ g2 c2 L2 width s.1 s.2 r _ (HSY.out.keep (Keep.of_below hby (Nat.le_refl _)) (F := []) (by simp)) hL24 h3 h4 hrr).mono ?_
            rintro e wz ⟨v2, rfl, hv2, hbz⟩
            have hv1 := HV.out.keep (w' := wz) (fun g hg => hbz.block g (by have := HV.out.lt g hg; omega))
            obtain ⟨a1, c1', rfl, hin1⟩ := hv1.shape
            obtain ⟨a2, c2', rfl, hin2⟩ := hv2.shape
            clear hv1 hv2 HV
            go_wp2_with fail
            refine (ints_same_keep a1 a2 _ c1' c2' _ _ s.1[r] _ rfl hin1 hin2 (by rw [HP1.out]; unfold maxLen; omega)).mono ?_
            rintro e wq ⟨rfl, hkq⟩
            have hyz : Keep [] wr wq := ((Keep.of_below hby (Nat.le_refl _)).trans (Keep.of_below hbz (Nat.le_refl _))).trans hkq
            go_wp2
            go_roundw
            case rel => exact ⟨r + 1, hlt, by go_num, HSX.out.keep hyz (by simp), HSY.out.keep hyz (by simp), hbx.trans (hyz.below hbx.size (by simp))⟩
            case measure => simp [intOf]; omega
          · go_wp2_with fail
            refine (sum_any _ g1 c1 L1 width s.1 s.2 _ HSX.out).mono ?_
            rintro e wy ⟨rfl, rfl⟩
            go_wp2_with fail
            refine (sum_any _ g2 c2 L2 width s.1 s.2 _ HSY.out).mono ?_
            rintro e wy ⟨rfl, rfl⟩
            go_wp2
            go_ret
            exact ⟨by simp, hbx⟩

theorem sketchOrder_walk (x0 x1 : Int) (a2 : Option Addr) (c2 : Nat) (l2 : List (List Int)) (w : World) (_ : I64 x0) (_ : I64 x1) (h2 : RowsIn w w.heap.size a2 l2) (_ : ∀ r ∈ l2, r.length ≤ maxLen ∧ ∀ y ∈ r, I64 y) (m2 : l2.length ≤ maxLen) :
    Calls Try.prog 8 #[.int .i64 x0, .int .i64 x1, .slice a2 l2.length c2] w fun e w' => e = .returned (.bool true) ∧ Below w.heap.size w w' := by
  by_cases h : 1 ≤ x0 ∧ x0 ≤ 4 ∧ 1 ≤ x1 ∧ x1 ≤ 16
  · obtain ⟨h1, h2', h3, h4⟩ := h
    obtain ⟨d, rfl⟩ := Int.eq_ofNat_of_zero_le (show 0 ≤ x0 by omega)
    obtain ⟨e, rfl⟩ := Int.eq_ofNat_of_zero_le (show 0 ≤ x1 by omega)
    exact sketchOrder_yes d e h1 h2' h3 h4 a2 c2 l2 w h2 m2
  · exact sketchOrder_no x0 x1 a2 _ c2 w h

end Go.Proofs.Ytnpokcjdnlmheaa
