/-
  BackPlays: the walk (printed by wip/gen_backplays.py).
-/
import Derived.Test.YtgbccaplckiilaaDoorBackArm1
import Derived.Test.YtgbccaplckiilaaDoorBackArm2
import Derived.Test.YtgbccaplckiilaaDoorBackArmA
set_option linter.unusedVariables false
namespace Go.Proofs.YtgbccaplckiilaaDoor
open Go.RowKit

theorem ob_shape {w : World} {base : Nat} {v : Value} {l : List Bool} (h : OwnBools w base v l) : ∃ a c, v = .slice a l.length c ∧ ∀ (k : Nat) (x : Bool), l[k]? = some x → ∃ g, a = some ⟨g, 0, none⟩ ∧ g < w.heap.size ∧ w.cell? ⟨g, k, none⟩ = some (.bool x) := by
  obtain ⟨hl, ⟨rfl, hn⟩ | ⟨g, cap, cur, rfl, hb, hh, hc, hm, hs, ht⟩⟩ := h
  · have : l = [] := List.length_eq_zero_iff.1 hn
    subst this
    exact ⟨none, 0, rfl, fun k x h => by simp at h⟩
  · have hB : Blk w g 4 cur.toList := by unfold Blk; simpa using hh
    refine ⟨_, cap, rfl, fun k x hx => ⟨g, rfl, hB.lt, ?_⟩⟩
    have hi : k < l.length := (List.getElem?_eq_some_iff.1 hx).1
    have h2 : (cur.toList.take (l.length * 1))[k]? = (bools l)[k]? := by rw [ht]
    rw [List.getElem?_take_of_lt (by omega)] at h2
    refine hB.cell_ (h2.trans ?_)
    simp [bools, hx]
theorem bp_blk (w wr : World) (b bx slots j : Nat) (a3 : Option Addr) (m c' : Nat) (l : List Int) (hm : l.length = m) : BPGoal w wr b bx slots j a3 m c' l := by
  match l, hm with
  | [k], rfl => exact bp_arm1 w wr b bx slots j a3 c' k
  | [k, x], rfl => exact bp_arm2 w wr b bx slots j a3 c' k x
  | [k, x, y], rfl => exact bp_arm3 w wr b bx slots j a3 c' _
  | [k, x, y, z], rfl => exact bp_arm4 w wr b bx slots j a3 c' _
  | [], rfl => exact bp_armE w wr b bx slots j a3 c' _ _ (by decide) (by decide) (by decide) (by decide)
  | _ :: _ :: _ :: _ :: _ :: _, hm => exact bp_armE w wr b bx slots j a3 c' m _ (by simp at hm; omega) (by simp at hm; omega) (by simp at hm; omega) (by simp at hm; omega)

set_option maxRecDepth 100000 in
theorem backPlays_no (n : Int) (a : Option Addr) (m c : Nat) (w : World) (h : n < 1 ∨ 8 < n) (hg : Handle w) :
    Calls Tryd.prog 3 #[.int .i64 n, .slice a m c] w fun e w' => e = .returned (.bool true) ∧ Below w.heap.size w w' := by
  go_enter Tryd.func3, Tryd.ntmps3
  go_wp2_with (first
    | (go_at_call 4; refine (bNew_no _ _ h).mono ?_; rintro e w2 ⟨rfl, rfl⟩)
    | (go_at_call 5; refine (in_no _ _ _ _ h).mono ?_; rintro e w' ⟨rfl, rfl⟩)
    | (go_at_call 6; refine (eError_n (errv 1) 1 _ (.inr rfl) hg).mono ?_; rintro e w1 ⟨rfl, hb⟩))
  go_ret
  exact ⟨rfl, hb⟩
def BPRel (w : World) (b bx slots m : Nat) (i : Value) (wr : World) : Prop :=
  ∃ (j : Nat) (s : BSt) (v : Value) (n : Nat) (aB aH aV aD : Option Addr) (cB cH cV cD : Nat), j ≤ m ∧ j ≤ 100 ∧ i = .int .i64 j ∧ PBS w wr b bx slots n v s s aB aH aV aD cB cH cV cD ∧ BI slots s j

set_option maxHeartbeats 40000000 in
set_option maxRecDepth 100000 in
theorem backPlays_yes (slots : Nat) (h1 : 1 ≤ (slots : Int)) (h2 : (slots : Int) ≤ 8) (a : Option Addr) (c : Nat) (xss : List (List Int)) (w : World) (hx : RowsIn w w.heap.size a xss) (hn : xss.length ≤ maxLen) (hh : Handle w) :
    Calls Tryd.prog 3 #[.int .i64 slots, .slice a xss.length c] w fun e w' => e = .returned (.bool true) ∧ Below w.heap.size w w' := by
  have HNL := Lib.hid hn; have HX := Lib.hid hx; have HH := Lib.hid hh; clear hn hx hh
  have hw0 := HH.out.lt
  have h1n : 1 ≤ slots := by omega
  have h8n : slots ≤ 8 := by omega
  go_enter Tryd.func3, Tryd.ntmps3
  go_wp2_with fail
  refine (bNew_ok slots _ h1 h2).mono ?_
  rintro e w1 ⟨rfl, hat, hb1⟩
  obtain ⟨b, hb⟩ : ∃ b, b = w.heap.size := ⟨_, rfl⟩
  rw [← hb] at hat ⊢
  have HAT := Lib.hid hat; have HB1 : Hid (Below w.heap.size w w1) := Lib.hid hb1
  have HBB : Hid (w.heap.size ≤ b) := Lib.hid (by omega)
  clear hat hb1 hb
  go_wp2_with (go_at_call 5; refine (in_yes _ _ _ _ (by omega) (by omega)).mono ?_; rintro e w' ⟨rfl, rfl⟩)
  refine (kNew slots _).mono ?_
  rintro e w2 ⟨V, rfl, hds, hb2⟩
  obtain ⟨n, aB, aH, aV, aD, cB, cH, cV, cD, hnn, rfl, hin⟩ := hds
  have HIN := Lib.hid hin; have HB2 := Lib.hid hb2; have HNN := Lib.hid hnn
  obtain ⟨s, hs⟩ : ∃ s, s = bs0 := ⟨_, rfl⟩
  have HI0 : Hid (BI slots s 0) := Lib.hid (by rw [hs]; exact ⟨_, bs0_inv' slots⟩)
  rw [← hs] at HIN HNN HAT ⊢
  clear hin hb2 hnn hs
  go_wp2
  obtain ⟨bx, hbx⟩ : ∃ bx, bx = w2.heap.size := ⟨_, rfl⟩
  obtain ⟨w3, hw3⟩ : ∃ w3, w3 = w2.alloc (.cells #[.int .i64 slots, .slice aB 8 cB, .slice aH n cH, .slice aV n cV, .slice aD n cD, .int .i64 s.reads, .int .i64 s.writes] 32) := ⟨_, rfl⟩
  have hps : PBS w w3 b bx slots n (.slice none 0 0) s s aB aH aV aD cB cH cV cD := by
    have z1 := HB1.out.size; have z2 := HB2.out.size
    have k3 : Keep [] w2 w3 := by rw [hw3]; exact (Keep.refl _ w2).alloc _
    have k2 : Keep [] w1 w2 := Keep.of_below HB2.out (Nat.le_refl _)
    have k23 := k2.trans k3
    refine ⟨⟨HAT.out.top.keep k23 (by simp), HAT.out.dl, HAT.out.fr.keepF k23 (by simp)⟩, by rw [hw3, hbx]; exact Blk.new w2 _ (dTop slots aB aH aV aD 8 n n n cB cH cV cD s.reads s.writes), HIN.out.keep0 k3, HNN.out, ?_, HBB.out, by omega, by simp [Value.ownBlock]⟩
    exact HB1.out.trans (k23.below z1 (by simp))
  have HPS := Lib.hid hps
  rw [← hbx, ← hw3]
  clear hps hw3 hbx HAT HIN HB1 HB2 HNN
  go_loopw [8] (fun i wr => BPRel w b bx slots xss.length i wr) (fun i _ => xss.length - (intOf i).toNat)
  case atStart => exact ⟨0, s, _, n, aB, aH, aV, aD, cB, cH, cV, cD, by omega, by omega, rfl, HPS.out, HI0.out⟩
  case round =>
    clear HPS HI0
    obtain ⟨i, s, v, n, aB, aH, aV, aD, cB, cH, cV, cD, hj, hj8, rfl, hps, hinv⟩ := hrel
    have HPS := Lib.hid hps; have HI := Lib.hid hinv; clear hps hinv
    by_cases hlt : i < xss.length ∧ i < 100
    · obtain ⟨hlt, hlt8⟩ := hlt
      obtain ⟨bx1, off, a3, c', rfl, hbB, hcell, hrow⟩ := HX.out.at_ hlt
      have hcell2 := (HPS.out.bel.cell (p := ⟨bx1, off + i, none⟩) hbB).trans hcell
      obtain ⟨l, hl⟩ : ∃ l, l = xss[i] := ⟨_, rfl⟩
      obtain ⟨m, hm⟩ : ∃ m, m = l.length := ⟨_, rfl⟩
      rw [← hl] at hrow
      rw [← hl, ← hm] at hcell2
      have HIN := Lib.hid (BPIn.mk (a3 := a3) (l := l) HPS.out HI.out hrow HH.out h1n h8n hj8)
      have HM := Lib.hid hm.symm
      clear hl hcell hrow hm
      have hj80 : (i : Int) < 100 := by omega
      have hjn : (i : Int) < (xss.length : Int) := by omega
      have hj0 : (0 : Int) ≤ (i : Int) := by omega
      go_upto_block 2 with fail
      refine Code.wp_mono noExit_then (bp_blk w wr b bx slots i a3 m c' l HM.out n v s aB aH aV aD cB cH cV cD _ _ _ _ _ _ _ _ _ _ _ _ _ _ _ _ _ _ _ _ _ _ _ _ _ _ _ _ _ _ _ _ _ _ _ _ _ _ _ _ _ _ _ _ _ _ _ _ _ _ _ _ _ _ _ _ _ _ _ _ _ _ _ _ _ _ _ _ _ _ _ _ _ _ _ _ _ _ _ _ _ _ _ _ _ _ _ _ _ _ _ _ _ _ _ _ _ _ _ _ _ _ _ _ _ _ _ _ _ _ _ _ _ _ _ _ _ _ _ _ _ _ _ _ _ _ _ _ _ _ _ _ _ _ _ _ _ _ _ _ _ _ _ _ _ _ _ _ _ _ _ _ _ _ _ _ _ _ _ _ _ _ _ _ _ _ _ _ _ _ _ _ _ _ _ _ _ _ _ _ _ _ HIN.out ?_)
      unfold BPAfter
      intro j10 j11 j12 j13 j49 j50 j51 j52 j53 j54 j55 j56 j57 j58 j59 j60 j61 j62 j63 j64 j65 j66 j67 j68 j69 j70 j71 j72 j73 j74 j75 j76 j77 j78 j79 j80 j81 j82 j83 j84 j85 j86 j87 j88 j89 j90 j91 j92 j93 j94 j95 j96 j97 j98 j99 j100 j101 j102 j103 j104 j105 j106 j107 j108 j109 j110 j111 j112 j113 j114 j115 j116 j117 j118 j119 j120 j121 j122 j123 j124 j125 j126 j127 j128 wc hcut
      clear HIN HPS HI hcell2
      obtain ⟨s, v, n, aB, aH, aV, aD, cB, cH, cV, cD, hps, hinv⟩ := hcut
      obtain ⟨hle, hrng, hr0, hr1, hq0, hq1, hdl⟩ := hinv.bd (by omega)
      have HPS := Lib.hid hps; have HI := Lib.hid hinv; have HDL := Lib.hid hdl
      have HNN := Lib.hid hps.hn
      have hn8 : n ≤ 8 := by have := hps.hn; omega
      clear hps hinv hrng hdl
      obtain ⟨x0, x1, x2, x3, x4, x5, x6, f0, f1, f2, f3, f4, f5, f6⟩ := HPS.out.cells
      go_wp2_with fail
      refine (bHeld_any b slots v s _ HPS.out.bat (by omega)).mono ?_
      rintro e w4 ⟨vA, vB, rfl, hA, hB, hb4⟩
      obtain ⟨aA, cA, rfl, hnA, _⟩ := hA.new
      obtain ⟨aQ, cQ, rfl, hnQ⟩ := ob_shape hB
      rw [show (s.fr.map (·.1)).length = n by have := HNN.out; simp [this], show (s.fr.map (·.2.2)).length = n by have := HNN.out; simp [this]]
      have HPS4 := Lib.hid (HPS.out.below hb4)
      have HA4 : Hid (IntsIn w4 w4.heap.size aA (hdL s.fr)) := Lib.hid hnA.ints
      have HQ4 := Lib.hid hnQ
      clear hA hB hnA hnQ hb4 HPS
      clear x0 x1 x2 x3 x4 x5 x6 f0 f1 f2 f3 f4 f5 f6
      obtain ⟨x0, x1, x2, x3, x4, x5, x6, f0, f1, f2, f3, f4, f5, f6⟩ := HPS4.out.cells
      go_wp2
      have hold : ∀ w' : World, Keep [] w4 w' → w'.cell? ⟨bx, 1, none⟩ = some (.slice aB 8 cB) ∧ w'.cell? ⟨bx, 2, none⟩ = some (.slice aH n cH) := fun w' hk => ⟨(HPS4.out.keep0 hk).cells.2.1, (HPS4.out.keep0 hk).cells.2.2.1⟩
      have HOLD := Lib.hid hold
      clear x0 x1 x2 x3 x4 x5 x6 f0 f1 f2 f3 f4 f5 f6 hold
      go_region_held3 (fun w' => w'.cell? ⟨bx, 1, none⟩ = some (.slice aB 8 cB) ∧ w'.cell? ⟨bx, 2, none⟩ = some (.slice aH n cH))
        (first | exact HOLD.out _ (Keep.refl _ _).drew | exact HOLD.out _ HK9.out | exact HOLD.out _ HK10.out | exact HOLD.out _ HK11.out | fail)
        (first
        | (go_at_call 17; refine (bDisk_any b slots v s _ (HPS4.out.keep0 (Keep.refl [] w4).drew).bat).mono ?_; rintro e w9 ⟨aE, cE, rfl, hnD, hb9⟩; have HE9 := Lib.hid hnD.ints; have HK9 : Hid (Keep [] w4 w9) := Lib.hid (((Keep.refl [] w4).drew).trans (Keep.of_below hb9 (Nat.le_refl _))); clear hnD hb9)
        | (go_at_call_of 16 (Value.slice aE 8 cE); refine (ints_same_keep aE aB 8 cE cB _ _ s.disk _ HDL.out HE9.out (own_in (HPS4.out.keep0 HK9.out).inn.B) (by unfold maxLen; omega)).mono ?_; rintro e w10 ⟨rfl, hk10⟩; have HK10 := Lib.hid (HK9.out.trans hk10); clear hk10)
        | (go_at_call_of 16 (Value.slice aA n cA); refine (ints_same_keep aA aH n cA cH _ _ (hdL s.fr) _ (by rw [hdL_len]; exact HNN.out.symm) (HA4.out.keep (fun g hg => HK10.out.block g hg (by simp))) (own_in (HPS4.out.keep0 HK10.out).inn.H) (by unfold maxLen; omega)).mono ?_; rintro e w11 ⟨rfl, hk11⟩; have HK11 := Lib.hid (HK10.out.trans hk11); clear hk11))
      all_goals
        have HPS11 := Lib.hid (HPS4.out.keep0 HK11.out)
        have HQ11 := HK11
        go_wp2
        go_loopw [16] (fun i wr => ∃ k : Nat, k ≤ n ∧ i = .int .i64 k ∧ Keep [] w11 wr) (fun i _ => n - (intOf i).toNat)
        case atStart => exact ⟨0, Nat.zero_le _, rfl, Keep.refl _ _⟩
        case round =>
          obtain ⟨p, hp, rfl, hkp⟩ := hrel
          have HPP := Lib.hid (HPS11.out.keep0 hkp); have HKP := Lib.hid hkp
          clear hkp
          obtain ⟨x0, x1, x2, x3, x4, x5, x6, f0, f1, f2, f3, f4, f5, f6⟩ := HPP.out.cells
          by_cases hlt3 : p < n
          · have hpL : p < s.fr.length := by have := HNN.out; omega
            have hpn : (p : Int) < (n : Int) := by omega
            have hp0 : (0 : Int) ≤ (p : Int) := by omega
            obtain ⟨f, hf⟩ : ∃ f, f = s.fr[p] := ⟨_, rfl⟩
            have hg : s.fr[p]? = some f := by rw [hf]; exact List.getElem?_eq_getElem hpL
            obtain ⟨gQ, rfl, hgl, hcq⟩ := HQ4.out p f.2.2 (by rw [List.getElem?_map, hg]; rfl)
            have hcq2 := ((HQ11.out.trans HKP.out).cell (p := ⟨gQ, p, none⟩) hgl (by simp)).trans hcq
            obtain ⟨gD, rfl, hcD⟩ := own_cell (i := p) HPP.out.inn.D (by show p < (s.fr.map _).length; rw [List.length_map]; exact hpL)
            rw [show (diL s.fr).getD p 0 = if f.2.2 = true then 1 else 0 from map_getD _ hg] at hcD
            obtain ⟨fd, hfd⟩ : ∃ fd, fd = f.2.2 := ⟨_, rfl⟩
            rw [← hfd] at hcq2 hcD
            clear hf hg hcq hfd
            cases fd
            · simp only [Bool.false_eq_true, if_false] at hcD
              go_wp2
              go_quiet (fail)
              go_wp2
              go_roundw
              case rel => exact ⟨p + 1, hlt3, by simp, HKP.out.drewN _⟩
              case measure => simp [intOf]; omega
            · simp only [if_true] at hcD
              go_wp2
              go_quiet (fail)
              go_wp2
              go_roundw
              case rel => exact ⟨p + 1, hlt3, by simp, HKP.out.drewN _⟩
              case measure => simp [intOf]; omega
          · obtain rfl : p = n := by omega
            go_wp2_with fail
            refine (bMoves_any b slots v s _ HPP.out.bat).mono ?_
            rintro e w12 ⟨rfl, q12, hw12⟩
            have HPS12 : Hid (PBS w w12 b bx slots p v s s aB aH aV aD cB cH cV cD) := Lib.hid (by rw [hw12]; exact HPP.out.keep0 ((Keep.refl [] wr).drewN q12))
            clear hw12 x0 x1 x2 x3 x4 x5 x6 f0 f1 f2 f3 f4 f5 f6
            obtain ⟨x0, x1, x2, x3, x4, x5, x6, f0, f1, f2, f3, f4, f5, f6⟩ := HPS12.out.cells
            go_wp2
            go_roundw
            case rel => exact ⟨i + 1, s, v, p, aB, aH, aV, aD, cB, cH, cV, cD, hlt, by omega, by simp, HPS12.out, HI.out⟩
            case measure => simp [intOf]; omega
    · have hx : ¬ (i : Int) < (xss.length : Int) ∨ ((i : Int) < (xss.length : Int) ∧ ¬ (i : Int) < 100) := by omega
      clear hlt
      rcases hx with hx | ⟨hx, hx2⟩
      all_goals
        go_wp2
        go_ret
        exact ⟨rfl, HPS.out.bel⟩

theorem backPlays_walk (x0 : Int) (a1 : Option Addr) (c1 : Nat) (l1 : List (List Int)) (w : World) (_ : I64 x0) (h2 : RowsIn w w.heap.size a1 l1) (_ : ∀ r ∈ l1, r.length ≤ maxLen ∧ ∀ y ∈ r, I64 y) (m2 : l1.length ≤ maxLen) (hg : Handle w) :
    Calls Tryd.prog 3 #[.int .i64 x0, .slice a1 l1.length c1] w fun e w' => e = .returned (.bool true) ∧ Below w.heap.size w w' := by
  by_cases h : 1 ≤ x0 ∧ x0 ≤ 8
  · obtain ⟨h1, h2'⟩ := h
    obtain ⟨d, rfl⟩ := Int.eq_ofNat_of_zero_le (show 0 ≤ x0 by omega)
    exact backPlays_yes d h1 h2' a1 c1 l1 w h2 m2 hg
  · exact backPlays_no x0 a1 _ c1 w (by omega) hg
end Go.Proofs.YtgbccaplckiilaaDoor
