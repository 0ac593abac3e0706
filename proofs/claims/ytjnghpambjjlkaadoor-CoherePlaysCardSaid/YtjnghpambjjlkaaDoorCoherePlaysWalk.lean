/-
  CoherePlays: the walk (printed by wip/gen_cohereplays3.py).
-/
import Derived.Test.YtjnghpambjjlkaaDoorCohereArm2
import Derived.Test.YtjnghpambjjlkaaDoorCohereArm3
import Derived.Test.YtjnghpambjjlkaaDoorCohereArm4
import Derived.Test.YtjnghpambjjlkaaDoorCohereArmN
namespace Go.Proofs.YtjnghpambjjlkaaDoor
open Go.RowKit

theorem cp_blkY (w wr : World) (b g bx n N b3 off3 c' m i p k : Nat) (rest : List Int) (hpn : p < n) (hk4 : k < 4) : CPGoal w wr b g bx n N b3 off3 c' m i 0 p k rest := by
  by_cases e2 : m = 2
  · subst e2; exact cp_armY2 w wr b g bx n N b3 off3 c' i p k rest hpn hk4
  by_cases e3 : m = 3
  · subst e3; exact cp_armY3 w wr b g bx n N b3 off3 c' i p k rest hpn hk4
  by_cases e4 : m = 4
  · subst e4; exact cp_armY4 w wr b g bx n N b3 off3 c' i p k rest hpn hk4
  · exact cp_armE w wr b g bx n N b3 off3 c' m i 0 p k rest e2 e3 e4
theorem cp_blkN (w wr : World) (b g bx n N b3 off3 c' m i : Nat) (x y : Int) (rest : List Int) (hxy : ¬ (0 ≤ x ∧ x ≤ (n : Int) - 1 ∧ 0 ≤ y ∧ y ≤ 3)) : CPGoal w wr b g bx n N b3 off3 c' m i 1 x y rest := by
  by_cases e2 : m = 2
  · subst e2; exact cp_armN2 w wr b g bx n N b3 off3 c' i x y rest hxy
  by_cases e3 : m = 3
  · subst e3; exact cp_armN3 w wr b g bx n N b3 off3 c' i x y rest hxy
  by_cases e4 : m = 4
  · subst e4; exact cp_armN4 w wr b g bx n N b3 off3 c' i x y rest hxy
  · exact cp_armE w wr b g bx n N b3 off3 c' m i 1 x y rest e2 e3 e4

set_option maxRecDepth 100000 in
theorem coherePlays_no (n : Int) (a : Option Addr) (m c : Nat) (w : World) (h : n < 1 ∨ 4 < n) (hg : Handle w) :
    Calls Tryd.prog 6 #[.int .i64 n, .slice a m c] w fun e w' => e = .returned (.bool true) ∧ Below w.heap.size w w' := by
  rcases h with h | h
  all_goals
    first
      | (have h' : ¬ 1 ≤ n := by omega)
      | (have h' : 1 ≤ n := by omega)
    go_enter Tryd.func6, Tryd.ntmps6
    go_wp2_with fail
    refine (cohereNew_no n _ (by omega)).mono ?_
    rintro e w' ⟨rfl, rfl⟩
    go_wp2_with fail
    refine (eError_n (errv 1) 1 _ (.inr rfl) hg).mono ?_
    rintro e w1 ⟨rfl, hb⟩
    go_wp2
    go_ret
    exact ⟨rfl, hb⟩

set_option maxHeartbeats 40000000 in
set_option maxRecDepth 100000 in
theorem coherePlays_yes (n N : Nat) (h1 : 1 ≤ (n : Int)) (h2 : (n : Int) ≤ 4) (hN : N = 4 * n) (a : Option Addr) (c : Nat) (xss : List (List Int)) (w : World) (hx : RowsIn w w.heap.size a xss) (hn : xss.length ≤ maxLen) (hh : Handle w) :
    Calls Tryd.prog 6 #[.int .i64 n, .slice a xss.length c] w fun e w' => e = .returned (.bool true) ∧ Below w.heap.size w w' := by
  have HNL := Lib.hid hn; have HX := Lib.hid hx; have HN := Lib.hid hN; have HH := Lib.hid hh; clear hn hx hN hh
  have hw0 := HH.out.lt
  go_enter Tryd.func6, Tryd.ntmps6
  go_wp2_with fail
  refine (cohereNew_yes n _ h1 h2).mono ?_
  rintro e w1 ⟨rfl, hs, hb1⟩
  obtain ⟨b, hb⟩ : ∃ b, b = w.heap.size + 1 := ⟨_, rfl⟩
  obtain ⟨g, hg⟩ : ∃ g, g = w.heap.size := ⟨_, rfl⟩
  rw [← hb] at hs ⊢
  rw [← hg] at hs
  have HS : Hid (CAt w1 b g n (c0 n)) := Lib.hid hs
  have HB1 := Lib.hid hb1
  have HBB : Hid (w.heap.size ≤ b ∧ w.heap.size ≤ g) := Lib.hid ⟨by omega, by omega⟩
  clear hs hb1 hb hg
  go_wp2_with fail
  refine (kNewCaches n N _ HN.out (by omega) (by omega)).mono ?_
  rintro e w2 ⟨gm, cm, gs, cs, gv, cv, rfl, hkc, hb2⟩
  have HKC := Lib.hid hkc; have HB2 := Lib.hid hb2
  clear hkc hb2
  rw [show (c0 n).mv = 0 from rfl]
  go_wp2
  obtain ⟨bx, hbx⟩ : ∃ bx, bx = w2.heap.size := ⟨_, rfl⟩
  obtain ⟨w3, hw3⟩ : ∃ w3, w3 = w2.alloc (.cells #[.int .i64 n, .slice (some ⟨gm, 0, none⟩) 4 cm, .slice (some ⟨gs, 0, none⟩) N cs, .slice (some ⟨gv, 0, none⟩) N cv, .int .i64 0] 66) := ⟨_, rfl⟩
  have hps : PS w w3 b g bx n N (c0 n) (c0 n) gm cm gs cs gv cv := by
    have z1 := HB1.out.size; have z2 := HB2.out.size
    have k3 : Keep [] w2 w3 := by rw [hw3]; exact (Keep.refl _ w2).alloc _
    have k2 : Keep [] w1 w2 := Keep.of_below HB2.out (Nat.le_refl _)
    refine ⟨CachesAt.keep HS.out (k2.trans k3) (by simp), by rw [hw3, hbx]; exact Blk.new w2 _ (kTop n N gm cm gs cs gv cv 0), HKC.out.keep0 k3, ?_, HBB.out.1, HBB.out.2, by omega⟩
    exact HB1.out.trans ((k2.trans k3).below z1 (by simp))
  have HPS := Lib.hid hps
  rw [← hbx, ← hw3]
  clear hps hw3 hbx HS HKC HB1 HB2
  go_loopw [8] (fun i wr => PRel w b g bx n N xss.length i wr) (fun i _ => xss.length - (intOf i).toNat)
  case atStart => exact ⟨0, _, gm, cm, gs, cs, gv, cv, by omega, by omega, rfl, HPS.out, (by show (0 : Int) ≤ 0; decide), (by show (0 : Int) ≤ 5 * ((0 : Nat) : Int); decide)⟩
  case round =>
    obtain ⟨i, s, gm, cm, gs, cs, gv, cv, hj, hj8, rfl, hps, hm0, hm1⟩ := hrel
    have HPS := Lib.hid hps; clear hps
    by_cases hlt : i < xss.length ∧ i < 80
    · obtain ⟨hlt, hlt8⟩ := hlt
      obtain ⟨bx1, off, a', c', rfl, hbB, hcell, hrow⟩ := HX.out.at_ hlt
      have hcell2 := (HPS.out.bel.cell (p := ⟨bx1, off + i, none⟩) hbB).trans hcell
      obtain ⟨l, hl⟩ : ∃ l, l = xss[i] := ⟨_, rfl⟩
      obtain ⟨m, hm⟩ : ∃ m, m = l.length := ⟨_, rfl⟩
      rw [← hl] at hrow
      rw [← hl, ← hm] at hcell2
      have HR := Lib.hid hrow
      clear hl hcell hrow
      have hj80 : (i : Int) < 80 := by omega
      have hjn : (i : Int) < (xss.length : Int) := by omega
      have hj0 : (0 : Int) ≤ (i : Int) := by omega
      have HNX : Hid (PRel w b g bx n N xss.length (.int .i64 ((i : Int) + 1)) wr) := Lib.hid ⟨i + 1, s, gm, cm, gs, cs, gv, cv, hlt, by omega, by simp, HPS.out, hm0, by omega⟩
      by_cases hm2 : (m : Int) < 2
      · go_wp2
        go_roundw
        case rel => exact HNX.out
        case measure => simp [intOf]; omega
      clear HNX
      obtain ⟨x, y, rest, rfl⟩ : ∃ x y rest, l = x :: y :: rest := by
        match l, hm with
        | [], hm => simp at hm; omega
        | [_], hm => simp at hm; omega
        | x :: y :: rest, _ => exact ⟨x, y, rest, rfl⟩
      have HM := Lib.hid hm; clear hm
      obtain ⟨b3, off3, rfl, hb3, hc3⟩ := HR.out (by simp)
      have HC3 : Hid (∀ w' : World, Below w.heap.size w w' → ∀ (q : Nat) (z : Int), (x :: y :: rest)[q]? = some z → w'.cell? ⟨b3, off3 + q, none⟩ = some (.int .i64 z)) := Lib.hid fun w' hb q z hz => (hb.cell (p := ⟨b3, off3 + q, none⟩) hb3).trans (hc3 q z hz)
      clear hc3
      have hmg : (1 : Int) < (m : Int) := by omega
      have hmg0 : (0 : Int) < (m : Int) := by omega
      have hy0 : wr.cell? ⟨b3, off3, none⟩ = some (.int .i64 x) := HC3.out wr HPS.out.bel 0 x rfl
      have hy1 : wr.cell? ⟨b3, off3 + 1, none⟩ = some (.int .i64 y) := HC3.out wr HPS.out.bel 1 y rfl
      have hwn : IntKind.i64.wrap ((n : Int) - 1) = (n : Int) - 1 := IntWalk.i64_in _ (by omega)
      by_cases hxy : 0 ≤ x ∧ x ≤ (n : Int) - 1 ∧ 0 ≤ y ∧ y ≤ 3
      · obtain ⟨r1, r2, r3, r4⟩ := hxy
        obtain ⟨p, rfl⟩ := Int.eq_ofNat_of_zero_le r1
        obtain ⟨k, rfl⟩ := Int.eq_ofNat_of_zero_le r3
        have hpn : p < n := by omega
        have hk4 : k < 4 := by omega
        have hpi : (p : Int) < (n : Int) := by omega
        have HIN := Lib.hid (CPIn.mk (m := m) (i := i) (b3 := b3) (off3 := off3) HPS.out hm0 hm1 hlt8 HC3.out HH.out h1 h2 HN.out HM.out)
        go_upto_block 2 with (first
          | (go_at_call 11; refine (in_yes _ _ _ _ (by omega) (by omega)).mono ?_; rintro e w' ⟨rfl, rfl⟩)
          | (go_at_call 11; refine (in_no _ _ _ _ (by omega)).mono ?_; rintro e w' ⟨rfl, rfl⟩))
        refine Code.wp_mono cpNoExit_then (cp_blkY w wr b g bx n N b3 off3 c' m i p k rest hpn hk4 s gm cm gs cs gv cv _ _ _ _ _ _ _ _ _ _ _ _ _ _ _ _ _ _ _ _ _ _ _ _ _ _ _ _ _ _ _ _ _ _ _ _ _ _ _ _ _ _ _ _ _ _ _ _ _ _ _ _ _ _ _ _ _ _ _ _ _ _ _ _ _ _ _ _ _ _ _ _ _ _ _ _ _ _ _ _ _ _ _ _ _ _ _ _ _ _ _ _ _ _ _ _ _ _ _ _ _ _ _ _ _ _ _ _ _ _ _ _ _ _ _ _ _ _ _ _ _ _ _ _ _ _ _ _ _ _ _ _ _ _ _ _ _ _ _ _ _ _ _ _ _ _ _ _ _ _ _ _ _ _ _ _ _ _ _ _ _ _ _ _ _ _ _ _ _ _ _ _ _ _ _ _ _ _ _ _ _ _ _ _ _ _ _ _ _ _ _ _ _ _ _ _ _ _ _ _ _ _ _ _ _ _ _ _ _ _ _ _ _ _ _ _ _ _ _ _ _ _ _ _ _ _ _ _ _ _ _ _ HIN.out ?_)
        unfold CPAfter
        intro j4 j10 j11 j12 j13 j70 j71 j72 j73 j74 j75 j76 j77 j78 j79 j80 j81 j82 j83 j84 j85 j86 j87 j88 j89 j90 j91 j92 j93 j94 j95 j96 j97 j98 j99 j100 j101 j102 j103 j104 j105 j106 j107 j108 j109 j110 j111 j112 j113 j114 j115 j116 j117 j118 j119 j120 j121 j122 j123 j124 j125 j126 j127 j128 j129 j130 j131 j132 j133 j134 j135 j136 j137 j138 j139 j140 j141 j142 j143 j144 j145 j146 j147 j148 j149 j150 j151 j152 j153 j154 j155 j156 j157 j158 j159 j160 j161 j162 j163 j164 j165 j166 j167 j168 wc hcut
        clear HPS hy0 hy1 HIN
        obtain ⟨t, gm, cm, gs, cs, gv, cv, hps8, hb1, hb2⟩ := hcut
        have HPS := Lib.hid hps8
        clear hps8
        have hbt : 0 ≤ t.mv ∧ t.mv ≤ 5 * ((i : Int) + 1) := ⟨hb1, hb2⟩
        have HBT := Lib.hid hbt
        clear hbt
        go_wp2_with fail
        go_loopw [14] (fun i wr => ∃ k : Nat, k ≤ 4 ∧ i = .int .i64 k ∧ Keep [] wc wr) (fun i _ => 4 - (intOf i).toNat)
        case atStart => exact ⟨0, by omega, rfl, Keep.refl _ _⟩
        case round =>
          obtain ⟨k, hk, rfl, hkk⟩ := hrel
          have HPK := Lib.hid (HPS.out.keep hkk)
          have HKK := Lib.hid hkk
          clear hkk
          by_cases hlt2 : k < 4
          · have hk4 : (k : Int) < 4 := by omega
            have hk0 : (0 : Int) ≤ (k : Int) := by omega
            go_wp2_with fail
            obtain ⟨wo, rfl⟩ : ∃ wo : World, wo = wr := ⟨_, rfl⟩
            go_loopw [15] (fun i wr => ∃ p : Nat, p ≤ n ∧ i = .int .i64 p ∧ Keep [] wo wr) (fun i _ => n - (intOf i).toNat)
            case atStart => exact ⟨0, by omega, rfl, Keep.refl _ _⟩
            case round =>
              obtain ⟨p, hp, rfl, hkp⟩ := hrel
              have HPP := Lib.hid (HPK.out.keep hkp)
              have HKP := Lib.hid hkp
              clear hkp
              by_cases hlt3 : p < n
              · have hpn : (p : Int) < (n : Int) := by omega
                obtain ⟨q, hq⟩ : ∃ q : Nat, q = p * 4 := ⟨_, rfl⟩
                obtain ⟨j, hj⟩ : ∃ j : Nat, j = p * 4 + k := ⟨_, rfl⟩
                have hqi : (p : Int) * 4 = (q : Int) := by omega
                have hji : (q : Int) + (k : Int) = (j : Int) := by omega
                have hjN : j < N := by have := HN.out; omega
                have hj0 : (0 : Int) ≤ (j : Int) := by omega
                have hjNi : (j : Int) < (N : Int) := by omega
                go_wp2_with fail
                refine (state_any b g n p k t _ HPP.out.cat h2 hpn (by omega)).mono ?_
                rintro e w7 ⟨rfl, hk7⟩
                have hps7 := HPP.out.keep hk7
                obtain ⟨x0, x1, x2, x3, x4, f0, f1, f2, f3, f4⟩ := hps7.cells
                have hcs := hps7.kc.st hj hjN
                have hcv := hps7.kc.va hj hjN
                have HRL : Hid (Keep [] wo w7) := Lib.hid (HKP.out.trans hk7)
                obtain ⟨y1, hy1⟩ : ∃ y1, y1 = t.st p k := ⟨_, rfl⟩
                obtain ⟨y2, hy2⟩ : ∃ y2, y2 = t.va p k := ⟨_, rfl⟩
                rw [← hy1] at hcs ⊢
                rw [← hy2] at hcv ⊢
                clear hy1 hy2 hps7 hk7 hq hj
                go_wp2
                go_roundw
                case rel => exact ⟨p + 1, hlt3, by simp, HRL.out⟩
                case measure => simp [intOf]; omega
              · obtain rfl : p = n := by omega
                obtain ⟨x0, x1, x2, x3, x4, f0, f1, f2, f3, f4⟩ := HPP.out.cells
                have hme := HPP.out.kc.me hlt2
                go_wp2
                go_quiet ((go_at_call 41; exact quiet_eq (memory_any b g _ k t _ (HPP.out.cat.keep ((Keep.refl [] _).drewN _) (by simp)) (by omega))))
                go_wp2
                go_roundw
                case rel => exact ⟨k + 1, hlt2, by simp, HKK.out.trans (HKP.out.drewN _)⟩
                case measure => simp [intOf]; omega
          · obtain rfl : k = 4 := by omega
            obtain ⟨x0, x1, x2, x3, x4, f0, f1, f2, f3, f4⟩ := HPK.out.cells
            go_wp2
            go_quiet ((go_at_call 42; exact quiet_eq (moves_any b g _ t _ (HPK.out.cat.keep ((Keep.refl [] _).drewN _) (by simp)))))
            go_wp2
            go_roundw
            case rel => exact ⟨i + 1, t, gm, cm, gs, cs, gv, cv, hlt, by omega, by simp, HPK.out.keep ((Keep.refl _ _).drewN _), HBT.out.1, HBT.out.2⟩
            case measure => simp [intOf]; omega
      · have HXY := Lib.hid hxy
        have hcase : (x < 0 ∨ (n : Int) - 1 < x) ∨ ((0 ≤ x ∧ x ≤ (n : Int) - 1) ∧ (y < 0 ∨ 3 < y)) := by omega
        clear hxy
        rcases hcase with hr | ⟨hr, hr2⟩
        all_goals
          have HIN := Lib.hid (CPIn.mk (m := m) (i := i) (b3 := b3) (off3 := off3) HPS.out hm0 hm1 hlt8 HC3.out HH.out h1 h2 HN.out HM.out)
          go_upto_block 2 with (first
            | (go_at_call 11; refine (in_yes _ _ _ _ (by omega) (by omega)).mono ?_; rintro e w' ⟨rfl, rfl⟩)
            | (go_at_call 11; refine (in_no _ _ _ _ (by omega)).mono ?_; rintro e w' ⟨rfl, rfl⟩))
          refine Code.wp_mono cpNoExit_then (cp_blkN w wr b g bx n N b3 off3 c' m i x y rest HXY.out s gm cm gs cs gv cv _ _ _ _ _ _ _ _ _ _ _ _ _ _ _ _ _ _ _ _ _ _ _ _ _ _ _ _ _ _ _ _ _ _ _ _ _ _ _ _ _ _ _ _ _ _ _ _ _ _ _ _ _ _ _ _ _ _ _ _ _ _ _ _ _ _ _ _ _ _ _ _ _ _ _ _ _ _ _ _ _ _ _ _ _ _ _ _ _ _ _ _ _ _ _ _ _ _ _ _ _ _ _ _ _ _ _ _ _ _ _ _ _ _ _ _ _ _ _ _ _ _ _ _ _ _ _ _ _ _ _ _ _ _ _ _ _ _ _ _ _ _ _ _ _ _ _ _ _ _ _ _ _ _ _ _ _ _ _ _ _ _ _ _ _ _ _ _ _ _ _ _ _ _ _ _ _ _ _ _ _ _ _ _ _ _ _ _ _ _ _ _ _ _ _ _ _ _ _ _ _ _ _ _ _ _ _ _ _ _ _ _ _ _ _ _ _ _ _ _ _ _ _ _ _ _ _ _ _ _ _ _ HIN.out ?_)
          unfold CPAfter
          intro j4 j10 j11 j12 j13 j70 j71 j72 j73 j74 j75 j76 j77 j78 j79 j80 j81 j82 j83 j84 j85 j86 j87 j88 j89 j90 j91 j92 j93 j94 j95 j96 j97 j98 j99 j100 j101 j102 j103 j104 j105 j106 j107 j108 j109 j110 j111 j112 j113 j114 j115 j116 j117 j118 j119 j120 j121 j122 j123 j124 j125 j126 j127 j128 j129 j130 j131 j132 j133 j134 j135 j136 j137 j138 j139 j140 j141 j142 j143 j144 j145 j146 j147 j148 j149 j150 j151 j152 j153 j154 j155 j156 j157 j158 j159 j160 j161 j162 j163 j164 j165 j166 j167 j168 wc hcut
          clear HPS hy0 hy1 HIN
          obtain ⟨t, gm, cm, gs, cs, gv, cv, hps8, hb1, hb2⟩ := hcut
          have HPS := Lib.hid hps8
          clear hps8
          have hbt : 0 ≤ t.mv ∧ t.mv ≤ 5 * ((i : Int) + 1) := ⟨hb1, hb2⟩
          have HBT := Lib.hid hbt
          clear hbt
          go_wp2_with fail
          go_loopw [14] (fun i wr => ∃ k : Nat, k ≤ 4 ∧ i = .int .i64 k ∧ Keep [] wc wr) (fun i _ => 4 - (intOf i).toNat)
          case atStart => exact ⟨0, by omega, rfl, Keep.refl _ _⟩
          case round =>
            obtain ⟨k, hk, rfl, hkk⟩ := hrel
            have HPK := Lib.hid (HPS.out.keep hkk)
            have HKK := Lib.hid hkk
            clear hkk
            by_cases hlt2 : k < 4
            · have hk4 : (k : Int) < 4 := by omega
              have hk0 : (0 : Int) ≤ (k : Int) := by omega
              go_wp2_with fail
              obtain ⟨wo, rfl⟩ : ∃ wo : World, wo = wr := ⟨_, rfl⟩
              go_loopw [15] (fun i wr => ∃ p : Nat, p ≤ n ∧ i = .int .i64 p ∧ Keep [] wo wr) (fun i _ => n - (intOf i).toNat)
              case atStart => exact ⟨0, by omega, rfl, Keep.refl _ _⟩
              case round =>
                obtain ⟨p, hp, rfl, hkp⟩ := hrel
                have HPP := Lib.hid (HPK.out.keep hkp)
                have HKP := Lib.hid hkp
                clear hkp
                by_cases hlt3 : p < n
                · have hpn : (p : Int) < (n : Int) := by omega
                  obtain ⟨q, hq⟩ : ∃ q : Nat, q = p * 4 := ⟨_, rfl⟩
                  obtain ⟨j, hj⟩ : ∃ j : Nat, j = p * 4 + k := ⟨_, rfl⟩
                  have hqi : (p : Int) * 4 = (q : Int) := by omega
                  have hji : (q : Int) + (k : Int) = (j : Int) := by omega
                  have hjN : j < N := by have := HN.out; omega
                  have hj0 : (0 : Int) ≤ (j : Int) := by omega
                  have hjNi : (j : Int) < (N : Int) := by omega
                  go_wp2_with fail
                  refine (state_any b g n p k t _ HPP.out.cat h2 hpn (by omega)).mono ?_
                  rintro e w7 ⟨rfl, hk7⟩
                  have hps7 := HPP.out.keep hk7
                  obtain ⟨x0, x1, x2, x3, x4, f0, f1, f2, f3, f4⟩ := hps7.cells
                  have hcs := hps7.kc.st hj hjN
                  have hcv := hps7.kc.va hj hjN
                  have HRL : Hid (Keep [] wo w7) := Lib.hid (HKP.out.trans hk7)
                  obtain ⟨y1, hy1⟩ : ∃ y1, y1 = t.st p k := ⟨_, rfl⟩
                  obtain ⟨y2, hy2⟩ : ∃ y2, y2 = t.va p k := ⟨_, rfl⟩
                  rw [← hy1] at hcs ⊢
                  rw [← hy2] at hcv ⊢
                  clear hy1 hy2 hps7 hk7 hq hj
                  go_wp2
                  go_roundw
                  case rel => exact ⟨p + 1, hlt3, by simp, HRL.out⟩
                  case measure => simp [intOf]; omega
                · obtain rfl : p = n := by omega
                  obtain ⟨x0, x1, x2, x3, x4, f0, f1, f2, f3, f4⟩ := HPP.out.cells
                  have hme := HPP.out.kc.me hlt2
                  go_wp2
                  go_quiet ((go_at_call 41; exact quiet_eq (memory_any b g _ k t _ (HPP.out.cat.keep ((Keep.refl [] _).drewN _) (by simp)) (by omega))))
                  go_wp2
                  go_roundw
                  case rel => exact ⟨k + 1, hlt2, by simp, HKK.out.trans (HKP.out.drewN _)⟩
                  case measure => simp [intOf]; omega
            · obtain rfl : k = 4 := by omega
              obtain ⟨x0, x1, x2, x3, x4, f0, f1, f2, f3, f4⟩ := HPK.out.cells
              go_wp2
              go_quiet ((go_at_call 42; exact quiet_eq (moves_any b g _ t _ (HPK.out.cat.keep ((Keep.refl [] _).drewN _) (by simp)))))
              go_wp2
              go_roundw
              case rel => exact ⟨i + 1, t, gm, cm, gs, cs, gv, cv, hlt, by omega, by simp, HPK.out.keep ((Keep.refl _ _).drewN _), HBT.out.1, HBT.out.2⟩
              case measure => simp [intOf]; omega
    · have hx : ¬ (i : Int) < (xss.length : Int) ∨ ((i : Int) < (xss.length : Int) ∧ ¬ (i : Int) < 80) := by omega
      clear hlt
      rcases hx with hx | ⟨hx, hx2⟩
      all_goals
        go_wp2_with fail
        refine (state_no b g n s (-1) 0 _ HPS.out.cat h2 (by omega)).mono ?_
        rintro e w6 ⟨rfl, rfl⟩
        go_wp2_with (go_at_call 41; refine (memory_no b 4 _ (by omega)).mono ?_; rintro e w' ⟨rfl, rfl⟩)
        go_ret
        exact ⟨by simp, HPS.out.bel⟩

theorem coherePlays_walk (x0 : Int) (a1 : Option Addr) (c1 : Nat) (l1 : List (List Int)) (w : World) (_ : I64 x0) (h2 : RowsIn w w.heap.size a1 l1) (_ : ∀ r ∈ l1, r.length ≤ maxLen ∧ ∀ y ∈ r, I64 y) (m2 : l1.length ≤ maxLen) (hg : Handle w) :
    Calls Tryd.prog 6 #[.int .i64 x0, .slice a1 l1.length c1] w fun e w' => e = .returned (.bool true) ∧ Below w.heap.size w w' := by
  by_cases h : 1 ≤ x0 ∧ x0 ≤ 4
  · obtain ⟨h1, h2'⟩ := h
    obtain ⟨d, rfl⟩ := Int.eq_ofNat_of_zero_le (show 0 ≤ x0 by omega)
    exact coherePlays_yes d (4 * d) h1 h2' rfl a1 c1 l1 w h2 m2 hg
  · exact coherePlays_no x0 a1 _ c1 w (by omega) hg
end Go.Proofs.YtjnghpambjjlkaaDoor
