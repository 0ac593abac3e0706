/-
  LeasePlays: the walk (printed by wip/gen_leaseplays2.py).
-/
import Derived.Test.YtjnghpambjjlkaaDoorLeaseArmA
import Derived.Test.YtjnghpambjjlkaaDoorLeaseArm1
import Derived.Test.YtjnghpambjjlkaaDoorLeaseArm2
namespace Go.Proofs.YtjnghpambjjlkaaDoor
open Go.RowKit

theorem lp_blk (w wr : World) (b g bx n b3 off3 c' : Nat) (m x : Int) : LPGoal w wr b g bx n b3 off3 c' m x := by
  by_cases e0 : m = 0
  · subst e0; exact lp_arm0 w wr b g bx n b3 off3 c' x
  by_cases e1 : m = 1
  · subst e1; exact lp_arm1 w wr b g bx n b3 off3 c' x
  by_cases e2 : m = 2
  · subst e2; exact lp_arm2 w wr b g bx n b3 off3 c' x
  by_cases e3 : m = 3
  · subst e3; exact lp_arm3 w wr b g bx n b3 off3 c' x
  · exact lp_armE w wr b g bx n b3 off3 c' m x e0 e1 e2 e3

set_option maxRecDepth 100000 in
theorem leasePlays_no (n t : Int) (a : Option Addr) (m c : Nat) (w : World) (h : ¬ (1 ≤ n ∧ n ≤ 4 ∧ 1 ≤ t ∧ t ≤ 20)) (hg : Handle w) :
    Calls Tryd.prog 5 #[.int .i64 n, .int .i64 t, .slice a m c] w fun e w' => e = .returned (.bool true) ∧ Below w.heap.size w w' := by
  have hc : (n < 1 ∨ 4 < n) ∨ ((1 ≤ n ∧ n ≤ 4) ∧ (t < 1 ∨ 20 < t)) := by omega
  have HC := Lib.hid h
  clear h
  rcases hc with h | ⟨h1, h2⟩
  all_goals
    go_enter Tryd.func5, Tryd.ntmps5
    go_wp2_with fail
    refine (leaseNew_no n t _ HC.out).mono ?_
    rintro e w' ⟨rfl, rfl⟩
    go_wp2_with (first
      | (go_at_call 11; refine (in_yes _ _ _ _ (by omega) (by omega)).mono ?_; rintro e w' ⟨rfl, rfl⟩)
      | (go_at_call 11; refine (in_no _ _ _ _ (by omega)).mono ?_; rintro e w' ⟨rfl, rfl⟩)
      | (go_at_call 13; refine (eError_n (errv 1) 1 _ (.inr rfl) hg).mono ?_; rintro e w1 ⟨rfl, hb⟩))
    go_ret
    exact ⟨rfl, hb⟩

set_option maxHeartbeats 40000000 in
set_option maxRecDepth 100000 in
theorem leasePlays_yes (n : Nat) (t : Int) (h1 : 1 ≤ (n : Int)) (h2 : (n : Int) ≤ 4) (h3 : 1 ≤ t) (h4 : t ≤ 20) (a : Option Addr) (c : Nat) (xss : List (List Int)) (w : World) (hx : RowsIn w w.heap.size a xss) (hn : xss.length ≤ maxLen) (hh : Handle w) :
    Calls Tryd.prog 5 #[.int .i64 n, .int .i64 t, .slice a xss.length c] w fun e w' => e = .returned (.bool true) ∧ Below w.heap.size w w' := by
  have HNL := Lib.hid hn; have HX := Lib.hid hx; have HH := Lib.hid hh; clear hn hx hh
  have hw0 := HH.out.lt
  have hn4 : n ≤ 4 := by omega
  go_enter Tryd.func5, Tryd.ntmps5
  go_wp2_with fail
  refine (leaseNew_yes n t _ h1 h2 h3 h4).mono ?_
  rintro e w1 ⟨rfl, hs, hb1⟩
  obtain ⟨b, hb⟩ : ∃ b, b = w.heap.size + 1 := ⟨_, rfl⟩
  obtain ⟨g, hg⟩ : ∃ g, g = w.heap.size := ⟨_, rfl⟩
  rw [← hb] at hs ⊢
  rw [← hg] at hs
  have HS : Hid (LAt w1 b g n (l0 n t)) := Lib.hid hs
  have HB1 := Lib.hid hb1
  have HBB : Hid (w.heap.size ≤ b ∧ w.heap.size ≤ g) := Lib.hid ⟨by omega, by omega⟩
  clear hs hb1 hb hg
  go_wp2_with (go_at_call 11; refine (in_yes _ _ _ _ (by omega) (by omega)).mono ?_; rintro e w' ⟨rfl, rfl⟩)
  refine (kNewLender n t _ (by omega) hn4).mono ?_
  rintro e w2 ⟨gh, ch, gu, cu, rfl, hkl, hb2⟩
  have HKL := Lib.hid hkl; have HB2 := Lib.hid hb2
  obtain ⟨k0', hk0⟩ : ∃ k', k' = k0 n t := ⟨_, rfl⟩
  have HLK0 : Hid (LK n (l0 n t) k0') := Lib.hid (by rw [hk0]; exact lk0 n t)
  rw [← hk0] at HKL ⊢
  clear hkl hb2 hk0
  go_wp2
  obtain ⟨bx, hbx⟩ : ∃ bx, bx = w2.heap.size := ⟨_, rfl⟩
  obtain ⟨w3, hw3⟩ : ∃ w3, w3 = w2.alloc (.cells #[.int .i64 k0'.now, .int .i64 k0'.term, .int .i64 k0'.value, .int .i64 k0'.want, .slice (some ⟨gh, 0, none⟩) n ch, .slice (some ⟨gu, 0, none⟩) n cu] 46) := ⟨_, rfl⟩
  have hps : LPS w w3 b g bx n (l0 n t) k0' gh ch gu cu := by
    have z1 := HB1.out.size; have z2 := HB2.out.size
    have k3 : Keep [] w2 w3 := by rw [hw3]; exact (Keep.refl _ w2).alloc _
    have k2 : Keep [] w1 w2 := Keep.of_below HB2.out (Nat.le_refl _)
    refine ⟨HS.out.keep (k2.trans k3) (by simp), by rw [hw3, hbx]; exact Blk.new w2 _ (lTop n gh ch gu cu k0'), HKL.out.keep0 k3, ?_, HBB.out.1, HBB.out.2, by omega⟩
    exact HB1.out.trans ((k2.trans k3).below z1 (by simp))
  have HPS := Lib.hid hps
  rw [← hbx, ← hw3]
  clear hps hw3 hbx HS HKL HB1 HB2
  go_loopw [10] (fun i wr => LPRel w b g bx n xss.length i wr) (fun i _ => xss.length - (intOf i).toNat)
  case atStart => exact ⟨0, _, _, gh, ch, gu, cu, by omega, by omega, rfl, HPS.out, l0_inv n t h3 h4, HLK0.out⟩
  case round =>
    obtain ⟨i, s, k, gh, ch, gu, cu, hj, hj8, rfl, hps, hinv, hlk⟩ := hrel
    have HPS := Lib.hid hps; have HI := Lib.hid hinv; have HLK := Lib.hid hlk; clear hps hinv hlk
    by_cases hlt : i < xss.length ∧ i < 80
    · obtain ⟨hlt, hlt8⟩ := hlt
      obtain ⟨bx1, off, a', c', rfl, hbB, hcell, hrow⟩ := HX.out.at_ hlt
      have hcell2 := (HPS.out.bel.cell (p := ⟨bx1, off + i, none⟩) hbB).trans hcell
      obtain ⟨l, hl⟩ : ∃ l, l = xss[i] := ⟨_, rfl⟩
      obtain ⟨m, hm⟩ : ∃ m, m = l.length := ⟨_, rfl⟩
      rw [← hl] at hrow
      rw [← hl, ← hm] at hcell2
      have HR := Lib.hid hrow
      clear hl hcell hrow
      have hj80 : (i : Int) < 80 := by omega
      have hjn : (i : Int) < (xss.length : Int) := by omega
      have hj0 : (0 : Int) ≤ (i : Int) := by omega
      by_cases hm2 : m = 2
      case neg =>
        have hm2' : ((m : Int) != 2) = true := bne_iff_ne.2 (by omega)
        have HNX : Hid (LPRel w b g bx n xss.length (.int .i64 ((i : Int) + 1)) wr) := Lib.hid ⟨i + 1, s, k, gh, ch, gu, cu, hlt, by omega, by simp, HPS.out, HI.out, HLK.out⟩
        go_wp2
        go_roundw
        case rel => exact HNX.out
        case measure => simp [intOf]; omega
      subst hm2
      obtain ⟨m, x, rfl⟩ : ∃ m x, l = [m, x] := by
        match l, hm with
        | [m, x], _ => exact ⟨m, x, rfl⟩
      obtain ⟨b3, off3, rfl, hb3, hc3⟩ := HR.out (by simp)
      have HC3 : Hid (∀ w' : World, Below w.heap.size w w' → w'.cell? ⟨b3, off3, none⟩ = some (.int .i64 m) ∧ w'.cell? ⟨b3, off3 + 1, none⟩ = some (.int .i64 x)) := Lib.hid fun w' hb => ⟨(hb.cell (p := ⟨b3, off3, none⟩) hb3).trans (hc3 0 m rfl), (hb.cell (p := ⟨b3, off3 + 1, none⟩) hb3).trans (hc3 1 x rfl)⟩
      clear hc3 hm HR
      obtain ⟨hy0, hy1⟩ := HC3.out wr HPS.out.bel
      have HIN := Lib.hid (LPIn.mk (b3 := b3) (off3 := off3) (m := m) (x := x) HPS.out HI.out HLK.out HC3.out HH.out h2)
      go_upto_block 2 with fail
      refine Code.wp_mono noExit_then (lp_blk w wr b g bx n b3 off3 c' m x s k gh ch gu cu _ _ _ _ _ _ _ _ _ _ _ _ _ _ _ _ _ _ _ _ _ _ _ _ _ _ _ _ _ _ _ _ _ _ _ _ _ _ _ _ _ _ _ _ _ _ _ _ _ _ _ _ _ _ _ _ _ _ _ _ _ _ _ _ _ _ _ _ _ _ _ _ _ _ _ _ _ _ _ _ _ _ _ _ _ _ _ _ _ _ _ _ _ _ _ _ _ _ _ _ _ _ _ _ _ _ _ _ _ _ _ _ _ _ _ _ _ _ _ _ _ _ _ _ _ _ _ _ _ _ _ _ _ _ _ _ _ _ _ _ _ _ _ _ _ _ _ _ _ _ _ _ _ _ _ _ _ _ _ _ _ _ _ _ _ _ _ _ _ _ _ _ _ _ _ _ _ _ _ _ _ _ _ _ _ _ _ _ _ _ _ _ _ _ _ _ _ _ _ _ _ _ _ _ _ _ _ _ _ _ _ _ _ HIN.out ?_)
      unfold LPAfter
      intro j6 j12 j13 j14 j15 j16 j17 j18 j19 j20 j21 j22 j69 j70 j71 j72 j73 j74 j75 j76 j77 j78 j79 j80 j81 j82 j83 j84 j85 j86 j87 j88 j89 j90 j91 j92 j93 j94 j95 j96 j97 j98 j99 j100 j101 j102 j103 j104 j105 j106 j107 j108 j109 j110 j111 j112 j113 j114 j115 j116 j117 j118 j119 j120 j121 j122 j123 j124 j125 j126 j127 j128 j129 j130 j131 j132 j133 j134 j135 j136 j137 j138 j139 j140 j141 j142 j143 j144 j145 j146 j147 j148 j149 j150 j151 j152 j153 j154 j155 j156 j157 j158 j159 j160 j161 j162 wc hcut
      obtain ⟨s2, k2, gh2, ch2, gu2, cu2, hps9, hi2, hlk2⟩ := hcut
      have HPS9 := Lib.hid hps9; have HI2 := Lib.hid hi2; have HLK2 := Lib.hid hlk2
      clear hps9 hi2 hlk2 hy0 hy1 HIN HPS HI HLK
      obtain ⟨x0, x1, x2, x3, x4, x5, f0, f1, f2, f3, f4, f5⟩ := HPS9.out.cells
      have l0' := HLK2.out.now; have l1' := HLK2.out.term; have l2' := HLK2.out.value; have l3' := HLK2.out.want
      rw [l0'] at x0
      rw [l2'] at x2
      rw [l3'] at x3
      clear l0' l1' l2' l3'
      go_wp2_with fail
      refine (value_any b g n s2 _ HPS9.out.lat).mono ?_
      rintro e w10 ⟨rfl, q10, hw10⟩
      have hk10 : Keep [] wc w10 := by rw [hw10]; exact (Keep.refl [] _).drewN q10
      have HPS10 := Lib.hid (HPS9.out.keep hk10)
      clear x0 x1 x2 x3 x4 x5 f0 f1 f2 f3 f4 f5 hw10 hk10
      obtain ⟨x0, x1, x2, x3, x4, x5, f0, f1, f2, f3, f4, f5⟩ := HPS10.out.cells
      have l0' := HLK2.out.now; have l2' := HLK2.out.value; have l3' := HLK2.out.want
      rw [l0'] at x0
      rw [l2'] at x2
      rw [l3'] at x3
      clear l0' l2' l3' HPS9
      go_wp2
      clear x0 x1 x2 x3 x4 x5 f0 f1 f2 f3 f4 f5
      go_loopw [26] (fun i wr => ∃ p : Nat, p ≤ n ∧ i = .int .i64 p ∧ Keep [] w10 wr) (fun i _ => n - (intOf i).toNat)
      case atStart => exact ⟨0, Nat.zero_le _, rfl, Keep.refl _ _⟩
      case round =>
        obtain ⟨p, hp, rfl, hkp⟩ := hrel
        have HKP := Lib.hid hkp; have HPP := Lib.hid (HPS10.out.keep hkp)
        clear hkp
        by_cases hlt3 : p < n
        · have hpn : (p : Int) < (n : Int) := by omega
          have hp0 : (0 : Int) ≤ (p : Int) := by omega
          obtain ⟨x0, x1, x2, x3, x4, x5, f0, f1, f2, f3, f4, f5⟩ := HPP.out.cells
          have hcu := HPP.out.kl.U.cell hlt3
          rw [HLK2.out.unt p hlt3] at hcu
          rw [HLK2.out.now] at x0
          obtain ⟨u, hu⟩ : ∃ u, u = s2.until_ p := ⟨_, rfl⟩
          rw [← hu] at hcu
          have HU := Lib.hid hu
          clear hu
          by_cases hc : s2.now < u
          · go_wp2
            go_quiet (fail)
            go_wp2_with fail
            refine (until_in b g n p s2 _ (HPP.out.lat.keep ((Keep.refl [] _).drewN nq) (by simp)) h2 hpn).mono ?_
            rintro e w11 ⟨rfl, hk11⟩
            rw [← HU.out, if_pos hc]
            have HK11 := Lib.hid ((HKP.out.drewN nq).trans hk11)
            clear hk11 x0 x1 x2 x3 x4 x5 f0 f1 f2 f3 f4 f5 hcu
            go_wp2
            go_roundw
            case rel => exact ⟨p + 1, hlt3, by simp, HK11.out⟩
            case measure => simp [intOf]; omega
          · go_wp2
            go_quiet (fail)
            go_wp2_with fail
            refine (until_in b g n p s2 _ (HPP.out.lat.keep ((Keep.refl [] _).drewN nq) (by simp)) h2 hpn).mono ?_
            rintro e w11 ⟨rfl, hk11⟩
            rw [← HU.out, if_neg (by omega)]
            have HK11 := Lib.hid ((HKP.out.drewN nq).trans hk11)
            clear hk11 x0 x1 x2 x3 x4 x5 f0 f1 f2 f3 f4 f5 hcu
            go_wp2
            go_roundw
            case rel => exact ⟨p + 1, hlt3, by simp, HK11.out⟩
            case measure => simp [intOf]; omega
        · obtain rfl : p = n := by omega
          go_wp2
          go_roundw
          case rel => exact ⟨i + 1, s2, k2, gh2, ch2, gu2, cu2, hlt, by omega, by simp, HPP.out, HI2.out, HLK2.out⟩
          case measure => simp [intOf]; omega
    · have hx : ¬ (i : Int) < (xss.length : Int) ∨ ((i : Int) < (xss.length : Int) ∧ ¬ (i : Int) < 80) := by omega
      clear hlt
      rcases hx with hx | ⟨hx, hx2⟩
      all_goals
        go_wp2_with fail
        refine (until_out b g n (-1) s _ HPS.out.lat h2 (by omega)).mono ?_
        rintro e w5 ⟨rfl, hk5⟩
        have HPS5 := Lib.hid (HPS.out.keep hk5)
        clear hk5
        go_wp2_with fail
        refine (until_out b g n n s _ HPS5.out.lat h2 (by omega)).mono ?_
        rintro e w6 ⟨rfl, hk6⟩
        have HPS6 := Lib.hid (HPS5.out.keep hk6)
        clear hk6
        go_wp2
        go_ret
        exact ⟨rfl, HPS6.out.bel⟩

theorem leasePlays_walk (x0 x1 : Int) (a1 : Option Addr) (c1 : Nat) (l1 : List (List Int)) (w : World) (_ : I64 x0) (_ : I64 x1) (h2 : RowsIn w w.heap.size a1 l1) (_ : ∀ r ∈ l1, r.length ≤ maxLen ∧ ∀ y ∈ r, I64 y) (m2 : l1.length ≤ maxLen) (hg : Handle w) :
    Calls Tryd.prog 5 #[.int .i64 x0, .int .i64 x1, .slice a1 l1.length c1] w fun e w' => e = .returned (.bool true) ∧ Below w.heap.size w w' := by
  by_cases h : 1 ≤ x0 ∧ x0 ≤ 4 ∧ 1 ≤ x1 ∧ x1 ≤ 20
  · obtain ⟨d, rfl⟩ := Int.eq_ofNat_of_zero_le (show 0 ≤ x0 by omega)
    exact leasePlays_yes d x1 h.1 h.2.1 h.2.2.1 h.2.2.2 a1 c1 l1 w h2 m2 hg
  · exact leasePlays_no x0 x1 a1 _ c1 w h hg
end Go.Proofs.YtjnghpambjjlkaaDoor
