/-
  The reference's AddPage, by its contract: the walk.
-/
import Derived.Test.YthldhbcidcmmaaaDoorPageAddSplit
import Derived.Test.YthldhbcidcmmaaaDoorPageAddPut
import Derived.Deep.RegionLaw
import Derived.Deep.DeepCutAuto
import Derived.Deep.LoopGhost
namespace Go.Proofs.YthldhbcidcmmaaaDoor
open Go.RowKit

theorem AP.keys {w wr : World} {B : Nat} {S S' : List Int} {n0 D0 : Nat} {deep0 : Nat → Nat} {bD0 cD0 bK0 cK0 : Nat} {vals0 : List Value} {n D : Nat} {deep : Nat → Nat} {bD cD bK cK bK' cK' : Nat} {vals vals' : List Value} (h : AP w wr B S n0 D0 deep0 bD0 cD0 bK0 cK0 vals0 n D deep bD cD bK cK vals) (hp : PgV wr n S' deep bD cD bK' cK' vals') :
    Blk (wr.setCell ⟨B, 2, none⟩ (.slice (some ⟨bK', 0, none⟩) n cK')) B 35 [.int .i64 D, .slice (some ⟨bD, 0, none⟩) n cD, .slice (some ⟨bK', 0, none⟩) n cK'] ∧ Blk (wr.setCell ⟨B, 2, none⟩ (.slice (some ⟨bK', 0, none⟩) n cK')) (B + 1) 35 [.int .i64 0, .slice none 0 0, .slice none 0 0] ∧ PgV (wr.setCell ⟨B, 2, none⟩ (.slice (some ⟨bK', 0, none⟩) n cK')) n S' deep bD cD bK' cK' vals' ∧ Below w.heap.size w (wr.setCell ⟨B, 2, none⟩ (.slice (some ⟨bK', 0, none⟩) n cK')) := by
  have hk : Keep [B] wr (wr.setCell ⟨B, 2, none⟩ (.slice (some ⟨bK', 0, none⟩) n cK')) := (Keep.refl [B] wr).set (p := ⟨B, 2, none⟩) (fun _ => by simp) _
  exact ⟨h.p.set 2 _, h.res.keep hk (by simp), hp.blk h.p (by decide) (by decide) (fun g hg hne => hk.block g hg (by simpa using hne)), h.bel.trans (hk.below h.bel.size (by simp; have := h.hB; omega))⟩
theorem fin3 {w w10 : World} {B : Nat} {S : List Int} {n : Nat} {deep : Nat → Nat} {bD cD bK cK : Nat} {vals : List Value} {c0 c1 c2 : Value} (hres : Blk w10 (B + 1) 35 [c0, c1, c2]) (hb : Below w.heap.size w w10) (hB : B = w.heap.size) (hp : PgV w10 n S deep bD cD bK cK vals) (v0 v1 v2 : Value) :
    PgV (set3 w10 (B + 1) v0 v1 v2) n S deep bD cD bK cK vals ∧ Below w.heap.size w (set3 w10 (B + 1) v0 v1 v2) := by
  have hk := keep3 w10 (B + 1) v0 v1 v2
  exact ⟨hp.blk hres (by decide) (by decide) (fun g hg hne => hk.block g hg (by simpa using hne)), hb.trans (hk.below hb.size (by simp; omega))⟩

set_option maxHeartbeats 8000000 in
set_option maxRecDepth 100000 in
theorem kAdd_new (k : Nat) (S : List Int) (n D : Nat) (deep : Nat → Nat) (bD cD bK cK : Nat) (vals : List Value) (w : World) (h : PgV w n S deep bD cD bK cK vals) (hn : n = 2 ^ D) (hD : D ≤ 6) (hd : Dir S S D deep) (hS : ∀ x ∈ S, x ≤ 1000000) (hk : k ≤ 1000000) (hx : ¬ (k : Int) ∈ S) (P : Nat → Prop) (hpin : PIn P bD bK vals) (hP : ∀ x, w.heap.size ≤ x → P x) :
    Calls Tryd.prog 16 #[.agg #[.int .i64 D, .slice (some ⟨bD, 0, none⟩) n cD, .slice (some ⟨bK, 0, none⟩) n cK], .int .i64 k] w (AddPost2 w P S k) := by
  have HPIN := Lib.hid hpin; have HPP := Lib.hid hP; have H := Lib.hid h; have HD := Lib.hid hd; have HN := Lib.hid hn; have HX := Lib.hid hx
  have HPOS : Hid (∀ x ∈ S, 0 ≤ x ∧ x ≤ 1000000) := Lib.hid fun x hm => ⟨hd.pos x hm, hS x hm⟩
  obtain ⟨w1, hw1⟩ : ∃ w1, w1 = (w.alloc (.cells #[.int .i64 D, .slice (some ⟨bD, 0, none⟩) n cD, .slice (some ⟨bK, 0, none⟩) n cK] 35)).alloc (.cells #[.int .i64 0, .slice none 0 0, .slice none 0 0] 35) := ⟨_, rfl⟩
  have ha := A0.start (D := D) h
  rw [← hw1] at ha
  obtain ⟨B, hB⟩ : ∃ B, B = w.heap.size := ⟨_, rfl⟩
  rw [← hB] at ha
  have hs1 : w1.heap.size = B + 2 := by rw [hw1, hB]; simp
  have hn64 : n ≤ 64 := by rw [hn]; exact Nat.pow_le_pow_right (n := 2) (by decide) hD
  obtain ⟨i, a, m, c, hin, hi, hc1, hc2, hm, ho, hin3⟩ := ha.pg.key hn hd k
  have hn1 : 0 < n := by omega
  have hl3 := hd.few k
  have hkL : ¬ (k : Int) ∈ cls S k (deep k) := fun hh => hx (mem_cls.1 hh).1
  obtain ⟨L, hL⟩ : ∃ L, L = cls S k (deep k) := ⟨_, rfl⟩
  rw [← hL] at hm ho hl3 hin3 hkL
  have HA := Lib.hid ha; have HW1 := Lib.hid hw1; have HB := Lib.hid hB; have HIN := Lib.hid hin3; have HM := Lib.hid hm
  have HS1 := Lib.hid hs1
  have HDEC : Hid (decide ((k : Int) ∈ L) = false) := Lib.hid (by simpa using hkL)
  have hm3 : m ≤ 3 := by omega
  have hmi : (k : Int) % (n : Int) = (i : Int) := by rw [hi]; push_cast; rfl
  have hmi2 : (k : Int).tmod (n : Int) = (i : Int) := by rw [Int.tmod_eq_emod_of_nonneg (by omega)]; exact hmi
  have hii : (i : Int) < (n : Int) := by omega
  have hi0 : (0 : Int) ≤ (i : Int) := by omega
  have hn0 : (0 : Int) < (n : Int) := by omega
  have hnz : ¬ (n : Int) = 0 := by omega
  have HNS : Hid (2 ^ D = n) := Lib.hid hn.symm
  clear hpin hP h hd hn ha hw1 hB hi ho hL hl3 hin3 hm hx hc1 hS hkL hs1
  go_enter Tryd.func16, Tryd.ntmps16
  go_upto_region 1 with fail
  rw [← HW1.out, ← HB.out]
  obtain ⟨x0, x1, x2, y0, y1, y2, f0, f1, f2⟩ := HA.out.cells
  go_wp2_with fail
  refine (kin_yes _ _ _ _ (by omega) (by omega)).mono ?_
  rintro e w' ⟨rfl, rfl⟩
  go_wp2
  go_quiet ((first
    | (go_at_call 42; exact quiet_eq (pow2_is D n _ (by omega) HNS.out))
    | (go_at_call 14; exact quiet_eq (rHas_is a m c _ L k false _ HM.out (HIN.out.drewN _) (by omega) HDEC.out))))
  have HA2 : Hid (∀ q, A0 w (w1.drewN q) B S n D deep bD cD bK cK vals ∧ (w1.drewN q).heap.size = B + 2) := Lib.hid fun q => ⟨HA.out.below (((Keep.refl [] w1).drewN _).below (Nat.le_refl _) (by simp)), HS1.out⟩
  go_upto_region 5 with fail
  have hA2 := HA2.out nq
  clear HA2
  generalize w1.drewN nq = w2 at hA2 ⊢
  obtain ⟨ha2, hs2⟩ := hA2
  go_cut [6] (fun s6 wx => s6 = .pointer (some ⟨B + 2, 0, none⟩) ∧ AP w wx B S n D deep bD cD bK cK vals n D deep bD cD bK cK vals)
  case first =>
    obtain ⟨x0, x1, x2, y0, y1, y2, f0, f1, f2⟩ := ha2.cells
    have HA2 := Lib.hid ha2
    have HS2 := Lib.hid hs2
    clear ha2 hs2 hc2
    go_wp2
    go_meet
    rw [HS2.out]
    exact ⟨rfl, HA2.out.toAP HS2.out⟩
  case rest =>
    obtain ⟨rfl, hap0⟩ := hcut
    have HAP0 := Lib.hid hap0
    clear hap0 ha2 hs2 x0 x1 x2 y0 y1 y2 f0 f1 f2 hc2
    go_wp2
    go_loopg [7, 8, 9, 10, 11, 12, 13, 14, 15, 16] (6 - deep k) (fun g _ _ _ _ _ _ _ _ _ _ wr => KRel P w B k S n D deep bD cD bK cK vals g wr)
    case atStart => exact ⟨n, D, deep, bD, cD, bK, cK, vals, HAP0.out, HN.out, hD, HD.out.more (fun c e => cls_ins_le HD.out.up HX.out c e), rfl, HPIN.out⟩
    case round =>
      obtain ⟨n1, D1, dp1, bD1, cD1, bK1, cK1, vs1, hap, hn1e, hD1, hdir, rfl, hpi1⟩ := hrel
      have HPI1 := Lib.hid hpi1
      clear hpi1
      obtain ⟨i1, a1, m1, c1, hin1, hi1, hc1, hc2, hm1, ho1, hin3⟩ := hap.pg.key hn1e hdir k
      have hn164 : n1 ≤ 64 := by rw [hn1e]; exact Nat.pow_le_pow_right (n := 2) (by decide) hD1
      have hl3 := hdir.few k
      rw [hm1] at hl3
      have hmi : (k : Int) % (n1 : Int) = (i1 : Int) := by rw [hi1]; push_cast; rfl
      have hmi2 : (k : Int).tmod (n1 : Int) = (i1 : Int) := by rw [Int.tmod_eq_emod_of_nonneg (by omega)]; exact hmi
      have hii : (i1 : Int) < (n1 : Int) := by omega
      have hi0 : (0 : Int) ≤ (i1 : Int) := by omega
      have hn0 : (0 : Int) < (n1 : Int) := by omega
      have hnz : ¬ (n1 : Int) = 0 := by omega
      have HNS : Hid (2 ^ D1 = n1) := Lib.hid hn1e.symm
      have HI1 := Lib.hid hi1; have HM1 := Lib.hid hm1; have HDIR := Lib.hid hdir; have HAP := Lib.hid hap
      have HQ : Hid (∀ q, AP w (wr.drewN q) B S n D deep bD cD bK cK vals n1 D1 dp1 bD1 cD1 bK1 cK1 vs1 ∧ (wr.drewN q).cell? ⟨bD1, i1, none⟩ = some (.int .i64 (dp1 k))) := Lib.hid fun q => ⟨hap.below (((Keep.refl [] wr).drewN _).below (Nat.le_refl _) (by simp)), hc1⟩
      obtain ⟨x0, x1, x2, f0, f1, f2⟩ := hap.cells
      clear hap hn1e hi1 hm1 hdir ho1 hin3 hc1
      by_cases h3 : m1 = 3
      · have h3b : (((m1 : Nat) : Int) == 3) = true := by rw [h3]; rfl
        have HM3 := Lib.hid h3
        clear h3
        go_wp2
        go_quiet ((go_at_call 42; exact quiet_eq (pow2_is D1 n1 _ (by omega) HNS.out)))
        go_upto_region 7 with fail
        have hq := HQ.out nq
        clear x0 x1 x2 f0 f1 f2 hc2 HQ HAP
        generalize wr.drewN nq = w3 at hq ⊢
        obtain ⟨hap3, hc1⟩ := hq
        have HAP3 := Lib.hid hap3
        obtain ⟨x0, x1, x2, f0, f1, f2⟩ := hap3.cells
        clear hap3
        obtain ⟨e1, he1⟩ : ∃ e1, e1 = dp1 k := ⟨_, rfl⟩
        rw [← he1] at hc1
        have HE1 := Lib.hid he1
        have he6 : e1 ≤ 6 := by have := HDIR.out.le k; omega
        have heD : e1 ≤ D1 := by have := HDIR.out.le k; omega
        clear he1
        by_cases h6 : e1 = 6
        · subst h6
          obtain ⟨y0, y1, y2, g0, g1, g2⟩ := HAP3.out.rcells
          obtain ⟨u0, u1, u2⟩ := HAP3.out.wcells
          have HNR : Hid (¬ room S k) := Lib.hid (by
            unfold room
            have := HM1.out
            rw [← HE1.out, HM3.out] at this
            omega)
          have HADD : Hid (addE S k = 4) := Lib.hid (by unfold addE; rw [if_neg (by omega), if_neg HX.out, if_neg HNR.out])
          have HADS : Hid (addS S k = S) := Lib.hid (by unfold addS; rw [if_neg (fun hh => HNR.out hh.2.2.2)])
          go_wp2_with (go_at_call 42; refine (pow2_is D1 n1 _ (by omega) HNS.out).mono ?_; rintro e w' ⟨rfl, rfl⟩)
          (try simp only [Exit.inBlock, Exit.then])
          refine bodyPost_ret (results_cell2 rfl _ _ (B + 1) 35 _ _ rfl (blk3 HAP3.out.res _ _ _) Tryd.underlying35 rfl info_pages) rfl ?_
          obtain ⟨hd1, hd2⟩ := HAP3.out.done (.int .i64 D) (.slice (some ⟨bD, 0, none⟩) n cD) (.slice (some ⟨bK, 0, none⟩) n cK)
          exact ⟨n, D, deep, bD, cD, bK, cK, vals, by rw [HADD.out]; rfl, HN.out, hD, by rw [HADS.out]; exact hd1 HAP3.out.pg0, by rw [HADS.out]; exact HD.out, hd2, HPIN.out⟩
        · have h6b : ((e1 : Nat) : Int) ≠ 6 := by omega
          have h6c : (((e1 : Nat) : Int) == 6) = false := beq_eq_false_iff_ne.2 h6b
          have he5 : e1 < 6 := by omega
          clear h6 h6b
          go_upto_if 65 with (go_at_call 42; refine (pow2_is D1 n1 _ (by omega) HNS.out).mono ?_; rintro e w' ⟨rfl, rfl⟩)
          go_cut [9, 10] (fun _ _ wx => DblRel P w B k S n D deep bD cD bK cK vals D1 dp1 wx)
          case first =>
            by_cases hed : e1 = D1
            · have hedb : (((e1 : Nat) : Int) == ((D1 : Nat) : Int)) = true := by rw [hed]; simp
              have HED := Lib.hid hed
              clear hed
              obtain ⟨i0, hi, hz0, hz1, hz2⟩ := info_parts info_int
              obtain ⟨ir, hir, hzr0, hzr1, hzr2⟩ := info_parts info_rows0
              have HND : Hid (∀ w', Below w3.heap.size w3 w' → (∀ (j : Nat) (u : Value), (ints (deepL n1 dp1))[j]? = some u → w'.cell? ((⟨bD1, 0, none⟩ : Addr).add j) = some u) ∧ (∀ (j : Nat) (u : Value), vs1[j]? = some u → w'.cell? ((⟨bK1, 0, none⟩ : Addr).add j) = some u) ∧ ValsOf w' vs1 (keysL n1 S dp1) ∧ AP w w' B S n D deep bD cD bK cK vals n1 D1 dp1 bD1 cD1 bK1 cK1 vs1) := Lib.hid fun w' hb => by
                have h1 := HAP3.out.below hb
                exact ⟨World.ownsRow.cells h1.pg.d (g := bD1) rfl, World.ownsRow.cells h1.pg.k (g := bK1) rfl, h1.pg.r, h1⟩
              have HVL : Hid (vs1.length = n1) := Lib.hid (by rw [HAP3.out.pg.r.1, keysL_len])
              have HONE := Lib.hid HAP3.out.pg.r.one
              have HDP : Hid ((D1 : Int) + 1 = ((D1 + 1 : Nat) : Int)) := Lib.hid (by push_cast; rfl)
              go_wp2_with (first
                | (at_builtin; refine wpList_append_own_at _ rfl (.tmp 66) (.tmp 68) 22 rfl w3.heap.size 3 i0 (.int .i64 0) 1 8 Tryd.underlying22 hi hz0 hz1 hz2 rfl (by decide) (.slice none 0 0) 0 [] rfl (World.ownsRow_nil _ _ _ _) ⟨bD1, 0, none⟩ n1 cD1 (ints (deepL n1 dp1)) rfl (by rw [ints_len, deepL_len]; omega) (HND.out _ (Below.refl _ _)).1 (ints_one _) (by unfold maxLen; omega) (by omega) (Nat.le_refl _) ?_; intro v1 w4 hown1 hgrow1 _ _; have hb4 : Below w3.heap.size w3 w4 := (Below.refl _ _).grown hgrow1 (Nat.le_refl _) (by simp [Value.ownBlock]); have HB4 := Lib.hid hb4; have HO1 := Lib.hid hown1; obtain ⟨x0, x1, x2, f0, f1, f2⟩ := (HND.out _ hb4).2.2.2.cells; have hsz4 := hb4.size; clear hown1 hgrow1 hb4)
                | (at_builtin; refine wpList_append_own_at _ rfl (.tmp 70) (.tmp 72) 22 rfl w3.heap.size 3 i0 (.int .i64 0) 1 8 Tryd.underlying22 hi hz0 hz1 hz2 rfl (by decide) v1 (0 + n1) ([] ++ ints (deepL n1 dp1)) rfl HO1.out ⟨bD1, 0, none⟩ n1 cD1 (ints (deepL n1 dp1)) rfl (by rw [ints_len, deepL_len]; omega) (HND.out _ HB4.out).1 (ints_one _) (by unfold maxLen; omega) (by omega) hsz4 ?_; intro v2 w5 hown2 hgrow2 _ _; have hb5 : Below w3.heap.size w3 w5 := HB4.out.grown hgrow2 hsz4 (fun x hx => (World.ownsRow.lt HO1.out x hx).1); have HB5 := Lib.hid hb5; have HO2 : Hid (OwnInts w5 w3.heap.size v2 (deepL n1 dp1 ++ deepL n1 dp1)) := Lib.hid (by unfold OwnInts; rw [List.length_append, deepL_len]; simpa [ints] using hown2); obtain ⟨x0, x1, x2, f0, f1, f2⟩ := (HND.out _ hb5).2.2.2.cells; have hsz5 := hb5.size; clear hown2 hgrow2 hb5)
                | (at_builtin; refine wpList_append_own_at _ rfl (.tmp 74) (.tmp 76) 33 rfl w5.heap.size 22 ir (.slice none 0 0) 1 24 Tryd.underlying33 hir hzr0 hzr1 hzr2 rfl (by decide) (.slice none 0 0) 0 [] rfl (World.ownsRow_nil _ _ _ _) ⟨bK1, 0, none⟩ n1 cK1 vs1 rfl (by rw [HVL.out]; omega) (HND.out _ HB5.out).2.1 HONE.out (by unfold maxLen; omega) (by omega) (Nat.le_refl _) ?_; intro v3 w6 hown3 hgrow3 _ _; have hb6 : Below w5.heap.size w5 w6 := (Below.refl _ _).grown hgrow3 (Nat.le_refl _) (by simp [Value.ownBlock]); have HB6 := Lib.hid hb6; have HO3 := Lib.hid hown3; obtain ⟨x0, x1, x2, f0, f1, f2⟩ := (HND.out _ (HB5.out.trans (hb6.mono hsz5))).2.2.2.cells; have hsz6 := hb6.size; clear hown3 hgrow3 hb6)
                | (at_builtin; refine wpList_append_own_at _ rfl (.tmp 78) (.tmp 80) 33 rfl w5.heap.size 22 ir (.slice none 0 0) 1 24 Tryd.underlying33 hir hzr0 hzr1 hzr2 rfl (by decide) v3 (0 + n1) ([] ++ vs1) rfl HO3.out ⟨bK1, 0, none⟩ n1 cK1 vs1 rfl (by rw [HVL.out]; omega) (HND.out _ (HB5.out.trans (HB6.out.mono hsz5))).2.1 HONE.out (by unfold maxLen; omega) (by omega) hsz6 ?_; intro v4 w7 hown4 hgrow4 _ _; have hb7 : Below w5.heap.size w5 w7 := HB6.out.grown hgrow4 hsz6 (fun x hx => (World.ownsRow.lt HO3.out x hx).1); have ho4 : OwnV w7 w5.heap.size v4 (vs1 ++ vs1) := (by unfold OwnV; rw [List.length_append, HVL.out]; simpa using hown4); obtain ⟨bD2, cD2, bK2, cK2, rfl, rfl, hpg⟩ := dbl_pages HDIR.out HNS.out.symm HO2.out ho4 (HND.out _ HB5.out).2.2.1 hb7; have hap7 := (HND.out _ (HB5.out.trans (hb7.mono hsz5))).2.2.2; obtain ⟨x0, x1, x2, f0, f1, f2⟩ := hap7.cells; have HFIN := Lib.hid (hap7.put (D' := D1 + 1) hpg); have HPB : Hid (PIn P bD2 bK2 (vs1 ++ vs1)) := Lib.hid ⟨HPP.out _ (Nat.le_trans HAP3.out.bel.size (World.ownsRow.lt HO2.out bD2 rfl).1), HPP.out _ (Nat.le_trans (Nat.le_trans HAP3.out.bel.size hsz5) (World.ownsRow.lt ho4 bK2 rfl).1), HPI1.out.2.2.twice⟩; clear hown4 hgrow4 hb7 ho4 hpg hap7))
              go_meet
              rw [HDP.out]
              exact ⟨n1 + n1, D1 + 1, bD2, cD2, bK2, cK2, _, HFIN.out, by rw [Nat.pow_succ, HNS.out]; omega, by rw [← HE1.out, if_pos HED.out], HPB.out⟩
            · have hedb : (((e1 : Nat) : Int) == ((D1 : Nat) : Int)) = false := beq_eq_false_iff_ne.2 (by omega)
              have HED := Lib.hid hed
              clear hed
              go_wp2
              go_meet
              exact ⟨n1, D1, bD1, cD1, bK1, cK1, vs1, HAP3.out, HNS.out.symm, by rw [← HE1.out, if_neg HED.out], HPI1.out⟩
          case rest =>
            obtain ⟨n2, D2, bD2, cD2, bK2, cK2, vs2, hap2, hn2, hD2, hpi2⟩ := hcut
            have he1D2 : e1 < D2 := by
              rw [hD2, ← HE1.out]
              split <;> omega
            have hD26 : D2 ≤ 6 := by
              rw [hD2, ← HE1.out]
              split <;> omega
            have hn12 : n1 ≤ n2 := by
              rw [hn2, ← HNS.out]
              exact Nat.pow_le_pow_right (by decide) (by rw [hD2]; split <;> omega)
            have hn264 : n2 ≤ 64 := by rw [hn2]; exact Nat.pow_le_pow_right (n := 2) (by decide) hD26
            have hspl := HDIR.out.split k (by rw [cls_ins HD.out.up HX.out, if_pos rfl, insK_len, HM1.out, HM3.out]; exact Nat.le_refl _) (fun i => Nat.le_trans (cls_len_down (Nat.le_succ _)) (HDIR.out.few i))
            rw [← hD2, ← HE1.out] at hspl
            have HSPL := Lib.hid hspl
            obtain ⟨a2, m2, c2, hm2, _, _, hfx⟩ := hap2.fix (show i1 < n2 by omega)
            obtain ⟨hdi, hci⟩ := at_deep (k := k) (i := i1) HDIR.out (by rw [HI1.out, HNS.out])
            rw [hci] at hm2 hfx
            rw [hdi, ← HE1.out] at hfx
            rw [← HE1.out] at hm2
            have hm23 : m2 = 3 := by rw [← hm2, HE1.out, HM1.out, HM3.out]
            obtain ⟨L1, hL1⟩ : ∃ L1, L1 = cls S k e1 := ⟨_, rfl⟩
            rw [← hL1] at hm2 hfx
            have hLb : ∀ y ∈ L1, 0 ≤ y ∧ y ≤ 1000000 := fun y hy => by rw [hL1] at hy; exact HPOS.out y (mem_cls.1 hy).1
            obtain ⟨E, hE⟩ : ∃ E, 2 ^ e1 = E := ⟨_, rfl⟩
            have hE64 : E ≤ 64 := by rw [← hE]; exact Nat.pow_le_pow_right (n := 2) (by decide) he6
            have hE0 : 0 < E := by rw [← hE]; exact Nat.pow_pos (by decide)
            have HAP2 := Lib.hid hap2; have HN2 := Lib.hid hn2; have HD2 := Lib.hid hD2; have HM2 := Lib.hid hm2; have HFX := Lib.hid hfx; have HL1 := Lib.hid hL1; have HLB := Lib.hid hLb; have HEE := Lib.hid hE
            have HRK : Hid (i1 % E = k % E) := Lib.hid (by
              have := (cast_mod k i1 e1).1 (at_mod (D := D1) heD (by rw [HI1.out, HNS.out]))
              rw [hE] at this
              exact this.symm)
            have HSI := Lib.hid (SplitIn.mk (P := P) (w5 := wc) (B := B) (S := S) (k := k) (e1 := e1) (E := E) (i1 := i1) (n2 := n2) (dp1 := dp1) (bD := bD2) (cD := cD2) (bK := bK2) (cK := cK2) (D := D2) (a2 := a2) (L1 := L1) HPOS.out hL1 (by rw [hm2, hm23]) (fun w' hb => (hfx w' hb).2.2) hE he5 hn264 (by omega) HRK.out (fun j hj => by rw [HE1.out]; exact HDIR.out.same j k (by rw [← HE1.out]; exact hj)) (fun i hi => by obtain ⟨a, m, c, h1, h2, h3, h4⟩ := hap2.fix hi; exact ⟨a, m, c, h1, fun x hx => ⟨h2 x hx, hpi2.2.2 _ h3 x hx⟩, h4⟩) (fun x hx => HPP.out x (Nat.le_trans hap2.bel.size hx)) (fun w' hb => (hap2.below hb).cells.2.1))
            obtain ⟨⟨_, _, z0, _, z2⟩, _, _⟩ := hfx _ (Below.refl _ _)
            obtain rfl := hm23
            clear hpi2 hap2 hn2 hD2 hspl hdi hci hm2 hfx hL1 hLb hE x0 x1 x2 f0 f1 f2 hc1
            go_upto_block 2 with fail
            refine Code.wp_mono noExit_then (pa_split P _ B S k e1 E i1 n2 dp1 bD2 cD2 bK2 cK2 D2 a2 c2 L1 _ _ _ _ _ _ _ _ _ _ _ _ _ _ _ _ _ _ _ _ _ _ _ _ _ _ _ _ _ _ _ _ _ _ _ _ _ _ _ _ _ _ _ _ _ _ _ _ _ _ _ _ _ _ _ _ _ _ _ _ _ _ _ _ _ _ _ _ _ _ _ _ _ _ _ _ _ _ _ _ _ _ _ _ _ _ _ _ _ _ _ _ _ _ _ _ _ _ _ _ _ _ _ _ _ _ _ _ _ _ _ _ _ _ _ _ _ _ _ _ _ _ _ _ _ _ _ _ _ _ _ _ _ _ _ _ _ _ _ _ _ _ _ _ _ _ _ _ _ _ _ _ _ _ _ _ _ _ _ _ _ _ _ _ _ _ _ _ _ _ _ _ _ _ _ _ _ _ _ _ _ _ _ _ _ _ _ _ _ _ _ _ _ _ _ _ _ _ _ _ _ _ _ _ _ _ _ _ _ _ _ _ _ _ _ _ _ HSI.out ?_)
            unfold SplitAfter
            intro j12 j13 j14 j15 j16 j93 j94 j95 j96 j97 j98 j99 j100 j101 j102 j103 j104 j105 j106 j107 j108 j109 j110 j111 j112 j113 j114 j115 j116 j117 j118 j119 j120 j121 j122 j123 j124 j125 j126 j127 j128 j129 j130 j131 j132 j133 j134 j135 j136 j137 j138 j139 j140 j141 j142 j143 j144 j145 j146 j147 j148 j149 j150 j151 j152 j153 j154 j155 j156 j157 j158 j159 j160 j161 j162 j163 j164 j165 j166 j167 j168 j169 w9 hspt
            obtain ⟨vs9, hsl, hal⟩ := hspt
            obtain ⟨bD3, cD3, bK3, cK3, rfl, rfl, hpg⟩ := hsl.pages HN2.out
            have hap9 := HAP2.out.below hsl.bel
            obtain ⟨x0, x1, x2, f0, f1, f2⟩ := hap9.cells
            have HFIN := Lib.hid (hap9.put (D' := D2) hpg)
            have hsz9 := HAP2.out.bel.size
            have HPI9 : Hid (PIn P bD3 bK3 vs9) := Lib.hid ⟨HPP.out _ (Nat.le_trans hsz9 (World.ownsRow.lt hsl.d bD3 rfl).1), HPP.out _ (Nat.le_trans hsz9 (World.ownsRow.lt hsl.k bK3 rfl).1), hal⟩
            clear hal hsz9
            clear hsl hpg hap9 z0 z2
            go_wp2
            go_roundg (6 - (e1 + 1))
            case measure => rw [← HE1.out]; omega
            case rel => exact ⟨n2, D2, splitAt dp1 k e1, bD3, cD3, bK3, cK3, vs9, HFIN.out, HN2.out, hD26, HSPL.out, by rw [splitAt_in rfl], HPI9.out⟩
      · have h3b : (((m1 : Nat) : Int) == 3) = false := beq_eq_false_iff_ne.2 (by omega)
        have hm12 : m1 ≤ 2 := by omega
        go_wp2
        go_quiet ((go_at_call 42; exact quiet_eq (pow2_is D1 n1 _ (by omega) HNS.out)))
        go_upto_region 37 with fail
        have hq := HQ.out nq
        clear x0 x1 x2 f0 f1 f2 hc2 HQ HAP
        generalize wr.drewN nq = w3 at hq ⊢
        obtain ⟨hap3, hc1⟩ := hq
        have HAP3 := Lib.hid hap3
        obtain ⟨x0, x1, x2, f0, f1, f2⟩ := hap3.cells
        obtain ⟨e1, he1⟩ : ∃ e1, e1 = dp1 k := ⟨_, rfl⟩
        rw [← he1] at hc1
        have HE1 := Lib.hid he1
        have he6 : e1 ≤ 6 := by have := HDIR.out.le k; omega
        have heD : e1 ≤ D1 := by have := HDIR.out.le k; omega
        obtain ⟨E, hE⟩ : ∃ E, 2 ^ e1 = E := ⟨_, rfl⟩
        have HRK : Hid (i1 % E = k % E) := Lib.hid (by
          have := (cast_mod k i1 e1).1 (at_mod (D := D1) heD (by rw [HI1.out, HNS.out]))
          rw [hE] at this
          exact this.symm)
        have HPI := Lib.hid (PutIn.mk (P := P) (w5 := w3) (B := B) (S := S) (k := k) (e1 := e1) (E := E) (i1 := i1) (n := n1) (deep := dp1) (bD := bD1) (cD := cD1) (bK := bK1) (cK := cK1) (D := D1) HD.out.up HX.out hE he6 hn164 (by omega) HRK.out he1 HDIR.out.same HDIR.out.few (fun i hi => by obtain ⟨a, m, c, h1, h2, h3, h4⟩ := hap3.fix hi; exact ⟨a, m, c, h1, fun x hx => ⟨h2 x hx, HPI1.out.2.2 _ h3 x hx⟩, h4⟩) (fun x hx => HPP.out x (Nat.le_trans hap3.bel.size hx)) (fun w' hb => (hap3.below hb).cells.2.2.1))
        clear he1 hE hap3
        go_upto_block 6 with (go_at_call 42; refine (pow2_is D1 n1 _ (by omega) HNS.out).mono ?_; rintro e w' ⟨rfl, rfl⟩)
        refine Code.wp_mono noExit_then (pa_put P _ B S k e1 E i1 n1 dp1 bD1 cD1 bK1 cK1 D1 _ _ _ _ _ _ _ _ _ _ _ _ _ _ _ _ _ _ _ _ _ _ _ _ _ _ _ _ _ _ _ _ _ _ _ _ _ _ _ _ _ _ _ _ _ _ _ _ _ _ _ _ _ _ _ _ _ _ _ _ _ _ _ _ _ _ _ _ _ _ _ _ _ _ _ _ _ _ _ _ _ _ _ _ _ _ _ _ _ _ _ _ _ _ _ _ _ _ _ _ _ _ _ _ _ _ _ _ _ _ _ _ _ _ _ _ _ _ _ _ _ _ _ _ _ _ _ _ _ _ _ _ _ _ _ _ _ _ _ _ _ _ _ _ _ _ _ _ _ _ _ _ _ _ _ _ _ _ _ _ _ _ _ _ _ _ _ _ _ _ _ _ _ _ _ _ _ _ _ _ _ _ _ _ _ _ _ _ _ _ _ _ _ _ _ _ _ _ _ _ _ _ _ _ _ _ _ _ _ _ _ _ _ _ _ _ _ _ HPI.out ?_)
        unfold PutAfter
        intro j19 j20 j185 j186 j187 j188 j189 j190 j191 j192 j193 j194 j195 j196 j197 j198 j199 j200 j201 j202 j203 j204 j205 j206 j207 j208 j209 j210 j211 j212 j213 j214 j215 j216 j217 j218 j219 w9 hput
        obtain ⟨vs9, hpl, hal⟩ := hput
        have hap9 := HAP3.out.below hpl.bel
        obtain ⟨bD3, cD3, bK3, cK3, e3, rfl, hpg⟩ := PgV.mk_ (by omega) hap9.pg.d hpl.k.low hpl.r
        simp only [Value.slice.injEq, Option.some.injEq, Addr.mk.injEq, and_true, true_and] at e3
        obtain ⟨rfl, rfl⟩ := e3
        have HK := Lib.hid (hap9.keys hpg)
        have HBB := Lib.hid hap9.hB
        have HPI9 : Hid (PIn P bD1 bK3 vs9) := Lib.hid ⟨HPI1.out.1, HPP.out _ (Nat.le_trans HAP3.out.bel.size (World.ownsRow.lt hpl.k bK3 rfl).1), hal⟩
        clear hal
        clear x0 x1 x2 f0 f1 f2 hc1
        obtain ⟨x0, x1, x2, f0, f1, f2⟩ := hap9.cells
        clear hpl hap9 hpg
        go_upto_region 47 with fail
        obtain ⟨hkp, hkr, hkg, hkb⟩ := HK.out
        clear x0 x1 x2 f0 f1 f2 HK
        generalize w9.setCell ⟨B, 2, none⟩ (.slice (some ⟨bK3, 0, none⟩) n1 cK3) = w10 at hkp hkr hkg hkb ⊢
        have HKR := Lib.hid hkr; have HKG := Lib.hid hkg; have HKB := Lib.hid hkb
        have x0 := hkp.cell_ (i := 0) rfl; have x1 := hkp.cell_ (i := 1) rfl; have x2 := hkp.cell_ (i := 2) rfl
        have y0 := hkr.cell_ (i := 0) rfl; have y1 := hkr.cell_ (i := 1) rfl; have y2 := hkr.cell_ (i := 2) rfl
        have f0 := hkr.free 0; have f1 := hkr.free 1; have f2 := hkr.free 2
        clear hkp hkr hkg hkb
        have h2 : (cls S k (dp1 k)).length ≤ 2 := by rw [HM1.out]; exact hm12
        have HADD : Hid (addE S k = 0) := Lib.hid (addE_zero.2 ⟨by omega, by omega, HX.out, room_few (by rw [HE1.out] at he6; exact he6) h2⟩)
        have HADS : Hid (addS S k = insK k S) := Lib.hid (by unfold addS; rw [if_pos ⟨by omega, by omega, HX.out, room_few (by rw [HE1.out] at he6; exact he6) h2⟩])
        have HPUT := Lib.hid (HDIR.out.put HX.out (by omega) (by rw [Int.toNat_natCast]; exact h2))
        clear h2
        go_wp2
        (try simp only [Exit.inBlock, Exit.then])
        refine bodyPost_ret (results_cell2 rfl _ _ (B + 1) 35 _ _ rfl (blk3 HKR.out _ _ _) Tryd.underlying35 rfl info_pages) rfl ?_
        obtain ⟨hd1, hd2⟩ := fin3 HKR.out HKB.out HBB.out HKG.out (.int .i64 D1) (.slice (some ⟨bD1, 0, none⟩) n1 cD1) (.slice (some ⟨bK3, 0, none⟩) n1 cK3)
        exact ⟨n1, D1, dp1, bD1, cD1, bK3, cK3, vs9, by rw [HADD.out]; rfl, HNS.out.symm, hD1, by rw [HADS.out]; exact hd1, by rw [HADS.out]; exact HPUT.out, hd2, HPI9.out⟩

theorem kAdd_any (x : Int) (S : List Int) (n D : Nat) (deep : Nat → Nat) (bD cD bK cK : Nat) (vals : List Value) (w : World) (h : PgV w n S deep bD cD bK cK vals) (hn : n = 2 ^ D) (hD : D ≤ 6) (hd : Dir S S D deep) (hS : ∀ x ∈ S, x ≤ 1000000) (P : Nat → Prop) (hpin : PIn P bD bK vals) (hP : ∀ x, w.heap.size ≤ x → P x) :
    Calls Tryd.prog 16 #[.agg #[.int .i64 D, .slice (some ⟨bD, 0, none⟩) n cD, .slice (some ⟨bK, 0, none⟩) n cK], .int .i64 x] w (AddPost2 w P S x) := by
  by_cases h1 : x < 0 ∨ 1000000 < x
  · exact kAdd_no x S n D deep bD cD bK cK vals w h hn hD hd h1 P hpin
  · obtain ⟨k, rfl⟩ := Int.eq_ofNat_of_zero_le (show 0 ≤ x by omega)
    by_cases h2 : (k : Int) ∈ S
    · exact kAdd_was k S n D deep bD cD bK cK vals w h hn hD hd (by omega) h2 P hpin
    · exact kAdd_new k S n D deep bD cD bK cK vals w h hn hD hd hS (by omega) h2 P hpin hP
end Go.Proofs.YthldhbcidcmmaaaDoor
