/-
  BookPlays: the walk (printed by wip/gen_bookplays.py).
-/
import Derived.Test.YticckfioggeaeaaDoorBookPl
import Derived.Test.YticckfioggeaeaaDoorErrIsB
import Derived.Test.YticckfioggeaeaaDoorGA
import Derived.Deep.DeepCutAuto
import Derived.Deep.RegionHeld3
set_option linter.unusedVariables false
set_option linter.unusedSimpArgs false
set_option linter.unnecessarySimpa false
set_option linter.unusedVariables false
namespace Go.Proofs.YticckfioggeaeaaDoor
open Go.RowKit

theorem Keep.drew0 {w w' : World} (h : Keep [] w w') : Below w.heap.size w w' := h.below (Nat.le_refl _) (by simp)
theorem PS.start {w w2 : World} {b slots : Nat} (hB : BookAt (fun x => w.heap.size ≤ x) w2 b slots bk0) (hb : Below w.heap.size w w2) :
    PS w (w2.alloc (.cells #[.int .i64 slots, .slice none 0 0, .slice none 0 0, .string ⟨#[]⟩, .int .i64 0] 39)) b w2.heap.size slots bk0 bk0 none none 0 0 0 0 := by
  have hkA := (Keep.refl [] w2).alloc (.cells #[.int .i64 slots, .slice none 0 0, .slice none 0 0, .string ⟨#[]⟩, .int .i64 0] 39)
  have hB1 := hB.away (O2 := fun _ => False) (hkA.toP (by simp)) (fun _ _ _ hf => hf)
  refine ⟨⟨_, hB1, fun x hx ho => ?_⟩, Blk.new w2 39 [.int .i64 slots, .slice none 0 0, .slice none 0 0, .string ⟨#[]⟩, .int .i64 0], OwnInts.nil _ _, OwnInts.nil _ _, rfl, rfl, hb.trans (hkA.below hb.size (by simp)), hb.size⟩
  have := ho.1
  omega
set_option maxRecDepth 100000 in
theorem plays_no (n : Int) (a : Option Addr) (m c : Nat) (w : World) (h : ¬ (1 ≤ n ∧ n ≤ 8)) (hg : Handle w) :
    Calls Tryd.prog 4 #[.int .i64 n, .slice a m c] w fun e w' => e = .returned (.bool true) ∧ Below w.heap.size w w' := by
  have HG := Lib.hid hg
  have hc : n < 1 ∨ (1 ≤ n ∧ 8 < n) := by omega
  have HC := Lib.hid h
  clear hg h
  rcases hc with h | ⟨h0, h⟩
  all_goals
    go_enter Tryd.func4, Tryd.ntmps4
    go_wp2_with fail
    refine (new_no n _ HC.out).mono ?_
    rintro e w2 ⟨rfl, rfl⟩
    go_wp2_with fail
    refine (eError_n (errv 1) 1 _ (.inr rfl) HG.out).mono ?_
    rintro e w3 ⟨rfl, hb3⟩
    have HB3 := Lib.hid hb3
    clear hb3
    go_wp2
    go_ret
    exact ⟨rfl, HB3.out⟩
def PlRel (w : World) (b h slots n : Nat) (i : Value) (wr : World) : Prop := ∃ (j : Nat) (s : Bk) (aK aV : Option Addr) (nK nV cK cV : Nat), j ≤ n ∧ i = .int .i64 j ∧ PS w wr b h slots s s aK aV nK nV cK cV
set_option maxHeartbeats 8000000 in
set_option maxRecDepth 1000000 in
theorem plays_yes (slots : Nat) (h1 : 1 ≤ slots) (h8 : slots ≤ 8) (a : Option Addr) (c : Nat) (xss : List (List Int)) (w : World) (hx : RowsIn w w.heap.size a xss) (hn : xss.length ≤ maxLen) (ht : Tab w) (hg : Handle w) :
    Calls Tryd.prog 4 #[.int .i64 slots, .slice a xss.length c] w fun e w' => e = .returned (.bool true) ∧ Below w.heap.size w w' := by
  have HT := Lib.hid ht; have HX := Lib.hid hx; have HN := Lib.hid hn; have HG := Lib.hid hg
  have hgl := hg.lt
  have HGL := Lib.hid hgl
  obtain ⟨n, hnn⟩ : ∃ n, n = xss.length := ⟨_, rfl⟩
  rw [← hnn]
  have HNN := Lib.hid hnn
  clear ht hx hn hnn hg hgl
  go_enter Tryd.func4, Tryd.ntmps4
  go_wp2_with fail
  refine (new_yes slots _ h1 h8).mono ?_
  rintro e w2 ⟨b, rfl, hB2, _, hb2⟩
  have HPS := Lib.hid (PS.start hB2 hb2)
  clear hB2 hb2
  go_upto_region 7 with fail
  obtain ⟨w3, hw3⟩ : ∃ w3, w3 = (w2.alloc (.cells #[.int .i64 slots, .slice none 0 0, .slice none 0 0, .string ⟨#[]⟩, .int .i64 0] 39)) := ⟨_, rfl⟩
  have hps := HPS.out
  rw [← hw3] at hps ⊢
  obtain ⟨h, hh⟩ : ∃ h, h = w2.heap.size := ⟨_, rfl⟩
  rw [← hh] at hps ⊢
  clear HPS
  have HPS := Lib.hid hps
  clear hps hw3 hh
  go_wp2
  go_loopw [8] (fun i wr => PlRel w b h slots n i wr) (fun i _ => n - (intOf i).toNat)
  case atStart => exact ⟨0, bk0, _, _, _, _, _, _, by omega, rfl, HPS.out⟩
  case round =>
    obtain ⟨j, s, aK, aV, nK, nV, cK, cV, hj, rfl, hps⟩ := hrel
    have HP := Lib.hid hps
    clear hps HPS
    by_cases hlt : j < n ∧ j < 70
    · obtain ⟨hlt, hlt7⟩ := hlt
      obtain ⟨bx, off, a', c', rfl, hbB, hcell, hrow⟩ := HX.out.at_ (by rw [← HNN.out]; exact hlt : j < xss.length)
      have hcell2 := (HP.out.bel.cell (p := ⟨bx, off + j, none⟩) hbB).trans hcell
      obtain ⟨l, hl⟩ : ∃ l, l = xss[j]'(by rw [← HNN.out]; exact hlt) := ⟨_, rfl⟩
      obtain ⟨m, hm⟩ : ∃ m, m = l.length := ⟨_, rfl⟩
      rw [← hl] at hrow
      rw [← hl, ← hm] at hcell2
      have HR := Lib.hid hrow
      clear hl hcell hrow
      have hj70 : (j : Int) < 70 := by omega
      have hjn : (j : Int) < (n : Int) := by omega
      have hj0 : (0 : Int) ≤ (j : Int) := by omega
      have HBK : Hid (BkOk slots s) := Lib.hid HP.out.ok.1
      by_cases hm2 : m = 2
      · subst hm2
        obtain ⟨x, y, rfl⟩ : ∃ x y, l = [x, y] := by
          match l, hm with
          | [x, y], _ => exact ⟨x, y, rfl⟩
        obtain ⟨b3, off3, rfl, hb3, hc3⟩ := HR.out (by simp)
        have HC3 : Hid (∀ w' : World, Below w.heap.size w w' → w'.cell? ⟨b3, off3, none⟩ = some (.int .i64 x) ∧ w'.cell? ⟨b3, off3 + 1, none⟩ = some (.int .i64 y)) := Lib.hid fun w' hb => ⟨(hb.cell (p := ⟨b3, off3, none⟩) hb3).trans (hc3 0 x rfl), (hb.cell (p := ⟨b3, off3 + 1, none⟩) hb3).trans (hc3 1 y rfl)⟩
        clear hc3 hm HR
        go_upto_region 14 with fail
        clear hcell2
        obtain ⟨x0, x1, x2, x3, x4, f0, f1, f2, f3, f4⟩ := HP.out.drew.cells
        obtain ⟨z0, z1⟩ := HC3.out _ HP.out.drew.bel
        go_region_with (first | (go_at_call 15; refine (rPut_any slots s _ x y _ HP.out.drew.rb HBK.out h8 h1).mono ?_; rintro e w4 ⟨X4, rfl, ⟨aK4, aV4, nK4, nV4, cK4, cV4, rfl, hK4, hV4, hkl4, hvl4⟩, hb4⟩; have HP4 := Lib.hid (HP.out.drew.below hb4); have HP5 := Lib.hid (HP4.out.ref hK4 hV4 hkl4 hvl4); clear hK4 hV4 hkl4 hvl4 hb4 x0 x1 x2 x3 x4 f0 f1 f2 f3 f4; (obtain ⟨x0, x1, x2, x3, x4, f0, f1, f2, f3, f4⟩ := HP4.out.cells)))
        all_goals
          obtain ⟨w5, hw5⟩ : ∃ w5, w5 = set5 w4 h (.int .i64 slots) (.slice aK4 nK4 cK4) (.slice aV4 nV4 cV4) (.string ⟨(putS slots s x y).text.toArray⟩) (.int .i64 (putS slots s x y).many) := ⟨_, rfl⟩
          have hp5 := HP5.out
          rw [← hw5] at hp5
          rw [show ((((w4.setCell ⟨h, 0, none⟩ (.int .i64 slots)).setCell ⟨h, 1, none⟩ (.slice aK4 nK4 cK4)).setCell ⟨h, 2, none⟩ (.slice aV4 nV4 cV4)).setCell ⟨h, 3, none⟩ (.string ⟨(putS slots s x y).text.toArray⟩)).setCell ⟨h, 4, none⟩ (.int .i64 (putS slots s x y).many) = w5 from hw5.symm]
          obtain ⟨sN, hsN⟩ : ∃ sN, sN = putS slots s x y := ⟨_, rfl⟩
          rw [← hsN] at hp5
          clear HP5 z0 z1 x0 x1 x2 x3 x4 f0 f1 f2 f3 f4
          have HP5 := Lib.hid hp5; have HSN := Lib.hid hsN
          clear hp5 hw5 hsN
          obtain ⟨O, hO, hlo, hh, hK, hV⟩ := HP5.out.open_
          have HO := Lib.hid hO; have HLO := Lib.hid hlo; have HHH := Lib.hid hh; have HKO := Lib.hid hK; have HVO := Lib.hid hV
          clear hO hlo hh hK hV
          go_upto_region 15 with fail
          go_region_held3 (fun w' => w'.cell? ⟨b3, off3, none⟩ = some (.int .i64 x) ∧ w'.cell? ⟨b3, off3 + 1, none⟩ = some (.int .i64 y))
            (first | exact HC3.out _ HP5.out.drew.bel | exact HC3.out _ HP6.out.bel | fail)
            (first | (go_at_call 9; refine (put_any b slots s x y _ (HO.out.below (Keep.refl [] w5).drew.drew0) (HP5.out.drew.tab HT.out)).mono ?_; rintro e w6 ⟨rfl, hb6, hk6⟩; have HP6 := Lib.hid (HP5.out.drew.book (s' := sN) (by rw [HSN.out]; exact hb6) hk6 HLO.out HHH.out HKO.out HVO.out); clear hb6 hk6))
          have hgw6 : Handle w6 := HG.out.below HP6.out.bel HGL.out
          have HG6 := Lib.hid hgw6
          clear hgw6
          obtain ⟨q1, hq1⟩ : ∃ q1, q1 = putV slots s x y := ⟨_, rfl⟩
          obtain ⟨q2, hq2⟩ : ∃ q2, q2 = putE s x y := ⟨_, rfl⟩
          rw [← hq1, ← hq2]
          clear hq1 hq2
          have hqe : (q1 != q1) = false := by simp
          go_wp2_with (go_at_call 14; refine (eError_w q2 _ HG6.out).mono ?_; rintro e w7 ⟨rfl, hb7⟩; have HP7 := Lib.hid (HP6.out.below hb7); clear hb7)
          obtain ⟨O, hO, hlo, hh, hK, hV⟩ := HP7.out.open_
          have HO7 := Lib.hid hO; have HLO7 := Lib.hid hlo; have HHH7 := Lib.hid hh; have HKO7 := Lib.hid hK; have HVO7 := Lib.hid hV
          clear hO hlo hh hK hV
          have HCC : Hid (∀ w', PS w w' b h slots sN sN aK4 aV4 nK4 nV4 cK4 cV4 → w'.cell? ⟨h, 3, none⟩ = some (.string ⟨sN.text.toArray⟩) ∧ w'.cell? ⟨h, 1, none⟩ = some (.slice aK4 nK4 cK4)) := Lib.hid fun w' hk => ⟨hk.cells.2.2.2.1, hk.cells.2.1⟩
          have HKL : Hid (sN.keys.length = nK4) := Lib.hid HP7.out.kl
          have hn8 : nK4 ≤ maxLen := by have h5 := HP7.out.ok.1.len; have h6 := HP7.out.ok.2.2; rw [← HKL.out, keysLen]; unfold maxLen; omega
          go_region_held3 (fun w' => w'.cell? ⟨h, 3, none⟩ = some (.string ⟨sN.text.toArray⟩) ∧ w'.cell? ⟨h, 1, none⟩ = some (.slice aK4 nK4 cK4))
            (first | exact HCC.out _ HP7.out.drew | exact HCC.out _ HP8.out | exact HCC.out _ HP9.out | exact HCC.out _ HP10.out | fail)
            (first
              | (go_at_call 17; refine (text_any _ (HO7.out.below (Keep.refl [] w7).drew.drew0)).mono ?_; rintro e w8 ⟨rfl, hb8, hk8⟩; have HB8 := Lib.hid hb8; have HP8 := Lib.hid (HP7.out.drew.book hb8 hk8 HLO7.out HHH7.out HKO7.out HVO7.out); clear hb8 hk8)
              | (go_at_call 13; refine (keysB_any _ HB8.out).mono ?_; rintro e w9 ⟨v9, rfl, ho9, hb9⟩; (obtain ⟨a9, c9, hv9, hi9⟩ := ho9.shape); rw [HKL.out] at hv9; subst hv9; have HI9 := Lib.hid hi9; have HP9 := Lib.hid (HP8.out.below hb9); clear ho9 hb9 hi9)
              | (go_at_call 12; refine (ints_same_keep a9 aK4 nK4 c9 cK4 _ _ sN.keys _ HKL.out HI9.out (own_in HP9.out.K) hn8).mono ?_; rintro e w10 ⟨rfl, hk10⟩; have HP10 := Lib.hid (HP9.out.keep0 hk10); clear hk10))
          go_wp2
          go_roundw
          case rel => exact ⟨j + 1, sN, _, _, _, _, _, _, hlt, by simp, HP10.out⟩
          case measure => simp [intOf]; omega
      · have hm2' : ((m : Int) == 2) = false := beq_eq_false_iff_ne.2 (by omega)
        by_cases hm1 : m = 1
        · subst hm1
          obtain ⟨x, rfl⟩ : ∃ x, l = [x] := by
            match l, hm with
            | [x], _ => exact ⟨x, rfl⟩
          obtain ⟨b3, off3, rfl, hb3, hc3⟩ := HR.out (by simp)
          have HC3 : Hid (∀ w' : World, Below w.heap.size w w' → w'.cell? ⟨b3, off3, none⟩ = some (.int .i64 x)) := Lib.hid fun w' hb => (hb.cell (p := ⟨b3, off3, none⟩) hb3).trans (hc3 0 x rfl)
          clear hc3 hm HR hm2 hm2'
          go_upto_region 19 with fail
          clear hcell2
          obtain ⟨x0, x1, x2, x3, x4, f0, f1, f2, f3, f4⟩ := HP.out.drew.cells
          have z0 := HC3.out _ HP.out.drew.bel
          go_region_with (first | (go_at_call 16; refine (rGet_any slots s _ x _ HP.out.drew.rb HBK.out h8).mono ?_; rintro e w4 ⟨X4, rfl, ⟨aK4, aV4, nK4, nV4, cK4, cV4, rfl, hK4, hV4, hkl4, hvl4⟩, hb4⟩; have HP4 := Lib.hid (HP.out.drew.below hb4); have HP5 := Lib.hid (HP4.out.ref hK4 hV4 hkl4 hvl4); clear hK4 hV4 hkl4 hvl4 hb4 x0 x1 x2 x3 x4 f0 f1 f2 f3 f4; (obtain ⟨x0, x1, x2, x3, x4, f0, f1, f2, f3, f4⟩ := HP4.out.cells)))
          all_goals
            obtain ⟨w5, hw5⟩ : ∃ w5, w5 = set5 w4 h (.int .i64 slots) (.slice aK4 nK4 cK4) (.slice aV4 nV4 cV4) (.string ⟨(getS s x).text.toArray⟩) (.int .i64 (getS s x).many) := ⟨_, rfl⟩
            have hp5 := HP5.out
            rw [← hw5] at hp5
            rw [show ((((w4.setCell ⟨h, 0, none⟩ (.int .i64 slots)).setCell ⟨h, 1, none⟩ (.slice aK4 nK4 cK4)).setCell ⟨h, 2, none⟩ (.slice aV4 nV4 cV4)).setCell ⟨h, 3, none⟩ (.string ⟨(getS s x).text.toArray⟩)).setCell ⟨h, 4, none⟩ (.int .i64 (getS s x).many) = w5 from hw5.symm]
            obtain ⟨sN, hsN⟩ : ∃ sN, sN = getS s x := ⟨_, rfl⟩
            rw [← hsN] at hp5
            clear HP5 z0 x0 x1 x2 x3 x4 f0 f1 f2 f3 f4
            have HP5 := Lib.hid hp5; have HSN := Lib.hid hsN
            clear hp5 hw5 hsN
            obtain ⟨O, hO, hlo, hh, hK, hV⟩ := HP5.out.open_
            have HO := Lib.hid hO; have HLO := Lib.hid hlo; have HHH := Lib.hid hh; have HKO := Lib.hid hK; have HVO := Lib.hid hV
            clear hO hlo hh hK hV
            have hy0 := HC3.out w5 HP5.out.bel
            go_wp2_with fail
            refine (get_any b slots s x _ HO.out (HP5.out.tab HT.out)).mono ?_
            rintro e w6 ⟨rfl, hb6, hk6⟩
            have HP6 := Lib.hid (HP5.out.book (s' := sN) (by rw [HSN.out]; exact hb6) hk6 HLO.out HHH.out HKO.out HVO.out)
            clear hb6 hk6 hy0
            have hgw6 : Handle w6 := HG.out.below HP6.out.bel HGL.out
            have HG6 := Lib.hid hgw6
            clear hgw6
            obtain ⟨q1, hq1⟩ : ∃ q1, q1 = getV s x := ⟨_, rfl⟩
            obtain ⟨q2, hq2⟩ : ∃ q2, q2 = getE s x := ⟨_, rfl⟩
            rw [← hq1, ← hq2]
            clear hq1 hq2
            have hqe : (q1 != q1) = false := by simp
            go_wp2_with (go_at_call 14; refine (eError_w q2 _ HG6.out).mono ?_; rintro e w7 ⟨rfl, hb7⟩; have HP7 := Lib.hid (HP6.out.below hb7); clear hb7)
            obtain ⟨O, hO, hlo, hh, hK, hV⟩ := HP7.out.open_
            have HO7 := Lib.hid hO; have HLO7 := Lib.hid hlo; have HHH7 := Lib.hid hh; have HKO7 := Lib.hid hK; have HVO7 := Lib.hid hV
            clear hO hlo hh hK hV
            have HCC : Hid (∀ w', PS w w' b h slots sN sN aK4 aV4 nK4 nV4 cK4 cV4 → w'.cell? ⟨h, 3, none⟩ = some (.string ⟨sN.text.toArray⟩) ∧ w'.cell? ⟨h, 1, none⟩ = some (.slice aK4 nK4 cK4)) := Lib.hid fun w' hk => ⟨hk.cells.2.2.2.1, hk.cells.2.1⟩
            have HKL : Hid (sN.keys.length = nK4) := Lib.hid HP7.out.kl
            have hn8 : nK4 ≤ maxLen := by have h5 := HP7.out.ok.1.len; have h6 := HP7.out.ok.2.2; rw [← HKL.out, keysLen]; unfold maxLen; omega
            go_region_held3 (fun w' => w'.cell? ⟨h, 3, none⟩ = some (.string ⟨sN.text.toArray⟩) ∧ w'.cell? ⟨h, 1, none⟩ = some (.slice aK4 nK4 cK4))
              (first | exact HCC.out _ HP7.out.drew | exact HCC.out _ HP8.out | exact HCC.out _ HP9.out | exact HCC.out _ HP10.out | fail)
              (first
                | (go_at_call 17; refine (text_any _ (HO7.out.below (Keep.refl [] w7).drew.drew0)).mono ?_; rintro e w8 ⟨rfl, hb8, hk8⟩; have HB8 := Lib.hid hb8; have HP8 := Lib.hid (HP7.out.drew.book hb8 hk8 HLO7.out HHH7.out HKO7.out HVO7.out); clear hb8 hk8)
                | (go_at_call 13; refine (keysB_any _ HB8.out).mono ?_; rintro e w9 ⟨v9, rfl, ho9, hb9⟩; (obtain ⟨a9, c9, hv9, hi9⟩ := ho9.shape); rw [HKL.out] at hv9; subst hv9; have HI9 := Lib.hid hi9; have HP9 := Lib.hid (HP8.out.below hb9); clear ho9 hb9 hi9)
                | (go_at_call 12; refine (ints_same_keep a9 aK4 nK4 c9 cK4 _ _ sN.keys _ HKL.out HI9.out (own_in HP9.out.K) hn8).mono ?_; rintro e w10 ⟨rfl, hk10⟩; have HP10 := Lib.hid (HP9.out.keep0 hk10); clear hk10))
            go_wp2
            go_roundw
            case rel => exact ⟨j + 1, sN, _, _, _, _, _, _, hlt, by simp, HP10.out⟩
            case measure => simp [intOf]; omega
        · have hm1' : ((m : Int) == 1) = false := beq_eq_false_iff_ne.2 (by omega)
          have HP7 := HP
          obtain ⟨w7, hw7⟩ : ∃ w7, w7 = wr := ⟨_, rfl⟩
          rw [← hw7] at HP7
          go_upto_region 23 with fail
          subst hw7
          clear hcell2
          obtain ⟨O, hO, hlo, hh, hK, hV⟩ := HP7.out.open_
          have HO7 := Lib.hid hO; have HLO7 := Lib.hid hlo; have HHH7 := Lib.hid hh; have HKO7 := Lib.hid hK; have HVO7 := Lib.hid hV
          clear hO hlo hh hK hV
          have HCC : Hid (∀ w', PS w w' b h slots s s aK aV nK nV cK cV → w'.cell? ⟨h, 3, none⟩ = some (.string ⟨s.text.toArray⟩) ∧ w'.cell? ⟨h, 1, none⟩ = some (.slice aK nK cK)) := Lib.hid fun w' hk => ⟨hk.cells.2.2.2.1, hk.cells.2.1⟩
          have HKL : Hid (s.keys.length = nK) := Lib.hid HP7.out.kl
          have hn8 : nK ≤ maxLen := by have h5 := HP7.out.ok.1.len; have h6 := HP7.out.ok.2.2; rw [← HKL.out, keysLen]; unfold maxLen; omega
          go_region_held3 (fun w' => w'.cell? ⟨h, 3, none⟩ = some (.string ⟨s.text.toArray⟩) ∧ w'.cell? ⟨h, 1, none⟩ = some (.slice aK nK cK))
            (first | exact HCC.out _ HP7.out.drew | exact HCC.out _ HP8.out | exact HCC.out _ HP9.out | exact HCC.out _ HP10.out | fail)
            (first
              | (go_at_call 17; refine (text_any _ (HO7.out.below (Keep.refl [] w7).drew.drew0)).mono ?_; rintro e w8 ⟨rfl, hb8, hk8⟩; have HB8 := Lib.hid hb8; have HP8 := Lib.hid (HP7.out.drew.book hb8 hk8 HLO7.out HHH7.out HKO7.out HVO7.out); clear hb8 hk8)
              | (go_at_call 13; refine (keysB_any _ HB8.out).mono ?_; rintro e w9 ⟨v9, rfl, ho9, hb9⟩; (obtain ⟨a9, c9, hv9, hi9⟩ := ho9.shape); rw [HKL.out] at hv9; subst hv9; have HI9 := Lib.hid hi9; have HP9 := Lib.hid (HP8.out.below hb9); clear ho9 hb9 hi9)
              | (go_at_call 12; refine (ints_same_keep a9 aK nK c9 cK _ _ s.keys _ HKL.out HI9.out (own_in HP9.out.K) hn8).mono ?_; rintro e w10 ⟨rfl, hk10⟩; have HP10 := Lib.hid (HP9.out.keep0 hk10); clear hk10))
          go_wp2
          go_roundw
          case rel => exact ⟨j + 1, s, _, _, _, _, _, _, hlt, by simp, HP10.out⟩
          case measure => simp [intOf]; omega
    · have hend : (¬ j < n) ∨ (j < n ∧ ¬ j < 70) := by omega
      rcases hend with hend | ⟨hend1, hend⟩
      · have hji : ¬ (j : Int) < (n : Int) := by omega
        go_wp2
        go_ret
        exact ⟨rfl, HP.out.bel⟩
      · have hji : (j : Int) < (n : Int) := by omega
        have hji2 : ¬ (j : Int) < 70 := by omega
        go_wp2
        go_ret
        exact ⟨rfl, HP.out.bel⟩

theorem bookPlays_walk (x0 : Int) (a1 : Option Addr) (c1 : Nat) (l1 : List (List Int)) (w : World) (_ : I64 x0) (h1 : RowsIn w w.heap.size a1 l1) (_ : ∀ r ∈ l1, r.length ≤ maxLen ∧ ∀ y ∈ r, I64 y) (m1 : l1.length ≤ maxLen) (hg : Tab w ∧ Handle w) :
    Calls Tryd.prog 4 #[.int .i64 x0, .slice a1 l1.length c1] w fun e w' => e = .returned (.bool true) ∧ Below w.heap.size w w' := by
  by_cases h : 1 ≤ x0 ∧ x0 ≤ 8
  · obtain ⟨d, rfl⟩ := Int.eq_ofNat_of_zero_le (show 0 ≤ x0 by omega)
    exact plays_yes d (by omega) (by omega) a1 c1 l1 w h1 m1 hg.1 hg.2
  · exact plays_no x0 a1 _ c1 w h hg.2
end Go.Proofs.YticckfioggeaeaaDoor
