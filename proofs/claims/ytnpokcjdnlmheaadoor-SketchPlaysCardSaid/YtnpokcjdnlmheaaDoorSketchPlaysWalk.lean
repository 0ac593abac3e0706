/-
  SketchPlays: the walk.
-/
import Derived.Test.YtnpokcjdnlmheaaDoorSketchPl
import Derived.Test.YtnpokcjdnlmheaaDoorLift
import Derived.Test.YtnpokcjdnlmheaaDoorIn
import Derived.Deep.QuietTactic
import Derived.BigQuiet
import Derived.BigRegion
import Derived.Deep.RegionHeld3
namespace Go.Proofs.YtnpokcjdnlmheaaDoor
open Go.RowKit

set_option maxRecDepth 100000 in
theorem sketchPlays_no (n t : Int) (a : Option Addr) (m c : Nat) (ask : Int) (w : World) (h : ¬ (1 ≤ n ∧ n ≤ 4 ∧ 1 ≤ t ∧ t ≤ 16)) (hg : Handle w) :
    Calls Tryd.prog 3 #[.int .i64 n, .int .i64 t, .slice a m c, .int .i64 ask] w fun e w' => e = .returned (.bool true) ∧ Below w.heap.size w w' := by
  have hc : (n < 1 ∨ 4 < n) ∨ ((1 ≤ n ∧ n ≤ 4) ∧ (t < 1 ∨ 16 < t)) := by omega
  have HC := Lib.hid h
  clear h
  rcases hc with h | ⟨h1, h2⟩
  all_goals
    go_enter Tryd.func3, Tryd.ntmps3
    go_wp2_with fail
    refine (sketchNew_no n t _ HC.out).mono ?_
    rintro e w' ⟨rfl, rfl⟩
    go_wp2_with (first
      | (go_at_call 7; refine (in_yes _ _ _ _ (by omega) (by omega)).mono ?_; rintro e w' ⟨rfl, rfl⟩)
      | (go_at_call 7; refine (in_no _ _ _ _ (by omega)).mono ?_; rintro e w' ⟨rfl, rfl⟩)
      | (go_at_call 8; refine (eError_n (errv 1) 1 _ (.inr rfl) hg).mono ?_; rintro e w1 ⟨rfl, hb⟩))
    go_ret
    exact ⟨rfl, hb⟩

def SPRel (w : World) (b g cap : Nat) (L : List Nat) (depth width m : Nat) (vK vM t i : Value) (wr : World) : Prop :=
  ∃ (j : Nat) (rows : List (List Int)) (sum : Int) (xK xM : Value) (keys many : List Int), j ≤ m ∧ j ≤ 60 ∧ i = .int .i64 j ∧ t = .int .i64 sum ∧ xK = vK ∧ xM = vM ∧ SPS w wr b g cap L width rows sum xK xM keys many ∧ SPI depth width rows sum keys many j

set_option maxHeartbeats 8000000 in
set_option maxRecDepth 100000 in
theorem sketchPlays_yes (depth width : Nat) (h1 : 1 ≤ (depth : Int)) (h2 : (depth : Int) ≤ 4) (h3 : 1 ≤ (width : Int)) (h4 : (width : Int) ≤ 16) (a : Option Addr) (c : Nat) (xss : List (List Int)) (ask : Int) (w : World) (hx : RowsIn w w.heap.size a xss) (hn : xss.length ≤ maxLen) (hh : Handle w) :
    Calls Tryd.prog 3 #[.int .i64 depth, .int .i64 width, .slice a xss.length c, .int .i64 ask] w fun e w' => e = .returned (.bool true) ∧ Below w.heap.size w w' := by
  have HN := Lib.hid hn; have HX := Lib.hid hx; have HH := Lib.hid hh; clear hn hx hh
  have hw0 := HH.out.lt
  have hwd : 0 < width := by omega
  go_enter Tryd.func3, Tryd.ntmps3
  go_wp2_with fail
  refine (sketchNew_yes depth width _ h1 h2 h3 h4).mono ?_
  rintro e w2 ⟨g, cap, L, rfl, hs, hg, hLb, hb2⟩
  obtain ⟨b, hb⟩ : ∃ b, b = w.heap.size := ⟨_, rfl⟩
  rw [← hb] at hs hg hLb ⊢
  have hlen := hs.len
  rw [List.length_replicate] at hlen
  have hL0 : 0 < L.length := by omega
  have hL4 : L.length ≤ 4 := by omega
  have hsp : SPS w w2 b g cap L width (sk0 depth width) 0 (.slice none 0 0) (.slice none 0 0) [] [] :=
    ⟨hs, OwnInts.nil _ _, OwnInts.nil _ _, fun x hx => (by simp [Value.ownBlock] at hx), fun x hx => (by simp [Value.ownBlock] at hx), fun x hx => (by simp [Value.ownBlock] at hx), hb2, fun x hx => by
      rcases List.mem_cons.1 hx with h | h
      · omega
      rcases List.mem_cons.1 h with h | h
      · omega
      · have := hLb x h; omega⟩
  have HP0 := Lib.hid hsp; have HLEN := Lib.hid hlen
  clear hs hg hLb hb2 hsp hb hlen
  go_wp2_with (go_at_call 7; refine (in_yes _ _ _ _ (by omega) (by omega)).mono ?_; rintro e w' ⟨rfl, rfl⟩)
  go_loopw [11, 12, 13, 14] (fun vK vM t i wr => SPRel w b g cap L depth width xss.length vK vM t i wr) (fun _ _ _ i _ => xss.length - (intOf i).toNat)
  case atStart => exact ⟨0, _, _, _, _, _, _, by omega, by omega, rfl, rfl, rfl, rfl, HP0.out, spi0 depth width⟩
  case round =>
    obtain ⟨j, rows, sum, vK, vM, keys, many, hj, hj6, rfl, rfl, rfl, rfl, hps, hpi⟩ := hrel
    have HPS := Lib.hid hps; have HPI := Lib.hid hpi; clear hps hpi
    by_cases hlt : j < xss.length ∧ j < 60
    · obtain ⟨hlt, hlt6⟩ := hlt
      obtain ⟨bx, off, a', c', rfl, hbB, hcell, hrow⟩ := HX.out.at_ hlt
      have hcell2 := (HPS.out.bel.cell (p := ⟨bx, off + j, none⟩) hbB).trans hcell
      obtain ⟨l, hl⟩ : ∃ l, l = xss[j] := ⟨_, rfl⟩
      obtain ⟨m, hm⟩ : ∃ m, m = l.length := ⟨_, rfl⟩
      rw [← hl] at hrow
      rw [← hl, ← hm] at hcell2
      have HR := Lib.hid hrow
      clear hl hcell hrow
      have hj60 : (j : Int) < 60 := by omega
      have hjn : (j : Int) < (xss.length : Int) := by omega
      have hj0 : (0 : Int) ≤ (j : Int) := by omega
      by_cases hm2 : m = 2
      case neg =>
        have hm2' : ((m : Int) != 2) = true := bne_iff_ne.2 (by omega)
        have HNX : Hid (SPRel w b g cap L depth width xss.length vK vM (.int .i64 sum) (.int .i64 ((j : Int) + 1)) wr) := Lib.hid ⟨j + 1, _, _, _, _, _, _, hlt, by omega, by simp, rfl, rfl, rfl, HPS.out, HPI.out.mono⟩
        go_wp2
        go_roundw
        case rel => exact HNX.out
        case measure => simp [intOf]; omega
      subst hm2
      obtain ⟨x, y, rfl⟩ : ∃ x y, l = [x, y] := by
        match l, hm with
        | [x, y], _ => exact ⟨x, y, rfl⟩
      obtain ⟨b3, off3, rfl, hb3, hc3⟩ := HR.out (by simp)
      have HC3 : Hid (∀ w' : World, Below w.heap.size w w' → w'.cell? ⟨b3, off3, none⟩ = some (.int .i64 x) ∧ w'.cell? ⟨b3, off3 + 1, none⟩ = some (.int .i64 y)) := Lib.hid fun w' hb => ⟨(hb.cell (p := ⟨b3, off3, none⟩) hb3).trans (hc3 0 x rfl), (hb.cell (p := ⟨b3, off3 + 1, none⟩) hb3).trans (hc3 1 y rfl)⟩
      clear hc3 hm HR
      obtain ⟨hy0, hy1⟩ := HC3.out wr HPS.out.bel
      have hsum0 := HPI.out.inv.2
      have hsum1 := HPI.out.sb
      have hkl := HPI.out.kl
      have hkb := HPI.out.kb
      by_cases hrg : 0 ≤ x ∧ x ≤ 1000000 ∧ 0 ≤ y ∧ y ≤ 1000
      · obtain ⟨g1, g2, g3, g4⟩ := hrg
        obtain ⟨i0, hi, hz0, hz1, hz2⟩ := info_parts info_int
        have HOWK : Hid (∀ w' : World, Keep [] wr w' → OwnInts w' w.heap.size vK keys) := Lib.hid fun w' hk => (HPS.out.keep0 hk).K
        have HNI := Lib.hid (HPI.out.add hwd g1 g2 g3 g4)
        go_wp2_with (first
          | (go_at_call 7; refine (in_yes _ _ _ _ (by omega) (by omega)).mono ?_; rintro e w' ⟨rfl, rfl⟩)
          | (at_builtin; refine wpList_append_own_at _ rfl (.tmp 71) (.tmp 75) 30 rfl w.heap.size 3 i0 (.int .i64 0) 1 8 Tryd.underlying30 hi hz0 hz1 hz2 rfl (by decide) _ _ _ rfl (HOWK.out _ ((Keep.refl _ _).alloc _)) ⟨wr.heap.size, 0, none⟩ 1 1 [.int .i64 x] rfl rfl (by intro p u hp; match p, hp with | 0, hp => simp at hp; subst hp; simp [Addr.add]) (by intro u hu; simp at hu; subst hu; rfl) (by unfold maxLen; omega) (by omega) (by have := HPS.out.bel.size; simp; omega) ?_; intro vK' w4 hown' hgrow _ hlies; have hob : OwnInts w4 w.heap.size vK' (keys ++ [x]) := (by unfold OwnInts; simpa [ints] using hown'); have hp4 := (HPS.out.keep0 ((Keep.refl _ wr).alloc _)).appK hob hgrow hlies; have HP4 := Lib.hid hp4; have ⟨hz4, hz5⟩ := HC3.out w4 hp4.bel; have HOWM : Hid (∀ w' : World, Keep [] w4 w' → OwnInts w' w.heap.size vM many) := Lib.hid fun w' hk => (HP4.out.keep0 hk).M; clear hob hown' hgrow hlies hp4 hy0 hy1)
          | (at_builtin; refine wpList_append_own_at _ rfl (.tmp 77) (.tmp 81) 30 rfl w.heap.size 3 i0 (.int .i64 0) 1 8 Tryd.underlying30 hi hz0 hz1 hz2 rfl (by decide) _ _ _ rfl (HOWM.out _ ((Keep.refl _ _).alloc _)) ⟨w4.heap.size, 0, none⟩ 1 1 [.int .i64 y] rfl rfl (by intro p u hp; match p, hp with | 0, hp => simp at hp; subst hp; simp [Addr.add]) (by intro u hu; simp at hu; subst hu; rfl) (by unfold maxLen; omega) (by omega) (by have := HP4.out.bel.size; simp; omega) ?_; intro vM' w5 hown' hgrow _ hlies; have hob : OwnInts w5 w.heap.size vM' (many ++ [y]) := (by unfold OwnInts; simpa [ints] using hown'); have hp5 := (HP4.out.keep0 ((Keep.refl _ w4).alloc _)).appM hob hgrow hlies; have HP5 := Lib.hid hp5; have ⟨hv4, hv5⟩ := HC3.out w5 hp5.bel; clear hob hown' hgrow hlies hp5 hz4 hz5))
        go_region_held3 (fun wx => wx.cell? ⟨b3, off3, none⟩ = some (.int .i64 x) ∧ wx.cell? ⟨b3, off3 + 1, none⟩ = some (.int .i64 y))
          (first | exact HC3.out _ HP5.out.bel.drew | exact HC3.out _ HP6.out.bel | exact HC3.out _ HP8.out.bel | fail)
          (first
            | (go_at_call 9; refine (add_ok b g cap L width rows sum x y _ (HP5.out.keep0 (Keep.refl _ _).drew).sk hL0 hL4 h3 h4 g1 g2 g3 g4 hsum0 (by omega) (skBd_inv HPI.out.inv (by omega))).mono ?_; rintro e w6 ⟨rfl, hs6, hk6⟩; have HP6 := Lib.hid ((HP5.out.keep0 (Keep.refl _ _).drew).put hk6 hs6); clear hs6 hk6)
            | (go_at_call 8; refine (eError_n .nilIface 0 _ (.inl ⟨rfl, rfl⟩) (HH.out.below HP6.out.bel hw0)).mono ?_; rintro e w8 ⟨rfl, hbE⟩; have HP8 := Lib.hid (HP6.out.below hbE); clear hbE)
            | (go_at_call 10; refine (sum_any b g cap L width _ _ _ HP8.out.sk).mono ?_; rintro e w' ⟨rfl, rfl⟩)
            | fail)
        all_goals
          go_wp2
          go_roundw
          case rel => exact ⟨j + 1, _, _, _, _, _, _, hlt, by omega, by simp, rfl, rfl, rfl, HP8.out, HNI.out⟩
          case measure => simp [intOf]; omega
      · have hcase : (x < 0 ∨ 1000000 < x) ∨ ((0 ≤ x ∧ x ≤ 1000000) ∧ (y < 0 ∨ 1000 < y)) := by omega
        have HRG := Lib.hid hrg
        clear hrg
        rcases hcase with hr | ⟨hr, hr2⟩
        all_goals
          go_wp2_with (first
            | (go_at_call 7; refine (in_yes _ _ _ _ (by omega) (by omega)).mono ?_; rintro e w' ⟨rfl, rfl⟩)
            | (go_at_call 7; refine (in_no _ _ _ _ (by omega)).mono ?_; rintro e w' ⟨rfl, rfl⟩))
          go_region_held3 (fun wx => wx.cell? ⟨b3, off3, none⟩ = some (.int .i64 x) ∧ wx.cell? ⟨b3, off3 + 1, none⟩ = some (.int .i64 y))
            (first | exact HC3.out _ HPS.out.bel.drew | exact HC3.out _ HP6.out.bel | exact HC3.out _ HP8.out.bel | fail)
            (first
              | (go_at_call 9; refine (add_range b x y _ HRG.out).mono ?_; rintro e w6 ⟨rfl, rfl⟩; have HP6 := Lib.hid (HPS.out.keep0 (Keep.refl _ _).drew))
              | (go_at_call 8; refine (eError_n (errv 1) 1 _ (.inr rfl) (HH.out.below HP6.out.bel hw0)).mono ?_; rintro e w8 ⟨rfl, hbE⟩; have HP8 := Lib.hid (HP6.out.below hbE); clear hbE)
              | (go_at_call 10; refine (sum_any b g cap L width _ _ _ HP8.out.sk).mono ?_; rintro e w' ⟨rfl, rfl⟩)
              | fail)
          all_goals
            go_wp2
            go_roundw
            case rel => exact ⟨j + 1, _, _, _, _, _, _, hlt, by omega, by simp, rfl, rfl, rfl, HP8.out, HPI.out.mono⟩
            case measure => simp [intOf]; omega
    · have hx : ¬ (j : Int) < (xss.length : Int) ∨ ((j : Int) < (xss.length : Int) ∧ ¬ (j : Int) < 60) := by omega
      clear hlt
      rcases hx with hx | ⟨hx, hx2⟩
      all_goals
        obtain ⟨n, hn⟩ : ∃ n, n = keys.length := ⟨_, rfl⟩
        obtain ⟨aK, cK, rfl, hnK, _⟩ := HPS.out.K.new
        obtain ⟨aM, cM, rfl, hnM, _⟩ := HPS.out.M.new
        have hn60 : n ≤ 60 := by have := HPI.out.kb; omega
        have hM : many.length = n := by have := HPI.out.kl; omega
        rw [hM, ← hn] at HPS ⊢
        have HKL := Lib.hid hn.symm; have HML := Lib.hid hM
        have HKI := Lib.hid hnK.ints; have HMI := Lib.hid hnM.ints
        clear hnK hnM hn hM
        obtain ⟨W0, hW0⟩ : ∃ W0 : World, W0 = wr := ⟨_, rfl⟩
        rw [← hW0] at HPS HKI HMI
        have HPS0 := HPS
        go_wp2_with fail
        clear hx
        go_loopw [17, 18, 19, 20, 21] (fun t i _ _ _ wr => ∃ r : Nat, r ≤ depth ∧ i = .int .i64 r ∧ t = .int .i64 (wantTo ask width rows r) ∧ Keep [] W0 wr) (fun _ i _ _ _ _ => depth - (intOf i).toNat)
        case atStart =>
          refine ⟨0, Nat.zero_le _, rfl, ?_, by rw [hW0]; exact Keep.refl _ _⟩
          unfold wantTo cntTo
          split <;> rfl
        case round =>
          obtain ⟨r, hr, rfl, rfl, hkk⟩ := hrel
          have HKK := Lib.hid hkk; have HPR := Lib.hid (HPS0.out.keep0 hkk)
          clear hkk
          by_cases hlt : r < depth
          · have hri : (r : Int) < (depth : Int) := by omega
            have hrl : r < rows.length := by have := HPI.out.rl; omega
            have hr4 : r < 4 := by omega
            go_wp2_with fail
            refine (row_ok b g cap L width rows sum r _ HPR.out.sk hL4 h3 h4 hrl).mono ?_
            rintro e w5 ⟨vR, rfl, hvR, hb5⟩
            have hlr := (HPI.out.inv.1 rows[r] (List.getElem_mem _)).1
            obtain ⟨aR, cR, rfl, hnR, _⟩ := hvR.new
            have HRI := Lib.hid hnR.ints
            rw [hlr]
            have HRL := Lib.hid hlr
            have HENT : Hid (∀ q, q < width → (rows[r])[q]? = some (cntd keys many r width q)) := Lib.hid (fun q hq => by
              have e1 := HPI.out.ent r q hlt
              have hq2 : q < (rows[r]).length := by rw [HRL.out]; exact hq
              have e2 : rows.getD r [] = rows[r] := by rw [List.getD, List.getElem?_eq_getElem hrl]; rfl
              rw [List.getElem?_eq_getElem hq2]
              unfold entry at e1
              rw [e2, List.getD, List.getElem?_eq_getElem hq2] at e1
              exact congrArg some e1)
            have HK5 : Hid (Keep [] W0 w5) := Lib.hid (HKK.out.trans (Keep.of_below hb5 (Nat.le_refl _)))
            obtain ⟨bR, offR, rfl, hbR, hcR⟩ := HRI.out (by rw [HRL.out]; exact hwd)
            have HCR : Hid (∀ w' : World, Keep [] w5 w' → ∀ q, q < width → w'.cell? ⟨bR, offR + q, none⟩ = some (.int .i64 (cntd keys many r width q))) := Lib.hid fun w' hk q hq => (hk.cell (p := ⟨bR, offR + q, none⟩) hbR (by simp)).trans (hcR q _ (HENT.out q hq))
            clear hlr hvR hnR hb5 hcR
            go_wp2_with fail
            go_loopw [17, 20, 21] (fun t i _ wr => ∃ k : Nat, k ≤ width ∧ i = .int .i64 k ∧ t = .int .i64 (wantIn ask width rows r k) ∧ Keep [] w5 wr) (fun _ i _ _ => width - (intOf i).toNat)
            case atStart => exact ⟨0, Nat.zero_le _, rfl, by rw [wantIn_zero], Keep.refl _ _⟩
            case round =>
              obtain ⟨k, hk, rfl, rfl, hkq⟩ := hrel
              have HKQ := Lib.hid hkq; have HPQ := Lib.hid (HPS0.out.keep0 (HK5.out.trans hkq))
              clear hkq
              by_cases hlt2 : k < width
              · have hki : (k : Int) < (width : Int) := by omega
                have hk0 : (0 : Int) ≤ (k : Int) := by omega
                have hKK := HK5.out.trans HKQ.out
                have hIK := HKI.out.below (hKK.below (Nat.le_refl _) (by simp))
                have hIM := HMI.out.below (hKK.below (Nat.le_refl _) (by simp))
                obtain ⟨t, ht⟩ : ∃ t, t = wantIn ask width rows r k := ⟨_, rfl⟩
                rw [← ht]
                have HT := Lib.hid ht
                clear ht
                go_wp2_with fail
                refine (counted_any aK (aM) cK cM n r width k W0.heap.size keys many _ hKK.size HKL.out HML.out hIK hIM hn60 hr4 HPI.out.kr HPI.out.mr h3 h4).mono ?_
                rintro e w6 ⟨rfl, hb6⟩
                have HK6 : Hid (Keep [] w5 w6) := Lib.hid (HKQ.out.trans (Keep.of_below hb6 (Nat.le_refl _)))
                have hcell := HCR.out w6 HK6.out k hlt2
                have hent := HPI.out.ent r k hlt
                obtain ⟨v, hv⟩ : ∃ v, v = cntd keys many r width k := ⟨_, rfl⟩
                rw [← hv] at hcell hent ⊢
                have HE := Lib.hid hent
                clear hv hent hb6 hKK hIK hIM
                by_cases ha : 0 ≤ ask ∧ ask ≤ 1000000
                · have HA := Lib.hid ha
                  obtain ⟨ha1, ha2⟩ := ha
                  obtain ⟨h0, hh0⟩ : ∃ h0, h0 = hashN ask r width := ⟨_, rfl⟩
                  have HH0 := Lib.hid hh0
                  clear hh0
                  by_cases hk2 : h0 = k
                  · have HAT : Hid (wantIn ask width rows r (k + 1) = if v < t then v else t) := Lib.hid (by rw [wantIn_at HA.out (by rw [← HH0.out]; exact hk2), HE.out, HT.out])
                    have hk3 : ((h0 : Int) == (k : Int)) = true := by rw [hk2]; simp
                    by_cases hvt : v < t
                    · go_wp2_with (first
                        | (go_at_call 7; refine (in_yes _ _ _ _ (by omega) (by omega)).mono ?_; rintro e w' ⟨rfl, rfl⟩)
                        | (go_at_call 13; refine (rhash_any ask r width _ hr4 ha1 ha2 h3 (by omega)).mono ?_; rintro e w8 ⟨rfl, hb8⟩; rw [← HH0.out]; have HK8 := Lib.hid (HK6.out.trans (Keep.of_below hb8 (Nat.le_refl _))); clear hb8))
                      go_roundw
                      case rel => exact ⟨k + 1, hlt2, by simp, congrArg (Value.int .i64) (by rw [HAT.out, if_pos hvt]), HK8.out⟩
                      case measure => simp [intOf]; omega
                    · go_wp2_with (first
                        | (go_at_call 7; refine (in_yes _ _ _ _ (by omega) (by omega)).mono ?_; rintro e w' ⟨rfl, rfl⟩)
                        | (go_at_call 13; refine (rhash_any ask r width _ hr4 ha1 ha2 h3 (by omega)).mono ?_; rintro e w8 ⟨rfl, hb8⟩; rw [← HH0.out]; have HK8 := Lib.hid (HK6.out.trans (Keep.of_below hb8 (Nat.le_refl _))); clear hb8))
                      go_roundw
                      case rel => exact ⟨k + 1, hlt2, by simp, congrArg (Value.int .i64) (by rw [HAT.out, if_neg (by omega)]), HK8.out⟩
                      case measure => simp [intOf]; omega
                  · have HOT : Hid (wantIn ask width rows r (k + 1) = t) := Lib.hid (by rw [wantIn_other (by rw [← HH0.out]; exact hk2), HT.out])
                    have hk3 : ((h0 : Int) == (k : Int)) = false := beq_eq_false_iff_ne.2 (by omega)
                    go_wp2_with (first
                      | (go_at_call 7; refine (in_yes _ _ _ _ (by omega) (by omega)).mono ?_; rintro e w' ⟨rfl, rfl⟩)
                      | (go_at_call 13; refine (rhash_any ask r width _ hr4 ha1 ha2 h3 (by omega)).mono ?_; rintro e w8 ⟨rfl, hb8⟩; rw [← HH0.out]; have HK8 := Lib.hid (HK6.out.trans (Keep.of_below hb8 (Nat.le_refl _))); clear hb8))
                    go_roundw
                    case rel => exact ⟨k + 1, hlt2, by simp, congrArg (Value.int .i64) HOT.out.symm, HK8.out⟩
                    case measure => simp [intOf]; omega
                · have HOT : Hid (wantIn ask width rows r (k + 1) = t) := Lib.hid (by rw [HT.out, wantIn_out ha, wantIn_out ha])
                  have ha' : ask < 0 ∨ 1000000 < ask := by omega
                  clear ha
                  go_wp2_with (go_at_call 7; refine (in_no _ _ _ _ (by omega)).mono ?_; rintro e w' ⟨rfl, rfl⟩)
                  go_roundw
                  case rel => exact ⟨k + 1, hlt2, by simp, congrArg (Value.int .i64) HOT.out.symm, HK6.out⟩
                  case measure => simp [intOf]; omega
              · obtain rfl : k = width := by omega
                go_wp2
                go_roundw
                case rel => exact ⟨r + 1, hlt, by simp, by rw [wantIn_end _ _ _ _ hwd], HK5.out.trans HKQ.out⟩
                case measure => simp [intOf]; omega
          · obtain rfl : r = depth := by omega
            have hLd : (L.length : Int) = (r : Int) := by have := HLEN.out; omega
            by_cases ha : 0 ≤ ask ∧ ask ≤ 1000000
            · have HW : Hid (wantTo ask width rows r = skCount ask width rows) := Lib.hid (by unfold wantTo skCount; rw [if_pos ha, HPI.out.rl])
              rw [HW.out]
              obtain ⟨ha1, ha2⟩ := ha
              obtain ⟨q, hq⟩ : ∃ q, q = skCount ask width rows := ⟨_, rfl⟩
              have HQ := Lib.hid hq
              rw [← hq]
              clear hq
              go_wp2_with (first
                | (go_at_call 7; refine (in_yes _ _ _ _ (by omega) (by omega)).mono ?_; rintro e w' ⟨rfl, rfl⟩)
                | (go_at_call 14; refine (count_ok b g cap L width rows sum ask _ HPR.out.sk hL0 hL4 h3 h4 ha1 ha2).mono ?_; rintro e w6 ⟨rfl, _, hk6⟩; rw [← HQ.out]; have HP6 := Lib.hid (HPR.out.keep0 hk6); clear hk6)
                | (go_at_call 8; refine (eError_n .nilIface 0 _ (.inl ⟨rfl, rfl⟩) (HH.out.below HP6.out.bel hw0)).mono ?_; rintro e w8 ⟨rfl, hbE⟩; have HP8 := Lib.hid (HP6.out.below hbE); clear hbE)
                | (go_at_call 11; refine (row_no b g cap L width rows sum _ _ HP8.out.sk hL4 (by omega)).mono ?_; rintro e w' ⟨rfl, rfl⟩))
              go_ret
              exact ⟨by simp, HP8.out.bel⟩
            · have ha' : ask < 0 ∨ 1000000 < ask := by omega
              clear ha
              go_wp2_with (first
                | (go_at_call 7; refine (in_no _ _ _ _ (by omega)).mono ?_; rintro e w' ⟨rfl, rfl⟩)
                | (go_at_call 14; refine (count_range b ask _ ha').mono ?_; rintro e w6 ⟨rfl, rfl⟩)
                | (go_at_call 8; refine (eError_n (errv 1) 1 _ (.inr rfl) (HH.out.below HPR.out.bel hw0)).mono ?_; rintro e w8 ⟨rfl, hbE⟩; have HP8 := Lib.hid (HPR.out.below hbE); clear hbE)
                | (go_at_call 11; refine (row_no b g cap L width rows sum _ _ HP8.out.sk hL4 (by omega)).mono ?_; rintro e w' ⟨rfl, rfl⟩))
              go_ret
              exact ⟨by simp, HP8.out.bel⟩

theorem sketchPlays_walk (x0 x1 : Int) (a2 : Option Addr) (c2 : Nat) (l2 : List (List Int)) (x3 : Int) (w : World) (_ : I64 x0) (_ : I64 x1) (h2 : RowsIn w w.heap.size a2 l2) (_ : ∀ r ∈ l2, r.length ≤ maxLen ∧ ∀ y ∈ r, I64 y) (m2 : l2.length ≤ maxLen) (_ : I64 x3) (hg : Handle w) :
    Calls Tryd.prog 3 #[.int .i64 x0, .int .i64 x1, .slice a2 l2.length c2, .int .i64 x3] w fun e w' => e = .returned (.bool true) ∧ Below w.heap.size w w' := by
  by_cases h : 1 ≤ x0 ∧ x0 ≤ 4 ∧ 1 ≤ x1 ∧ x1 ≤ 16
  · obtain ⟨d, rfl⟩ := Int.eq_ofNat_of_zero_le (show 0 ≤ x0 by omega)
    obtain ⟨k, rfl⟩ := Int.eq_ofNat_of_zero_le (show 0 ≤ x1 by omega)
    exact sketchPlays_yes d k h.1 h.2.1 h.2.2.1 h.2.2.2 a2 c2 l2 x3 w h2 m2 hg
  · exact sketchPlays_no x0 x1 a2 _ c2 x3 w h hg
end Go.Proofs.YtnpokcjdnlmheaaDoor
