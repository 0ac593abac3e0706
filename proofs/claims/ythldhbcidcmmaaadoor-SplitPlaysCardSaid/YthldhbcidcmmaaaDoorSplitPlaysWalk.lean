/-
  SplitPlays: the walk.
-/
import Derived.Test.YthldhbcidcmmaaaDoorSplitPl
import Derived.Test.YthldhbcidcmmaaaDoorLift
import Derived.Deep.RegionHeld3
import Derived.Deep.RegionWith
import Derived.Deep.RegionLaw
import Derived.Deep.DeepCutAuto
namespace Go.Proofs.YthldhbcidcmmaaaDoor
open Go.RowKit

theorem eError_w (k j : Int) (w : World) (hg : Handle w) : Calls Tryd.prog 11 #[errw k, .int .i64 j] w (ErrorPost w (k == j)) := by
  by_cases h : k = 0
  · subst h; rw [errw_zero]; exact eError_nil j w
  · rw [errw_of h]; exact eError_some k j w hg
theorem eError_e (k : Int) (w : World) (hg : Handle w) : Calls Tryd.prog 11 #[errw k, .int .i64 k] w fun e w' => e = .returned (.bool true) ∧ Below w.heap.size w w' :=
  (eError_w k k w hg).mono fun e w' ⟨he, hb⟩ => ⟨by rw [he]; simp, hb⟩

def PSE (w wr : World) (t xb : Nat) (T S : List Int) : Prop := ∃ (O : Nat → Prop) (n D : Nat) (deep : Nat → Nat) (bD cD bK cK : Nat) (vals : List Value), PS w wr O t xb T S n D deep bD cD bK cK vals
def PlRel2 (w : World) (t xb : Nat) (S : List Int) (n D : Nat) (deep : Nat → Nat) (bD cD bK cK : Nat) (vals : List Value) (i : Value) (wr : World) : Prop := ∃ (k : Nat) (O : Nat → Prop), k ≤ n ∧ i = .int .i64 k ∧ PS w wr O t xb S S n D deep bD cD bK cK vals
def PlRel (w : World) (t xb n : Nat) (i : Value) (wr : World) : Prop := ∃ (j : Nat) (S : List Int), j ≤ n ∧ j ≤ 40 ∧ i = .int .i64 j ∧ PSE w wr t xb S S

theorem PSE.start {w w1 w2 : World} {t bD cD bK cK : Nat} {vals : List Value} (h1 : Tab (fun x => w.heap.size ≤ x) w1 t []) (hb1 : Below w.heap.size w w1) (hpg : PgV w2 1 [] (fun _ => 0) bD cD bK cK vals) (hin : PIn (fun x => w1.heap.size ≤ x) bD bK vals) (hb2 : Below w1.heap.size w1 w2) :
    PSE w (w2.alloc (.cells #[.int .i64 0, .slice (some ⟨bD, 0, none⟩) 1 cD, .slice (some ⟨bK, 0, none⟩) 1 cK] 35)) t w2.heap.size [] [] := by
  have hb3 : Below w2.heap.size w2 (w2.alloc (.cells #[.int .i64 0, .slice (some ⟨bD, 0, none⟩) 1 cD, .slice (some ⟨bK, 0, none⟩) 1 cK] 35)) := (Below.refl _ w2).alloc (Nat.le_refl _) _
  have t2 := h1.away (O2 := fun _ => False) ((Keep.of_below (F := []) hb2 (Nat.le_refl _)).toP (by simp)) (fun _ _ _ hf => hf)
  have t3 := t2.away (O2 := fun _ => False) ((Keep.of_below (F := []) hb3 (Nat.le_refl _)).toP (by simp)) (fun _ _ _ hf => hf)
  have hs1 := hb1.size
  have hs2 := hb2.size
  refine ⟨_, 1, 0, fun _ => 0, bD, cD, bK, cK, vals, { tab := t3, x := Blk.new w2 _ [.int .i64 0, .slice (some ⟨bD, 0, none⟩) 1 cD, .slice (some ⟨bK, 0, none⟩) 1 cK], pg := hpg.bel hb3, dir := dir_new, hn := rfl, d6 := by omega, pin := (hin.and hpg.pin_lt).mono ?_, nx := ?_, lo := ?_, x0 := by omega, bel := (hb1.trans (hb2.mono hs1)).trans (hb3.mono (by omega)) }⟩
  · intro x hx ho
    have h3 := hx.1
    have h4 := hx.2
    rcases ho.1.2 with h5 | h5 <;> omega
  · intro ho
    rcases ho.2 with h5 | h5
    · omega
    · rw [World.size_alloc] at h5; omega
  · intro x hx ho
    have := ho.1.1
    omega
theorem PSE.bel {w wr : World} {t xb : Nat} {T S : List Int} (h : PSE w wr t xb T S) : Below w.heap.size w wr := by
  obtain ⟨O, n, D, deep, bD, cD, bK, cK, vals, h⟩ := h
  exact h.bel
set_option maxHeartbeats 8000000 in
set_option maxRecDepth 1000000 in
theorem splitPlays_walk (a0 : Option Addr) (c0 : Nat) (l0 : List Int) (x1 : Int) (w : World) (h0 : IntsIn w w.heap.size a0 l0) (hI0 : ∀ y ∈ l0, I64 y) (m0 : Reached l0) (h1 : I64 x1) (hg : Handle w) :
    Calls Tryd.prog 4 #[.slice a0 l0.length c0, .int .i64 x1] w fun e w' => e = .returned (.bool true) ∧ Below w.heap.size w w' := by
  have hx1 := h1.bd
  unfold Reached reachBytes at m0
  have HX1 := Lib.hid hx1
  have H0 := Lib.hid h0; have HH := Lib.hid hg
  have hw0 := hg.lt
  obtain ⟨n, hn⟩ : ∃ n, l0.length = n := ⟨_, rfl⟩
  rw [hn] at m0 ⊢
  have HN := Lib.hid hn
  clear h0 h1 hn hx1 hg hI0
  go_enter Tryd.func4, Tryd.ntmps4
  go_wp2_with fail
  refine (tNew_any _).mono ?_
  rintro e w1 ⟨t, rfl, h1, hb1⟩
  have HT1 := Lib.hid h1; have HB1 := Lib.hid hb1
  clear h1 hb1
  go_wp2_with fail
  refine (kNew _).mono ?_
  rintro e w2 ⟨bD, cD, bK, cK, vals, rfl, hpg, hpin, hb2⟩
  have HPG := Lib.hid hpg; have HPIN := Lib.hid hpin; have HB2 := Lib.hid hb2
  clear hpg hpin hb2
  go_upto_region 3 with fail
  have hps := PSE.start HT1.out HB1.out HPG.out HPIN.out HB2.out
  clear HT1 HB1 HPG HPIN HB2
  generalize w2.alloc (.cells #[.int .i64 0, .slice (some ⟨bD, 0, none⟩) 1 cD, .slice (some ⟨bK, 0, none⟩) 1 cK] 35) = w3 at hps ⊢
  obtain ⟨xb, hxb⟩ : ∃ xb, xb = w2.heap.size := ⟨_, rfl⟩
  rw [← hxb] at hps ⊢
  have HPS := Lib.hid hps
  clear hxb hps
  go_wp2
  go_loopw [7, 8, 9, 10, 11, 12] (fun i _ _ _ _ _ wr => PlRel w t xb n i wr) (fun i _ _ _ _ _ _ => n - (intOf i).toNat)
  case atStart => exact ⟨0, [], by omega, by omega, rfl, HPS.out⟩
  case round =>
    obtain ⟨j, S, hj, hj40, rfl, hps⟩ := hrel
    have HPS := Lib.hid hps
    clear hps
    by_cases hlt : j < n ∧ j < 40
    · obtain ⟨hlt, hlt40⟩ := hlt
      have hjl : j < l0.length := by rw [HN.out]; exact hlt
      obtain ⟨bx, off, rfl, hb, hc⟩ := H0.out.at_ hjl
      obtain ⟨x, hx⟩ : ∃ x, x = l0[j] := ⟨_, rfl⟩
      rw [← hx] at hc
      have HC : Hid (∀ w' : World, Below w.heap.size w w' → w'.cell? ⟨bx, off + j, none⟩ = some (.int .i64 x) ∧ Handle w') := Lib.hid fun w' hb' => ⟨(hb'.cell (p := ⟨bx, off + j, none⟩) hb).trans hc, HH.out.below hb' hw0⟩
      have hji : (j : Int) < (n : Int) := by omega
      have hj40i : (j : Int) < 40 := by omega
      have hj0 : (0 : Int) ≤ (j : Int) := by omega
      clear hx hc
      obtain ⟨O, n1, D, deep, bD1, cD1, bK1, cK1, vs1, hps⟩ := HPS.out
      have HP := Lib.hid hps
      have HSB : Hid (∀ x ∈ S, x ≤ 1000000) := Lib.hid fun x hx => (hps.tab.up.2 x hx).2
      have hcw := (HC.out _ hps.bel).1
      obtain ⟨x0, x1', x2, f0, f1, f2⟩ := hps.cells
      have hxlt := hps.x.lt
      clear hps
      go_upto_region 6 with fail
      go_cut [8, 9] from 28 to 37 (fun s8 s9 wx => s9 = .int .i64 (addE S x) ∧ YRel wr wx O (addS S x) xb s8)
      case first =>
        have hpa := HP.out.below ((((Keep.refl [] wr).alloc (.cells #[.int .i64 0, .slice none 0 0, .slice none 0 0] 35)).drew).below (Nat.le_refl _) (by simp))
        obtain ⟨a0, a1, a2, _, _, _⟩ := hpa.cells
        have ha3 := (HC.out _ hpa.bel).1
        clear hpa
        go_region_law (first
          | (go_simp; go_at_call 16; refine (kAdd_any x S n1 D deep bD1 cD1 bK1 cK1 vs1 _ (HP.out.pg.bel (((Keep.refl [] wr).drew).below (Nat.le_refl _) (by simp))) HP.out.hn HP.out.d6 HP.out.dir HSB.out (fun y => ¬ O y ∨ wr.heap.size ≤ y) (HP.out.pin.mono fun _ h => .inl h) (fun y hy => .inr (Nat.le_trans (((Keep.refl [] wr).drew).below (Nat.le_refl _) (by simp)).size hy))).mono ?_; rintro e w4 ⟨n4, D4, deep4, bD4, cD4, bK4, cK4, vals4, rfl, hn4, hd4, hpg4, hdir4, hb4, hpin4⟩; have HY := Lib.hid (Y0.mk (wr := wr) (O := O) hpg4 hdir4 hn4 hd4 hpin4 ((((Keep.refl [] wr).drew).below (Nat.le_refl _) (by simp)).trans (hb4.mono (((Keep.refl [] wr).drew).below (Nat.le_refl _) (by simp)).size))); clear hn4 hd4 hpg4 hdir4 hb4 hpin4)
          | (go_simp; go_at_call 16; refine (kAdd_any x S n1 D deep bD1 cD1 bK1 cK1 vs1 _ (HP.out.pg.bel ((((Keep.refl [] wr).alloc _).drew).below (Nat.le_refl _) (by simp))) HP.out.hn HP.out.d6 HP.out.dir HSB.out (fun y => ¬ O y ∨ wr.heap.size ≤ y) (HP.out.pin.mono fun _ h => .inl h) (fun y hy => .inr (Nat.le_trans ((((Keep.refl [] wr).alloc _).drew).below (Nat.le_refl _) (by simp)).size hy))).mono ?_; rintro e w4 ⟨n4, D4, deep4, bD4, cD4, bK4, cK4, vals4, rfl, hn4, hd4, hpg4, hdir4, hb4, hpin4⟩; have HY := Lib.hid (Y0.mk (wr := wr) (O := O) hpg4 hdir4 hn4 hd4 hpin4 (((((Keep.refl [] wr).alloc _).drew).below (Nat.le_refl _) (by simp)).trans (hb4.mono ((((Keep.refl [] wr).alloc _).drew).below (Nat.le_refl _) (by simp)).size))); have hyb := ((Blk.new wr 35 [.int .i64 0, .slice none 0 0, .slice none 0 0]).drew).keep (Keep.of_below (F := []) hb4 (Nat.le_refl _)) (by simp); have y0 := hyb.cell_ (i := 0) (v := .int .i64 0) rfl; have y1 := hyb.cell_ (i := 1) (v := .slice none 0 0) rfl; have y2 := hyb.cell_ (i := 2) (v := .slice none 0 0) rfl; have g0 := hyb.free 0; have g1 := hyb.free 1; have g2 := hyb.free 2; have HYB := Lib.hid hyb; clear hyb hn4 hd4 hpg4 hdir4 hb4 hpin4)
          | fail)
        all_goals
          (try go_wp2)
          go_meet
        all_goals first
          | (refine ⟨rfl, w4.heap.size, n4, D4, deep4, bD4, cD4, bK4, cK4, vals4, ?_, ?_, ?_, ?_⟩
             · with_reducible rfl
             · exact HY.out.below ((Below.refl _ w4).alloc (Nat.le_refl _) _)
             · exact Blk.new w4 _ [.int .i64 D4, .slice (some ⟨bD4, 0, none⟩) n4 cD4, .slice (some ⟨bK4, 0, none⟩) n4 cK4]
             · have := HY.out.bel.size; omega)
          | (refine ⟨rfl, wr.heap.size, n4, D4, deep4, bD4, cD4, bK4, cK4, vals4, ?_, ?_, ?_, ?_⟩
             · with_reducible rfl
             · exact HY.out.put HYB.out (Nat.le_refl _) _ _ _
             · exact blk3 HYB.out _ _ _
             · omega)
      case rest =>
        obtain ⟨rfl, yb, n4, D4, deep4, bD4, cD4, bK4, cK4, vals4, rfl, hy4, hyb, hyx⟩ := hcut
        have hp4 := HP.out.below hy4.bel
        clear x0 x1' x2 f0 f1 f2 hcw
        obtain ⟨x0, x1', x2, f0, f1, f2⟩ := hp4.cells
        have z0 := hyb.cell_ (i := 0) (v := .int .i64 D4) rfl; have z1 := hyb.cell_ (i := 1) (v := .slice (some ⟨bD4, 0, none⟩) n4 cD4) rfl; have z2 := hyb.cell_ (i := 2) (v := .slice (some ⟨bK4, 0, none⟩) n4 cK4) rfl
        have HY4 := Lib.hid hy4
        clear hp4 hyb hy4
        go_upto_region 8 with fail
        obtain ⟨w5, hw5⟩ : ∃ w5, w5 = set3 wc xb (.int .i64 D4) (.slice (some ⟨bD4, 0, none⟩) n4 cD4) (.slice (some ⟨bK4, 0, none⟩) n4 cK4) := ⟨_, rfl⟩
        rw [show (((wc.setCell ⟨xb, 0, none⟩ (.int .i64 D4)).setCell ⟨xb, 1, none⟩ (.slice (some ⟨bD4, 0, none⟩) n4 cD4)).setCell ⟨xb, 2, none⟩ (.slice (some ⟨bK4, 0, none⟩) n4 cK4)) = w5 from hw5.symm]
        have hp5 := HP.out.added HY4.out.bel HY4.out.pg HY4.out.dir HY4.out.hn HY4.out.d6 HY4.out.pin
        rw [← hw5] at hp5
        clear hw5 HY4 x0 x1' x2 f0 f1 f2 z0 z1 z2 HP hxlt HPS
        obtain ⟨O5, hO5⟩ : ∃ O5, O5 = (fun x => (O x ∧ (x < wr.heap.size ∨ wc.heap.size ≤ x)) ∧ (x < wc.heap.size ∨ wc.heap.size ≤ x)) := ⟨_, rfl⟩
        rw [← hO5] at hp5
        have HP5 := Lib.hid hp5
        have hcw := (HC.out _ hp5.bel).1
        obtain ⟨x0, x1', x2, f0, f1, f2⟩ := hp5.cells
        obtain ⟨en, hen⟩ : ∃ en, en = addE S x := ⟨_, rfl⟩
        rw [← hen]
        have HEN := Lib.hid hen
        have HP5D := Lib.hid (hp5.below (((Keep.refl [] w5).drew).below (Nat.le_refl _) (by simp)))
        clear hO5 hp5 hen
        go_cut [53] from 38 to 53 (fun s53 wx => s53 = .bool false ∧ ∃ O, PS w wx O t xb (addS S x) (addS S x) n4 D4 deep4 bD4 cD4 bK4 cK4 vals4)
        case first =>
          go_region_with (first
            | (go_at_call 9; refine (tAdd_any x HP5D.out.tab).mono ?_; rintro e w6 ⟨rfl, ht6, hk6⟩; rw [← HEN.out]; have hp6 := HP5D.out.tstep ht6 hk6; have HP6 := Lib.hid hp6; have ⟨x0, x1', x2, f0, f1, f2⟩ := hp6.cells; clear ht6 hk6 hp6)
            | (go_at_call 11; refine (eError_e en _ (HC.out _ HP6.out.bel).2).mono ?_; rintro e w7 ⟨rfl, hb7⟩; have hp7 := HP6.out.below hb7; have HP7 := Lib.hid hp7; have ⟨x0, x1', x2, f0, f1, f2⟩ := hp7.cells; clear hb7 hp7)
            | (go_at_call 17; refine HP7.out.tabD.depth.mono ?_; rintro e w8 ⟨rfl, rfl⟩)
            | fail)
          all_goals
            (try go_wp2)
            go_meet
            exact ⟨rfl, _, HP7.out⟩
        case rest =>
          obtain ⟨rfl, O8', hp8⟩ := hcut
          obtain ⟨S2, hS2⟩ : ∃ S2, S2 = addS S x := ⟨_, rfl⟩
          rw [← hS2] at hp8
          have HP8 := Lib.hid hp8
          clear hp8 hS2 HP5D HP5 hcw HEN x0 x1' x2 f0 f1 f2
          obtain ⟨w9r, rfl⟩ : ∃ w9r : World, w9r = wr := ⟨_, rfl⟩
          go_wp2
          go_loopw [10, 11, 12] (fun i _ _ wr => PlRel2 w t xb S2 n4 D4 deep4 bD4 cD4 bK4 cK4 vals4 i wr) (fun i _ _ _ => n4 - (intOf i).toNat)
          case atStart => exact ⟨0, _, by omega, rfl, HP8.out⟩
          case round =>
            obtain ⟨k, O8, hk, rfl, hp9⟩ := hrel
            obtain ⟨x0, x1', x2, f0, f1, f2⟩ := hp9.cells
            have hn64 : n4 ≤ 64 := by rw [hp9.hn]; exact Nat.pow_le_pow_right (n := 2) (by decide) hp9.d6
            by_cases hkn : k < n4
            · have hki : (k : Int) < (n4 : Int) := by omega
              have hk0 : (0 : Int) ≤ (k : Int) := by omega
              have HP9 := Lib.hid hp9
              clear hp9
              go_wp2_with fail
              refine (HP9.out.tabD.page k (by rw [← HP9.out.hn]; exact hkn)).mono ?_
              rintro e w10 ⟨aP, cP, rfl, hoP, hb10⟩
              have hp10 := HP9.out.below hb10
              have HP10 := Lib.hid hp10
              clear x0 x1' x2 f0 f1 f2
              obtain ⟨x0, x1', x2, f0, f1, f2⟩ := hp10.cells
              obtain ⟨aK, mK, cK9, zd, zk, hmK, hinK⟩ := hp10.pg.row hkn
              obtain ⟨aP2, cP2, eP, hinP⟩ := hoP.shape
              obtain ⟨L, hL⟩ : ∃ L, L = cls S2 k (deep4 k) := ⟨_, rfl⟩
              rw [← hL] at hmK hinK hinP eP ⊢
              rw [hmK] at eP ⊢
              simp only [Value.slice.injEq] at eP
              obtain ⟨rfl, _, rfl⟩ := eP
              obtain ⟨dk, hdk⟩ : ∃ dk, dk = deep4 k := ⟨_, rfl⟩
              rw [← hdk] at zd ⊢
              have hL3 : mK ≤ 3 := by rw [← hmK, hL]; exact hp10.dir.few k
              have HINK := Lib.hid hinK; have HINP := Lib.hid hinP; have HMK := Lib.hid hmK
              clear hinK hinP hmK hL hdk hp10 hoP hb10 HP9
              go_wp2_with fail
              refine (ints_same_keep aP aK mK cP cK9 _ _ L _ HMK.out HINP.out HINK.out (by unfold maxLen; omega)).mono ?_
              rintro e w11 ⟨rfl, hk11⟩
              have HP11 := Lib.hid (HP10.out.below (hk11.below (Nat.le_refl _) (by simp)))
              clear hk11
              go_wp2
              go_roundw
              case rel => exact ⟨k + 1, _, hkn, by simp, HP11.out⟩
              case measure => simp [intOf]; omega
            · obtain rfl : k = n4 := by omega
              have HP9 := Lib.hid hp9
              clear hp9
              go_wp2
              go_roundw
              case rel => exact ⟨j + 1, S2, hlt, by omega, by simp, ⟨_, _, _, _, _, _, _, _, _, HP9.out⟩⟩
              case measure => simp [intOf]; omega
    · have hgo : (j : Int) < (n : Int) → ¬ (j : Int) < 40 := fun h => by omega
      obtain ⟨O, n1, D, deep, bD1, cD1, bK1, cK1, vs1, hps⟩ := HPS.out
      have hn64 : n1 ≤ 64 := by rw [hps.hn]; exact Nat.pow_le_pow_right (n := 2) (by decide) hps.d6
      have hd6 := hps.d6
      have HN1 := Lib.hid hps.hn
      have HTX : Hid (∀ w', Below wr.heap.size wr w' → TabD O w' t S D deep) := Lib.hid fun w' hb' => hps.tabD.bel hb'
      have HBEL := Lib.hid hps.bel
      have HSB := Lib.hid hps.tab.up.2
      obtain ⟨x0, x1', x2, f0, f1, f2⟩ := hps.cells
      have hcase : (j < n ∧ decide ((j : Int) < 40) = false) ∨ ¬ j < n := by
        rcases Nat.lt_or_ge j n with g | g
        · exact .inl ⟨g, by simp; omega⟩
        · exact .inr (by omega)
      have HP := Lib.hid hps
      clear hps HPS
      rcases hcase with ⟨g1, g2⟩ | g1
      all_goals
        first
          | (have g3 : decide (j < n) = true := (by simpa using g1))
          | (have g3 : decide (j < n) = false := (by simpa using g1))
      all_goals clear g1
      all_goals
        go_wp2_with fail
        refine ((HTX.out _ (Below.refl _ _)).page_no (n1 : Int) (.inr (by rw [← HN1.out]; exact Int.le_refl _))).mono ?_
        rintro e w' ⟨rfl, rfl⟩
        by_cases hx0 : 0 ≤ x1
        · obtain ⟨xk, rfl⟩ := Int.eq_ofNat_of_zero_le hx0
          obtain ⟨q, hq⟩ : ∃ q, xk % 2 ^ D = q := ⟨_, rfl⟩
          have hqn : q < n1 := by rw [← hq, HN1.out]; exact Nat.mod_lt _ (Nat.pow_pos (by decide))
          obtain ⟨aR, mR, cR, _, zk, hmR, hinR⟩ := HP.out.pg.row hqn
          have hmR3 : mR ≤ 3 := by rw [← hmR]; exact HP.out.dir.few q
          obtain ⟨hdq, hcq⟩ := at_deep (k := xk) (i := q) HP.out.dir hq.symm
          obtain ⟨L, hL⟩ : ∃ L, L = cls S q (deep q) := ⟨_, rfl⟩
          rw [← hL] at hmR hinR
          obtain ⟨bv, hbv⟩ : ∃ bv, decide ((xk : Int) ∈ S) = bv := ⟨_, rfl⟩
          have HLD : Hid (decide ((xk : Int) ∈ L) = bv) := Lib.hid (by
            rw [← hbv, hL, hcq]
            rw [decide_eq_decide]
            exact mem_cls_self)
          have HBV := Lib.hid hbv; have HQ := Lib.hid hq; have HMR := Lib.hid hmR; have HIR := Lib.hid hinR
          have hqi : (q : Int) < (n1 : Int) := by omega
          have hq0 : (0 : Int) ≤ (q : Int) := by omega
          clear hbv hq hmR hinR hL hdq hcq
          go_wp2
          go_quiet ((first
            | (go_at_call 20; exact quiet_eq (bits_all xk D q _ HX1.out.2 (by omega) HQ.out))
            | (go_at_call 14; exact quiet_eq (rHas_is aR mR cR _ L xk bv _ HMR.out (HIR.out.drewN _) (by omega) HLD.out))))
          go_wp2_with fail
          refine ((HTX.out _ (((Keep.refl [] wr).drewN _).below (Nat.le_refl _) (by simp))).has (xk : Int) bv (by have := HX1.out.2; omega) HBV.out).mono ?_
          rintro e w8 ⟨rfl, hk8⟩
          have HFIN : Hid (Below w.heap.size w w8) := Lib.hid (HBEL.out.trans ((((Keep.refl [] wr).drewN _).trans hk8).below HBEL.out.size (by simp)))
          clear hk8
          cases bv
          all_goals
            go_wp2
            go_ret
            exact ⟨rfl, HFIN.out⟩
        · have hxn : x1 < 0 := by omega
          have hbv : decide (x1 ∈ S) = false := by
            rw [decide_eq_false_iff_not]
            intro hm
            have := (HSB.out x1 hm).1
            omega
          have HBV := Lib.hid hbv
          have hd0 : decide (0 ≤ x1) = false := decide_eq_false hx0
          clear hbv hxn hx0
          go_wp2
          go_quiet (fail)
          go_wp2_with fail
          refine ((HTX.out _ (((Keep.refl [] wr).drewN _).below (Nat.le_refl _) (by simp))).has (x1) false (by have := HX1.out.2; omega) HBV.out).mono ?_
          rintro e w8 ⟨rfl, hk8⟩
          have HFIN : Hid (Below w.heap.size w w8) := Lib.hid (HBEL.out.trans ((((Keep.refl [] wr).drewN _).trans hk8).below HBEL.out.size (by simp)))
          clear hk8
          go_wp2
          go_ret
          exact ⟨rfl, HFIN.out⟩
end Go.Proofs.YthldhbcidcmmaaaDoor
