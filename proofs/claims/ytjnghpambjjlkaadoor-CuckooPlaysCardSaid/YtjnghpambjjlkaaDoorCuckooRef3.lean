/-
  The reference's AddNest, by its contracts.
-/
import Derived.Test.YtjnghpambjjlkaaDoorCuckooRef2
namespace Go.Proofs.YtjnghpambjjlkaaDoor
open Go.RowKit

def driveR (c : List Int) (k : Nat) : List Int := (drive 0 16 k c).getD c
def driveE (c : List Int) (k : Nat) : Int := if (drive 0 16 k c).isSome then 0 else 7
def addR (c : List Int) (x : Int) : List Int := if x < 0 ∨ 1000000 < x then c else if hasI c x = true then c else if 16 ≤ (live c).length then c else driveR c x.toNat
def addE (c : List Int) (x : Int) : Int := if x < 0 ∨ 1000000 < x then 1 else if hasI c x = true then 6 else if 16 ≤ (live c).length then 4 else driveE c x.toNat
theorem nz_le3 (c : List Int) (k : Nat) : nz c k ≤ k + k := by
  unfold nz
  have h1 := List.length_filter_le (fun x : Int => decide (x ≠ 0)) (c.take k)
  have h2 := List.length_filter_le (fun x : Int => decide (x ≠ 0)) ((c.drop 11).take k)
  have h3 : (c.take k).length ≤ k := List.length_take_le _ _
  have h4 : ((c.drop 11).take k).length ≤ k := List.length_take_le _ _
  omega

def LoopRel (w3 : World) (bx base : Nat) (c : List Int) (k : Nat) (key i : Value) (wr : World) : Prop :=
  ∃ (j : Nat) (y : Int) (c' : List Int) (gA cA gB cB : Nat), j ≤ 16 ∧ i = .int .i64 j ∧ key = .int .i64 y ∧ Blk wr bx 35 [.slice (some ⟨gA, 0, none⟩) 11 cA, .slice (some ⟨gB, 0, none⟩) 11 cB] ∧
    KN wr base c' gA cA gB cB ∧ Fine c' ∧ Keep [bx] w3 wr ∧ ((y = -1 ∧ drive 0 16 k c = some c') ∨ (0 ≤ y ∧ y ≤ 1000000 ∧ drive j (16 - j) y.toNat c' = drive 0 16 k c))

theorem KN.far {w : World} {base bx : Nat} {c : List Int} {gA cA gB cB : Nat} {cs : List Value} (h : KN w base c gA cA gB cB) (hb : Blk w bx 35 cs) : gA ≠ bx ∧ gB ≠ bx := by
  have h1 := own_ne h.A hb (by decide)
  have h2 := own_ne h.B hb (by decide)
  simp only [Value.ownBlock, ne_eq, Option.some.injEq] at h1 h2
  exact ⟨fun e => h1 e.symm, fun e => h2 e.symm⟩

set_option maxHeartbeats 4000000 in
set_option maxRecDepth 100000 in
theorem kAddNest (gA cA gB cB base : Nat) (c : List Int) (m x : Int) (w : World) (h : KN w base c gA cA gB cB) (hi : NInv c m) (hb : base ≤ w.heap.size) (hx : -9223372036854775808 ≤ x ∧ x ≤ 9223372036854775807) :
    Calls Tryd.prog 16 #[.agg #[.slice (some ⟨gA, 0, none⟩) 11 cA, .slice (some ⟨gB, 0, none⟩) 11 cB], .int .i64 x] w (NestsPost w base (addR c x) (addE c x)) := by
  obtain ⟨w1, hw1⟩ : ∃ w1, w1 = (w.alloc (.cells #[.slice (some ⟨gA, 0, none⟩) 11 cA, .slice (some ⟨gB, 0, none⟩) 11 cB] 35)).alloc (.cells #[.slice none 0 0, .slice none 0 0] 35) := ⟨_, rfl⟩
  have hk1 : Keep [] w w1 := by rw [hw1]; exact ((Keep.refl [] w).alloc _).alloc _
  have hn1 : KN w1 base c gA cA gB cB := h.keepF hk1 (by simp)
  have hgA := h.gA_lt; have hgB := h.gB_lt
  have hbx : Blk w1 w.heap.size 35 [.slice (some ⟨gA, 0, none⟩) 11 cA, .slice (some ⟨gB, 0, none⟩) 11 cB] := by
    rw [hw1]; exact (Blk.new w 35 [.slice (some ⟨gA, 0, none⟩) 11 cA, .slice (some ⟨gB, 0, none⟩) 11 cB]).alloc _
  have hbr : Blk w1 (w.heap.size + 1) 35 [.slice none 0 0, .slice none 0 0] := by
    rw [hw1]
    have := Blk.new (w.alloc (.cells #[.slice (some ⟨gA, 0, none⟩) 11 cA, .slice (some ⟨gB, 0, none⟩) 11 cB] 35)) 35 [.slice none 0 0, .slice none 0 0]
    rwa [World.size_alloc] at this
  have hx0 := hbx.cell_ (i := 0) rfl
  have hx1 := hbx.cell_ (i := 1) rfl
  have hr0 := hbr.cell_ (i := 0) rfl
  have hr1 := hbr.cell_ (i := 1) rfl
  have hrf0 := hbr.free 0
  have hrf1 := hbr.free 1
  have hsz1 : w1.heap.size = w.heap.size + 2 := by rw [hw1]; simp
  have HI := Lib.hid hi; have HK1 := Lib.hid hk1; have HN1 := Lib.hid hn1
  have HBX := Lib.hid hbx; have HBR := Lib.hid hbr; have HB := Lib.hid hb; have HGA := Lib.hid hgA; have HGB := Lib.hid hgB; have HSZ := Lib.hid hsz1; have HW1 := Lib.hid hw1
  have HX := Lib.hid hx
  -- a copy of what came in, and a number
  have hsame : ∀ (w2 : World) (er : Int), Keep [w.heap.size] w1 w2 → NestsPost w base c er (.returned (.tuple #[.agg #[.slice (some ⟨gA, 0, none⟩) 11 cA, .slice (some ⟨gB, 0, none⟩) 11 cB], .int .i64 er])) ((w2.setCell ⟨w.heap.size + 1, 0, none⟩ (.slice (some ⟨gA, 0, none⟩) 11 cA)).setCell ⟨w.heap.size + 1, 1, none⟩ (.slice (some ⟨gB, 0, none⟩) 11 cB)) := by
    intro w2 er hk2
    have hkf : Keep [w.heap.size, w.heap.size + 1] w1 ((w2.setCell ⟨w.heap.size + 1, 0, none⟩ (.slice (some ⟨gA, 0, none⟩) 11 cA)).setCell ⟨w.heap.size + 1, 1, none⟩ (.slice (some ⟨gB, 0, none⟩) 11 cB)) := (((hk2.mono (by simp)).set (fun _ => by simp) _).set (fun _ => by simp) _)
    exact ⟨gA, cA, gB, cB, rfl, ⟨HN1.out.A.keepN hkf (by have := HGA.out.1; have := HSZ.out; omega) (by have := HGA.out.1; simp; omega), HN1.out.B.keepN hkf (by have := HGB.out.1; have := HSZ.out; omega) (by have := HGB.out.1; simp; omega), HN1.out.len⟩,
        (HK1.out.below (Nat.le_refl _) (by simp)).trans (hkf.below (by have := HSZ.out; omega) (by simp))⟩
  have HSAME := Lib.hid hsame
  clear hsame h hi hk1 hn1 hbx hbr hb hgA hgB hsz1 hw1 hx
  by_cases hr : 0 ≤ x ∧ x ≤ 1000000
  · obtain ⟨hr0', hr1'⟩ := hr
    obtain ⟨k, rfl⟩ := Int.eq_ofNat_of_zero_le hr0'
    obtain ⟨hb1, hhb⟩ : ∃ bv, bv = hasI c (k : Int) := ⟨_, rfl⟩
    go_enter Tryd.func16, Tryd.ntmps16
    go_wp2_with fail
    refine (kin_yes _ _ _ _ hr0' hr1').mono ?_
    rintro e w' ⟨rfl, rfl⟩
    rw [← HW1.out]
    go_wp2_with fail
    refine (kInNest gA cA gB cB base c k _ HN1.out HX.out).mono ?_
    rintro e w2 ⟨rfl, hb2⟩
    have hbx2 := HBX.out.below hb2 (by have := HSZ.out; omega)
    have hbr2 := HBR.out.below hb2 (by have := HSZ.out; omega)
    clear hx0 hx1 hr0 hr1 hrf0 hrf1
    have hx0 := hbx2.cell_ (i := 0) rfl
    have hx1 := hbx2.cell_ (i := 1) rfl
    have hr0 := hbr2.cell_ (i := 0) rfl
    have hr1 := hbr2.cell_ (i := 1) rfl
    have hrf0 := hbr2.free 0
    have hrf1 := hbr2.free 1
    have HK2 : Hid (Keep [] w1 w2) := Lib.hid (Keep.of_below hb2 (Nat.le_refl _))
    have HBX2 := Lib.hid hbx2; have HBR2 := Lib.hid hbr2
    clear hb2 hbx2 hbr2
    rw [← hhb]
    have HH := Lib.hid hhb; clear hhb
    have hnr : ¬ ((k : Int) < 0 ∨ 1000000 < (k : Int)) := by omega
    cases hb1 with
    | true =>
      have hdr : addR c k = c ∧ addE c k = 6 := by unfold addR addE; rw [if_neg hnr, if_neg hnr, if_pos HH.out.symm, if_pos HH.out.symm]; exact ⟨rfl, rfl⟩
      have HDR := Lib.hid hdr; clear hdr hnr
      go_wp2
      (try simp only [Exit.inBlock, Exit.then])
      refine bodyPost_ret (results_cell2 rfl _ _ (w.heap.size + 1) 35 _ _ rfl ((HBR2.out.set 0 _).set 1 _) Tryd.underlying35 rfl info_nests) rfl ?_
      rw [HDR.out.1, HDR.out.2]
      exact HSAME.out w2 6 (HK2.out.mono (by simp))
    | false =>
      have hkn2 : KN w2 base c gA cA gB cB := HN1.out.keepF HK2.out (by simp)
      have HKN2 := Lib.hid hkn2; clear hkn2
      have HF := Lib.hid HI.out.fine
      go_wp2
      go_loop [6, 7] (fun many i => ∃ k : Nat, k ≤ 11 ∧ i = .int .i64 k ∧ many = .int .i64 (nz c k : Nat)) (fun _ i => 11 - (intOf i).toNat)
      case atStart => exact ⟨0, by omega, rfl, by simp [nz_zero]⟩
      case round =>
        obtain ⟨j, hj, rfl, rfl⟩ := hrel
        obtain ⟨s, hs⟩ : ∃ s, s = nz c j := ⟨_, rfl⟩
        by_cases hlt : j < 11
        · have hlt' : (j : Int) < 11 := by omega
          have hj0 : (0 : Int) ≤ (j : Int) := by omega
          have hca := HKN2.out.atA hlt
          have hcb := HKN2.out.atB hlt
          have fa := HF.out j (by omega)
          have fb := HF.out (11 + j) (by omega)
          have hsle : s ≤ 22 := by have := nz_le3 c j; omega
          have HNZ := Lib.hid (nz_succ HI.out.len hlt)
          rw [← hs] at HNZ ⊢
          obtain ⟨xa, hxa⟩ : ∃ xa, xa = c.getD j 0 := ⟨_, rfl⟩
          obtain ⟨xb, hxb⟩ : ∃ xb, xb = c.getD (11 + j) 0 := ⟨_, rfl⟩
          rw [← hxa] at hca fa HNZ
          rw [← hxb] at hcb fb HNZ
          clear hxa hxb
          obtain ⟨fa0, fa1⟩ := fa
          obtain ⟨fb0, fb1⟩ := fb
          have HSN := Lib.hid hs; clear hs
          by_cases za : xa = 0
          · subst za
            by_cases zb : xb = 0
            · subst zb
              go_wp2
              go_round
              case rel => exact ⟨j + 1, hlt, by simp, congrArg (Value.int .i64) (by have h := HNZ.out; simp at h; omega)⟩
              case measure => simp [intOf]; omega
            · have g2 : 1 ≤ xb := by omega
              go_wp2
              go_round
              case rel => exact ⟨j + 1, hlt, by simp, congrArg (Value.int .i64) (by have h := HNZ.out; simp [zb] at h; omega)⟩
              case measure => simp [intOf]; omega
          · have g2 : 1 ≤ xa := by omega
            by_cases zb : xb = 0
            · subst zb
              go_wp2
              go_round
              case rel => exact ⟨j + 1, hlt, by simp, congrArg (Value.int .i64) (by have h := HNZ.out; simp [za] at h; omega)⟩
              case measure => simp [intOf]; omega
            · have g3 : 1 ≤ xb := by omega
              go_wp2
              go_round
              case rel => exact ⟨j + 1, hlt, by simp, congrArg (Value.int .i64) (by have h := HNZ.out; simp [za, zb] at h; omega)⟩
              case measure => simp [intOf]; omega
        · have hlt' : ¬ (j : Int) < 11 := by omega
          obtain rfl : j = 11 := by omega
          have hsl : s = (live c).length := by rw [hs, nz_all HI.out.len]
          rw [← hs]
          clear hs
          by_cases h16 : 16 ≤ s
          · have hdr : addR c k = c ∧ addE c k = 4 := by
              unfold addR addE
              rw [if_neg hnr, if_neg hnr, ← HH.out, ← hsl]; simp [h16]
            have HDR := Lib.hid hdr; clear hdr hnr hsl
            have h16i : (16 : Int) ≤ (s : Int) := by omega
            go_wp2
            (try simp only [Exit.inBlock, Exit.then])
            refine bodyPost_ret (results_cell2 rfl _ _ (w.heap.size + 1) 35 _ _ rfl ((HBR2.out.set 0 _).set 1 _) Tryd.underlying35 rfl info_nests) rfl ?_
            rw [HDR.out.1, HDR.out.2]
            exact HSAME.out w2 4 (HK2.out.mono (by simp))
          · have hdr : addR c k = driveR c k ∧ addE c k = driveE c k := by
              unfold addR addE
              rw [if_neg hnr, if_neg hnr, ← HH.out, ← hsl]; simp [h16]
            have HDR := Lib.hid hdr; clear hdr hnr hsl
            have h16i : ¬ (16 : Int) ≤ (s : Int) := by omega
            go_wp2
            have HBW := Lib.hid (Blk.new w2 35 [.slice (some ⟨gA, 0, none⟩) 11 cA, .slice (some ⟨gB, 0, none⟩) 11 cB])
            obtain ⟨w3, hw3⟩ : ∃ w3, w3 = w2.alloc (.cells #[.slice (some ⟨gA, 0, none⟩) 11 cA, .slice (some ⟨gB, 0, none⟩) 11 cB] 35) := ⟨_, rfl⟩
            have hk3 : Keep [] w2 w3 := by rw [hw3]; exact (Keep.refl _ w2).alloc _
            have hbw3 : Blk w3 w2.heap.size 35 [.slice (some ⟨gA, 0, none⟩) 11 cA, .slice (some ⟨gB, 0, none⟩) 11 cB] := by rw [hw3]; exact HBW.out
            have hsz3 : w3.heap.size = w2.heap.size + 1 := by rw [hw3]; simp
            have hsz2 : w.heap.size + 2 ≤ w2.heap.size := by have := HK2.out.size; have := HSZ.out; omega
            have HBX3 := Lib.hid (HBX2.out.keep hk3 (by simp)); have HBR3 := Lib.hid (HBR2.out.keep hk3 (by simp)); have HKN3 := Lib.hid (HKN2.out.keepF hk3 (by simp))
            have HK3 := Lib.hid hk3; have HBW3 := Lib.hid hbw3; have HSZ3 := Lib.hid (show w.heap.size + 3 ≤ w3.heap.size by omega); have HSZ2 := Lib.hid hsz2; have HS32 := Lib.hid hsz3
            rw [← hw3]
            clear hw3 hk3 hbw3 hsz3 hsz2 hx0 hx1 hr0 hr1 hrf0 hrf1 HBW
            go_loopw [1, 9, 10, 11, 12, 13] (fun key i _ _ _ _ wr => LoopRel w3 w.heap.size base c k key i wr) (fun _ i _ _ _ _ _ => 16 - (intOf i).toNat)
            case atStart => exact ⟨0, k, c, gA, cA, gB, cB, by omega, rfl, rfl, HBX3.out, HKN3.out, HF.out, Keep.refl _ _, .inr ⟨by omega, by omega, by simp⟩⟩
            case round =>
              obtain ⟨j, y, c', gA', cA', gB', cB', hj, rfl, rfl, hbx', hkn', hf', hkr, hor⟩ := hrel
              have HBX' := Lib.hid hbx'; have HKN' := Lib.hid hkn'; have HF' := Lib.hid hf'; have HKR := Lib.hid hkr
              have hx0 := hbx'.cell_ (i := 0) rfl
              have hx1 := hbx'.cell_ (i := 1) rfl
              clear hbx' hkn' hf' hkr
              by_cases hgo : j < 16 ∧ 0 ≤ y
              · obtain ⟨hlt, hy0⟩ := hgo
                have hlt' : (j : Int) < 16 := by omega
                have hj0 : (0 : Int) ≤ (j : Int) := by omega
                obtain ⟨kn, rfl⟩ := Int.eq_ofNat_of_zero_le hy0
                have hor2 : (kn : Int) ≤ 1000000 ∧ drive j (16 - j) kn c' = drive 0 16 k c := by
                  rcases hor with ⟨h1, _⟩ | ⟨_, h2, h3⟩
                  · omega
                  · exact ⟨h2, by simpa using h3⟩
                obtain ⟨hk6, hdr2⟩ := hor2
                clear hor
                have hst := drive_step (k := kn) (c := c') hlt
                rw [hdr2] at hst
                clear hdr2
                rcases (show j % 2 = 0 ∨ j % 2 = 1 by omega) with hr | hr
                · obtain ⟨p, hp⟩ : ∃ p, p = kn % 11 := ⟨_, rfl⟩
                  have hp11 : p < 11 := by omega
                  have hpi : (kn : Int) % 11 = (p : Int) := by omega
                  have hp1 : (p : Int) < 11 := by omega
                  have hp0 : (0 : Int) ≤ (p : Int) := by omega
                  have hrt : (j : Int).tmod 2 = 0 := by rw [Int.tmod_eq_emod_of_nonneg hj0]; omega
                  have hri : (j : Int) % 2 = 0 := by omega
                  rw [hr, show spot kn 0 = p by rw [hp]; unfold spot nst; simp] at hst
                  have HST := Lib.hid hst
                  have hfine := HF'.out p (by omega)
                  clear hst hr hp
                  have hcell := HKN'.out.atA hp11
                  have hst2 := HST.out
                  obtain ⟨ox, hox⟩ : ∃ ox, ox = c'.getD (p) 0 := ⟨_, rfl⟩
                  rw [← hox] at hcell hfine hst2
                  obtain ⟨hf0, hf1⟩ := hfine
                  have HST2 := Lib.hid hst2; have HOX := Lib.hid hox
                  have hfar := HKN'.out.far HBX'.out
                  have HFAR := Lib.hid hfar
                  clear hst2 hox hfar
                  go_wp2_with fail
                  refine (kSet11 gA' cA' base (rowV c' 0) p kn _ (rowV_len HKN'.out.len (by decide)) HKN'.out.A hp11).mono ?_
                  rintro e w5 ⟨g, cap, rfl, hown, hg1, hg2, hb5⟩
                  have hbx5 := HBX'.out.below hb5 HBX'.out.lt
                  have hx0 := hbx5.cell_ (i := 0) rfl
                  have hx1 := hbx5.cell_ (i := 1) rfl
                  have hxf0 := hbx5.free 0
                  have HOWN := Lib.hid hown; have HB5 := Lib.hid hb5; have HG1 := Lib.hid hg1; have HG2 := Lib.hid hg2; have HBX5 := Lib.hid hbx5
                  clear hown hb5 hg1 hg2 hbx5
                  go_wp2
                  go_roundw
                  case rel =>
                    have hlen' := HKN'.out.len
                    have hvs := rowV_set (c := c') (r := 0) (p := p) (x := (kn : Int) + 1) hlen' (by decide) hp11
                    have hvo := rowV_other (c := c') (r := 0) (s := 1) (p := p) (x := (kn : Int) + 1) hlen' (by decide) (by decide) hp11 (by decide)
                    rw [show (kn : Int) + 1 - 1 = kn by omega] at hvs
                    rw [show 0 * 11 + p = p by omega] at hvs hvo
                    have hk5 : Keep [] wr w5 := Keep.of_below HB5.out (Nat.le_refl _)
                    have hks : Keep [w.heap.size] w5 (w5.setCell ⟨w.heap.size, 0, none⟩ (.slice (some ⟨g, 0, none⟩) 11 cap)) := (Keep.refl _ w5).set (fun _ => by simp) _
                    have hkn5 : KN (w5.setCell ⟨w.heap.size, 0, none⟩ (.slice (some ⟨g, 0, none⟩) 11 cap)) base (c'.set (p) ((kn : Int) + 1)) g cap gB' cB' := by
                      have hlt := HKN'.out.gB_lt.1
                      have hsz5 := HB5.out.size
                      have hbl := HBX'.out.lt
                      have hnew : OwnInts (w5.setCell ⟨w.heap.size, 0, none⟩ (.slice (some ⟨g, 0, none⟩) 11 cap)) base (.slice (some ⟨g, 0, none⟩) 11 cap) (rowV (c'.set (p) ((kn : Int) + 1)) 0) := by
                        rw [hvs]
                        exact (HOWN.out.keepN hks HG1.out (by have := HG2.out; simp; omega)).lower (by have := HKR.out.size; have := HSZ3.out; have := HB.out; omega)
                      have hold : OwnInts (w5.setCell ⟨w.heap.size, 0, none⟩ (.slice (some ⟨g, 0, none⟩) 11 cap)) base (.slice (some ⟨gB', 0, none⟩) 11 cB') (rowV (c'.set (p) ((kn : Int) + 1)) 1) := by
                        rw [hvo]
                        exact (HKN'.out.B.keepN hk5 hlt (by simp)).keepN hks (by omega) (by have h1 := HFAR.out.1; have h2 := HFAR.out.2; simpa using h2)
                      exact ⟨hnew, hold, by rw [List.length_set]; exact hlen'⟩
                    refine ⟨j + 1, ox - 1, _, g, cap, gB', cB', by omega, by simp, rfl, HBX5.out.set 0 _, hkn5, HF'.out.set _ kn (by omega), (HKR.out.trans (hk5.mono (by simp))).set (fun _ => by simp) _, ?_⟩
                    have hst3 := HST2.out
                    by_cases h0 : ox < 1
                    · rw [if_pos h0] at hst3
                      exact .inl ⟨by omega, hst3⟩
                    · rw [if_neg h0] at hst3
                      exact .inr ⟨by omega, by omega, hst3.symm⟩
                  case measure => simp [intOf]; omega
                · obtain ⟨p, hp⟩ : ∃ p, p = kn / 11 % 11 := ⟨_, rfl⟩
                  have hp11 : p < 11 := by omega
                  have hpi : (kn : Int) / 11 % 11 = (p : Int) := by omega
                  have hp1 : (p : Int) < 11 := by omega
                  have hp0 : (0 : Int) ≤ (p : Int) := by omega
                  have hrt : (j : Int).tmod 2 = 1 := by rw [Int.tmod_eq_emod_of_nonneg hj0]; omega
                  have hri : (j : Int) % 2 = 1 := by omega
                  rw [hr, show spot kn 1 = 11 + p by rw [hp]; unfold spot nst; simp] at hst
                  have HST := Lib.hid hst
                  have hfine := HF'.out (11 + p) (by omega)
                  clear hst hr hp
                  have hcell := HKN'.out.atB hp11
                  have hst2 := HST.out
                  obtain ⟨ox, hox⟩ : ∃ ox, ox = c'.getD (11 + p) 0 := ⟨_, rfl⟩
                  rw [← hox] at hcell hfine hst2
                  obtain ⟨hf0, hf1⟩ := hfine
                  have HST2 := Lib.hid hst2; have HOX := Lib.hid hox
                  have hfar := HKN'.out.far HBX'.out
                  have HFAR := Lib.hid hfar
                  clear hst2 hox hfar
                  go_wp2_with fail
                  refine (kSet11 gB' cB' base (rowV c' 1) p kn _ (rowV_len HKN'.out.len (by decide)) HKN'.out.B hp11).mono ?_
                  rintro e w5 ⟨g, cap, rfl, hown, hg1, hg2, hb5⟩
                  have hbx5 := HBX'.out.below hb5 HBX'.out.lt
                  have hx0 := hbx5.cell_ (i := 0) rfl
                  have hx1 := hbx5.cell_ (i := 1) rfl
                  have hxf0 := hbx5.free 1
                  have HOWN := Lib.hid hown; have HB5 := Lib.hid hb5; have HG1 := Lib.hid hg1; have HG2 := Lib.hid hg2; have HBX5 := Lib.hid hbx5
                  clear hown hb5 hg1 hg2 hbx5
                  go_wp2
                  go_roundw
                  case rel =>
                    have hlen' := HKN'.out.len
                    have hvs := rowV_set (c := c') (r := 1) (p := p) (x := (kn : Int) + 1) hlen' (by decide) hp11
                    have hvo := rowV_other (c := c') (r := 1) (s := 0) (p := p) (x := (kn : Int) + 1) hlen' (by decide) (by decide) hp11 (by decide)
                    rw [show (kn : Int) + 1 - 1 = kn by omega] at hvs
                    rw [show 1 * 11 + p = 11 + p by omega] at hvs hvo
                    have hk5 : Keep [] wr w5 := Keep.of_below HB5.out (Nat.le_refl _)
                    have hks : Keep [w.heap.size] w5 (w5.setCell ⟨w.heap.size, 1, none⟩ (.slice (some ⟨g, 0, none⟩) 11 cap)) := (Keep.refl _ w5).set (fun _ => by simp) _
                    have hkn5 : KN (w5.setCell ⟨w.heap.size, 1, none⟩ (.slice (some ⟨g, 0, none⟩) 11 cap)) base (c'.set (11 + p) ((kn : Int) + 1)) gA' cA' g cap := by
                      have hlt := HKN'.out.gA_lt.1
                      have hsz5 := HB5.out.size
                      have hbl := HBX'.out.lt
                      have hnew : OwnInts (w5.setCell ⟨w.heap.size, 1, none⟩ (.slice (some ⟨g, 0, none⟩) 11 cap)) base (.slice (some ⟨g, 0, none⟩) 11 cap) (rowV (c'.set (11 + p) ((kn : Int) + 1)) 1) := by
                        rw [hvs]
                        exact (HOWN.out.keepN hks HG1.out (by have := HG2.out; simp; omega)).lower (by have := HKR.out.size; have := HSZ3.out; have := HB.out; omega)
                      have hold : OwnInts (w5.setCell ⟨w.heap.size, 1, none⟩ (.slice (some ⟨g, 0, none⟩) 11 cap)) base (.slice (some ⟨gA', 0, none⟩) 11 cA') (rowV (c'.set (11 + p) ((kn : Int) + 1)) 0) := by
                        rw [hvo]
                        exact (HKN'.out.A.keepN hk5 hlt (by simp)).keepN hks (by omega) (by have h1 := HFAR.out.1; have h2 := HFAR.out.2; simpa using h1)
                      exact ⟨hold, hnew, by rw [List.length_set]; exact hlen'⟩
                    refine ⟨j + 1, ox - 1, _, gA', cA', g, cap, by omega, by simp, rfl, HBX5.out.set 1 _, hkn5, HF'.out.set _ kn (by omega), (HKR.out.trans (hk5.mono (by simp))).set (fun _ => by simp) _, ?_⟩
                    have hst3 := HST2.out
                    by_cases h0 : ox < 1
                    · rw [if_pos h0] at hst3
                      exact .inl ⟨by omega, hst3⟩
                    · rw [if_neg h0] at hst3
                      exact .inr ⟨by omega, by omega, hst3.symm⟩
                  case measure => simp [intOf]; omega
              · have hbrr := HBR3.out.keep HKR.out (by simp)
                have hr0 := hbrr.cell_ (i := 0) rfl
                have hr1 := hbrr.cell_ (i := 1) rfl
                have hrf0 := hbrr.free 0
                have hrf1 := hbrr.free 1
                have HBRR := Lib.hid hbrr
                rcases hor with ⟨hy, hd⟩ | ⟨hy0, hy1, hd⟩
                · have hfar := HKN'.out.far hbrr
                  have hre : driveR c k = c' ∧ driveE c k = 0 := by unfold driveR driveE; rw [hd]; exact ⟨rfl, rfl⟩
                  have HRE := Lib.hid hre; have HFR := Lib.hid hfar
                  subst hy
                  clear hre hfar hd hbrr hgo
                  by_cases hlt : j < 16
                  · have hlt' : (j : Int) < 16 := by omega
                    go_wp2
                    (try simp only [Exit.inBlock, Exit.then])
                    refine bodyPost_ret (results_cell2 rfl _ _ (w.heap.size + 1) 35 _ _ rfl ((HBRR.out.set 0 _).set 1 _) Tryd.underlying35 rfl info_nests) rfl ?_
                    rw [HDR.out.1, HDR.out.2, HRE.out.1, HRE.out.2]
                    have hks : Keep [w.heap.size + 1] wr ((wr.setCell ⟨w.heap.size + 1, 0, none⟩ (.slice (some ⟨gA', 0, none⟩) 11 cA')).setCell ⟨w.heap.size + 1, 1, none⟩ (.slice (some ⟨gB', 0, none⟩) 11 cB')) := (((Keep.refl _ wr).set (fun _ => by simp) _).set (fun _ => by simp) _)
                    exact ⟨gA', cA', gB', cB', rfl, ⟨HKN'.out.A.keepN hks HKN'.out.gA_lt.1 (by simpa using HFR.out.1), HKN'.out.B.keepN hks HKN'.out.gB_lt.1 (by simpa using HFR.out.2), HKN'.out.len⟩,
                      (HK1.out.below (Nat.le_refl _) (by simp)).trans (((HK2.out.trans HK3.out).below (by have := HSZ.out; omega) (by simp)).trans ((HKR.out.below (B := w.heap.size) (by have := HSZ3.out; omega) (by simp)).trans (hks.below (by have := HSZ3.out; have := HKR.out.size; omega) (by simp))))⟩

                  · have hlt' : ¬ (j : Int) < 16 := by omega
                    go_wp2
                    (try simp only [Exit.inBlock, Exit.then])
                    refine bodyPost_ret (results_cell2 rfl _ _ (w.heap.size + 1) 35 _ _ rfl ((HBRR.out.set 0 _).set 1 _) Tryd.underlying35 rfl info_nests) rfl ?_
                    rw [HDR.out.1, HDR.out.2, HRE.out.1, HRE.out.2]
                    have hks : Keep [w.heap.size + 1] wr ((wr.setCell ⟨w.heap.size + 1, 0, none⟩ (.slice (some ⟨gA', 0, none⟩) 11 cA')).setCell ⟨w.heap.size + 1, 1, none⟩ (.slice (some ⟨gB', 0, none⟩) 11 cB')) := (((Keep.refl _ wr).set (fun _ => by simp) _).set (fun _ => by simp) _)
                    exact ⟨gA', cA', gB', cB', rfl, ⟨HKN'.out.A.keepN hks HKN'.out.gA_lt.1 (by simpa using HFR.out.1), HKN'.out.B.keepN hks HKN'.out.gB_lt.1 (by simpa using HFR.out.2), HKN'.out.len⟩,
                      (HK1.out.below (Nat.le_refl _) (by simp)).trans (((HK2.out.trans HK3.out).below (by have := HSZ.out; omega) (by simp)).trans ((HKR.out.below (B := w.heap.size) (by have := HSZ3.out; omega) (by simp)).trans (hks.below (by have := HSZ3.out; have := HKR.out.size; omega) (by simp))))⟩

                · obtain rfl : j = 16 := by omega
                  have hre : driveR c k = c ∧ driveE c k = 7 := by
                    have h5 : drive 0 16 k c = none := by rw [← hd]; rfl
                    unfold driveR driveE; rw [h5]; exact ⟨rfl, rfl⟩
                  have HRE := Lib.hid hre
                  have hbww := HBW3.out.keep HKR.out (by have := HSZ2.out; simp; omega)
                  have hb0 := hbww.cell_ (i := 0) rfl
                  have hb1 := hbww.cell_ (i := 1) rfl
                  clear hre hd hbrr hgo hbww
                  go_wp2
                  (try simp only [Exit.inBlock, Exit.then])
                  refine bodyPost_ret (results_cell2 rfl _ _ (w.heap.size + 1) 35 _ _ rfl ((HBRR.out.set 0 _).set 1 _) Tryd.underlying35 rfl info_nests) rfl ?_
                  rw [HDR.out.1, HDR.out.2, HRE.out.1, HRE.out.2]
                  exact HSAME.out wr 7 (((HK2.out.trans HK3.out).mono (by simp)).trans HKR.out)
  · have hr2 : x < 0 ∨ 1000000 < x := by omega
    have hdr : addR c x = c ∧ addE c x = 1 := by unfold addR addE; rw [if_pos hr2, if_pos hr2]; exact ⟨rfl, rfl⟩
    have HDR := Lib.hid hdr; have HR := Lib.hid hr2; clear hdr hr hr2
    go_enter Tryd.func16, Tryd.ntmps16
    go_wp2_with fail
    refine (kin_no _ _ _ _ HR.out).mono ?_
    rintro e w' ⟨rfl, rfl⟩
    rw [← HW1.out]
    go_wp2
    (try simp only [Exit.inBlock, Exit.then])
    refine bodyPost_ret (results_cell2 rfl _ _ (w.heap.size + 1) 35 _ _ rfl ((HBR.out.set 0 _).set 1 _) Tryd.underlying35 rfl info_nests) rfl ?_
    rw [HDR.out.1, HDR.out.2]
    exact HSAME.out w1 1 (Keep.refl _ _)
end Go.Proofs.YtjnghpambjjlkaaDoor
