/-
  The reference's DropNest, AddNest, NewNests, by their contracts.
-/
import Derived.Test.YtjnghpambjjlkaaDoorCuckooRef
namespace Go.Proofs.YtjnghpambjjlkaaDoor
open Go.RowKit

def NestsPost (w : World) (base : Nat) (c : List Int) (err : Int) (e : Ending) (w' : World) : Prop :=
  ∃ gA cA gB cB, e = .returned (.tuple #[.agg #[.slice (some ⟨gA, 0, none⟩) 11 cA, .slice (some ⟨gB, 0, none⟩) 11 cB], .int .i64 err]) ∧ KN w' base c gA cA gB cB ∧ Below w.heap.size w w'

theorem info_nests : (Tryd.prog.info? 35).map (·.size) = some 2 := by kernel_rfl
def dropR (c : List Int) (k : Nat) : List Int := (dropC c k).getD c
def dropE (c : List Int) (k : Nat) : Int := if (dropC c k).isSome then 0 else 5

set_option maxHeartbeats 1000000 in
set_option maxRecDepth 100000 in
theorem kDropNest (gA cA gB cB base : Nat) (c : List Int) (k : Nat) (w : World) (h : KN w base c gA cA gB cB) (hb : base ≤ w.heap.size) (hk : (k : Int) ≤ 1000000) :
    Calls Tryd.prog 17 #[.agg #[.slice (some ⟨gA, 0, none⟩) 11 cA, .slice (some ⟨gB, 0, none⟩) 11 cB], .int .i64 k] w (NestsPost w base (dropR c k) (dropE c k)) := by
  have h0 : (0 : Int) ≤ (k : Int) := by omega
  obtain ⟨p, hp⟩ : ∃ p, p = k % 11 := ⟨_, rfl⟩
  obtain ⟨q, hq⟩ : ∃ q, q = k / 11 % 11 := ⟨_, rfl⟩
  have hp11 : p < 11 := by omega
  have hq11 : q < 11 := by omega
  have hpi : (k : Int) % 11 = (p : Int) := by omega
  have hqi : (k : Int) / 11 % 11 = (q : Int) := by omega
  have hp1 : (p : Int) < 11 := by omega
  have hp0 : (0 : Int) ≤ (p : Int) := by omega
  have hq1 : (q : Int) < 11 := by omega
  have hq0 : (0 : Int) ≤ (q : Int) := by omega
  obtain ⟨w1, hw1⟩ : ∃ w1, w1 = (w.alloc (.cells #[.slice (some ⟨gA, 0, none⟩) 11 cA, .slice (some ⟨gB, 0, none⟩) 11 cB] 35)).alloc (.cells #[.slice none 0 0, .slice none 0 0] 35) := ⟨_, rfl⟩
  have hk1 : Keep [] w w1 := by rw [hw1]; exact ((Keep.refl [] w).alloc _).alloc _
  have hn1 : KN w1 base c gA cA gB cB := h.keepF hk1 (by simp)
  have hgA := h.gA_lt; have hgB := h.gB_lt
  have hA2 := hn1.atA hp11
  have hB2 := hn1.atB hq11
  have hs0 : spot k 0 = p := by rw [hp]; unfold spot nst; simp
  have hs1 : spot k 1 = 11 + q := by rw [hq]; unfold spot nst; simp
  have hd : dropC c k = if c.getD p 0 - 1 = (k : Int) then some (c.set p 0) else if c.getD (11 + q) 0 - 1 = (k : Int) then some (c.set (11 + q) 0) else none := by
    unfold dropC
    rw [hs0, hs1]
    have e1 : (c.getD p 0 = (k : Int) + 1) ↔ (c.getD p 0 - 1 = (k : Int)) := by omega
    have e2 : (c.getD (11 + q) 0 = (k : Int) + 1) ↔ (c.getD (11 + q) 0 - 1 = (k : Int)) := by omega
    simp only [e1, e2]
  have hlen := h.len
  have hv0 := rowV_set (c := c) (r := 0) (p := p) (x := 0) hlen (by decide) hp11
  have hv0' := rowV_other (c := c) (r := 0) (s := 1) (p := p) (x := 0) hlen (by decide) (by decide) hp11 (by decide)
  have hv1 := rowV_set (c := c) (r := 1) (p := q) (x := 0) hlen (by decide) hq11
  have hv1' := rowV_other (c := c) (r := 1) (s := 0) (p := q) (x := 0) hlen (by decide) (by decide) hq11 (by decide)
  rw [show 0 * 11 + p = p by omega] at hv0 hv0'
  rw [show (0 : Int) - 1 = -1 from rfl] at hv0 hv1
  rw [show 1 * 11 + q = 11 + q by omega] at hv1 hv1'
  have HL0 := Lib.hid (rowV_len (c := c) (r := 0) hlen (by decide)); have HL1 := Lib.hid (rowV_len (c := c) (r := 1) hlen (by decide))
  obtain ⟨y, hy⟩ : ∃ y, y = c.getD p 0 - 1 := ⟨_, rfl⟩
  obtain ⟨z, hz⟩ : ∃ z, z = c.getD (11 + q) 0 - 1 := ⟨_, rfl⟩
  rw [← hy] at hA2 hd
  rw [← hz] at hB2 hd
  have HD := Lib.hid hd; have HK1 := Lib.hid hk1; have HN1 := Lib.hid hn1; have HV0 := Lib.hid hv0; have HV0' := Lib.hid hv0'; have HV1 := Lib.hid hv1; have HV1' := Lib.hid hv1'
  have HLEN := Lib.hid hlen
  have hbx : Blk w1 w.heap.size 35 [.slice (some ⟨gA, 0, none⟩) 11 cA, .slice (some ⟨gB, 0, none⟩) 11 cB] := by
    rw [hw1]; exact (Blk.new w 35 [.slice (some ⟨gA, 0, none⟩) 11 cA, .slice (some ⟨gB, 0, none⟩) 11 cB]).alloc _
  have hbr : Blk w1 (w.heap.size + 1) 35 [.slice none 0 0, .slice none 0 0] := by
    rw [hw1]
    have := Blk.new (w.alloc (.cells #[.slice (some ⟨gA, 0, none⟩) 11 cA, .slice (some ⟨gB, 0, none⟩) 11 cB] 35)) 35 [.slice none 0 0, .slice none 0 0]
    rwa [World.size_alloc] at this
  have hx0 := hbx.cell_ (i := 0) rfl
  have hx1 := hbx.cell_ (i := 1) rfl
  have hr0 := hbr.cell_ (i := 0) rfl
  have hr1 := hbr.cell_ (i := 1) rfl
  have hrf0 := hbr.free 0
  have hrf1 := hbr.free 1
  have hsz1 : w1.heap.size = w.heap.size + 2 := by rw [hw1]; simp
  have HBX := Lib.hid hbx; have HBR := Lib.hid hbr; have HB := Lib.hid hb; have HGA := Lib.hid hgA; have HGB := Lib.hid hgB; have HSZ := Lib.hid hsz1; have HW1 := Lib.hid hw1
  clear hd hk1 hn1 hv0 hv0' hv1 hv1' hlen hs0 hs1 hp hq hy hz h hbx hbr hb hgA hgB hsz1 hw1
  go_enter Tryd.func17, Tryd.ntmps17
  go_wp2_with fail
  refine (kin_yes _ _ _ _ h0 hk).mono ?_
  rintro e w' ⟨rfl, rfl⟩
  rw [← HW1.out]
  by_cases e1 : y = (k : Int)
  · have hdr : dropR c k = c.set p 0 ∧ dropE c k = 0 := by unfold dropR dropE; rw [HD.out, if_pos e1]; exact ⟨rfl, rfl⟩
    have HDR := Lib.hid hdr; clear hdr
    subst e1
    go_wp2_with fail
    refine (kSet11 gA cA base (rowV c 0) p (-1) _ HL0.out HN1.out.A hp11).mono ?_
    rintro e w2 ⟨g, cap, rfl, hown, hg1, hg2, hb2⟩
    have hbx2 := HBX.out.below hb2 (by have := HSZ.out; omega)
    have hbr2 := HBR.out.below hb2 (by have := HSZ.out; omega)
    clear hx0 hx1 hr0 hr1 hrf0 hrf1 hA2 hB2
    have hx0 := hbx2.cell_ (i := 0) rfl
    have hx1 := hbx2.cell_ (i := 1) rfl
    have hr0 := hbr2.cell_ (i := 0) rfl
    have hr1 := hbr2.cell_ (i := 1) rfl
    have hrf0 := hbr2.free 0
    have hrf1 := hbr2.free 1
    have hxf0 := hbx2.free 0
    have HOWN := Lib.hid hown; have HB2 := Lib.hid hb2; have HG1 := Lib.hid hg1; have HG2 := Lib.hid hg2
    clear hown hb2 hbx2 hg1 hg2
    go_wp2
    (try simp only [Exit.inBlock, Exit.then])
    refine bodyPost_ret (results_cell2 rfl _ _ (w.heap.size + 1) 35 _ _ rfl (((hbr2.far (by simp) _).set 0 _).set 1 _) Tryd.underlying35 rfl info_nests) rfl ?_
    rw [HDR.out.1, HDR.out.2]
    refine ⟨g, cap, gB, cB, rfl, ⟨?_, ?_, ?_⟩, ?_⟩
    · rw [HV0.out]
      exact (HOWN.out.keepN (F := [w.heap.size, w.heap.size + 1]) ((((Keep.refl _ w2).set (fun _ => by simp) _).set (fun _ => by simp) _).set (fun _ => by simp) _) HG1.out (by have := HG2.out; have := HSZ.out; simp; omega)).lower (by have := HSZ.out; have := HB.out; omega)
    · rw [HV0'.out]
      exact (HN1.out.B.keepN (F := []) (Keep.of_below HB2.out (Nat.le_refl _)) (by have := HGB.out.1; have := HSZ.out; omega) (by simp)).keepN (F := [w.heap.size, w.heap.size + 1]) ((((Keep.refl _ w2).set (fun _ => by simp) _).set (fun _ => by simp) _).set (fun _ => by simp) _) (by have := HGB.out.1; have := HSZ.out; have := HB2.out.size; omega) (by have := HGB.out.1; simp; omega)
    · rw [List.length_set]; exact HLEN.out
    · exact (HK1.out.below (Nat.le_refl _) (by simp)).trans ((HB2.out.mono (by have := HSZ.out; omega)).trans (((((Keep.refl _ w2).set (fun _ => by simp) _).set (fun _ => by simp) _).set (fun _ => by simp) _).below (F := [w.heap.size, w.heap.size + 1]) (by have := HSZ.out; have := HB2.out.size; omega) (by simp)))
  · by_cases e2 : z = (k : Int)
    · have hdr : dropR c k = c.set (11 + q) 0 ∧ dropE c k = 0 := by unfold dropR dropE; rw [HD.out, if_neg e1, if_pos e2]; exact ⟨rfl, rfl⟩
      have HDR := Lib.hid hdr; clear hdr
      subst e2
      go_wp2_with fail
      refine (kSet11 gB cB base (rowV c 1) q (-1) _ HL1.out HN1.out.B hq11).mono ?_
      rintro e w2 ⟨g, cap, rfl, hown, hg1, hg2, hb2⟩
      have hbx2 := HBX.out.below hb2 (by have := HSZ.out; omega)
      have hbr2 := HBR.out.below hb2 (by have := HSZ.out; omega)
      clear hx0 hx1 hr0 hr1 hrf0 hrf1 hA2 hB2
      have hx0 := hbx2.cell_ (i := 0) rfl
      have hx1 := hbx2.cell_ (i := 1) rfl
      have hr0 := hbr2.cell_ (i := 0) rfl
      have hr1 := hbr2.cell_ (i := 1) rfl
      have hrf0 := hbr2.free 0
      have hrf1 := hbr2.free 1
      have hxf0 := hbx2.free 1
      have HOWN := Lib.hid hown; have HB2 := Lib.hid hb2; have HG1 := Lib.hid hg1; have HG2 := Lib.hid hg2
      clear hown hb2 hbx2 hg1 hg2
      go_wp2
      (try simp only [Exit.inBlock, Exit.then])
      refine bodyPost_ret (results_cell2 rfl _ _ (w.heap.size + 1) 35 _ _ rfl (((hbr2.far (by simp) _).set 0 _).set 1 _) Tryd.underlying35 rfl info_nests) rfl ?_
      rw [HDR.out.1, HDR.out.2]
      refine ⟨gA, cA, g, cap, rfl, ⟨?_, ?_, ?_⟩, ?_⟩
      · rw [HV1'.out]
        exact (HN1.out.A.keepN (F := []) (Keep.of_below HB2.out (Nat.le_refl _)) (by have := HGA.out.1; have := HSZ.out; omega) (by simp)).keepN (F := [w.heap.size, w.heap.size + 1]) ((((Keep.refl _ w2).set (fun _ => by simp) _).set (fun _ => by simp) _).set (fun _ => by simp) _) (by have := HGA.out.1; have := HSZ.out; have := HB2.out.size; omega) (by have := HGA.out.1; simp; omega)
      · rw [HV1.out]
        exact (HOWN.out.keepN (F := [w.heap.size, w.heap.size + 1]) ((((Keep.refl _ w2).set (fun _ => by simp) _).set (fun _ => by simp) _).set (fun _ => by simp) _) HG1.out (by have := HG2.out; have := HSZ.out; simp; omega)).lower (by have := HSZ.out; have := HB.out; omega)
      · rw [List.length_set]; exact HLEN.out
      · exact (HK1.out.below (Nat.le_refl _) (by simp)).trans ((HB2.out.mono (by have := HSZ.out; omega)).trans (((((Keep.refl _ w2).set (fun _ => by simp) _).set (fun _ => by simp) _).set (fun _ => by simp) _).below (F := [w.heap.size, w.heap.size + 1]) (by have := HSZ.out; have := HB2.out.size; omega) (by simp)))
    · have hdr : dropR c k = c ∧ dropE c k = 5 := by unfold dropR dropE; rw [HD.out, if_neg e1, if_neg e2]; exact ⟨rfl, rfl⟩
      have HDR := Lib.hid hdr; clear hdr
      go_wp2
      (try simp only [Exit.inBlock, Exit.then])
      refine bodyPost_ret (results_cell2 rfl _ _ (w.heap.size + 1) 35 _ _ rfl ((HBR.out.set 0 _).set 1 _) Tryd.underlying35 rfl info_nests) rfl ?_
      rw [HDR.out.1, HDR.out.2]
      have hkf : Keep [w.heap.size + 1] w1 ((w1.setCell ⟨w.heap.size + 1, 0, none⟩ (.slice (some ⟨gA, 0, none⟩) 11 cA)).setCell ⟨w.heap.size + 1, 1, none⟩ (.slice (some ⟨gB, 0, none⟩) 11 cB)) := (((Keep.refl _ w1).set (fun _ => by simp) _).set (fun _ => by simp) _)
      exact ⟨gA, cA, gB, cB, rfl, ⟨HN1.out.A.keepN hkf (by have := HGA.out.1; have := HSZ.out; omega) (by have := HGA.out.1; simp; omega), HN1.out.B.keepN hkf (by have := HGB.out.1; have := HSZ.out; omega) (by have := HGB.out.1; simp; omega), HLEN.out⟩,
        (HK1.out.below (Nat.le_refl _) (by simp)).trans (hkf.below (by have := HSZ.out; omega) (by simp))⟩
end Go.Proofs.YtjnghpambjjlkaaDoor
