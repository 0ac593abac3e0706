/-
  The reference's NewNests, by its contract.
-/
import Derived.Test.YtjnghpambjjlkaaDoorCuckooRef3
namespace Go.Proofs.YtjnghpambjjlkaaDoor
open Go.RowKit

def NewRel (w1 : World) (b : Nat) (i : Value) (wr : World) : Prop :=
  ∃ (k : Nat) (vA vB : Value), k ≤ 11 ∧ i = .int .i64 k ∧ Blk wr b 35 [vA, vB] ∧ OwnInts wr w1.heap.size vA (List.replicate k (-1)) ∧ OwnInts wr w1.heap.size vB (List.replicate k (-1)) ∧
    (∀ g, vA.ownBlock = some g → vB.ownBlock = some g → False) ∧ Keep [b] w1 wr
theorem rowV_new (r : Nat) (hr : r < 2) : rowV (List.replicate 22 0) r = List.replicate 11 (-1) := by
  rcases (show r = 0 ∨ r = 1 by omega) with rfl | rfl <;> decide
def NewPost (w : World) (e : Ending) (w' : World) : Prop :=
  ∃ gA cA gB cB, e = .returned (.agg #[.slice (some ⟨gA, 0, none⟩) 11 cA, .slice (some ⟨gB, 0, none⟩) 11 cB]) ∧ KN w' w.heap.size (List.replicate 22 0) gA cA gB cB ∧ Below w.heap.size w w'

set_option maxHeartbeats 1000000 in
set_option maxRecDepth 100000 in
theorem kNewNests (w : World) : Calls Tryd.prog 15 #[] w (NewPost w) := by
  obtain ⟨i0, hii, hz0, hz1, hz2⟩ := info_parts info_int
  obtain ⟨w1, hw1⟩ : ∃ w1, w1 = (w.alloc (.cells #[.slice none 0 0, .slice none 0 0] 35)).alloc (.cells #[.slice none 0 0, .slice none 0 0] 35) := ⟨_, rfl⟩
  have hk1 : Keep [] w w1 := by rw [hw1]; exact ((Keep.refl [] w).alloc _).alloc _
  have hbr : Blk w1 w.heap.size 35 [.slice none 0 0, .slice none 0 0] := by
    rw [hw1]; exact (Blk.new w 35 [.slice none 0 0, .slice none 0 0]).alloc _
  have hbx : Blk w1 (w.heap.size + 1) 35 [.slice none 0 0, .slice none 0 0] := by
    rw [hw1]
    have := Blk.new (w.alloc (.cells #[.slice none 0 0, .slice none 0 0] 35)) 35 [.slice none 0 0, .slice none 0 0]
    rwa [World.size_alloc] at this
  have hsz1 : w1.heap.size = w.heap.size + 2 := by rw [hw1]; simp
  have HK1 := Lib.hid hk1; have HBR := Lib.hid hbr; have HBX := Lib.hid hbx; have HSZ := Lib.hid hsz1; have HW1 := Lib.hid hw1
  clear hk1 hbr hbx hsz1 hw1
  go_enter Tryd.func15, Tryd.ntmps15
  go_wp2
  rw [← HW1.out]
  go_loopw [2] (fun i wr => NewRel w1 (w.heap.size + 1) i wr) (fun i _ => 11 - (intOf i).toNat)
  case atStart => exact ⟨0, .slice none 0 0, .slice none 0 0, by omega, rfl, HBX.out, OwnInts.nil _ _, OwnInts.nil _ _, (by intro g h; cases h), Keep.refl _ _⟩
  case round =>
    obtain ⟨k, vA, vB, hk, rfl, hb, hA, hB, hne, hkr⟩ := hrel
    have HB := Lib.hid hb; have HA := Lib.hid hA; have HBB := Lib.hid hB; have HNE := Lib.hid hne; have HK := Lib.hid hkr
    have hx0 := hb.cell_ (i := 0) rfl
    have hx1 := hb.cell_ (i := 1) rfl
    have hxf0 := hb.free 0
    have hxf1 := hb.free 1
    have hbl := hb.lt
    clear hb hA hB hne hkr
    by_cases hlt : k < 11
    · have hlt' : (k : Int) < 11 := by omega
      have hrow : ∀ (wx : World), World.ownsRow wx w1.heap.size 3 1 vA k (ints (List.replicate k (-1))) = OwnInts wx w1.heap.size vA (List.replicate k (-1)) := fun wx => by unfold OwnInts; rw [List.length_replicate]
      have hrowB : ∀ (wx : World), World.ownsRow wx w1.heap.size 3 1 vB k (ints (List.replicate k (-1))) = OwnInts wx w1.heap.size vB (List.replicate k (-1)) := fun wx => by unfold OwnInts; rw [List.length_replicate]
      have HROW := Lib.hid hrow; have HROWB := Lib.hid hrowB; clear hrow hrowB
      have hna : ∀ g, g < w1.heap.size → some g ≠ vA.ownBlock := fun g hg e => by have := (World.ownsRow.lt HA.out g e.symm).1; omega
      have hnb : ∀ g, g < w1.heap.size → some g ≠ vB.ownBlock := fun g hg e => by have := (World.ownsRow.lt HBB.out g e.symm).1; omega
      have HNA := Lib.hid hna; have HNB := Lib.hid hnb; clear hna hnb
      have hszr : w1.heap.size ≤ wr.heap.size := HK.out.size
      go_wp2_with (at_builtin; first
        | (refine wpList_append_lies _ rfl _ _ 22 rfl w1.heap.size 3 i0 (.int .i64 0) 1 8 Tryd.underlying22 hii hz0 hz1 hz2 rfl (by decide) vA k (ints (List.replicate k (-1))) rfl (by rw [HROW.out]; exact HA.out.keepF (F := []) ((Keep.refl _ _).alloc _) (by simp)) ⟨wr.heap.size, 0, none⟩ 1 1 [.int .i64 (-1)] rfl rfl (by intro p u hp; match p, hp with | 0, hp => simp at hp; subst hp; simp [Addr.add]) (by intro u hu; simp at hu; subst hu; rfl) (by decide) (by unfold maxLen; omega) (by omega) (by simp; omega) (wr.heap.size + 1) (by simp) ?_; intro gA cA w5 hown5 hgrow5 hlies5 hlt5; have hb5 := (HB.out.alloc _).grown hgrow5 (HNA.out _ (by have := HSZ.out; omega)); clear hx0 hx1 hxf0 hxf1; have hx0 := hb5.cell_ (i := 0) rfl; have hx1 := hb5.cell_ (i := 1) rfl; have hxf0 := hb5.free 0; have hxf1 := hb5.free 1
           have hs5 : wr.heap.size + 1 ≤ w5.heap.size := by have := hgrow5.size; simpa using this
           have hB5 : ∀ v, OwnInts ((w5.setCell ⟨w.heap.size + 1, 0, none⟩ v).alloc (.cells #[.int .i64 (-1)] 3)) w1.heap.size vB (List.replicate k (-1)) := fun v => HBB.out.keep fun g hg => by
             have hgl := World.ownsRow.lt HBB.out g hg
             exact (Below.heap_alloc _ _ g (by simp; omega)).trans ((Below.heap_setCell _ _ _ g (by have := HSZ.out; show g ≠ w.heap.size + 1; omega)).trans ((hgrow5.block g (by simp; omega) (fun e => HNE.out g e.symm hg)).trans (Below.heap_alloc _ _ g hgl.2)))
           have hl5 : ∀ v, ((w5.setCell ⟨w.heap.size + 1, 0, none⟩ v).alloc (.cells #[.int .i64 (-1)] 3)).cell? ⟨w5.heap.size, 0, none⟩ = some (.int .i64 (-1)) := fun v => by
             have := (Blk.new (w5.setCell ⟨w.heap.size + 1, 0, none⟩ v) 3 [.int .i64 (-1)]).cell_ (i := 0) rfl
             rwa [World.size_setCell] at this
           have HL5L := Lib.hid hl5
           have HB5 := Lib.hid hb5; have HOWN5 := Lib.hid hown5; have HG5 := Lib.hid hgrow5; have HL5 := Lib.hid hlies5; have HLT5 := Lib.hid hlt5; have HBB5 := Lib.hid hB5; have HS5 := Lib.hid hs5; clear hb5 hown5 hgrow5 hlies5 hlt5 hB5 hl5)
        | (refine wpList_append_lies _ rfl _ _ 22 rfl w1.heap.size 3 i0 (.int .i64 0) 1 8 Tryd.underlying22 hii hz0 hz1 hz2 rfl (by decide) vB k (ints (List.replicate k (-1))) rfl (by rw [HROWB.out]; exact HBB5.out _) ⟨w5.heap.size, 0, none⟩ 1 1 [.int .i64 (-1)] rfl rfl (by intro p u hp; match p, hp with | 0, hp => simp at hp; subst hp; exact HL5L.out _) (by intro u hu; simp at hu; subst hu; rfl) (by decide) (by unfold maxLen; omega) (by omega) (by have := HS5.out; simp; omega) (w5.heap.size + 1) (by simp) ?_; intro gB cB w6 hown6 hgrow6 hlies6 hlt6; have hb6 := ((HB5.out.set 0 (.slice (some ⟨gA, 0, none⟩) (k + 1) cA)).alloc (.cells #[.int .i64 (-1)] 3)).grown hgrow6 (HNB.out _ (by have := HSZ.out; omega)); clear hx0 hx1 hxf0 hxf1; have hx0 := hb6.cell_ (i := 0) rfl; have hx1 := hb6.cell_ (i := 1) rfl; have hxf0 := hb6.free 0; have hxf1 := hb6.free 1
           have HB6 := Lib.hid hb6; have HOWN6 := Lib.hid hown6; have HG6 := Lib.hid hgrow6; have HL6 := Lib.hid hlies6; have HLT6 := Lib.hid hlt6; clear hb6 hown6 hgrow6 hlies6 hlt6))
      go_wp2
      go_roundw
      case rel =>
        have hrep : List.replicate (k + 1) (-1 : Int) = List.replicate k (-1) ++ [-1] := List.replicate_succ'
        have hoA : OwnInts w5 w1.heap.size (.slice (some ⟨gA, 0, none⟩) (k + 1) cA) (List.replicate (k + 1) (-1)) := by
          have := HOWN5.out; unfold OwnInts; rw [List.length_replicate, hrep]; simpa [ints] using this
        have hoB : OwnInts w6 w1.heap.size (.slice (some ⟨gB, 0, none⟩) (k + 1) cB) (List.replicate (k + 1) (-1)) := by
          have := HOWN6.out; unfold OwnInts; rw [List.length_replicate, hrep]; simpa [ints] using this
        have hgA := World.ownsRow.lt hoA gA rfl
        have hgB := World.ownsRow.lt hoB gB rfl
        have hs5 := HS5.out
        have hs6 : w5.heap.size + 1 ≤ w6.heap.size := by have := HG6.out.size; simpa using this
        have hgAB : some gA ≠ vB.ownBlock := fun e => by
          rcases HL5.out with h | h
          · exact HNE.out gA h e.symm
          · have := (World.ownsRow.lt HBB.out gA e.symm).2; omega
        have hdis : gA ≠ gB := fun e => by
          rcases HL6.out with h | h
          · exact hgAB (by rw [e]; exact h.symm)
          · omega
        refine ⟨k + 1, _, _, hlt, by simp, HB6.out.set 1 _, ?_, ?_, ?_, ?_⟩
        · refine hoA.keep fun g hg => ?_
          cases hg
          exact (Below.heap_setCell _ _ _ gA (by have := HSZ.out; show gA ≠ w.heap.size + 1; omega)).trans ((HG6.out.block gA (by simp; omega) hgAB).trans ((Below.heap_alloc _ _ gA (by simp; omega)).trans (Below.heap_setCell _ _ _ gA (by have := HSZ.out; show gA ≠ w.heap.size + 1; omega))))
        · refine hoB.keep fun g hg => ?_
          cases hg
          exact Below.heap_setCell _ _ _ gB (by have := HSZ.out; show gB ≠ w.heap.size + 1; omega)
        · intro g h1 h2
          cases h1; cases h2; exact hdis rfl
        · exact (((((HK.out.alloc _).grown HG5.out (fun g hg hlt => absurd hg.symm (HNA.out g hlt))).set (fun _ => by simp) _).alloc _).grown HG6.out (fun g hg hlt => absurd hg.symm (HNB.out g hlt))).set (fun _ => by simp) _
      case measure => simp [intOf]; omega
    · obtain rfl : k = 11 := by omega
      have hlA := HA.out.setAt (i := 0) (by simp)
      have hlB := HBB.out.setAt (i := 0) (by simp)
      obtain ⟨gA, cA, eA, hbA, hltA, _⟩ := hlA
      obtain ⟨gB, cB, eB, hbB, hltB, _⟩ := hlB
      have eA' : vA = .slice (some ⟨gA, 0, none⟩) 11 cA := eA
      have eB' : vB = .slice (some ⟨gB, 0, none⟩) 11 cB := eB
      subst eA'
      subst eB'
      clear eA eB
      have hbr := HBR.out.keep HK.out (by simp)
      have hr0 := hbr.cell_ (i := 0) rfl
      have hr1 := hbr.cell_ (i := 1) rfl
      have hrf0 := hbr.free 0
      have hrf1 := hbr.free 1
      have HBRR := Lib.hid hbr
      clear hbr
      go_wp2
      (try simp only [Exit.inBlock, Exit.then])
      refine bodyPost_ret (results_cell1 rfl _ _ w.heap.size 35 _ _ rfl ((HBRR.out.set 0 _).set 1 _) Tryd.underlying35 rfl info_nests) rfl ?_
      have hks : Keep [w.heap.size] wr ((wr.setCell ⟨w.heap.size, 0, none⟩ (.slice (some ⟨gA, 0, none⟩) 11 cA)).setCell ⟨w.heap.size, 1, none⟩ (.slice (some ⟨gB, 0, none⟩) 11 cB)) := (((Keep.refl _ wr).set (fun _ => by simp) _).set (fun _ => by simp) _)
      refine ⟨gA, cA, gB, cB, rfl, ⟨?_, ?_, by simp⟩, (HK1.out.below (Nat.le_refl _) (by simp)).trans ((HK.out.below (B := w.heap.size) (by have := HSZ.out; omega) (by simp)).trans (hks.below (by have := HSZ.out; have := HK.out.size; omega) (by simp)))⟩
      · rw [rowV_new 0 (by decide)]
        exact (HA.out.keepN hks hltA (by have := HSZ.out; simp; omega)).lower (by have := HSZ.out; omega)
      · rw [rowV_new 1 (by decide)]
        exact (HBB.out.keepN hks hltB (by have := HSZ.out; simp; omega)).lower (by have := HSZ.out; omega)
end Go.Proofs.YtjnghpambjjlkaaDoor
