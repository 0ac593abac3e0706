/-
  The reference's disk: clean, Use, Flushed, Crashed, NewDisk, by their contracts (printed by wip/gen_backref2.py).
-/
import Derived.Test.YtgbccaplckiilaaDoorBackRef
import Derived.BigRegion
import Derived.Deep.DeepCutAuto
set_option linter.unusedVariables false
namespace Go.Proofs.YtgbccaplckiilaaDoor
open Go.RowKit

set_option maxHeartbeats 2000000 in
set_option maxRecDepth 100000 in
theorem kClean0 (slots nB n : Nat) (aB aH aV aD : Option Addr) (cB cH cV cD : Nat) (lB lH lV lD : List Int) (r q : Int) (i : Nat) (hi : i < n) (hn : n ≤ 8) (h1 : lD.getD i 0 ≠ 1) (w : World) (hin : DIn w aB aH aV aD nB n n n cB cH cV cD lB lH lV lD r q) :
    Calls Tryd.prog 23 #[.agg #[.int .i64 (slots : Nat), .slice aB nB cB, .slice aH n cH, .slice aV n cV, .slice aD n cD, .int .i64 r, .int .i64 q], .int .i64 i] w (DPost w slots nB n n n lB lH lV lD r q) := by
  have HIN := Lib.hid hin; clear hin
  have hdl := HIN.out.dl
  have hiL : i < lD.length := by omega
  clear hdl
  obtain ⟨w1, hw1⟩ : ∃ w1, w1 = (w.alloc (.cells #[.int .i64 (slots : Nat), .slice aB nB cB, .slice aH n cH, .slice aV n cV, .slice aD n cD, .int .i64 r, .int .i64 q] 32)).alloc (.cells #[.int .i64 0, .slice none 0 0, .slice none 0 0, .slice none 0 0, .slice none 0 0, .int .i64 0, .int .i64 0] 32) := ⟨_, rfl⟩
  have hd1 := DB.start (slots := slots) w HIN.out
  rw [← hw1] at hd1
  have HD1 := Lib.hid hd1; have HW1 := Lib.hid hw1
  clear hd1 hw1
  go_enter Tryd.func23, Tryd.ntmps23
  go_upto_region 1 with fail
  rw [← HW1.out]
  obtain ⟨x0, x1, x2, x3, x4, x5, x6, f0, f1, f2, f3, f4, f5, f6⟩ := HD1.out.cells
  obtain ⟨y0, y1, y2, y3, y4, y5, y6, g0, g1, g2, g3, g4, g5, g6⟩ := HD1.out.rcells
  obtain ⟨gD, rfl, hcD⟩ := own_cell HD1.out.inn.D hiL
  obtain ⟨d, hd⟩ : ∃ d, d = lD.getD i 0 := ⟨_, rfl⟩
  rw [← hd] at hcD h1
  clear hd
  have h1' : (d == 1) = false := beq_eq_false_iff_ne.2 h1
  have hi0 : (0 : Int) ≤ (i : Int) := by omega
  have hin : (i : Int) < (n : Int) := by omega
  go_wp2
  have HDE := Lib.hid HD1.out
  (try simp only [Exit.inBlock, Exit.then])
  refine bodyPost_ret (results_cell1 rfl _ _ (w.heap.size + 1) 32 _ _ rfl (blk7 HDE.out.res _ _ _ _ _ _ _) Tryd.underlying32 rfl info_disk) rfl ?_
  have hd := fun v0 v1 v2 v3 v4 v5 v6 => HDE.out.done v0 v1 v2 v3 v4 v5 v6
  exact ⟨aB, aH, _, _, cB, cH, cV, cD, rfl, (hd _ _ _ _ _ _ _).1, (hd _ _ _ _ _ _ _).2⟩
set_option maxHeartbeats 2000000 in
set_option maxRecDepth 100000 in
theorem kClean1 (slots nB n : Nat) (aB aH aV aD : Option Addr) (cB cH cV cD : Nat) (lB lH lV lD : List Int) (r q : Int) (i k : Nat) (hi : i < n) (hn : n ≤ 8) (hB : nB ≤ 8) (h1 : lD.getD i 0 = 1) (hk : lH.getD i 0 = (k : Int)) (hkB : k < nB) (hq0 : 0 ≤ q) (hq1 : q ≤ 1000000) (w : World) (hin : DIn w aB aH aV aD nB n n n cB cH cV cD lB lH lV lD r q) :
    Calls Tryd.prog 23 #[.agg #[.int .i64 (slots : Nat), .slice aB nB cB, .slice aH n cH, .slice aV n cV, .slice aD n cD, .int .i64 r, .int .i64 q], .int .i64 i] w (DPost w slots nB n n n (lB.set k (lV.getD i 0)) lH lV (lD.set i 0) r (q + 1)) := by
  have HIN := Lib.hid hin; clear hin
  have hdl := HIN.out.dl; have hhl := HIN.out.hl; have hvl := HIN.out.vl; have hbl := HIN.out.bl
  have hiD : i < lD.length := by omega
  have hiH : i < lH.length := by omega
  have hiV : i < lV.length := by omega
  clear hdl hhl hvl hbl
  obtain ⟨w1, hw1⟩ : ∃ w1, w1 = (w.alloc (.cells #[.int .i64 (slots : Nat), .slice aB nB cB, .slice aH n cH, .slice aV n cV, .slice aD n cD, .int .i64 r, .int .i64 q] 32)).alloc (.cells #[.int .i64 0, .slice none 0 0, .slice none 0 0, .slice none 0 0, .slice none 0 0, .int .i64 0, .int .i64 0] 32) := ⟨_, rfl⟩
  have hd1 := DB.start (slots := slots) w HIN.out
  rw [← hw1] at hd1
  have HD1 := Lib.hid hd1; have HW1 := Lib.hid hw1
  clear hd1 hw1
  go_enter Tryd.func23, Tryd.ntmps23
  go_upto_region 1 with fail
  rw [← HW1.out]
  obtain ⟨x0, x1, x2, x3, x4, x5, x6, f0, f1, f2, f3, f4, f5, f6⟩ := HD1.out.cells
  obtain ⟨y0, y1, y2, y3, y4, y5, y6, g0, g1, g2, g3, g4, g5, g6⟩ := HD1.out.rcells
  obtain ⟨gD, rfl, hcD⟩ := own_cell HD1.out.inn.D hiD
  obtain ⟨gH, rfl, hcH⟩ := own_cell HD1.out.inn.H hiH
  obtain ⟨gV, rfl, hcV⟩ := own_cell HD1.out.inn.V hiV
  rw [h1] at hcD
  rw [hk] at hcH
  obtain ⟨p, hp⟩ : ∃ p, p = lV.getD i 0 := ⟨_, rfl⟩
  rw [← hp] at hcV
  have HK := Lib.hid hk; have HP := Lib.hid hp
  clear hp hk h1
  have hi0 : (0 : Int) ≤ (i : Int) := by omega
  have hin : (i : Int) < (n : Int) := by omega
  have hinc : IntKind.i64.wrap (q + 1) = q + 1 := IntWalk.i64_in _ (by omega)
  go_wp2
  go_still_tail 12, (by kernel_rfl)
  go_wp2_with fail
  have HD2 := Lib.hid (HD1.out.keep (Keep.refl _ w1).drew)
  clear x0 x1 x2 x3 x4 x5 x6 f0 f1 f2 f3 f4 f5 f6 y0 y1 y2 y3 y4 y5 y6 g0 g1 g2 g3 g4 g5 g6
  skip
  refine (set_s aB cB nB k p lB _ HD2.out.inn.B HD2.out.inn.bl hkB (by omega)).mono ?_
  rintro e w3 ⟨a3, c3, rfl, ho3, hn3, hb3⟩
  have HD3 := Lib.hid (HD2.out.below hb3)
  have HO3 := Lib.hid ho3; have HN3 := Lib.hid hn3
  clear ho3 hn3 hb3
  obtain ⟨x0, x1, x2, x3, x4, x5, x6, f0, f1, f2, f3, f4, f5, f6⟩ := HD3.out.cells
  obtain ⟨y0, y1, y2, y3, y4, y5, y6, g0, g1, g2, g3, g4, g5, g6⟩ := HD3.out.rcells
  go_wp2_with fail
  clear x0 x1 x2 x3 x4 x5 x6 f0 f1 f2 f3 f4 f5 f6 y0 y1 y2 y3 y4 y5 y6 g0 g1 g2 g3 g4 g5 g6
  obtain ⟨w4, hw4⟩ : ∃ w', w' = (w3.setCell ⟨w.heap.size, 1, none⟩ (.slice a3 nB c3)) := ⟨_, rfl⟩
  rw [show (w3.setCell ⟨w.heap.size, 1, none⟩ (.slice a3 nB c3)) = w4 from hw4.symm]
  have hd4 := (HD3.out.setB HO3.out HN3.out)
  rw [← hw4] at hd4
  have HD4 := Lib.hid hd4
  clear hd4 hw4
  refine (set_s (some ⟨gD, 0, none⟩) cD n i 0 lD _ HD4.out.inn.D HD4.out.inn.dl hi (by omega)).mono ?_
  rintro e w5 ⟨a5, c5, rfl, ho5, hn5, hb5⟩
  have HD5 := Lib.hid (HD4.out.below hb5)
  have HO5 := Lib.hid ho5; have HN5 := Lib.hid hn5
  clear ho5 hn5 hb5
  obtain ⟨x0, x1, x2, x3, x4, x5, x6, f0, f1, f2, f3, f4, f5, f6⟩ := HD5.out.cells
  obtain ⟨y0, y1, y2, y3, y4, y5, y6, g0, g1, g2, g3, g4, g5, g6⟩ := HD5.out.rcells
  go_wp2
  have HDE := Lib.hid ((HD5.out.setD HO5.out HN5.out).setQ (q + 1))
  (try simp only [Exit.inBlock, Exit.then])
  refine bodyPost_ret (results_cell1 rfl _ _ (w.heap.size + 1) 32 _ _ rfl (blk7 HDE.out.res _ _ _ _ _ _ _) Tryd.underlying32 rfl info_disk) rfl ?_
  have hd := fun v0 v1 v2 v3 v4 v5 v6 => HDE.out.done v0 v1 v2 v3 v4 v5 v6
  rw [← HP.out]
  exact ⟨_, _, _, _, _, _, _, _, rfl, (hd _ _ _ _ _ _ _).1, (hd _ _ _ _ _ _ _).2⟩
/-- What becomes of a place's value on the disk. -/
def clB (lB lH lV lD : List Int) (i : Nat) : List Int := if lD.getD i 0 = 1 then lB.set (lH.getD i 0).toNat (lV.getD i 0) else lB
def clD (lD : List Int) (i : Nat) : List Int := if lD.getD i 0 = 1 then lD.set i 0 else lD
def clQ (lD : List Int) (q : Int) (i : Nat) : Int := if lD.getD i 0 = 1 then q + 1 else q
theorem kClean (slots nB n : Nat) (aB aH aV aD : Option Addr) (cB cH cV cD : Nat) (lB lH lV lD : List Int) (r q : Int) (i : Nat) (hi : i < n) (hn : n ≤ 8) (hB : nB = 8) (hr : ∀ y ∈ lH, 0 ≤ y ∧ y ≤ 7) (hq0 : 0 ≤ q) (hq1 : q ≤ 1000000) (w : World) (hin : DIn w aB aH aV aD nB n n n cB cH cV cD lB lH lV lD r q) :
    Calls Tryd.prog 23 #[.agg #[.int .i64 (slots : Nat), .slice aB nB cB, .slice aH n cH, .slice aV n cV, .slice aD n cD, .int .i64 r, .int .i64 q], .int .i64 i] w (DPost w slots nB n n n (clB lB lH lV lD i) lH lV (clD lD i) r (clQ lD q i)) := by
  unfold clB clD clQ
  by_cases h1 : lD.getD i 0 = 1
  · rw [if_pos h1, if_pos h1, if_pos h1]
    have hhl := hin.hl
    have hm : lH.getD i 0 ∈ lH := by
      have hl : i < lH.length := by omega
      rw [List.getD, List.getElem?_eq_getElem hl]; exact List.getElem_mem hl
    obtain ⟨h0, h7⟩ := hr _ hm
    obtain ⟨k, hk⟩ := Int.eq_ofNat_of_zero_le h0
    rw [hk, Int.toNat_natCast]
    exact kClean1 slots nB n aB aH aV aD cB cH cV cD lB lH lV lD r q i k hi hn (by omega) h1 hk (by omega) hq0 hq1 w hin
  · rw [if_neg h1, if_neg h1, if_neg h1]
    exact kClean0 slots nB n aB aH aV aD cB cH cV cD lB lH lV lD r q i hi hn h1 w hin

set_option maxHeartbeats 2000000 in
set_option maxRecDepth 100000 in
theorem kCrashed (slots nB n : Nat) (aB aH aV aD : Option Addr) (cB cH cV cD : Nat) (lB lH lV lD : List Int) (r q : Int) (w : World) (hin : DIn w aB aH aV aD nB n n n cB cH cV cD lB lH lV lD r q) :
    Calls Tryd.prog 14 #[.agg #[.int .i64 (slots : Nat), .slice aB nB cB, .slice aH n cH, .slice aV n cV, .slice aD n cD, .int .i64 r, .int .i64 q]] w (DPost w slots nB 0 0 0 lB [] [] [] r q) := by
  have HIN := Lib.hid hin; clear hin
  obtain ⟨w1, hw1⟩ : ∃ w1, w1 = (w.alloc (.cells #[.int .i64 (slots : Nat), .slice aB nB cB, .slice aH n cH, .slice aV n cV, .slice aD n cD, .int .i64 r, .int .i64 q] 32)).alloc (.cells #[.int .i64 0, .slice none 0 0, .slice none 0 0, .slice none 0 0, .slice none 0 0, .int .i64 0, .int .i64 0] 32) := ⟨_, rfl⟩
  have hd1 := DB.start (slots := slots) w HIN.out
  rw [← hw1] at hd1
  have HD1 := Lib.hid hd1; have HW1 := Lib.hid hw1
  clear hd1 hw1
  go_enter Tryd.func14, Tryd.ntmps14
  go_upto_region 1 with fail
  rw [← HW1.out]
  obtain ⟨x0, x1, x2, x3, x4, x5, x6, f0, f1, f2, f3, f4, f5, f6⟩ := HD1.out.cells
  obtain ⟨y0, y1, y2, y3, y4, y5, y6, g0, g1, g2, g3, g4, g5, g6⟩ := HD1.out.rcells
  have hnil : ∀ wx : World, OwnInts wx 0 (.slice none 0 0) [] := fun wx => OwnInts.nil _ _
  have HNL := Lib.hid hnil
  clear hnil
  go_wp2
  have HDE := Lib.hid (((HD1.out.setH (HNL.out _) rfl).setV (HNL.out _) rfl).setD (HNL.out _) rfl)
  (try simp only [Exit.inBlock, Exit.then])
  refine bodyPost_ret (results_cell1 rfl _ _ (w.heap.size + 1) 32 _ _ rfl (blk7 HDE.out.res _ _ _ _ _ _ _) Tryd.underlying32 rfl info_disk) rfl ?_
  have hd := fun v0 v1 v2 v3 v4 v5 v6 => HDE.out.done v0 v1 v2 v3 v4 v5 v6
  exact ⟨_, _, _, _, _, _, _, _, rfl, (hd _ _ _ _ _ _ _).1, (hd _ _ _ _ _ _ _).2⟩
theorem kNewDisk (slots : Nat) (w : World) : Calls Tryd.prog 7 #[.int .i64 slots] w (DPost w slots 8 0 0 0 (List.replicate 8 0) [] [] [] 0 0) := by
  have hmk : ∀ wx : World, Sem.run Tryd.prog (Instr.makeSlice 30 (.int .i64 8) (.int .i64 8)) wx = .ok (.slice (some ⟨wx.heap.size, 0, none⟩) 8 8) (wx.alloc (.cells (ints (List.replicate 8 0)).toArray 3)) := fun wx => run_make_blk (P := Tryd.prog) 30 3 (.int .i64 0) 8 Tryd.underlying30 info_int rfl 8 (by omega) (by omega) wx
  go_enter Tryd.func7, Tryd.ntmps7
  go_wp2
  obtain ⟨w2, hw2⟩ : ∃ w2, w2 = (w.alloc (.cells #[.int .i64 (slots : Nat), .slice (some ⟨w.heap.size + 1, 0, none⟩) 8 8, .slice none 0 0, .slice none 0 0, .slice none 0 0, .int .i64 0, .int .i64 0] 32)).alloc (.cells (ints (List.replicate 8 0)).toArray 3) := ⟨_, rfl⟩
  have hbR : Blk w2 w.heap.size 32 (dTop slots (some ⟨w.heap.size + 1, 0, none⟩) none none none 8 0 0 0 8 0 0 0 0 0) := by rw [hw2]; exact (Blk.new w _ (dTop slots (some ⟨w.heap.size + 1, 0, none⟩) none none none 8 0 0 0 8 0 0 0 0 0)).alloc _
  have hbI : Blk w2 (w.heap.size + 1) 3 (ints (List.replicate 8 0)) := by
    have := Blk.new (w.alloc (.cells (dTop slots (some ⟨w.heap.size + 1, 0, none⟩) none none none 8 0 0 0 8 0 0 0 0 0).toArray 32)) 3 (ints (List.replicate 8 0))
    rw [World.size_alloc] at this
    rw [hw2]; exact this
  have hk2 : Keep [] w w2 := by rw [hw2]; exact ((Keep.refl [] w).alloc _).alloc _
  have hnil : ∀ wx : World, OwnInts wx 0 (.slice none 0 0) [] := fun wx => OwnInts.nil _ _
  (try simp only [Exit.inBlock, Exit.then])
  refine bodyPost_ret (results_cell1 rfl _ _ w.heap.size 32 (dTop slots (some ⟨w.heap.size + 1, 0, none⟩) none none none 8 0 0 0 8 0 0 0 0 0) _ rfl (by have h5 := hbR; rw [hw2] at h5; exact h5) Tryd.underlying32 rfl info_disk) rfl ?_
  refine ⟨_, none, none, none, 8, 0, 0, 0, rfl, ⟨?_, hnil _, hnil _, hnil _, rfl, rfl, rfl, rfl⟩, ?_⟩
  · have h5 := (⟨rfl, .inr ⟨w.heap.size + 1, 8, (ints (List.replicate 8 0)).toArray, rfl, Nat.zero_le _, hbI, Nat.le_refl _, by unfold maxLen; omega, by simp [ints], by simp [ints]⟩⟩ : OwnInts w2 0 (.slice (some ⟨w.heap.size + 1, 0, none⟩) 8 8) (List.replicate 8 0))
    rw [hw2] at h5; exact h5
  · have h5 := hk2.below (Nat.le_refl _) (by simp)
    rw [hw2] at h5; exact h5

/-- All places up to one are written. -/
def clTo (lB lH lV lD : List Int) (q : Int) : Nat → List Int × List Int × Int
  | 0 => (lB, lD, q)
  | k + 1 => (clB (clTo lB lH lV lD q k).1 lH lV (clTo lB lH lV lD q k).2.1 k, clD (clTo lB lH lV lD q k).2.1 k, clQ (clTo lB lH lV lD q k).2.1 (clTo lB lH lV lD q k).2.2 k)
theorem clTo_q (lB lH lV lD : List Int) (q : Int) : ∀ k : Nat, q ≤ (clTo lB lH lV lD q k).2.2 ∧ (clTo lB lH lV lD q k).2.2 ≤ q + k
  | 0 => ⟨Int.le_refl _, by show q ≤ q + 0; omega⟩
  | k + 1 => by
    have := clTo_q lB lH lV lD q k
    simp only [clTo, clQ]
    split <;> omega
def KFlRel (w : World) (slots nB n : Nat) (lB lH lV lD : List Int) (r q : Int) (i : Value) (wr : World) : Prop :=
  ∃ (k : Nat) (aB aH aV aD : Option Addr) (cB cH cV cD : Nat), k ≤ n ∧ i = .int .i64 k ∧ DB w wr w.heap.size slots aB aH aV aD nB n n n cB cH cV cD (clTo lB lH lV lD q k).1 lH lV (clTo lB lH lV lD q k).2.1 r (clTo lB lH lV lD q k).2.2
set_option maxHeartbeats 2000000 in
set_option maxRecDepth 100000 in
theorem kFlushed (slots nB n : Nat) (aB aH aV aD : Option Addr) (cB cH cV cD : Nat) (lB lH lV lD : List Int) (r q : Int) (hn : n ≤ 8) (hB : nB = 8) (hr : ∀ y ∈ lH, 0 ≤ y ∧ y ≤ 7) (hq0 : 0 ≤ q) (hq1 : q ≤ 900000) (w : World) (hin : DIn w aB aH aV aD nB n n n cB cH cV cD lB lH lV lD r q) :
    Calls Tryd.prog 12 #[.agg #[.int .i64 (slots : Nat), .slice aB nB cB, .slice aH n cH, .slice aV n cV, .slice aD n cD, .int .i64 r, .int .i64 q]] w (DPost w slots nB n n n (clTo lB lH lV lD q n).1 lH lV (clTo lB lH lV lD q n).2.1 r (clTo lB lH lV lD q n).2.2) := by
  have HIN := Lib.hid hin; clear hin
  have HR := Lib.hid hr; have HB8 := Lib.hid hB; clear hr hB
  obtain ⟨w1, hw1⟩ : ∃ w1, w1 = (w.alloc (.cells #[.int .i64 (slots : Nat), .slice aB nB cB, .slice aH n cH, .slice aV n cV, .slice aD n cD, .int .i64 r, .int .i64 q] 32)).alloc (.cells #[.int .i64 0, .slice none 0 0, .slice none 0 0, .slice none 0 0, .slice none 0 0, .int .i64 0, .int .i64 0] 32) := ⟨_, rfl⟩
  have hd1 := DB.start (slots := slots) w HIN.out
  rw [← hw1] at hd1
  have HD1 := Lib.hid hd1; have HW1 := Lib.hid hw1
  clear hd1 hw1
  go_enter Tryd.func12, Tryd.ntmps12
  go_upto_region 1 with fail
  rw [← HW1.out]
  obtain ⟨x0, x1, x2, x3, x4, x5, x6, f0, f1, f2, f3, f4, f5, f6⟩ := HD1.out.cells
  obtain ⟨y0, y1, y2, y3, y4, y5, y6, g0, g1, g2, g3, g4, g5, g6⟩ := HD1.out.rcells
  clear x0 x1 x2 x3 x4 x5 x6 f0 f1 f2 f3 f4 f5 f6 y0 y1 y2 y3 y4 y5 y6 g0 g1 g2 g3 g4 g5 g6
  skip
  go_wp2
  go_loopw [3] (fun i wr => KFlRel w slots nB n lB lH lV lD r q i wr) (fun i _ => n - (intOf i).toNat)
  case atStart => exact ⟨0, _, _, _, _, _, _, _, _, Nat.zero_le _, rfl, HD1.out⟩
  case round =>
    obtain ⟨k, aB, aH, aV, aD, cB, cH, cV, cD, hk, rfl, hdk⟩ := hrel
    have hqq := clTo_q lB lH lV lD q k
    obtain ⟨q', hq'⟩ : ∃ q', q' = (clTo lB lH lV lD q k).2.2 := ⟨_, rfl⟩
    rw [← hq'] at hdk hqq
    have HD := Lib.hid hdk; have HQ := Lib.hid hq'
    clear hdk hq'
    obtain ⟨x0, x1, x2, x3, x4, x5, x6, f0, f1, f2, f3, f4, f5, f6⟩ := HD.out.cells
    by_cases hlt : k < n
    · have hki : (k : Int) < (n : Int) := by omega
      go_wp2_with fail
      refine (kClean slots nB n aB aH aV aD cB cH cV cD _ lH lV _ r q' k hlt hn HB8.out HR.out (by omega) (by omega) _ HD.out.inn).mono ?_
      rintro e w2 ⟨aB2, aH2, aV2, aD2, cB2, cH2, cV2, cD2, rfl, hin2, hb2⟩
      have HD2 := Lib.hid (HD.out.below hb2); have HIN2 := Lib.hid hin2
      clear x0 x1 x2 x3 x4 x5 x6 f0 f1 f2 f3 f4 f5 f6 hin2 hb2
      obtain ⟨x0, x1, x2, x3, x4, x5, x6, f0, f1, f2, f3, f4, f5, f6⟩ := HD2.out.cells
      go_wp2
      go_roundw
      case rel =>
        have hqe := HQ.out
        subst hqe
        exact ⟨k + 1, _, _, _, _, _, _, _, _, hlt, by simp, HD2.out.setAll HIN2.out⟩
      case measure => simp [intOf]; omega
    · obtain rfl : k = n := by omega
      obtain ⟨y0, y1, y2, y3, y4, y5, y6, g0, g1, g2, g3, g4, g5, g6⟩ := HD.out.rcells
      go_wp2
      (try simp only [Exit.inBlock, Exit.then])
      refine bodyPost_ret (results_cell1 rfl _ _ (w.heap.size + 1) 32 _ _ rfl (blk7 HD.out.res _ _ _ _ _ _ _) Tryd.underlying32 rfl info_disk) rfl ?_
      have hd := fun v0 v1 v2 v3 v4 v5 v6 => HD.out.done v0 v1 v2 v3 v4 v5 v6
      rw [← HQ.out]
      exact ⟨_, _, _, _, _, _, _, _, rfl, (hd _ _ _ _ _ _ _).1, (hd _ _ _ _ _ _ _).2⟩
set_option maxHeartbeats 4000000 in
set_option maxRecDepth 100000 in
theorem kUseHr (slots nB n : Nat) (aB aH aV aD : Option Addr) (cB cH cV cD : Nat) (lB lH lV lD : List Int) (r q : Int) (k : Nat) (i : Nat) (hi : i < n) (hn : n ≤ 8) (hB : nB = 8) (hk : k < nB) (hr : ∀ y ∈ lH, 0 ≤ y ∧ y ≤ 7) (hr0 : 0 ≤ r) (hr1 : r ≤ 1000000) (hq0 : 0 ≤ q) (hq1 : q ≤ 1000000) (hpl : plOf lH k = (i : Nat)) (w : World) (hin : DIn w aB aH aV aD nB n n n cB cH cV cD lB lH lV lD r q) :
    Calls Tryd.prog 8 #[.agg #[.int .i64 (slots : Nat), .slice aB nB cB, .slice aH n cH, .slice aV n cV, .slice aD n cD, .int .i64 r, .int .i64 q], .int .i64 k, .int .i64 (-1)] w (DPost2 w slots nB (n - 1 + 1) (n - 1 + 1) (n - 1 + 1) lB ((k : Int) :: lH.eraseIdx i) (lV.getD i 0 :: lV.eraseIdx i) (lD.getD i 0 :: lD.eraseIdx i) r q (lV.getD i 0)) := by
  have HIN := Lib.hid hin; clear hin
  have HPL := Lib.hid hpl; have HB8 := Lib.hid hB; have HR := Lib.hid hr
  clear hpl hB hr
  have hdl := HIN.out.dl; have hvl := HIN.out.vl
  have hiD : i < lD.length := by omega
  have hiV : i < lV.length := by omega
  clear hdl hvl
  have hi0 : (0 : Int) ≤ (i : Int) := by omega
  have hin : (i : Int) < (n : Int) := by omega
  obtain ⟨w1, hw1⟩ : ∃ w1, w1 = (w.alloc (.cells #[.int .i64 (slots : Nat), .slice aB nB cB, .slice aH n cH, .slice aV n cV, .slice aD n cD, .int .i64 r, .int .i64 q] 32)).alloc (.cells #[.int .i64 0, .slice none 0 0, .slice none 0 0, .slice none 0 0, .slice none 0 0, .int .i64 0, .int .i64 0] 32) := ⟨_, rfl⟩
  have hd1 := DB.start (slots := slots) w HIN.out
  rw [← hw1] at hd1
  have HD1 := Lib.hid hd1; have HW1 := Lib.hid hw1
  clear hd1 hw1
  go_enter Tryd.func8, Tryd.ntmps8
  go_upto_region 1 with fail
  rw [← HW1.out]
  obtain ⟨x0, x1, x2, x3, x4, x5, x6, f0, f1, f2, f3, f4, f5, f6⟩ := HD1.out.cells
  obtain ⟨y0, y1, y2, y3, y4, y5, y6, g0, g1, g2, g3, g4, g5, g6⟩ := HD1.out.rcells
  go_wp2_with fail
  refine (rPlace aH n cH _ lH k _ HIN.out.hl (own_in HD1.out.inn.H) (by omega)).mono ?_
  rintro e w' ⟨rfl, rfl⟩
  rw [HPL.out]
  obtain ⟨gV, rfl, hcV⟩ := own_cell HD1.out.inn.V hiV
  obtain ⟨gD, rfl, hcD⟩ := own_cell HD1.out.inn.D hiD
  obtain ⟨v0, hv0⟩ : ∃ v0, v0 = lV.getD i 0 := ⟨_, rfl⟩
  obtain ⟨d0, hd0⟩ : ∃ d0, d0 = lD.getD i 0 := ⟨_, rfl⟩
  rw [← hv0] at hcV
  rw [← hd0] at hcD
  have HV0 := Lib.hid hv0; have HD0 := Lib.hid hd0
  clear hv0 hd0
  go_wp2_with fail
  refine (drop_s aH cH n i (lH) _ HD1.out.inn.H HD1.out.inn.hl hi (by omega)).mono ?_
  rintro e w2 ⟨a2, c2, rfl, ho2, hn2, hb2⟩
  have HD2 := Lib.hid (HD1.out.below hb2)
  have HO2 := Lib.hid ho2; have HN2 := Lib.hid hn2
  clear x0 x1 x2 x3 x4 x5 x6 f0 f1 f2 f3 f4 f5 f6 y0 y1 y2 y3 y4 y5 y6 g0 g1 g2 g3 g4 g5 g6
  clear ho2 hn2 hb2
  obtain ⟨x0, x1, x2, x3, x4, x5, x6, f0, f1, f2, f3, f4, f5, f6⟩ := HD2.out.cells
  obtain ⟨y0, y1, y2, y3, y4, y5, y6, g0, g1, g2, g3, g4, g5, g6⟩ := HD2.out.rcells
  go_wp2_with fail
  clear x0 x1 x2 x3 x4 x5 x6 f0 f1 f2 f3 f4 f5 f6 y0 y1 y2 y3 y4 y5 y6 g0 g1 g2 g3 g4 g5 g6
  obtain ⟨w3, hw3⟩ : ∃ w', w' = (w2.setCell ⟨w.heap.size, 2, none⟩ (.slice a2 (n - 1) c2)) := ⟨_, rfl⟩
  rw [show (w2.setCell ⟨w.heap.size, 2, none⟩ (.slice a2 (n - 1) c2)) = w3 from hw3.symm]
  have hd3 := (HD2.out.setH HO2.out HN2.out)
  rw [← hw3] at hd3
  have HD3 := Lib.hid hd3
  clear hd3 hw3
  refine (drop_s (some ⟨gV, 0, none⟩) cV n i (lV) _ HD3.out.inn.V HD3.out.inn.vl hi (by omega)).mono ?_
  rintro e w4 ⟨a4, c4, rfl, ho4, hn4, hb4⟩
  have HD4 := Lib.hid (HD3.out.below hb4)
  have HO4 := Lib.hid ho4; have HN4 := Lib.hid hn4
  clear ho4 hn4 hb4
  obtain ⟨x0, x1, x2, x3, x4, x5, x6, f0, f1, f2, f3, f4, f5, f6⟩ := HD4.out.cells
  obtain ⟨y0, y1, y2, y3, y4, y5, y6, g0, g1, g2, g3, g4, g5, g6⟩ := HD4.out.rcells
  go_wp2_with fail
  clear x0 x1 x2 x3 x4 x5 x6 f0 f1 f2 f3 f4 f5 f6 y0 y1 y2 y3 y4 y5 y6 g0 g1 g2 g3 g4 g5 g6
  obtain ⟨w5, hw5⟩ : ∃ w', w' = (w4.setCell ⟨w.heap.size, 3, none⟩ (.slice a4 (n - 1) c4)) := ⟨_, rfl⟩
  rw [show (w4.setCell ⟨w.heap.size, 3, none⟩ (.slice a4 (n - 1) c4)) = w5 from hw5.symm]
  have hd5 := (HD4.out.setV HO4.out HN4.out)
  rw [← hw5] at hd5
  have HD5 := Lib.hid hd5
  clear hd5 hw5
  refine (drop_s (some ⟨gD, 0, none⟩) cD n i (lD) _ HD5.out.inn.D HD5.out.inn.dl hi (by omega)).mono ?_
  rintro e w6 ⟨a6, c6, rfl, ho6, hn6, hb6⟩
  have HD6 := Lib.hid (HD5.out.below hb6)
  have HO6 := Lib.hid ho6; have HN6 := Lib.hid hn6
  clear ho6 hn6 hb6
  obtain ⟨x0, x1, x2, x3, x4, x5, x6, f0, f1, f2, f3, f4, f5, f6⟩ := HD6.out.cells
  obtain ⟨y0, y1, y2, y3, y4, y5, y6, g0, g1, g2, g3, g4, g5, g6⟩ := HD6.out.rcells
  go_wp2_with fail
  clear x0 x1 x2 x3 x4 x5 x6 f0 f1 f2 f3 f4 f5 f6 y0 y1 y2 y3 y4 y5 y6 g0 g1 g2 g3 g4 g5 g6
  obtain ⟨w7, hw7⟩ : ∃ w', w' = (w6.setCell ⟨w.heap.size, 4, none⟩ (.slice a6 (n - 1) c6)) := ⟨_, rfl⟩
  rw [show (w6.setCell ⟨w.heap.size, 4, none⟩ (.slice a6 (n - 1) c6)) = w7 from hw7.symm]
  have hd7 := (HD6.out.setD HO6.out HN6.out)
  rw [← hw7] at hd7
  have HD7 := Lib.hid hd7
  clear hd7 hw7
  refine (put_s a2 c2 (n - 1) (k : Int) ((lH).eraseIdx i) _ HD7.out.inn.H HD7.out.inn.hl (by omega)).mono ?_
  rintro e w8 ⟨a8, c8, rfl, ho8, hn8, hb8⟩
  have HD8 := Lib.hid (HD7.out.below hb8)
  have HO8 := Lib.hid ho8; have HN8 := Lib.hid hn8
  clear ho8 hn8 hb8
  obtain ⟨x0, x1, x2, x3, x4, x5, x6, f0, f1, f2, f3, f4, f5, f6⟩ := HD8.out.cells
  obtain ⟨y0, y1, y2, y3, y4, y5, y6, g0, g1, g2, g3, g4, g5, g6⟩ := HD8.out.rcells
  go_wp2_with fail
  clear x0 x1 x2 x3 x4 x5 x6 f0 f1 f2 f3 f4 f5 f6 y0 y1 y2 y3 y4 y5 y6 g0 g1 g2 g3 g4 g5 g6
  obtain ⟨w9, hw9⟩ : ∃ w', w' = (w8.setCell ⟨w.heap.size, 2, none⟩ (.slice a8 ((n - 1) + 1) c8)) := ⟨_, rfl⟩
  rw [show (w8.setCell ⟨w.heap.size, 2, none⟩ (.slice a8 ((n - 1) + 1) c8)) = w9 from hw9.symm]
  have hd9 := (HD8.out.setH HO8.out HN8.out)
  rw [← hw9] at hd9
  have HD9 := Lib.hid hd9
  clear hd9 hw9
  refine (put_s a4 c4 (n - 1) v0 ((lV).eraseIdx i) _ HD9.out.inn.V HD9.out.inn.vl (by omega)).mono ?_
  rintro e w10 ⟨a10, c10, rfl, ho10, hn10, hb10⟩
  have HD10 := Lib.hid (HD9.out.below hb10)
  have HO10 := Lib.hid ho10; have HN10 := Lib.hid hn10
  clear ho10 hn10 hb10
  obtain ⟨x0, x1, x2, x3, x4, x5, x6, f0, f1, f2, f3, f4, f5, f6⟩ := HD10.out.cells
  obtain ⟨y0, y1, y2, y3, y4, y5, y6, g0, g1, g2, g3, g4, g5, g6⟩ := HD10.out.rcells
  go_wp2_with fail
  clear x0 x1 x2 x3 x4 x5 x6 f0 f1 f2 f3 f4 f5 f6 y0 y1 y2 y3 y4 y5 y6 g0 g1 g2 g3 g4 g5 g6
  obtain ⟨w11, hw11⟩ : ∃ w', w' = (w10.setCell ⟨w.heap.size, 3, none⟩ (.slice a10 ((n - 1) + 1) c10)) := ⟨_, rfl⟩
  rw [show (w10.setCell ⟨w.heap.size, 3, none⟩ (.slice a10 ((n - 1) + 1) c10)) = w11 from hw11.symm]
  have hd11 := (HD10.out.setV HO10.out HN10.out)
  rw [← hw11] at hd11
  have HD11 := Lib.hid hd11
  clear hd11 hw11
  refine (put_s a6 c6 (n - 1) d0 ((lD).eraseIdx i) _ HD11.out.inn.D HD11.out.inn.dl (by omega)).mono ?_
  rintro e w12 ⟨a12, c12, rfl, ho12, hn12, hb12⟩
  have HD12 := Lib.hid (HD11.out.below hb12)
  have HO12 := Lib.hid ho12; have HN12 := Lib.hid hn12
  clear ho12 hn12 hb12
  obtain ⟨x0, x1, x2, x3, x4, x5, x6, f0, f1, f2, f3, f4, f5, f6⟩ := HD12.out.cells
  obtain ⟨y0, y1, y2, y3, y4, y5, y6, g0, g1, g2, g3, g4, g5, g6⟩ := HD12.out.rcells
  go_wp2
  have HDE := Lib.hid (HD12.out.setD HO12.out HN12.out)
  (try simp only [Exit.inBlock, Exit.then])
  refine bodyPost_ret (results_cell2 rfl _ _ (w.heap.size + 1) 32 _ _ rfl (blk7 HDE.out.res _ _ _ _ _ _ _) Tryd.underlying32 rfl info_disk) rfl ?_
  have hd := fun v0 v1 v2 v3 v4 v5 v6 => HDE.out.done v0 v1 v2 v3 v4 v5 v6
  rw [← HV0.out, ← HD0.out]
  exact ⟨_, _, _, _, _, _, _, _, rfl, (hd _ _ _ _ _ _ _).1, (hd _ _ _ _ _ _ _).2⟩
set_option maxHeartbeats 4000000 in
set_option maxRecDepth 100000 in
theorem kUseHw (slots nB n : Nat) (aB aH aV aD : Option Addr) (cB cH cV cD : Nat) (lB lH lV lD : List Int) (r q : Int) (k : Nat) (x : Int) (hx : 0 ≤ x) (i : Nat) (hi : i < n) (hn : n ≤ 8) (hB : nB = 8) (hk : k < nB) (hr : ∀ y ∈ lH, 0 ≤ y ∧ y ≤ 7) (hr0 : 0 ≤ r) (hr1 : r ≤ 1000000) (hq0 : 0 ≤ q) (hq1 : q ≤ 1000000) (hpl : plOf lH k = (i : Nat)) (w : World) (hin : DIn w aB aH aV aD nB n n n cB cH cV cD lB lH lV lD r q) :
    Calls Tryd.prog 8 #[.agg #[.int .i64 (slots : Nat), .slice aB nB cB, .slice aH n cH, .slice aV n cV, .slice aD n cD, .int .i64 r, .int .i64 q], .int .i64 k, .int .i64 x] w (DPost2 w slots nB (n - 1 + 1) (n - 1 + 1) (n - 1 + 1) lB ((k : Int) :: lH.eraseIdx i) (x :: lV.eraseIdx i) (1 :: lD.eraseIdx i) r q (x)) := by
  have HIN := Lib.hid hin; clear hin
  have HPL := Lib.hid hpl; have HB8 := Lib.hid hB; have HR := Lib.hid hr
  clear hpl hB hr
  have hdl := HIN.out.dl; have hvl := HIN.out.vl
  have hiD : i < lD.length := by omega
  have hiV : i < lV.length := by omega
  clear hdl hvl
  have hi0 : (0 : Int) ≤ (i : Int) := by omega
  have hin : (i : Int) < (n : Int) := by omega
  obtain ⟨w1, hw1⟩ : ∃ w1, w1 = (w.alloc (.cells #[.int .i64 (slots : Nat), .slice aB nB cB, .slice aH n cH, .slice aV n cV, .slice aD n cD, .int .i64 r, .int .i64 q] 32)).alloc (.cells #[.int .i64 0, .slice none 0 0, .slice none 0 0, .slice none 0 0, .slice none 0 0, .int .i64 0, .int .i64 0] 32) := ⟨_, rfl⟩
  have hd1 := DB.start (slots := slots) w HIN.out
  rw [← hw1] at hd1
  have HD1 := Lib.hid hd1; have HW1 := Lib.hid hw1
  clear hd1 hw1
  go_enter Tryd.func8, Tryd.ntmps8
  go_upto_region 1 with fail
  rw [← HW1.out]
  obtain ⟨x0, x1, x2, x3, x4, x5, x6, f0, f1, f2, f3, f4, f5, f6⟩ := HD1.out.cells
  obtain ⟨y0, y1, y2, y3, y4, y5, y6, g0, g1, g2, g3, g4, g5, g6⟩ := HD1.out.rcells
  go_wp2_with fail
  refine (rPlace aH n cH _ lH k _ HIN.out.hl (own_in HD1.out.inn.H) (by omega)).mono ?_
  rintro e w' ⟨rfl, rfl⟩
  rw [HPL.out]
  obtain ⟨gV, rfl, hcV⟩ := own_cell HD1.out.inn.V hiV
  obtain ⟨gD, rfl, hcD⟩ := own_cell HD1.out.inn.D hiD
  obtain ⟨v0, hv0⟩ : ∃ v0, v0 = lV.getD i 0 := ⟨_, rfl⟩
  obtain ⟨d0, hd0⟩ : ∃ d0, d0 = lD.getD i 0 := ⟨_, rfl⟩
  rw [← hv0] at hcV
  rw [← hd0] at hcD
  have HV0 := Lib.hid hv0; have HD0 := Lib.hid hd0
  clear hv0 hd0
  go_wp2_with fail
  refine (drop_s aH cH n i (lH) _ HD1.out.inn.H HD1.out.inn.hl hi (by omega)).mono ?_
  rintro e w2 ⟨a2, c2, rfl, ho2, hn2, hb2⟩
  have HD2 := Lib.hid (HD1.out.below hb2)
  have HO2 := Lib.hid ho2; have HN2 := Lib.hid hn2
  clear x0 x1 x2 x3 x4 x5 x6 f0 f1 f2 f3 f4 f5 f6 y0 y1 y2 y3 y4 y5 y6 g0 g1 g2 g3 g4 g5 g6
  clear ho2 hn2 hb2
  obtain ⟨x0, x1, x2, x3, x4, x5, x6, f0, f1, f2, f3, f4, f5, f6⟩ := HD2.out.cells
  obtain ⟨y0, y1, y2, y3, y4, y5, y6, g0, g1, g2, g3, g4, g5, g6⟩ := HD2.out.rcells
  go_wp2_with fail
  clear x0 x1 x2 x3 x4 x5 x6 f0 f1 f2 f3 f4 f5 f6 y0 y1 y2 y3 y4 y5 y6 g0 g1 g2 g3 g4 g5 g6
  obtain ⟨w3, hw3⟩ : ∃ w', w' = (w2.setCell ⟨w.heap.size, 2, none⟩ (.slice a2 (n - 1) c2)) := ⟨_, rfl⟩
  rw [show (w2.setCell ⟨w.heap.size, 2, none⟩ (.slice a2 (n - 1) c2)) = w3 from hw3.symm]
  have hd3 := (HD2.out.setH HO2.out HN2.out)
  rw [← hw3] at hd3
  have HD3 := Lib.hid hd3
  clear hd3 hw3
  refine (drop_s (some ⟨gV, 0, none⟩) cV n i (lV) _ HD3.out.inn.V HD3.out.inn.vl hi (by omega)).mono ?_
  rintro e w4 ⟨a4, c4, rfl, ho4, hn4, hb4⟩
  have HD4 := Lib.hid (HD3.out.below hb4)
  have HO4 := Lib.hid ho4; have HN4 := Lib.hid hn4
  clear ho4 hn4 hb4
  obtain ⟨x0, x1, x2, x3, x4, x5, x6, f0, f1, f2, f3, f4, f5, f6⟩ := HD4.out.cells
  obtain ⟨y0, y1, y2, y3, y4, y5, y6, g0, g1, g2, g3, g4, g5, g6⟩ := HD4.out.rcells
  go_wp2_with fail
  clear x0 x1 x2 x3 x4 x5 x6 f0 f1 f2 f3 f4 f5 f6 y0 y1 y2 y3 y4 y5 y6 g0 g1 g2 g3 g4 g5 g6
  obtain ⟨w5, hw5⟩ : ∃ w', w' = (w4.setCell ⟨w.heap.size, 3, none⟩ (.slice a4 (n - 1) c4)) := ⟨_, rfl⟩
  rw [show (w4.setCell ⟨w.heap.size, 3, none⟩ (.slice a4 (n - 1) c4)) = w5 from hw5.symm]
  have hd5 := (HD4.out.setV HO4.out HN4.out)
  rw [← hw5] at hd5
  have HD5 := Lib.hid hd5
  clear hd5 hw5
  refine (drop_s (some ⟨gD, 0, none⟩) cD n i (lD) _ HD5.out.inn.D HD5.out.inn.dl hi (by omega)).mono ?_
  rintro e w6 ⟨a6, c6, rfl, ho6, hn6, hb6⟩
  have HD6 := Lib.hid (HD5.out.below hb6)
  have HO6 := Lib.hid ho6; have HN6 := Lib.hid hn6
  clear ho6 hn6 hb6
  obtain ⟨x0, x1, x2, x3, x4, x5, x6, f0, f1, f2, f3, f4, f5, f6⟩ := HD6.out.cells
  obtain ⟨y0, y1, y2, y3, y4, y5, y6, g0, g1, g2, g3, g4, g5, g6⟩ := HD6.out.rcells
  go_wp2_with fail
  clear x0 x1 x2 x3 x4 x5 x6 f0 f1 f2 f3 f4 f5 f6 y0 y1 y2 y3 y4 y5 y6 g0 g1 g2 g3 g4 g5 g6
  obtain ⟨w7, hw7⟩ : ∃ w', w' = (w6.setCell ⟨w.heap.size, 4, none⟩ (.slice a6 (n - 1) c6)) := ⟨_, rfl⟩
  rw [show (w6.setCell ⟨w.heap.size, 4, none⟩ (.slice a6 (n - 1) c6)) = w7 from hw7.symm]
  have hd7 := (HD6.out.setD HO6.out HN6.out)
  rw [← hw7] at hd7
  have HD7 := Lib.hid hd7
  clear hd7 hw7
  refine (put_s a2 c2 (n - 1) (k : Int) ((lH).eraseIdx i) _ HD7.out.inn.H HD7.out.inn.hl (by omega)).mono ?_
  rintro e w8 ⟨a8, c8, rfl, ho8, hn8, hb8⟩
  have HD8 := Lib.hid (HD7.out.below hb8)
  have HO8 := Lib.hid ho8; have HN8 := Lib.hid hn8
  clear ho8 hn8 hb8
  obtain ⟨x0, x1, x2, x3, x4, x5, x6, f0, f1, f2, f3, f4, f5, f6⟩ := HD8.out.cells
  obtain ⟨y0, y1, y2, y3, y4, y5, y6, g0, g1, g2, g3, g4, g5, g6⟩ := HD8.out.rcells
  go_wp2_with fail
  clear x0 x1 x2 x3 x4 x5 x6 f0 f1 f2 f3 f4 f5 f6 y0 y1 y2 y3 y4 y5 y6 g0 g1 g2 g3 g4 g5 g6
  obtain ⟨w9, hw9⟩ : ∃ w', w' = (w8.setCell ⟨w.heap.size, 2, none⟩ (.slice a8 ((n - 1) + 1) c8)) := ⟨_, rfl⟩
  rw [show (w8.setCell ⟨w.heap.size, 2, none⟩ (.slice a8 ((n - 1) + 1) c8)) = w9 from hw9.symm]
  have hd9 := (HD8.out.setH HO8.out HN8.out)
  rw [← hw9] at hd9
  have HD9 := Lib.hid hd9
  clear hd9 hw9
  refine (put_s a4 c4 (n - 1) x ((lV).eraseIdx i) _ HD9.out.inn.V HD9.out.inn.vl (by omega)).mono ?_
  rintro e w10 ⟨a10, c10, rfl, ho10, hn10, hb10⟩
  have HD10 := Lib.hid (HD9.out.below hb10)
  have HO10 := Lib.hid ho10; have HN10 := Lib.hid hn10
  clear ho10 hn10 hb10
  obtain ⟨x0, x1, x2, x3, x4, x5, x6, f0, f1, f2, f3, f4, f5, f6⟩ := HD10.out.cells
  obtain ⟨y0, y1, y2, y3, y4, y5, y6, g0, g1, g2, g3, g4, g5, g6⟩ := HD10.out.rcells
  go_wp2_with fail
  clear x0 x1 x2 x3 x4 x5 x6 f0 f1 f2 f3 f4 f5 f6 y0 y1 y2 y3 y4 y5 y6 g0 g1 g2 g3 g4 g5 g6
  obtain ⟨w11, hw11⟩ : ∃ w', w' = (w10.setCell ⟨w.heap.size, 3, none⟩ (.slice a10 ((n - 1) + 1) c10)) := ⟨_, rfl⟩
  rw [show (w10.setCell ⟨w.heap.size, 3, none⟩ (.slice a10 ((n - 1) + 1) c10)) = w11 from hw11.symm]
  have hd11 := (HD10.out.setV HO10.out HN10.out)
  rw [← hw11] at hd11
  have HD11 := Lib.hid hd11
  clear hd11 hw11
  refine (put_s a6 c6 (n - 1) 1 ((lD).eraseIdx i) _ HD11.out.inn.D HD11.out.inn.dl (by omega)).mono ?_
  rintro e w12 ⟨a12, c12, rfl, ho12, hn12, hb12⟩
  have HD12 := Lib.hid (HD11.out.below hb12)
  have HO12 := Lib.hid ho12; have HN12 := Lib.hid hn12
  clear ho12 hn12 hb12
  obtain ⟨x0, x1, x2, x3, x4, x5, x6, f0, f1, f2, f3, f4, f5, f6⟩ := HD12.out.cells
  obtain ⟨y0, y1, y2, y3, y4, y5, y6, g0, g1, g2, g3, g4, g5, g6⟩ := HD12.out.rcells
  go_wp2
  have HDE := Lib.hid (HD12.out.setD HO12.out HN12.out)
  (try simp only [Exit.inBlock, Exit.then])
  refine bodyPost_ret (results_cell2 rfl _ _ (w.heap.size + 1) 32 _ _ rfl (blk7 HDE.out.res _ _ _ _ _ _ _) Tryd.underlying32 rfl info_disk) rfl ?_
  have hd := fun v0 v1 v2 v3 v4 v5 v6 => HDE.out.done v0 v1 v2 v3 v4 v5 v6
  exact ⟨_, _, _, _, _, _, _, _, rfl, (hd _ _ _ _ _ _ _).1, (hd _ _ _ _ _ _ _).2⟩
set_option maxHeartbeats 4000000 in
set_option maxRecDepth 100000 in
theorem kUseMr (slots nB n : Nat) (aB aH aV aD : Option Addr) (cB cH cV cD : Nat) (lB lH lV lD : List Int) (r q : Int) (k : Nat) (hn : n ≤ 8) (hB : nB = 8) (hk : k < nB) (hr : ∀ y ∈ lH, 0 ≤ y ∧ y ≤ 7) (hr0 : 0 ≤ r) (hr1 : r ≤ 1000000) (hq0 : 0 ≤ q) (hq1 : q ≤ 1000000) (hpl : plOf lH k = -1) (hns : n ≠ slots) (w : World) (hin : DIn w aB aH aV aD nB n n n cB cH cV cD lB lH lV lD r q) :
    Calls Tryd.prog 8 #[.agg #[.int .i64 (slots : Nat), .slice aB nB cB, .slice aH n cH, .slice aV n cV, .slice aD n cD, .int .i64 r, .int .i64 q], .int .i64 k, .int .i64 (-1)] w (DPost2 w slots nB (n + 1) (n + 1) (n + 1) lB ((k : Int) :: lH) (lB.getD k 0 :: lV) (0 :: lD) (r + 1) q (lB.getD k 0)) := by
  have HIN := Lib.hid hin; clear hin
  have HPL := Lib.hid hpl; have HB8 := Lib.hid hB; have HR := Lib.hid hr
  clear hpl hB hr
  have hk0 : (0 : Int) ≤ (k : Int) := by omega
  have hk8 : (k : Int) < (nB : Int) := by omega
  have hbl := HIN.out.bl
  have hkB : k < lB.length := by omega
  clear hbl
  have hne : ((n : Int) == (slots : Int)) = false := beq_eq_false_iff_ne.2 (by omega)
  obtain ⟨w1, hw1⟩ : ∃ w1, w1 = (w.alloc (.cells #[.int .i64 (slots : Nat), .slice aB nB cB, .slice aH n cH, .slice aV n cV, .slice aD n cD, .int .i64 r, .int .i64 q] 32)).alloc (.cells #[.int .i64 0, .slice none 0 0, .slice none 0 0, .slice none 0 0, .slice none 0 0, .int .i64 0, .int .i64 0] 32) := ⟨_, rfl⟩
  have hd1 := DB.start (slots := slots) w HIN.out
  rw [← hw1] at hd1
  have HD1 := Lib.hid hd1; have HW1 := Lib.hid hw1
  clear hd1 hw1
  go_enter Tryd.func8, Tryd.ntmps8
  go_upto_region 1 with fail
  rw [← HW1.out]
  obtain ⟨x0, x1, x2, x3, x4, x5, x6, f0, f1, f2, f3, f4, f5, f6⟩ := HD1.out.cells
  obtain ⟨y0, y1, y2, y3, y4, y5, y6, g0, g1, g2, g3, g4, g5, g6⟩ := HD1.out.rcells
  go_wp2_with fail
  refine (rPlace aH n cH _ lH k _ HIN.out.hl (own_in HD1.out.inn.H) (by omega)).mono ?_
  rintro e w' ⟨rfl, rfl⟩
  rw [HPL.out]
  obtain ⟨gB, rfl, hcB⟩ := own_cell HD1.out.inn.B hkB
  obtain ⟨v0, hv0⟩ : ∃ v0, v0 = lB.getD k 0 := ⟨_, rfl⟩
  rw [← hv0] at hcB
  have HV0 := Lib.hid hv0
  have hinc : IntKind.i64.wrap (r + 1) = r + 1 := IntWalk.i64_in _ (by omega)
  clear hv0
  go_wp2_with fail
  clear x0 x1 x2 x3 x4 x5 x6 f0 f1 f2 f3 f4 f5 f6 y0 y1 y2 y3 y4 y5 y6 g0 g1 g2 g3 g4 g5 g6
  obtain ⟨w2, hw2⟩ : ∃ w', w' = (w1.setCell ⟨w.heap.size, 5, none⟩ (.int .i64 (r + 1))) := ⟨_, rfl⟩
  rw [show (w1.setCell ⟨w.heap.size, 5, none⟩ (.int .i64 (r + 1))) = w2 from hw2.symm]
  have hd2 := (HD1.out.setR (r + 1))
  rw [← hw2] at hd2
  have HD2 := Lib.hid hd2
  clear hd2 hw2
  refine (put_s aH cH n (k : Int) (lH) _ HD2.out.inn.H HD2.out.inn.hl (by omega)).mono ?_
  rintro e w3 ⟨a3, c3, rfl, ho3, hn3, hb3⟩
  have HD3 := Lib.hid (HD2.out.below hb3)
  have HO3 := Lib.hid ho3; have HN3 := Lib.hid hn3
  clear ho3 hn3 hb3
  obtain ⟨x0, x1, x2, x3, x4, x5, x6, f0, f1, f2, f3, f4, f5, f6⟩ := HD3.out.cells
  obtain ⟨y0, y1, y2, y3, y4, y5, y6, g0, g1, g2, g3, g4, g5, g6⟩ := HD3.out.rcells
  go_wp2_with fail
  clear x0 x1 x2 x3 x4 x5 x6 f0 f1 f2 f3 f4 f5 f6 y0 y1 y2 y3 y4 y5 y6 g0 g1 g2 g3 g4 g5 g6
  obtain ⟨w4, hw4⟩ : ∃ w', w' = (w3.setCell ⟨w.heap.size, 2, none⟩ (.slice a3 (n + 1) c3)) := ⟨_, rfl⟩
  rw [show (w3.setCell ⟨w.heap.size, 2, none⟩ (.slice a3 (n + 1) c3)) = w4 from hw4.symm]
  have hd4 := (HD3.out.setH HO3.out HN3.out)
  rw [← hw4] at hd4
  have HD4 := Lib.hid hd4
  clear hd4 hw4
  refine (put_s aV cV n v0 (lV) _ HD4.out.inn.V HD4.out.inn.vl (by omega)).mono ?_
  rintro e w5 ⟨a5, c5, rfl, ho5, hn5, hb5⟩
  have HD5 := Lib.hid (HD4.out.below hb5)
  have HO5 := Lib.hid ho5; have HN5 := Lib.hid hn5
  clear ho5 hn5 hb5
  obtain ⟨x0, x1, x2, x3, x4, x5, x6, f0, f1, f2, f3, f4, f5, f6⟩ := HD5.out.cells
  obtain ⟨y0, y1, y2, y3, y4, y5, y6, g0, g1, g2, g3, g4, g5, g6⟩ := HD5.out.rcells
  go_wp2_with fail
  clear x0 x1 x2 x3 x4 x5 x6 f0 f1 f2 f3 f4 f5 f6 y0 y1 y2 y3 y4 y5 y6 g0 g1 g2 g3 g4 g5 g6
  obtain ⟨w6, hw6⟩ : ∃ w', w' = (w5.setCell ⟨w.heap.size, 3, none⟩ (.slice a5 (n + 1) c5)) := ⟨_, rfl⟩
  rw [show (w5.setCell ⟨w.heap.size, 3, none⟩ (.slice a5 (n + 1) c5)) = w6 from hw6.symm]
  have hd6 := (HD5.out.setV HO5.out HN5.out)
  rw [← hw6] at hd6
  have HD6 := Lib.hid hd6
  clear hd6 hw6
  refine (put_s aD cD n 0 (lD) _ HD6.out.inn.D HD6.out.inn.dl (by omega)).mono ?_
  rintro e w7 ⟨a7, c7, rfl, ho7, hn7, hb7⟩
  have HD7 := Lib.hid (HD6.out.below hb7)
  have HO7 := Lib.hid ho7; have HN7 := Lib.hid hn7
  clear ho7 hn7 hb7
  obtain ⟨x0, x1, x2, x3, x4, x5, x6, f0, f1, f2, f3, f4, f5, f6⟩ := HD7.out.cells
  obtain ⟨y0, y1, y2, y3, y4, y5, y6, g0, g1, g2, g3, g4, g5, g6⟩ := HD7.out.rcells
  go_wp2
  have HDE := Lib.hid (HD7.out.setD HO7.out HN7.out)
  (try simp only [Exit.inBlock, Exit.then])
  refine bodyPost_ret (results_cell2 rfl _ _ (w.heap.size + 1) 32 _ _ rfl (blk7 HDE.out.res _ _ _ _ _ _ _) Tryd.underlying32 rfl info_disk) rfl ?_
  have hd := fun v0 v1 v2 v3 v4 v5 v6 => HDE.out.done v0 v1 v2 v3 v4 v5 v6
  rw [← HV0.out]
  exact ⟨_, _, _, _, _, _, _, _, rfl, (hd _ _ _ _ _ _ _).1, (hd _ _ _ _ _ _ _).2⟩
set_option maxHeartbeats 4000000 in
set_option maxRecDepth 100000 in
theorem kUseMw (slots nB n : Nat) (aB aH aV aD : Option Addr) (cB cH cV cD : Nat) (lB lH lV lD : List Int) (r q : Int) (k : Nat) (x : Int) (hx : 0 ≤ x) (hn : n ≤ 8) (hB : nB = 8) (hk : k < nB) (hr : ∀ y ∈ lH, 0 ≤ y ∧ y ≤ 7) (hr0 : 0 ≤ r) (hr1 : r ≤ 1000000) (hq0 : 0 ≤ q) (hq1 : q ≤ 1000000) (hpl : plOf lH k = -1) (hns : n ≠ slots) (w : World) (hin : DIn w aB aH aV aD nB n n n cB cH cV cD lB lH lV lD r q) :
    Calls Tryd.prog 8 #[.agg #[.int .i64 (slots : Nat), .slice aB nB cB, .slice aH n cH, .slice aV n cV, .slice aD n cD, .int .i64 r, .int .i64 q], .int .i64 k, .int .i64 x] w (DPost2 w slots nB (n + 1) (n + 1) (n + 1) lB ((k : Int) :: lH) (x :: lV) (1 :: lD) r q (x)) := by
  have HIN := Lib.hid hin; clear hin
  have HPL := Lib.hid hpl; have HB8 := Lib.hid hB; have HR := Lib.hid hr
  clear hpl hB hr
  have hk0 : (0 : Int) ≤ (k : Int) := by omega
  have hk8 : (k : Int) < (nB : Int) := by omega
  have hbl := HIN.out.bl
  have hkB : k < lB.length := by omega
  clear hbl
  have hne : ((n : Int) == (slots : Int)) = false := beq_eq_false_iff_ne.2 (by omega)
  obtain ⟨w1, hw1⟩ : ∃ w1, w1 = (w.alloc (.cells #[.int .i64 (slots : Nat), .slice aB nB cB, .slice aH n cH, .slice aV n cV, .slice aD n cD, .int .i64 r, .int .i64 q] 32)).alloc (.cells #[.int .i64 0, .slice none 0 0, .slice none 0 0, .slice none 0 0, .slice none 0 0, .int .i64 0, .int .i64 0] 32) := ⟨_, rfl⟩
  have hd1 := DB.start (slots := slots) w HIN.out
  rw [← hw1] at hd1
  have HD1 := Lib.hid hd1; have HW1 := Lib.hid hw1
  clear hd1 hw1
  go_enter Tryd.func8, Tryd.ntmps8
  go_upto_region 1 with fail
  rw [← HW1.out]
  obtain ⟨x0, x1, x2, x3, x4, x5, x6, f0, f1, f2, f3, f4, f5, f6⟩ := HD1.out.cells
  obtain ⟨y0, y1, y2, y3, y4, y5, y6, g0, g1, g2, g3, g4, g5, g6⟩ := HD1.out.rcells
  go_wp2_with fail
  refine (rPlace aH n cH _ lH k _ HIN.out.hl (own_in HD1.out.inn.H) (by omega)).mono ?_
  rintro e w' ⟨rfl, rfl⟩
  rw [HPL.out]
  go_wp2_with fail
  refine (put_s aH cH n (k : Int) (lH) _ HD1.out.inn.H HD1.out.inn.hl (by omega)).mono ?_
  rintro e w2 ⟨a2, c2, rfl, ho2, hn2, hb2⟩
  have HD2 := Lib.hid (HD1.out.below hb2)
  have HO2 := Lib.hid ho2; have HN2 := Lib.hid hn2
  clear x0 x1 x2 x3 x4 x5 x6 f0 f1 f2 f3 f4 f5 f6 y0 y1 y2 y3 y4 y5 y6 g0 g1 g2 g3 g4 g5 g6
  clear ho2 hn2 hb2
  obtain ⟨x0, x1, x2, x3, x4, x5, x6, f0, f1, f2, f3, f4, f5, f6⟩ := HD2.out.cells
  obtain ⟨y0, y1, y2, y3, y4, y5, y6, g0, g1, g2, g3, g4, g5, g6⟩ := HD2.out.rcells
  go_wp2_with fail
  clear x0 x1 x2 x3 x4 x5 x6 f0 f1 f2 f3 f4 f5 f6 y0 y1 y2 y3 y4 y5 y6 g0 g1 g2 g3 g4 g5 g6
  obtain ⟨w3, hw3⟩ : ∃ w', w' = (w2.setCell ⟨w.heap.size, 2, none⟩ (.slice a2 (n + 1) c2)) := ⟨_, rfl⟩
  rw [show (w2.setCell ⟨w.heap.size, 2, none⟩ (.slice a2 (n + 1) c2)) = w3 from hw3.symm]
  have hd3 := (HD2.out.setH HO2.out HN2.out)
  rw [← hw3] at hd3
  have HD3 := Lib.hid hd3
  clear hd3 hw3
  refine (put_s aV cV n x (lV) _ HD3.out.inn.V HD3.out.inn.vl (by omega)).mono ?_
  rintro e w4 ⟨a4, c4, rfl, ho4, hn4, hb4⟩
  have HD4 := Lib.hid (HD3.out.below hb4)
  have HO4 := Lib.hid ho4; have HN4 := Lib.hid hn4
  clear ho4 hn4 hb4
  obtain ⟨x0, x1, x2, x3, x4, x5, x6, f0, f1, f2, f3, f4, f5, f6⟩ := HD4.out.cells
  obtain ⟨y0, y1, y2, y3, y4, y5, y6, g0, g1, g2, g3, g4, g5, g6⟩ := HD4.out.rcells
  go_wp2_with fail
  clear x0 x1 x2 x3 x4 x5 x6 f0 f1 f2 f3 f4 f5 f6 y0 y1 y2 y3 y4 y5 y6 g0 g1 g2 g3 g4 g5 g6
  obtain ⟨w5, hw5⟩ : ∃ w', w' = (w4.setCell ⟨w.heap.size, 3, none⟩ (.slice a4 (n + 1) c4)) := ⟨_, rfl⟩
  rw [show (w4.setCell ⟨w.heap.size, 3, none⟩ (.slice a4 (n + 1) c4)) = w5 from hw5.symm]
  have hd5 := (HD4.out.setV HO4.out HN4.out)
  rw [← hw5] at hd5
  have HD5 := Lib.hid hd5
  clear hd5 hw5
  refine (put_s aD cD n 1 (lD) _ HD5.out.inn.D HD5.out.inn.dl (by omega)).mono ?_
  rintro e w6 ⟨a6, c6, rfl, ho6, hn6, hb6⟩
  have HD6 := Lib.hid (HD5.out.below hb6)
  have HO6 := Lib.hid ho6; have HN6 := Lib.hid hn6
  clear ho6 hn6 hb6
  obtain ⟨x0, x1, x2, x3, x4, x5, x6, f0, f1, f2, f3, f4, f5, f6⟩ := HD6.out.cells
  obtain ⟨y0, y1, y2, y3, y4, y5, y6, g0, g1, g2, g3, g4, g5, g6⟩ := HD6.out.rcells
  go_wp2
  have HDE := Lib.hid (HD6.out.setD HO6.out HN6.out)
  (try simp only [Exit.inBlock, Exit.then])
  refine bodyPost_ret (results_cell2 rfl _ _ (w.heap.size + 1) 32 _ _ rfl (blk7 HDE.out.res _ _ _ _ _ _ _) Tryd.underlying32 rfl info_disk) rfl ?_
  have hd := fun v0 v1 v2 v3 v4 v5 v6 => HDE.out.done v0 v1 v2 v3 v4 v5 v6
  exact ⟨_, _, _, _, _, _, _, _, rfl, (hd _ _ _ _ _ _ _).1, (hd _ _ _ _ _ _ _).2⟩
set_option maxHeartbeats 4000000 in
set_option maxRecDepth 100000 in
theorem kUseMrf (nB n : Nat) (aB aH aV aD : Option Addr) (cB cH cV cD : Nat) (lB lH lV lD : List Int) (r q : Int) (k : Nat) (hn : n ≤ 8) (hB : nB = 8) (hk : k < nB) (hr : ∀ y ∈ lH, 0 ≤ y ∧ y ≤ 7) (hr0 : 0 ≤ r) (hr1 : r ≤ 1000000) (hq0 : 0 ≤ q) (hq1 : q ≤ 1000000) (hpl : plOf lH k = -1) (hnp : 0 < n) (w : World) (hin : DIn w aB aH aV aD nB n n n cB cH cV cD lB lH lV lD r q) :
    Calls Tryd.prog 8 #[.agg #[.int .i64 (n : Nat), .slice aB nB cB, .slice aH n cH, .slice aV n cV, .slice aD n cD, .int .i64 r, .int .i64 q], .int .i64 k, .int .i64 (-1)] w (DPost2 w n nB (n - 1 + 1) (n - 1 + 1) (n - 1 + 1) (clB lB lH lV lD (n - 1)) ((k : Int) :: lH.eraseIdx (n - 1)) (lB.getD k 0 :: lV.eraseIdx (n - 1)) (0 :: (clD lD (n - 1)).eraseIdx (n - 1)) (r + 1) (clQ lD q (n - 1)) (lB.getD k 0)) := by
  have HIN := Lib.hid hin; clear hin
  have HPL := Lib.hid hpl; have HB8 := Lib.hid hB; have HR := Lib.hid hr
  clear hpl hB hr
  have hk0 : (0 : Int) ≤ (k : Int) := by omega
  have hk8 : (k : Int) < (nB : Int) := by omega
  have hbl := HIN.out.bl
  have hkB : k < lB.length := by omega
  clear hbl
  obtain ⟨m, hm⟩ : ∃ m, m = n - 1 := ⟨_, rfl⟩
  have hmn : m < n := by omega
  have hmi : (n : Int) - 1 = (m : Int) := by omega
  have hmw : IntKind.i64.wrap (m : Int) = (m : Int) := IntWalk.i64_in _ (by omega)
  have HM := Lib.hid hm
  clear hm
  obtain ⟨w1, hw1⟩ : ∃ w1, w1 = (w.alloc (.cells #[.int .i64 (n : Nat), .slice aB nB cB, .slice aH n cH, .slice aV n cV, .slice aD n cD, .int .i64 r, .int .i64 q] 32)).alloc (.cells #[.int .i64 0, .slice none 0 0, .slice none 0 0, .slice none 0 0, .slice none 0 0, .int .i64 0, .int .i64 0] 32) := ⟨_, rfl⟩
  have hd1 := DB.start (slots := n) w HIN.out
  rw [← hw1] at hd1
  have HD1 := Lib.hid hd1; have HW1 := Lib.hid hw1
  clear hd1 hw1
  go_enter Tryd.func8, Tryd.ntmps8
  go_upto_region 1 with fail
  rw [← HW1.out]
  obtain ⟨x0, x1, x2, x3, x4, x5, x6, f0, f1, f2, f3, f4, f5, f6⟩ := HD1.out.cells
  obtain ⟨y0, y1, y2, y3, y4, y5, y6, g0, g1, g2, g3, g4, g5, g6⟩ := HD1.out.rcells
  go_wp2_with fail
  refine (rPlace aH n cH _ lH k _ HIN.out.hl (own_in HD1.out.inn.H) (by omega)).mono ?_
  rintro e w' ⟨rfl, rfl⟩
  rw [HPL.out]
  obtain ⟨gB, rfl, hcB⟩ := own_cell HD1.out.inn.B hkB
  obtain ⟨v0, hv0⟩ : ∃ v0, v0 = lB.getD k 0 := ⟨_, rfl⟩
  rw [← hv0] at hcB
  have HV0 := Lib.hid hv0
  have hinc : IntKind.i64.wrap (r + 1) = r + 1 := IntWalk.i64_in _ (by omega)
  clear hv0
  go_wp2_with fail
  clear x0 x1 x2 x3 x4 x5 x6 f0 f1 f2 f3 f4 f5 f6 y0 y1 y2 y3 y4 y5 y6 g0 g1 g2 g3 g4 g5 g6
  obtain ⟨w2, hw2⟩ : ∃ w', w' = (w1.setCell ⟨w.heap.size, 5, none⟩ (.int .i64 (r + 1))) := ⟨_, rfl⟩
  rw [show (w1.setCell ⟨w.heap.size, 5, none⟩ (.int .i64 (r + 1))) = w2 from hw2.symm]
  have hd2 := (HD1.out.setR (r + 1))
  rw [← hw2] at hd2
  have HD2 := Lib.hid hd2
  clear hd2 hw2
  refine (kClean n nB n (some ⟨gB, 0, none⟩) aH aV aD cB cH cV cD lB lH lV lD (r + 1) q m hmn hn HB8.out HR.out hq0 hq1 _ HD2.out.inn).mono ?_
  rintro e w3 ⟨aB3, aH3, aV3, aD3, cB3, cH3, cV3, cD3, rfl, hin3, hb3⟩
  have HD3 := Lib.hid (HD2.out.below hb3); have HIN3 := Lib.hid hin3
  clear hin3 hb3
  obtain ⟨qc, hqc⟩ : ∃ qc, qc = clQ lD q m := ⟨_, rfl⟩
  have HQC := Lib.hid hqc
  rw [← hqc] at HIN3 ⊢
  clear hqc
  obtain ⟨x0, x1, x2, x3, x4, x5, x6, f0, f1, f2, f3, f4, f5, f6⟩ := HD3.out.cells
  obtain ⟨y0, y1, y2, y3, y4, y5, y6, g0, g1, g2, g3, g4, g5, g6⟩ := HD3.out.rcells
  go_wp2_with fail
  clear x0 x1 x2 x3 x4 x5 x6 f0 f1 f2 f3 f4 f5 f6 y0 y1 y2 y3 y4 y5 y6 g0 g1 g2 g3 g4 g5 g6
  obtain ⟨w4, hw4⟩ : ∃ w', w' = (set7 w3 w.heap.size (.int .i64 (n : Nat)) (.slice aB3 nB cB3) (.slice aH3 n cH3) (.slice aV3 n cV3) (.slice aD3 n cD3) (.int .i64 (r + 1)) (.int .i64 qc)) := ⟨_, rfl⟩
  rw [show (((((((w3.setCell ⟨w.heap.size, 0, none⟩ (.int .i64 (n : Nat))).setCell ⟨w.heap.size, 1, none⟩ (.slice aB3 nB cB3)).setCell ⟨w.heap.size, 2, none⟩ (.slice aH3 n cH3)).setCell ⟨w.heap.size, 3, none⟩ (.slice aV3 n cV3)).setCell ⟨w.heap.size, 4, none⟩ (.slice aD3 n cD3)).setCell ⟨w.heap.size, 5, none⟩ (.int .i64 (r + 1))).setCell ⟨w.heap.size, 6, none⟩ (.int .i64 qc)) = w4 from hw4.symm]
  have hd4 := (HD3.out.setAll HIN3.out)
  rw [← hw4] at hd4
  have HD4 := Lib.hid hd4
  clear hd4 hw4
  refine (drop_s aH3 cH3 n m (lH) _ HD4.out.inn.H HD4.out.inn.hl hmn (by omega)).mono ?_
  rintro e w5 ⟨a5, c5, rfl, ho5, hn5, hb5⟩
  have HD5 := Lib.hid (HD4.out.below hb5)
  have HO5 := Lib.hid ho5; have HN5 := Lib.hid hn5
  clear ho5 hn5 hb5
  obtain ⟨x0, x1, x2, x3, x4, x5, x6, f0, f1, f2, f3, f4, f5, f6⟩ := HD5.out.cells
  obtain ⟨y0, y1, y2, y3, y4, y5, y6, g0, g1, g2, g3, g4, g5, g6⟩ := HD5.out.rcells
  go_wp2_with fail
  clear x0 x1 x2 x3 x4 x5 x6 f0 f1 f2 f3 f4 f5 f6 y0 y1 y2 y3 y4 y5 y6 g0 g1 g2 g3 g4 g5 g6
  obtain ⟨w6, hw6⟩ : ∃ w', w' = (w5.setCell ⟨w.heap.size, 2, none⟩ (.slice a5 (n - 1) c5)) := ⟨_, rfl⟩
  rw [show (w5.setCell ⟨w.heap.size, 2, none⟩ (.slice a5 (n - 1) c5)) = w6 from hw6.symm]
  have hd6 := (HD5.out.setH HO5.out HN5.out)
  rw [← hw6] at hd6
  have HD6 := Lib.hid hd6
  clear hd6 hw6
  refine (drop_s aV3 cV3 n m (lV) _ HD6.out.inn.V HD6.out.inn.vl hmn (by omega)).mono ?_
  rintro e w7 ⟨a7, c7, rfl, ho7, hn7, hb7⟩
  have HD7 := Lib.hid (HD6.out.below hb7)
  have HO7 := Lib.hid ho7; have HN7 := Lib.hid hn7
  clear ho7 hn7 hb7
  obtain ⟨x0, x1, x2, x3, x4, x5, x6, f0, f1, f2, f3, f4, f5, f6⟩ := HD7.out.cells
  obtain ⟨y0, y1, y2, y3, y4, y5, y6, g0, g1, g2, g3, g4, g5, g6⟩ := HD7.out.rcells
  go_wp2_with fail
  clear x0 x1 x2 x3 x4 x5 x6 f0 f1 f2 f3 f4 f5 f6 y0 y1 y2 y3 y4 y5 y6 g0 g1 g2 g3 g4 g5 g6
  obtain ⟨w8, hw8⟩ : ∃ w', w' = (w7.setCell ⟨w.heap.size, 3, none⟩ (.slice a7 (n - 1) c7)) := ⟨_, rfl⟩
  rw [show (w7.setCell ⟨w.heap.size, 3, none⟩ (.slice a7 (n - 1) c7)) = w8 from hw8.symm]
  have hd8 := (HD7.out.setV HO7.out HN7.out)
  rw [← hw8] at hd8
  have HD8 := Lib.hid hd8
  clear hd8 hw8
  refine (drop_s aD3 cD3 n m (clD lD m) _ HD8.out.inn.D HD8.out.inn.dl hmn (by omega)).mono ?_
  rintro e w9 ⟨a9, c9, rfl, ho9, hn9, hb9⟩
  have HD9 := Lib.hid (HD8.out.below hb9)
  have HO9 := Lib.hid ho9; have HN9 := Lib.hid hn9
  clear ho9 hn9 hb9
  obtain ⟨x0, x1, x2, x3, x4, x5, x6, f0, f1, f2, f3, f4, f5, f6⟩ := HD9.out.cells
  obtain ⟨y0, y1, y2, y3, y4, y5, y6, g0, g1, g2, g3, g4, g5, g6⟩ := HD9.out.rcells
  go_wp2_with fail
  clear x0 x1 x2 x3 x4 x5 x6 f0 f1 f2 f3 f4 f5 f6 y0 y1 y2 y3 y4 y5 y6 g0 g1 g2 g3 g4 g5 g6
  obtain ⟨w10, hw10⟩ : ∃ w', w' = (w9.setCell ⟨w.heap.size, 4, none⟩ (.slice a9 (n - 1) c9)) := ⟨_, rfl⟩
  rw [show (w9.setCell ⟨w.heap.size, 4, none⟩ (.slice a9 (n - 1) c9)) = w10 from hw10.symm]
  have hd10 := (HD9.out.setD HO9.out HN9.out)
  rw [← hw10] at hd10
  have HD10 := Lib.hid hd10
  clear hd10 hw10
  refine (put_s a5 c5 (n - 1) (k : Int) ((lH).eraseIdx m) _ HD10.out.inn.H HD10.out.inn.hl (by omega)).mono ?_
  rintro e w11 ⟨a11, c11, rfl, ho11, hn11, hb11⟩
  have HD11 := Lib.hid (HD10.out.below hb11)
  have HO11 := Lib.hid ho11; have HN11 := Lib.hid hn11
  clear ho11 hn11 hb11
  obtain ⟨x0, x1, x2, x3, x4, x5, x6, f0, f1, f2, f3, f4, f5, f6⟩ := HD11.out.cells
  obtain ⟨y0, y1, y2, y3, y4, y5, y6, g0, g1, g2, g3, g4, g5, g6⟩ := HD11.out.rcells
  go_wp2_with fail
  clear x0 x1 x2 x3 x4 x5 x6 f0 f1 f2 f3 f4 f5 f6 y0 y1 y2 y3 y4 y5 y6 g0 g1 g2 g3 g4 g5 g6
  obtain ⟨w12, hw12⟩ : ∃ w', w' = (w11.setCell ⟨w.heap.size, 2, none⟩ (.slice a11 ((n - 1) + 1) c11)) := ⟨_, rfl⟩
  rw [show (w11.setCell ⟨w.heap.size, 2, none⟩ (.slice a11 ((n - 1) + 1) c11)) = w12 from hw12.symm]
  have hd12 := (HD11.out.setH HO11.out HN11.out)
  rw [← hw12] at hd12
  have HD12 := Lib.hid hd12
  clear hd12 hw12
  refine (put_s a7 c7 (n - 1) v0 ((lV).eraseIdx m) _ HD12.out.inn.V HD12.out.inn.vl (by omega)).mono ?_
  rintro e w13 ⟨a13, c13, rfl, ho13, hn13, hb13⟩
  have HD13 := Lib.hid (HD12.out.below hb13)
  have HO13 := Lib.hid ho13; have HN13 := Lib.hid hn13
  clear ho13 hn13 hb13
  obtain ⟨x0, x1, x2, x3, x4, x5, x6, f0, f1, f2, f3, f4, f5, f6⟩ := HD13.out.cells
  obtain ⟨y0, y1, y2, y3, y4, y5, y6, g0, g1, g2, g3, g4, g5, g6⟩ := HD13.out.rcells
  go_wp2_with fail
  clear x0 x1 x2 x3 x4 x5 x6 f0 f1 f2 f3 f4 f5 f6 y0 y1 y2 y3 y4 y5 y6 g0 g1 g2 g3 g4 g5 g6
  obtain ⟨w14, hw14⟩ : ∃ w', w' = (w13.setCell ⟨w.heap.size, 3, none⟩ (.slice a13 ((n - 1) + 1) c13)) := ⟨_, rfl⟩
  rw [show (w13.setCell ⟨w.heap.size, 3, none⟩ (.slice a13 ((n - 1) + 1) c13)) = w14 from hw14.symm]
  have hd14 := (HD13.out.setV HO13.out HN13.out)
  rw [← hw14] at hd14
  have HD14 := Lib.hid hd14
  clear hd14 hw14
  refine (put_s a9 c9 (n - 1) 0 ((clD lD m).eraseIdx m) _ HD14.out.inn.D HD14.out.inn.dl (by omega)).mono ?_
  rintro e w15 ⟨a15, c15, rfl, ho15, hn15, hb15⟩
  have HD15 := Lib.hid (HD14.out.below hb15)
  have HO15 := Lib.hid ho15; have HN15 := Lib.hid hn15
  clear ho15 hn15 hb15
  obtain ⟨x0, x1, x2, x3, x4, x5, x6, f0, f1, f2, f3, f4, f5, f6⟩ := HD15.out.cells
  obtain ⟨y0, y1, y2, y3, y4, y5, y6, g0, g1, g2, g3, g4, g5, g6⟩ := HD15.out.rcells
  go_wp2
  have hme := HM.out
  subst hme
  have HDE := Lib.hid (HD15.out.setD HO15.out HN15.out)
  (try simp only [Exit.inBlock, Exit.then])
  refine bodyPost_ret (results_cell2 rfl _ _ (w.heap.size + 1) 32 _ _ rfl (blk7 HDE.out.res _ _ _ _ _ _ _) Tryd.underlying32 rfl info_disk) rfl ?_
  have hd := fun v0 v1 v2 v3 v4 v5 v6 => HDE.out.done v0 v1 v2 v3 v4 v5 v6
  rw [← HV0.out]
  rw [← HQC.out]
  exact ⟨_, _, _, _, _, _, _, _, rfl, (hd _ _ _ _ _ _ _).1, (hd _ _ _ _ _ _ _).2⟩
set_option maxHeartbeats 4000000 in
set_option maxRecDepth 100000 in
theorem kUseMwf (nB n : Nat) (aB aH aV aD : Option Addr) (cB cH cV cD : Nat) (lB lH lV lD : List Int) (r q : Int) (k : Nat) (x : Int) (hx : 0 ≤ x) (hn : n ≤ 8) (hB : nB = 8) (hk : k < nB) (hr : ∀ y ∈ lH, 0 ≤ y ∧ y ≤ 7) (hr0 : 0 ≤ r) (hr1 : r ≤ 1000000) (hq0 : 0 ≤ q) (hq1 : q ≤ 1000000) (hpl : plOf lH k = -1) (hnp : 0 < n) (w : World) (hin : DIn w aB aH aV aD nB n n n cB cH cV cD lB lH lV lD r q) :
    Calls Tryd.prog 8 #[.agg #[.int .i64 (n : Nat), .slice aB nB cB, .slice aH n cH, .slice aV n cV, .slice aD n cD, .int .i64 r, .int .i64 q], .int .i64 k, .int .i64 x] w (DPost2 w n nB (n - 1 + 1) (n - 1 + 1) (n - 1 + 1) (clB lB lH lV lD (n - 1)) ((k : Int) :: lH.eraseIdx (n - 1)) (x :: lV.eraseIdx (n - 1)) (1 :: (clD lD (n - 1)).eraseIdx (n - 1)) r (clQ lD q (n - 1)) (x)) := by
  have HIN := Lib.hid hin; clear hin
  have HPL := Lib.hid hpl; have HB8 := Lib.hid hB; have HR := Lib.hid hr
  clear hpl hB hr
  have hk0 : (0 : Int) ≤ (k : Int) := by omega
  have hk8 : (k : Int) < (nB : Int) := by omega
  have hbl := HIN.out.bl
  have hkB : k < lB.length := by omega
  clear hbl
  obtain ⟨m, hm⟩ : ∃ m, m = n - 1 := ⟨_, rfl⟩
  have hmn : m < n := by omega
  have hmi : (n : Int) - 1 = (m : Int) := by omega
  have hmw : IntKind.i64.wrap (m : Int) = (m : Int) := IntWalk.i64_in _ (by omega)
  have HM := Lib.hid hm
  clear hm
  obtain ⟨w1, hw1⟩ : ∃ w1, w1 = (w.alloc (.cells #[.int .i64 (n : Nat), .slice aB nB cB, .slice aH n cH, .slice aV n cV, .slice aD n cD, .int .i64 r, .int .i64 q] 32)).alloc (.cells #[.int .i64 0, .slice none 0 0, .slice none 0 0, .slice none 0 0, .slice none 0 0, .int .i64 0, .int .i64 0] 32) := ⟨_, rfl⟩
  have hd1 := DB.start (slots := n) w HIN.out
  rw [← hw1] at hd1
  have HD1 := Lib.hid hd1; have HW1 := Lib.hid hw1
  clear hd1 hw1
  go_enter Tryd.func8, Tryd.ntmps8
  go_upto_region 1 with fail
  rw [← HW1.out]
  obtain ⟨x0, x1, x2, x3, x4, x5, x6, f0, f1, f2, f3, f4, f5, f6⟩ := HD1.out.cells
  obtain ⟨y0, y1, y2, y3, y4, y5, y6, g0, g1, g2, g3, g4, g5, g6⟩ := HD1.out.rcells
  go_wp2_with fail
  refine (rPlace aH n cH _ lH k _ HIN.out.hl (own_in HD1.out.inn.H) (by omega)).mono ?_
  rintro e w' ⟨rfl, rfl⟩
  rw [HPL.out]
  go_wp2_with fail
  refine (kClean n nB n aB aH aV aD cB cH cV cD lB lH lV lD r q m hmn hn HB8.out HR.out hq0 hq1 _ HD1.out.inn).mono ?_
  rintro e w2 ⟨aB2, aH2, aV2, aD2, cB2, cH2, cV2, cD2, rfl, hin2, hb2⟩
  have HD2 := Lib.hid (HD1.out.below hb2); have HIN2 := Lib.hid hin2
  clear x0 x1 x2 x3 x4 x5 x6 f0 f1 f2 f3 f4 f5 f6 y0 y1 y2 y3 y4 y5 y6 g0 g1 g2 g3 g4 g5 g6
  clear hin2 hb2
  obtain ⟨qc, hqc⟩ : ∃ qc, qc = clQ lD q m := ⟨_, rfl⟩
  have HQC := Lib.hid hqc
  rw [← hqc] at HIN2 ⊢
  clear hqc
  obtain ⟨x0, x1, x2, x3, x4, x5, x6, f0, f1, f2, f3, f4, f5, f6⟩ := HD2.out.cells
  obtain ⟨y0, y1, y2, y3, y4, y5, y6, g0, g1, g2, g3, g4, g5, g6⟩ := HD2.out.rcells
  go_wp2_with fail
  clear x0 x1 x2 x3 x4 x5 x6 f0 f1 f2 f3 f4 f5 f6 y0 y1 y2 y3 y4 y5 y6 g0 g1 g2 g3 g4 g5 g6
  obtain ⟨w3, hw3⟩ : ∃ w', w' = (set7 w2 w.heap.size (.int .i64 (n : Nat)) (.slice aB2 nB cB2) (.slice aH2 n cH2) (.slice aV2 n cV2) (.slice aD2 n cD2) (.int .i64 r) (.int .i64 qc)) := ⟨_, rfl⟩
  rw [show (((((((w2.setCell ⟨w.heap.size, 0, none⟩ (.int .i64 (n : Nat))).setCell ⟨w.heap.size, 1, none⟩ (.slice aB2 nB cB2)).setCell ⟨w.heap.size, 2, none⟩ (.slice aH2 n cH2)).setCell ⟨w.heap.size, 3, none⟩ (.slice aV2 n cV2)).setCell ⟨w.heap.size, 4, none⟩ (.slice aD2 n cD2)).setCell ⟨w.heap.size, 5, none⟩ (.int .i64 r)).setCell ⟨w.heap.size, 6, none⟩ (.int .i64 qc)) = w3 from hw3.symm]
  have hd3 := (HD2.out.setAll HIN2.out)
  rw [← hw3] at hd3
  have HD3 := Lib.hid hd3
  clear hd3 hw3
  refine (drop_s aH2 cH2 n m (lH) _ HD3.out.inn.H HD3.out.inn.hl hmn (by omega)).mono ?_
  rintro e w4 ⟨a4, c4, rfl, ho4, hn4, hb4⟩
  have HD4 := Lib.hid (HD3.out.below hb4)
  have HO4 := Lib.hid ho4; have HN4 := Lib.hid hn4
  clear ho4 hn4 hb4
  obtain ⟨x0, x1, x2, x3, x4, x5, x6, f0, f1, f2, f3, f4, f5, f6⟩ := HD4.out.cells
  obtain ⟨y0, y1, y2, y3, y4, y5, y6, g0, g1, g2, g3, g4, g5, g6⟩ := HD4.out.rcells
  go_wp2_with fail
  clear x0 x1 x2 x3 x4 x5 x6 f0 f1 f2 f3 f4 f5 f6 y0 y1 y2 y3 y4 y5 y6 g0 g1 g2 g3 g4 g5 g6
  obtain ⟨w5, hw5⟩ : ∃ w', w' = (w4.setCell ⟨w.heap.size, 2, none⟩ (.slice a4 (n - 1) c4)) := ⟨_, rfl⟩
  rw [show (w4.setCell ⟨w.heap.size, 2, none⟩ (.slice a4 (n - 1) c4)) = w5 from hw5.symm]
  have hd5 := (HD4.out.setH HO4.out HN4.out)
  rw [← hw5] at hd5
  have HD5 := Lib.hid hd5
  clear hd5 hw5
  refine (drop_s aV2 cV2 n m (lV) _ HD5.out.inn.V HD5.out.inn.vl hmn (by omega)).mono ?_
  rintro e w6 ⟨a6, c6, rfl, ho6, hn6, hb6⟩
  have HD6 := Lib.hid (HD5.out.below hb6)
  have HO6 := Lib.hid ho6; have HN6 := Lib.hid hn6
  clear ho6 hn6 hb6
  obtain ⟨x0, x1, x2, x3, x4, x5, x6, f0, f1, f2, f3, f4, f5, f6⟩ := HD6.out.cells
  obtain ⟨y0, y1, y2, y3, y4, y5, y6, g0, g1, g2, g3, g4, g5, g6⟩ := HD6.out.rcells
  go_wp2_with fail
  clear x0 x1 x2 x3 x4 x5 x6 f0 f1 f2 f3 f4 f5 f6 y0 y1 y2 y3 y4 y5 y6 g0 g1 g2 g3 g4 g5 g6
  obtain ⟨w7, hw7⟩ : ∃ w', w' = (w6.setCell ⟨w.heap.size, 3, none⟩ (.slice a6 (n - 1) c6)) := ⟨_, rfl⟩
  rw [show (w6.setCell ⟨w.heap.size, 3, none⟩ (.slice a6 (n - 1) c6)) = w7 from hw7.symm]
  have hd7 := (HD6.out.setV HO6.out HN6.out)
  rw [← hw7] at hd7
  have HD7 := Lib.hid hd7
  clear hd7 hw7
  refine (drop_s aD2 cD2 n m (clD lD m) _ HD7.out.inn.D HD7.out.inn.dl hmn (by omega)).mono ?_
  rintro e w8 ⟨a8, c8, rfl, ho8, hn8, hb8⟩
  have HD8 := Lib.hid (HD7.out.below hb8)
  have HO8 := Lib.hid ho8; have HN8 := Lib.hid hn8
  clear ho8 hn8 hb8
  obtain ⟨x0, x1, x2, x3, x4, x5, x6, f0, f1, f2, f3, f4, f5, f6⟩ := HD8.out.cells
  obtain ⟨y0, y1, y2, y3, y4, y5, y6, g0, g1, g2, g3, g4, g5, g6⟩ := HD8.out.rcells
  go_wp2_with fail
  clear x0 x1 x2 x3 x4 x5 x6 f0 f1 f2 f3 f4 f5 f6 y0 y1 y2 y3 y4 y5 y6 g0 g1 g2 g3 g4 g5 g6
  obtain ⟨w9, hw9⟩ : ∃ w', w' = (w8.setCell ⟨w.heap.size, 4, none⟩ (.slice a8 (n - 1) c8)) := ⟨_, rfl⟩
  rw [show (w8.setCell ⟨w.heap.size, 4, none⟩ (.slice a8 (n - 1) c8)) = w9 from hw9.symm]
  have hd9 := (HD8.out.setD HO8.out HN8.out)
  rw [← hw9] at hd9
  have HD9 := Lib.hid hd9
  clear hd9 hw9
  refine (put_s a4 c4 (n - 1) (k : Int) ((lH).eraseIdx m) _ HD9.out.inn.H HD9.out.inn.hl (by omega)).mono ?_
  rintro e w10 ⟨a10, c10, rfl, ho10, hn10, hb10⟩
  have HD10 := Lib.hid (HD9.out.below hb10)
  have HO10 := Lib.hid ho10; have HN10 := Lib.hid hn10
  clear ho10 hn10 hb10
  obtain ⟨x0, x1, x2, x3, x4, x5, x6, f0, f1, f2, f3, f4, f5, f6⟩ := HD10.out.cells
  obtain ⟨y0, y1, y2, y3, y4, y5, y6, g0, g1, g2, g3, g4, g5, g6⟩ := HD10.out.rcells
  go_wp2_with fail
  clear x0 x1 x2 x3 x4 x5 x6 f0 f1 f2 f3 f4 f5 f6 y0 y1 y2 y3 y4 y5 y6 g0 g1 g2 g3 g4 g5 g6
  obtain ⟨w11, hw11⟩ : ∃ w', w' = (w10.setCell ⟨w.heap.size, 2, none⟩ (.slice a10 ((n - 1) + 1) c10)) := ⟨_, rfl⟩
  rw [show (w10.setCell ⟨w.heap.size, 2, none⟩ (.slice a10 ((n - 1) + 1) c10)) = w11 from hw11.symm]
  have hd11 := (HD10.out.setH HO10.out HN10.out)
  rw [← hw11] at hd11
  have HD11 := Lib.hid hd11
  clear hd11 hw11
  refine (put_s a6 c6 (n - 1) x ((lV).eraseIdx m) _ HD11.out.inn.V HD11.out.inn.vl (by omega)).mono ?_
  rintro e w12 ⟨a12, c12, rfl, ho12, hn12, hb12⟩
  have HD12 := Lib.hid (HD11.out.below hb12)
  have HO12 := Lib.hid ho12; have HN12 := Lib.hid hn12
  clear ho12 hn12 hb12
  obtain ⟨x0, x1, x2, x3, x4, x5, x6, f0, f1, f2, f3, f4, f5, f6⟩ := HD12.out.cells
  obtain ⟨y0, y1, y2, y3, y4, y5, y6, g0, g1, g2, g3, g4, g5, g6⟩ := HD12.out.rcells
  go_wp2_with fail
  clear x0 x1 x2 x3 x4 x5 x6 f0 f1 f2 f3 f4 f5 f6 y0 y1 y2 y3 y4 y5 y6 g0 g1 g2 g3 g4 g5 g6
  obtain ⟨w13, hw13⟩ : ∃ w', w' = (w12.setCell ⟨w.heap.size, 3, none⟩ (.slice a12 ((n - 1) + 1) c12)) := ⟨_, rfl⟩
  rw [show (w12.setCell ⟨w.heap.size, 3, none⟩ (.slice a12 ((n - 1) + 1) c12)) = w13 from hw13.symm]
  have hd13 := (HD12.out.setV HO12.out HN12.out)
  rw [← hw13] at hd13
  have HD13 := Lib.hid hd13
  clear hd13 hw13
  refine (put_s a8 c8 (n - 1) 1 ((clD lD m).eraseIdx m) _ HD13.out.inn.D HD13.out.inn.dl (by omega)).mono ?_
  rintro e w14 ⟨a14, c14, rfl, ho14, hn14, hb14⟩
  have HD14 := Lib.hid (HD13.out.below hb14)
  have HO14 := Lib.hid ho14; have HN14 := Lib.hid hn14
  clear ho14 hn14 hb14
  obtain ⟨x0, x1, x2, x3, x4, x5, x6, f0, f1, f2, f3, f4, f5, f6⟩ := HD14.out.cells
  obtain ⟨y0, y1, y2, y3, y4, y5, y6, g0, g1, g2, g3, g4, g5, g6⟩ := HD14.out.rcells
  go_wp2
  have hme := HM.out
  subst hme
  have HDE := Lib.hid (HD14.out.setD HO14.out HN14.out)
  (try simp only [Exit.inBlock, Exit.then])
  refine bodyPost_ret (results_cell2 rfl _ _ (w.heap.size + 1) 32 _ _ rfl (blk7 HDE.out.res _ _ _ _ _ _ _) Tryd.underlying32 rfl info_disk) rfl ?_
  have hd := fun v0 v1 v2 v3 v4 v5 v6 => HDE.out.done v0 v1 v2 v3 v4 v5 v6
  rw [← HQC.out]
  exact ⟨_, _, _, _, _, _, _, _, rfl, (hd _ _ _ _ _ _ _).1, (hd _ _ _ _ _ _ _).2⟩
end Go.Proofs.YtgbccaplckiilaaDoor
