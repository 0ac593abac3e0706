/-
  The reference's caches: Leave, Write, by their contracts (printed by wip/gen_cohereref.py).
-/
import Derived.Test.YtjnghpambjjlkaaDoorCohereRef2
namespace Go.Proofs.YtjnghpambjjlkaaDoor
open Go.RowKit

def KLeave (w : World) (n N : Nat) (s : Cs) (x : Int) (e : Ending) (w' : World) : Prop :=
  ∃ gm cm gs cs gv cv, e = .returned (.tuple #[.agg #[.int .i64 n, .slice (some ⟨gm, 0, none⟩) 4 cm, .slice (some ⟨gs, 0, none⟩) N cs, .slice (some ⟨gv, 0, none⟩) N cv, .int .i64 s.mv], .int .i64 x]) ∧ KC w' n N s gm gs gv ∧ Below w.heap.size w w'

set_option maxHeartbeats 8000000 in
set_option maxRecDepth 100000 in
theorem kLeave (n N p k gm cm gs cs gv cv : Nat) (s : Cs) (w : World) (h : KC w n N s gm gs gv) (hn : n ≤ 4) (hp : p < n) (hk : k < 4) (h0 : 0 ≤ s.mv) (h1 : s.mv ≤ 1000) :
    Calls Tryd.prog 38 #[.agg #[.int .i64 n, .slice (some ⟨gm, 0, none⟩) 4 cm, .slice (some ⟨gs, 0, none⟩) N cs, .slice (some ⟨gv, 0, none⟩) N cv, .int .i64 s.mv], .int .i64 p, .int .i64 k] w (KLeave w n N (s.leave n p k) (if s.st p k = 0 then 5 else 0)) := by
  have HN := Lib.hid h.hN
  have HH := Lib.hid h
  have HZ := Lib.hid h.sz
  obtain ⟨w1, hw1⟩ : ∃ w1, w1 = (w.alloc (.cells #[.int .i64 n, .slice (some ⟨gm, 0, none⟩) 4 cm, .slice (some ⟨gs, 0, none⟩) N cs, .slice (some ⟨gv, 0, none⟩) N cv, .int .i64 s.mv] 66)).alloc (.cells #[.int .i64 0, .slice none 0 0, .slice none 0 0, .slice none 0 0, .int .i64 0] 66) := ⟨_, rfl⟩
  have hkb : KB w w1 w.heap.size n N gm cm gs cs gv cv s.mv s.mem (ev s.ls) (od s.ls) := by rw [hw1]; exact KB.start w h
  have HKB := Lib.hid hkb
  have HKC := Lib.hid (hkb.kc (s := s) rfl rfl rfl h.sz h.hN)
  have HW1 := Lib.hid hw1
  obtain ⟨q, hq⟩ : ∃ q : Nat, q = p * 4 := ⟨_, rfl⟩
  obtain ⟨j, hj⟩ : ∃ j : Nat, j = p * 4 + k := ⟨_, rfl⟩
  have hqi : (p : Int) * 4 = (q : Int) := by omega
  have hji : (q : Int) + (k : Int) = (j : Int) := by omega
  have hjN : j < N := by have := HN.out; omega
  have hj0 : (0 : Int) ≤ (j : Int) := by omega
  have hk0 : (0 : Int) ≤ (k : Int) := by omega
  have hk4 : (k : Int) < 4 := by omega
  have hjNi : (j : Int) < (N : Int) := by omega
  have hc := HKC.out.st hj hjN
  obtain ⟨y, hy⟩ : ∃ y, y = s.st p k := ⟨_, rfl⟩
  rw [← hy] at hc
  have HY := Lib.hid hy; have HJ := Lib.hid hj
  have HQ := Lib.hid hq
  obtain ⟨x0, x1, x2, x3, x4, f0, f1, f2, f3, f4⟩ := hkb.cells
  clear hkb h hw1 hy hj hq
  by_cases ey : y = 0
  · subst ey
    have HRD : Hid (s.leave n p k = s) := Lib.hid (by unfold Cs.leave; rw [if_pos HY.out.symm])
    have HEE : Hid ((if s.st p k = 0 then (5 : Int) else 0) = 5) := Lib.hid (if_pos HY.out.symm)
    rw [HW1.out] at hc
    obtain ⟨r0, r1, r2, r3, r4, e0, e1, e2, e3, e4⟩ := HKB.out.rcells
    rw [HEE.out]
    go_enter Tryd.func38, Tryd.ntmps38
    go_wp2
    have hbr : Blk ((w.alloc (.cells #[.int .i64 n, .slice (some ⟨gm, 0, none⟩) 4 cm, .slice (some ⟨gs, 0, none⟩) N cs, .slice (some ⟨gv, 0, none⟩) N cv, .int .i64 s.mv] 66)).alloc (.cells #[.int .i64 n, .slice (some ⟨gm, 0, none⟩) 4 cm, .slice (some ⟨gs, 0, none⟩) N cs, .slice (some ⟨gv, 0, none⟩) N cv, .int .i64 s.mv] 66)) (w.heap.size + 1) 66 (kTop n N gm cm gs cs gv cv s.mv) := by
      have := Blk.new (w.alloc (.cells (kTop n N gm cm gs cs gv cv s.mv).toArray 66)) 66 (kTop n N gm cm gs cs gv cv s.mv)
      rwa [World.size_alloc] at this
    refine bodyPost_ret (results_cell2 rfl _ _ (w.heap.size + 1) 66 _ _ rfl hbr Tryd.underlying66 rfl info_kcaches) rfl ?_
    have hkk : ∀ o1 o2, Keep [] w ((w.alloc o1).alloc o2) := fun o1 o2 => ((Keep.refl [] w).alloc o1).alloc o2
    rw [HRD.out]
    exact ⟨gm, cm, gs, cs, gv, cv, rfl, HH.out.keep0 (hkk _ _), (hkk _ _).below (Nat.le_refl _) (by simp)⟩
  · have HEE : Hid ((if s.st p k = 0 then (5 : Int) else 0) = 0) := Lib.hid (if_neg (by rw [← HY.out]; exact ey))
    have ey' : (y == 0) = false := beq_eq_false_iff_ne.2 ey
    by_cases e2 : y = 2
    · subst e2
      have HRD : Hid (s.leave n p k = (s.calm n k).put p k 0 0) := Lib.hid (by unfold Cs.leave; rw [if_neg (by rw [← HY.out]; decide), if_pos HY.out.symm])
      obtain ⟨t, ht⟩ : ∃ t, t = s.calm n k := ⟨_, rfl⟩
      rw [← ht] at HRD
      have HT := Lib.hid ht
      clear ht ey ey'
      rw [HW1.out] at hc
      rw [HEE.out]
      go_enter Tryd.func38, Tryd.ntmps38
      go_wp2_with fail
      rw [← HW1.out]
      clear hc
      refine (kCalm n N k gm cm gs cs gv cv s _ HKC.out hn hk h0 h1).mono ?_
      rintro e w10 ⟨gm, cm, gs, cs, gv, cv, rfl, hkc2, hb2⟩
      rw [← HT.out] at hkc2
      have HT2 : Hid ((s.calm n k).mv = t.mv) := Lib.hid (by rw [HT.out])
      rw [HT2.out]
      have hkb := HKB.out.below hb2
      clear x0 x1 x2 x3 x4 f0 f1 f2 f3 f4
      obtain ⟨x0, x1, x2, x3, x4, f0, f1, f2, f3, f4⟩ := hkb.cells
      have HKC2 := Lib.hid hkc2; have HKB := Lib.hid hkb
      clear hkc2 hkb hb2
      go_wp2_with fail
      obtain ⟨w11, hwb⟩ : ∃ wb, wb = set5 w10 w.heap.size (.int .i64 n) (.slice (some ⟨gm, 0, none⟩) 4 cm) (.slice (some ⟨gs, 0, none⟩) N cs) (.slice (some ⟨gv, 0, none⟩) N cv) (.int .i64 t.mv) := ⟨_, rfl⟩
      have hkb : KB w w11 w.heap.size n N gm cm gs cs gv cv t.mv t.mem (ev t.ls) (od t.ls) := by rw [hwb]; exact HKB.out.setAll HKC2.out
      rw [show (((((w10.setCell ⟨w.heap.size, 0, none⟩ (.int .i64 n)).setCell ⟨w.heap.size, 1, none⟩ (.slice (some ⟨gm, 0, none⟩) 4 cm)).setCell ⟨w.heap.size, 2, none⟩ (.slice (some ⟨gs, 0, none⟩) N cs)).setCell ⟨w.heap.size, 3, none⟩ (.slice (some ⟨gv, 0, none⟩) N cv)).setCell ⟨w.heap.size, 4, none⟩ (.int .i64 t.mv)) = w11 from hwb.symm]
      clear x0 x1 x2 x3 x4 f0 f1 f2 f3 f4
      obtain ⟨x0, x1, x2, x3, x4, f0, f1, f2, f3, f4⟩ := hkb.cells
      have HKB := Lib.hid hkb
      clear hkb hwb
      have hzt : t.ls.length = 8 * n := HKC2.out.sz
      refine (kSetL gs N cs (ev t.ls) j 0 _ HKB.out.S hjN (by have := HN.out; omega)).mono ?_
      rintro e w12 ⟨gs, cs, rfl, hl, _, hb⟩
      have hkb := HKB.out.below hb
      clear x0 x1 x2 x3 x4 f0 f1 f2 f3 f4
      obtain ⟨x0, x1, x2, x3, x4, f0, f1, f2, f3, f4⟩ := hkb.cells
      have HKB := Lib.hid hkb; have HL := Lib.hid hl
      clear hkb hl hb
      go_wp2_with fail
      obtain ⟨w13, hwb⟩ : ∃ wb, wb = w12.setCell ⟨w.heap.size, 2, none⟩ (.slice (some ⟨gs, 0, none⟩) N cs) := ⟨_, rfl⟩
      have hkb : KB w w13 w.heap.size n N gm cm gs cs gv cv t.mv t.mem ((ev t.ls).set j 0) (od t.ls) := by rw [hwb]; exact HKB.out.setS HL.out
      rw [← hwb]
      clear x0 x1 x2 x3 x4 f0 f1 f2 f3 f4
      obtain ⟨x0, x1, x2, x3, x4, f0, f1, f2, f3, f4⟩ := hkb.cells
      have HKB := Lib.hid hkb
      clear hkb hwb
      refine (kSetL gv N cv (od t.ls) j 0 _ HKB.out.V hjN (by have := HN.out; omega)).mono ?_
      rintro e w14 ⟨gv, cv, rfl, hl, _, hb⟩
      have hkb := HKB.out.below hb
      clear x0 x1 x2 x3 x4 f0 f1 f2 f3 f4
      obtain ⟨x0, x1, x2, x3, x4, f0, f1, f2, f3, f4⟩ := hkb.cells
      obtain ⟨r0, r1, r2, r3, r4, e0, e1, e2, e3, e4⟩ := hkb.rcells
      have HKB := Lib.hid (hkb.setV (c := cv) hl)
      clear hkb hl hb
      go_wp2
      refine bodyPost_ret (results_cell2 rfl _ _ (w.heap.size + 1) 66 _ _ rfl (blk5 HKB.out.res _ _ _ _ _) Tryd.underlying66 rfl info_kcaches) rfl ?_
      have hd := fun v0 v1 v2 v3 v4 => HKB.out.done0 (s := (t.put p k 0 0)) rfl (by rw [HJ.out]; exact put_ev t p k 0 0) (by rw [HJ.out]; exact put_od t p k 0 0) (by show ((t.ls.set _ _).set _ _).length = _; simpa using hzt) HN.out v0 v1 v2 v3 v4
      rw [HRD.out]
      refine ⟨gm, cm, gs, cs, gv, cv, ?_, ?_⟩
      · rfl
      · exact ⟨(hd _ _ _ _ _).1, (hd _ _ _ _ _).2⟩
    · have e2' : (y == 2) = false := beq_eq_false_iff_ne.2 e2
      have HRD : Hid (s.leave n p k = s.put p k 0 0) := Lib.hid (by unfold Cs.leave; rw [if_neg (by rw [← HY.out]; exact ey), if_neg (by rw [← HY.out]; exact e2)])
      rw [HW1.out] at hc
      rw [HEE.out]
      go_enter Tryd.func38, Tryd.ntmps38
      go_wp2_with fail
      rw [← HW1.out]
      clear hc
      have hzt : s.ls.length = 8 * n := HZ.out
      refine (kSetL gs N cs (ev s.ls) j 0 _ HKB.out.S hjN (by have := HN.out; omega)).mono ?_
      rintro e w16 ⟨gs, cs, rfl, hl, _, hb⟩
      have hkb := HKB.out.below hb
      clear x0 x1 x2 x3 x4 f0 f1 f2 f3 f4
      obtain ⟨x0, x1, x2, x3, x4, f0, f1, f2, f3, f4⟩ := hkb.cells
      have HKB := Lib.hid hkb; have HL := Lib.hid hl
      clear hkb hl hb
      go_wp2_with fail
      obtain ⟨w17, hwb⟩ : ∃ wb, wb = w16.setCell ⟨w.heap.size, 2, none⟩ (.slice (some ⟨gs, 0, none⟩) N cs) := ⟨_, rfl⟩
      have hkb : KB w w17 w.heap.size n N gm cm gs cs gv cv s.mv s.mem ((ev s.ls).set j 0) (od s.ls) := by rw [hwb]; exact HKB.out.setS HL.out
      rw [← hwb]
      clear x0 x1 x2 x3 x4 f0 f1 f2 f3 f4
      obtain ⟨x0, x1, x2, x3, x4, f0, f1, f2, f3, f4⟩ := hkb.cells
      have HKB := Lib.hid hkb
      clear hkb hwb
      refine (kSetL gv N cv (od s.ls) j 0 _ HKB.out.V hjN (by have := HN.out; omega)).mono ?_
      rintro e w18 ⟨gv, cv, rfl, hl, _, hb⟩
      have hkb := HKB.out.below hb
      clear x0 x1 x2 x3 x4 f0 f1 f2 f3 f4
      obtain ⟨x0, x1, x2, x3, x4, f0, f1, f2, f3, f4⟩ := hkb.cells
      obtain ⟨r0, r1, r2, r3, r4, e0, e1, e2, e3, e4⟩ := hkb.rcells
      have HKB := Lib.hid (hkb.setV (c := cv) hl)
      clear hkb hl hb
      go_wp2
      refine bodyPost_ret (results_cell2 rfl _ _ (w.heap.size + 1) 66 _ _ rfl (blk5 HKB.out.res _ _ _ _ _) Tryd.underlying66 rfl info_kcaches) rfl ?_
      have hd := fun v0 v1 v2 v3 v4 => HKB.out.done0 (s := (s.put p k 0 0)) rfl (by rw [HJ.out]; exact put_ev s p k 0 0) (by rw [HJ.out]; exact put_od s p k 0 0) (by show ((s.ls.set _ _).set _ _).length = _; simpa using hzt) HN.out v0 v1 v2 v3 v4
      rw [HRD.out]
      refine ⟨gm, cm, gs, cs, gv, cv, ?_, ?_⟩
      · rfl
      · exact ⟨(hd _ _ _ _ _).1, (hd _ _ _ _ _).2⟩

def WRel (w : World) (n N k : Nat) (t : Cs) (i : Value) (wr : World) : Prop :=
  ∃ (q gm cm gs cs gv cv : Nat), q ≤ n ∧ i = .int .i64 q ∧ KB w wr w.heap.size n N gm cm gs cs gv cv t.mv t.mem (ev (t.none_ k q).ls) (od (t.none_ k q).ls)
theorem none_mem (k : Nat) (s : Cs) (q : Nat) : (s.none_ k q).mem = s.mem := by
  induction q with
  | zero => rfl
  | succ q ih => simpa [Cs.none_, Cs.put] using ih
theorem none_len (k : Nat) (s : Cs) (q : Nat) : (s.none_ k q).ls.length = s.ls.length := by
  induction q with
  | zero => rfl
  | succ q ih => simpa [Cs.none_, Cs.put] using ih

set_option maxHeartbeats 8000000 in
set_option maxRecDepth 100000 in
theorem kWrite (n N p k gm cm gs cs gv cv : Nat) (v : Int) (s : Cs) (w : World) (h : KC w n N s gm gs gv) (hn : n ≤ 4) (hp : p < n) (hk : k < 4) (h0 : 0 ≤ s.mv) (h1 : s.mv ≤ 1000) :
    Calls Tryd.prog 36 #[.agg #[.int .i64 n, .slice (some ⟨gm, 0, none⟩) 4 cm, .slice (some ⟨gs, 0, none⟩) N cs, .slice (some ⟨gv, 0, none⟩) N cv, .int .i64 s.mv], .int .i64 p, .int .i64 k, .int .i64 v] w (KPost w n N (s.write n p k v)) := by
  have HN := Lib.hid h.hN
  have HH := Lib.hid h
  have HZ := Lib.hid h.sz
  obtain ⟨w1, hw1⟩ : ∃ w1, w1 = (w.alloc (.cells #[.int .i64 n, .slice (some ⟨gm, 0, none⟩) 4 cm, .slice (some ⟨gs, 0, none⟩) N cs, .slice (some ⟨gv, 0, none⟩) N cv, .int .i64 s.mv] 66)).alloc (.cells #[.int .i64 0, .slice none 0 0, .slice none 0 0, .slice none 0 0, .int .i64 0] 66) := ⟨_, rfl⟩
  have hkb : KB w w1 w.heap.size n N gm cm gs cs gv cv s.mv s.mem (ev s.ls) (od s.ls) := by rw [hw1]; exact KB.start w h
  have HKB := Lib.hid hkb
  have HKC := Lib.hid (hkb.kc (s := s) rfl rfl rfl h.sz h.hN)
  have HW1 := Lib.hid hw1
  obtain ⟨q, hq⟩ : ∃ q : Nat, q = p * 4 := ⟨_, rfl⟩
  obtain ⟨j, hj⟩ : ∃ j : Nat, j = p * 4 + k := ⟨_, rfl⟩
  have hqi : (p : Int) * 4 = (q : Int) := by omega
  have hji : (q : Int) + (k : Int) = (j : Int) := by omega
  have hjN : j < N := by have := HN.out; omega
  have hj0 : (0 : Int) ≤ (j : Int) := by omega
  have hk0 : (0 : Int) ≤ (k : Int) := by omega
  have hk4 : (k : Int) < 4 := by omega
  have hjNi : (j : Int) < (N : Int) := by omega
  have hc := HKC.out.st hj hjN
  obtain ⟨y, hy⟩ : ∃ y, y = s.st p k := ⟨_, rfl⟩
  rw [← hy] at hc
  have HY := Lib.hid hy; have HJ := Lib.hid hj
  have HQ := Lib.hid hq
  obtain ⟨x0, x1, x2, x3, x4, f0, f1, f2, f3, f4⟩ := hkb.cells
  clear hkb h hw1 hy hj hq
  by_cases e2 : y = 2
  · subst e2
    have HRD : Hid (s.write n p k v = s.put p k 2 v) := Lib.hid (by unfold Cs.write; rw [if_pos HY.out.symm])
    rw [HW1.out] at hc
    go_enter Tryd.func36, Tryd.ntmps36
    go_wp2_with fail
    rw [← HW1.out]
    clear hc
    refine (kSetL gs N cs (ev s.ls) j 2 _ HKB.out.S hjN (by have := HN.out; omega)).mono ?_
    rintro e w20 ⟨gs, cs, rfl, hl, _, hb⟩
    have hkb := HKB.out.below hb
    clear x0 x1 x2 x3 x4 f0 f1 f2 f3 f4
    obtain ⟨x0, x1, x2, x3, x4, f0, f1, f2, f3, f4⟩ := hkb.cells
    have HKB := Lib.hid hkb; have HL := Lib.hid hl
    clear hkb hl hb
    go_wp2_with fail
    obtain ⟨w21, hwb⟩ : ∃ wb, wb = w20.setCell ⟨w.heap.size, 2, none⟩ (.slice (some ⟨gs, 0, none⟩) N cs) := ⟨_, rfl⟩
    have hkb : KB w w21 w.heap.size n N gm cm gs cs gv cv s.mv s.mem ((ev s.ls).set j 2) (od s.ls) := by rw [hwb]; exact HKB.out.setS HL.out
    rw [← hwb]
    clear x0 x1 x2 x3 x4 f0 f1 f2 f3 f4
    obtain ⟨x0, x1, x2, x3, x4, f0, f1, f2, f3, f4⟩ := hkb.cells
    have HKB := Lib.hid hkb
    clear hkb hwb
    refine (kSetL gv N cv (od s.ls) j v _ HKB.out.V hjN (by have := HN.out; omega)).mono ?_
    rintro e w22 ⟨gv, cv, rfl, hl, _, hb⟩
    have hkb := HKB.out.below hb
    clear x0 x1 x2 x3 x4 f0 f1 f2 f3 f4
    obtain ⟨x0, x1, x2, x3, x4, f0, f1, f2, f3, f4⟩ := hkb.cells
    obtain ⟨r0, r1, r2, r3, r4, e0, e1, e2, e3, e4⟩ := hkb.rcells
    have HKB := Lib.hid (hkb.setV (c := cv) hl)
    clear hkb hl hb
    go_wp2
    refine bodyPost_ret (results_cell1 rfl _ _ (w.heap.size + 1) 66 _ _ rfl (blk5 HKB.out.res _ _ _ _ _) Tryd.underlying66 rfl info_kcaches) rfl ?_
    have hd := fun v0 v1 v2 v3 v4 => HKB.out.done0 (s := (s.put p k 2 v)) rfl (by rw [HJ.out]; exact put_ev s p k 2 v) (by rw [HJ.out]; exact put_od s p k 2 v) (by show ((s.ls.set _ _).set _ _).length = _; simpa using HZ.out) HN.out v0 v1 v2 v3 v4
    rw [HRD.out]
    refine ⟨gm, cm, gs, cs, gv, cv, ?_, ?_⟩
    · rfl
    · exact ⟨(hd _ _ _ _ _).1, (hd _ _ _ _ _).2⟩
  · have e2' : (y != 2) = true := bne_iff_ne.2 e2
    have HRD : Hid (s.write n p k v = (((s.calm n k).none_ k n).more).put p k 2 v) := Lib.hid (by unfold Cs.write; rw [if_neg (by rw [← HY.out]; exact e2)])
    have hmv := calm_mv n k s
    obtain ⟨t, ht⟩ : ∃ t, t = s.calm n k := ⟨_, rfl⟩
    rw [← ht] at HRD hmv
    have HT := Lib.hid ht
    clear ht
    rw [HW1.out] at hc
    go_enter Tryd.func36, Tryd.ntmps36
    go_wp2_with fail
    rw [← HW1.out]
    clear hc
    refine (kCalm n N k gm cm gs cs gv cv s _ HKC.out hn hk h0 h1).mono ?_
    rintro e w24 ⟨gm, cm, gs, cs, gv, cv, rfl, hkc2, hb2⟩
    rw [← HT.out] at hkc2
    have HT2 : Hid ((s.calm n k).mv = t.mv) := Lib.hid (by rw [HT.out])
    rw [HT2.out]
    have hkb := HKB.out.below hb2
    clear x0 x1 x2 x3 x4 f0 f1 f2 f3 f4
    obtain ⟨x0, x1, x2, x3, x4, f0, f1, f2, f3, f4⟩ := hkb.cells
    have HKC2 := Lib.hid hkc2; have HKB := Lib.hid hkb
    clear hkc2 hkb hb2
    go_wp2_with fail
    obtain ⟨w25, hwb⟩ : ∃ wb, wb = set5 w24 w.heap.size (.int .i64 n) (.slice (some ⟨gm, 0, none⟩) 4 cm) (.slice (some ⟨gs, 0, none⟩) N cs) (.slice (some ⟨gv, 0, none⟩) N cv) (.int .i64 t.mv) := ⟨_, rfl⟩
    have hkb : KB w w25 w.heap.size n N gm cm gs cs gv cv t.mv t.mem (ev t.ls) (od t.ls) := by rw [hwb]; exact HKB.out.setAll HKC2.out
    rw [show (((((w24.setCell ⟨w.heap.size, 0, none⟩ (.int .i64 n)).setCell ⟨w.heap.size, 1, none⟩ (.slice (some ⟨gm, 0, none⟩) 4 cm)).setCell ⟨w.heap.size, 2, none⟩ (.slice (some ⟨gs, 0, none⟩) N cs)).setCell ⟨w.heap.size, 3, none⟩ (.slice (some ⟨gv, 0, none⟩) N cv)).setCell ⟨w.heap.size, 4, none⟩ (.int .i64 t.mv)) = w25 from hwb.symm]
    clear x0 x1 x2 x3 x4 f0 f1 f2 f3 f4
    obtain ⟨x0, x1, x2, x3, x4, f0, f1, f2, f3, f4⟩ := hkb.cells
    have HKB := Lib.hid hkb
    clear hkb hwb
    have HZT : Hid (t.ls.length = 8 * n) := Lib.hid HKC2.out.sz
    go_loopw [9] (fun i wr => WRel w n N k t i wr) (fun i _ => n - (intOf i).toNat)
    case atStart => exact ⟨0, gm, cm, gs, cs, gv, cv, Nat.zero_le _, rfl, HKB.out⟩
    case round =>
      clear x0 x1 x2 x3 x4 f0 f1 f2 f3 f4 hqi hji hjNi
      obtain ⟨r, gm, cm, gs, cs, gv, cv, hr, rfl, hkb⟩ := hrel
      obtain ⟨x0, x1, x2, x3, x4, f0, f1, f2, f3, f4⟩ := hkb.cells
      have HKB := Lib.hid hkb
      clear hkb
      by_cases hlt : r < n
      · have hrn : (r : Int) < (n : Int) := by omega
        obtain ⟨u, hu⟩ : ∃ u : Nat, u = r * 4 := ⟨_, rfl⟩
        obtain ⟨z, hz⟩ : ∃ z : Nat, z = r * 4 + k := ⟨_, rfl⟩
        have hui : (r : Int) * 4 = (u : Int) := by omega
        have hzi : (u : Int) + (k : Int) = (z : Int) := by omega
        have hzN : z < N := by have := HN.out; omega
        have HZZ := Lib.hid hz; have HU := Lib.hid hu
        clear hu hz
        go_wp2_with fail
        refine (kSetL gs N cs (ev (t.none_ k r).ls) z 0 _ HKB.out.S hzN (by have := HN.out; omega)).mono ?_
        rintro e w26 ⟨gs, cs, rfl, hl, _, hb⟩
        have hkb := HKB.out.below hb
        clear x0 x1 x2 x3 x4 f0 f1 f2 f3 f4
        obtain ⟨x0, x1, x2, x3, x4, f0, f1, f2, f3, f4⟩ := hkb.cells
        have HKB := Lib.hid hkb; have HL := Lib.hid hl
        clear hkb hl hb
        go_wp2_with fail
        obtain ⟨w27, hwb⟩ : ∃ wb, wb = w26.setCell ⟨w.heap.size, 2, none⟩ (.slice (some ⟨gs, 0, none⟩) N cs) := ⟨_, rfl⟩
        have hkb : KB w w27 w.heap.size n N gm cm gs cs gv cv t.mv t.mem ((ev (t.none_ k r).ls).set z 0) (od (t.none_ k r).ls) := by rw [hwb]; exact HKB.out.setS HL.out
        rw [← hwb]
        clear x0 x1 x2 x3 x4 f0 f1 f2 f3 f4
        obtain ⟨x0, x1, x2, x3, x4, f0, f1, f2, f3, f4⟩ := hkb.cells
        have HKB := Lib.hid hkb
        clear hkb hwb
        refine (kSetL gv N cv (od (t.none_ k r).ls) z 0 _ HKB.out.V hzN (by have := HN.out; omega)).mono ?_
        rintro e w28 ⟨gv, cv, rfl, hl, _, hb⟩
        have hkb := HKB.out.below hb
        clear x0 x1 x2 x3 x4 f0 f1 f2 f3 f4
        obtain ⟨x0, x1, x2, x3, x4, f0, f1, f2, f3, f4⟩ := hkb.cells
        have HKB := Lib.hid (hkb.setV (c := cv) hl)
        clear hkb hl hb
        go_wp2
        go_roundw
        case rel =>
          have hz := HZZ.out
          have E1 : ev (t.none_ k (r + 1)).ls = (ev (t.none_ k r).ls).set z 0 := by rw [hz]; exact put_ev _ r k 0 0
          have E2 : od (t.none_ k (r + 1)).ls = (od (t.none_ k r).ls).set z 0 := by rw [hz]; exact put_od _ r k 0 0
          exact ⟨r + 1, gm, cm, gs, cs, gv, cv, hlt, by simp, by rw [E1, E2]; exact HKB.out⟩
        case measure => simp [intOf]; omega
      · obtain rfl : r = n := by omega
        have hqi : (p : Int) * 4 = (q : Int) := by have := HQ.out; omega
        have hji : (q : Int) + (k : Int) = (j : Int) := by have := HJ.out; have := HQ.out; omega
        have hjNi : (j : Int) < (N : Int) := by omega
        go_wp2_with fail
        obtain ⟨wm, hwm⟩ : ∃ wm, wm = wr.setCell ⟨w.heap.size, 4, none⟩ (.int .i64 (t.mv + 1)) := ⟨_, rfl⟩
        have hkb : KB w wm w.heap.size r N gm cm gs cs gv cv (t.mv + 1) t.mem (ev (t.none_ k r).ls) (od (t.none_ k r).ls) := by rw [hwm]; exact HKB.out.setMv _
        rw [← hwm]
        clear x0 x1 x2 x3 x4 f0 f1 f2 f3 f4
        obtain ⟨x0, x1, x2, x3, x4, f0, f1, f2, f3, f4⟩ := hkb.cells
        have HKB := Lib.hid hkb
        clear hkb hwm
        refine (kSetL gs N cs (ev (t.none_ k r).ls) j 2 _ HKB.out.S hjN (by have := HN.out; omega)).mono ?_
        rintro e w30 ⟨gs, cs, rfl, hl, _, hb⟩
        have hkb := HKB.out.below hb
        clear x0 x1 x2 x3 x4 f0 f1 f2 f3 f4
        obtain ⟨x0, x1, x2, x3, x4, f0, f1, f2, f3, f4⟩ := hkb.cells
        have HKB := Lib.hid hkb; have HL := Lib.hid hl
        clear hkb hl hb
        go_wp2_with fail
        obtain ⟨w31, hwb⟩ : ∃ wb, wb = w30.setCell ⟨w.heap.size, 2, none⟩ (.slice (some ⟨gs, 0, none⟩) N cs) := ⟨_, rfl⟩
        have hkb : KB w w31 w.heap.size r N gm cm gs cs gv cv (t.mv + 1) t.mem ((ev (t.none_ k r).ls).set j 2) (od (t.none_ k r).ls) := by rw [hwb]; exact HKB.out.setS HL.out
        rw [← hwb]
        clear x0 x1 x2 x3 x4 f0 f1 f2 f3 f4
        obtain ⟨x0, x1, x2, x3, x4, f0, f1, f2, f3, f4⟩ := hkb.cells
        have HKB := Lib.hid hkb
        clear hkb hwb
        refine (kSetL gv N cv (od (t.none_ k r).ls) j v _ HKB.out.V hjN (by have := HN.out; omega)).mono ?_
        rintro e w32 ⟨gv, cv, rfl, hl, _, hb⟩
        have hkb := HKB.out.below hb
        clear x0 x1 x2 x3 x4 f0 f1 f2 f3 f4
        obtain ⟨x0, x1, x2, x3, x4, f0, f1, f2, f3, f4⟩ := hkb.cells
        obtain ⟨r0, r1, r2, r3, r4, e0, e1, e2, e3, e4⟩ := hkb.rcells
        have HKB := Lib.hid (hkb.setV (c := cv) hl)
        clear hkb hl hb
        go_wp2
        refine bodyPost_ret (results_cell1 rfl _ _ (w.heap.size + 1) 66 _ _ rfl (blk5 HKB.out.res _ _ _ _ _) Tryd.underlying66 rfl info_kcaches) rfl ?_
        have hd := fun v0 v1 v2 v3 v4 => HKB.out.done0 (s := ((t.none_ k r).more.put p k 2 v)) (none_mem k t r) (by rw [HJ.out]; exact put_ev _ p k 2 v) (by rw [HJ.out]; exact put_od _ p k 2 v) (by show (((t.none_ k r).ls.set _ _).set _ _).length = _; simpa [none_len] using HZT.out) HN.out v0 v1 v2 v3 v4
        rw [HRD.out]
        have hmm : ((t.none_ k r).more.put p k 2 v).mv = t.mv + 1 := by show (t.none_ k r).mv + 1 = _; rw [none_mv]
        refine ⟨gm, cm, gs, cs, gv, cv, ?_, ?_⟩
        · rw [hmm]
        · exact ⟨(hd _ _ _ _ _).1, (hd _ _ _ _ _).2⟩
end Go.Proofs.YtjnghpambjjlkaaDoor
