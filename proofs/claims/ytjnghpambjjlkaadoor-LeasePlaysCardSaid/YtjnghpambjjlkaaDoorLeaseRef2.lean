/-
  The reference's lender: Wait, Borrow, Change, GiveBack, by their contracts (printed by wip/gen_leaseref.py).
-/
import Derived.Test.YtjnghpambjjlkaaDoorLeaseRef
namespace Go.Proofs.YtjnghpambjjlkaaDoor
open Go.RowKit

set_option maxHeartbeats 4000000 in
set_option maxRecDepth 100000 in
theorem kWait_range (n gh ch gu cu : Nat) (k : Kl) (d : Int) (hd : d < 0 ∨ 20 < d) (w : World) (h : KL w n k gh gu) (hn : n ≤ 4) :
    Calls Tryd.prog 22 #[.agg #[.int .i64 k.now, .int .i64 k.term, .int .i64 k.value, .int .i64 k.want, .slice (some ⟨gh, 0, none⟩) n ch, .slice (some ⟨gu, 0, none⟩) n cu], .int .i64 d] w (LPost2 w n k 1) := by
  have HH := Lib.hid h
  obtain ⟨w1, hw1⟩ : ∃ w1, w1 = (w.alloc (.cells #[.int .i64 k.now, .int .i64 k.term, .int .i64 k.value, .int .i64 k.want, .slice (some ⟨gh, 0, none⟩) n ch, .slice (some ⟨gu, 0, none⟩) n cu] 46)).alloc (.cells #[.int .i64 0, .int .i64 0, .int .i64 0, .int .i64 0, .slice none 0 0, .slice none 0 0] 46) := ⟨_, rfl⟩
  have hkb : LB w w1 w.heap.size n gh ch gu cu k := by rw [hw1]; exact LB.start w h
  have HKB := Lib.hid hkb
  have HW1 := Lib.hid hw1
  obtain ⟨x0, x1, x2, x3, x4, x5, f0, f1, f2, f3, f4, f5⟩ := hkb.cells
  obtain ⟨r0, r1, r2, r3, r4, r5, e0, e1, e2, e3, e4, e5⟩ := hkb.rcells
  clear hkb h hw1
  go_enter Tryd.func22, Tryd.ntmps22
  go_wp2_with fail
  rw [← HW1.out]
  refine (kin_no _ _ _ _ hd).mono ?_
  rintro e w' ⟨rfl, rfl⟩
  go_wp2
  (try simp only [Exit.inBlock, Exit.then])
  refine bodyPost_ret (results_cell2 rfl _ _ (w.heap.size + 1) 46 _ _ rfl (blk6 HKB.out.res _ _ _ _ _ _) Tryd.underlying46 rfl info_klender) rfl ?_
  have hd := fun v0 v1 v2 v3 v4 v5 => HKB.out.done v0 v1 v2 v3 v4 v5 (0) HKB.out.kl
  exact ⟨gh, ch, gu, cu, rfl, (hd _ _ _ _ _ _).1, (hd _ _ _ _ _ _).2⟩

set_option maxHeartbeats 4000000 in
set_option maxRecDepth 100000 in
theorem kWait_full (n gh ch gu cu : Nat) (k : Kl) (d : Int) (h1 : 0 ≤ d) (h2 : d ≤ 20) (h3 : 0 ≤ k.now) (h5 : k.now ≤ 1000) (h4 : 1000 < k.now + d) (w : World) (h : KL w n k gh gu) (hn : n ≤ 4) :
    Calls Tryd.prog 22 #[.agg #[.int .i64 k.now, .int .i64 k.term, .int .i64 k.value, .int .i64 k.want, .slice (some ⟨gh, 0, none⟩) n ch, .slice (some ⟨gu, 0, none⟩) n cu], .int .i64 d] w (LPost2 w n k 4) := by
  have HH := Lib.hid h
  obtain ⟨w1, hw1⟩ : ∃ w1, w1 = (w.alloc (.cells #[.int .i64 k.now, .int .i64 k.term, .int .i64 k.value, .int .i64 k.want, .slice (some ⟨gh, 0, none⟩) n ch, .slice (some ⟨gu, 0, none⟩) n cu] 46)).alloc (.cells #[.int .i64 0, .int .i64 0, .int .i64 0, .int .i64 0, .slice none 0 0, .slice none 0 0] 46) := ⟨_, rfl⟩
  have hkb : LB w w1 w.heap.size n gh ch gu cu k := by rw [hw1]; exact LB.start w h
  have HKB := Lib.hid hkb
  have HW1 := Lib.hid hw1
  obtain ⟨x0, x1, x2, x3, x4, x5, f0, f1, f2, f3, f4, f5⟩ := hkb.cells
  obtain ⟨r0, r1, r2, r3, r4, r5, e0, e1, e2, e3, e4, e5⟩ := hkb.rcells
  clear hkb h hw1
  go_enter Tryd.func22, Tryd.ntmps22
  go_wp2_with fail
  rw [← HW1.out]
  refine (kin_yes _ _ _ _ h1 h2).mono ?_
  rintro e w' ⟨rfl, rfl⟩
  go_wp2
  (try simp only [Exit.inBlock, Exit.then])
  refine bodyPost_ret (results_cell2 rfl _ _ (w.heap.size + 1) 46 _ _ rfl (blk6 HKB.out.res _ _ _ _ _ _) Tryd.underlying46 rfl info_klender) rfl ?_
  have hd := fun v0 v1 v2 v3 v4 v5 => HKB.out.done v0 v1 v2 v3 v4 v5 (0) HKB.out.kl
  exact ⟨gh, ch, gu, cu, rfl, (hd _ _ _ _ _ _).1, (hd _ _ _ _ _ _).2⟩

set_option maxHeartbeats 4000000 in
set_option maxRecDepth 100000 in
theorem kWait_ok (n gh ch gu cu : Nat) (k : Kl) (d : Int) (h1 : 0 ≤ d) (h2 : d ≤ 20) (h3 : 0 ≤ k.now) (h4 : k.now + d ≤ 1000) (w : World) (h : KL w n k gh gu) (hn : n ≤ 4) :
    Calls Tryd.prog 22 #[.agg #[.int .i64 k.now, .int .i64 k.term, .int .i64 k.value, .int .i64 k.want, .slice (some ⟨gh, 0, none⟩) n ch, .slice (some ⟨gu, 0, none⟩) n cu], .int .i64 d] w (LPost2 w n (k.later d).settled 0) := by
  have HH := Lib.hid h
  obtain ⟨w1, hw1⟩ : ∃ w1, w1 = (w.alloc (.cells #[.int .i64 k.now, .int .i64 k.term, .int .i64 k.value, .int .i64 k.want, .slice (some ⟨gh, 0, none⟩) n ch, .slice (some ⟨gu, 0, none⟩) n cu] 46)).alloc (.cells #[.int .i64 0, .int .i64 0, .int .i64 0, .int .i64 0, .slice none 0 0, .slice none 0 0] 46) := ⟨_, rfl⟩
  have hkb : LB w w1 w.heap.size n gh ch gu cu k := by rw [hw1]; exact LB.start w h
  have HKB := Lib.hid hkb
  have HW1 := Lib.hid hw1
  obtain ⟨x0, x1, x2, x3, x4, x5, f0, f1, f2, f3, f4, f5⟩ := hkb.cells
  obtain ⟨r0, r1, r2, r3, r4, r5, e0, e1, e2, e3, e4, e5⟩ := hkb.rcells
  clear hkb h hw1
  go_enter Tryd.func22, Tryd.ntmps22
  go_wp2_with fail
  rw [← HW1.out]
  refine (kin_yes _ _ _ _ h1 h2).mono ?_
  rintro e w' ⟨rfl, rfl⟩
  go_wp2_with fail
  have hkb2 := HKB.out.set (k' := k.later d) 0 (.int .i64 (k.now + d)) rfl rfl rfl
  obtain ⟨w2, hw2⟩ : ∃ w2, w2 = w1.setCell ⟨w.heap.size, 0, none⟩ (.int .i64 (k.now + d)) := ⟨_, rfl⟩
  rw [← hw2] at hkb2 ⊢
  clear hw2
  refine (kSettled n gh ch gu cu (k.later d) _ hkb2.kl hn).mono ?_
  rintro e w3 ⟨gh, ch, gu, cu, rfl, hkl, hb3⟩
  have hkb3 := hkb2.below hb3
  clear x0 x1 x2 x3 x4 x5 f0 f1 f2 f3 f4 f5 r0 r1 r2 r3 r4 r5 e0 e1 e2 e3 e4 e5
  obtain ⟨x0, x1, x2, x3, x4, x5, f0, f1, f2, f3, f4, f5⟩ := hkb3.cells
  obtain ⟨r0, r1, r2, r3, r4, r5, e0, e1, e2, e3, e4, e5⟩ := hkb3.rcells
  go_wp2
  (try simp only [Exit.inBlock, Exit.then])
  refine bodyPost_ret (results_cell2 rfl _ _ (w.heap.size + 1) 46 _ _ rfl (blk6 hkb3.res _ _ _ _ _ _) Tryd.underlying46 rfl info_klender) rfl ?_
  have hd := fun v0 v1 v2 v3 v4 v5 => hkb3.done v0 v1 v2 v3 v4 v5 (0) hkl
  exact ⟨gh, ch, gu, cu, rfl, (hd _ _ _ _ _ _).1, (hd _ _ _ _ _ _).2⟩

set_option maxHeartbeats 4000000 in
set_option maxRecDepth 100000 in
theorem kBorrow_range (n gh ch gu cu : Nat) (k : Kl) (p : Int) (hp : p < 0 ∨ (n : Int) - 1 < p) (w : World) (h : KL w n k gh gu) (hn : n ≤ 4) :
    Calls Tryd.prog 24 #[.agg #[.int .i64 k.now, .int .i64 k.term, .int .i64 k.value, .int .i64 k.want, .slice (some ⟨gh, 0, none⟩) n ch, .slice (some ⟨gu, 0, none⟩) n cu], .int .i64 p] w (LPost3 w n k (.int .i64 0) 1) := by
  have HH := Lib.hid h
  obtain ⟨w1, hw1⟩ : ∃ w1, w1 = (w.alloc (.cells #[.int .i64 k.now, .int .i64 k.term, .int .i64 k.value, .int .i64 k.want, .slice (some ⟨gh, 0, none⟩) n ch, .slice (some ⟨gu, 0, none⟩) n cu] 46)).alloc (.cells #[.int .i64 0, .int .i64 0, .int .i64 0, .int .i64 0, .slice none 0 0, .slice none 0 0] 46) := ⟨_, rfl⟩
  have hkb : LB w w1 w.heap.size n gh ch gu cu k := by rw [hw1]; exact LB.start w h
  have HKB := Lib.hid hkb
  have HW1 := Lib.hid hw1
  obtain ⟨x0, x1, x2, x3, x4, x5, f0, f1, f2, f3, f4, f5⟩ := hkb.cells
  obtain ⟨r0, r1, r2, r3, r4, r5, e0, e1, e2, e3, e4, e5⟩ := hkb.rcells
  clear hkb h hw1
  have hq : IntKind.i64.wrap ((n : Int) - 1) = (n : Int) - 1 := IntWalk.i64_in _ (by omega)
  go_enter Tryd.func24, Tryd.ntmps24
  go_wp2_with fail
  rw [← HW1.out]
  refine (kin_no _ _ _ _ hp).mono ?_
  rintro e w' ⟨rfl, rfl⟩
  go_wp2
  (try simp only [Exit.inBlock, Exit.then])
  refine bodyPost_ret (results_cell3 rfl _ _ (w.heap.size + 1) 46 _ _ rfl (blk6 HKB.out.res _ _ _ _ _ _) Tryd.underlying46 rfl info_klender) rfl ?_
  have hd := fun v0 v1 v2 v3 v4 v5 => HKB.out.done v0 v1 v2 v3 v4 v5 (0) HKB.out.kl
  exact ⟨gh, ch, gu, cu, rfl, (hd _ _ _ _ _ _).1, (hd _ _ _ _ _ _).2⟩

set_option maxHeartbeats 4000000 in
set_option maxRecDepth 100000 in
theorem kBorrow_had (n gh ch gu cu : Nat) (k : Kl) (p : Nat) (hp : p < n) (hx : k.now < k.unt.getD p 0) (w : World) (h : KL w n k gh gu) (hn : n ≤ 4) :
    Calls Tryd.prog 24 #[.agg #[.int .i64 k.now, .int .i64 k.term, .int .i64 k.value, .int .i64 k.want, .slice (some ⟨gh, 0, none⟩) n ch, .slice (some ⟨gu, 0, none⟩) n cu], .int .i64 p] w (LPost3 w n k (.int .i64 (k.had.getD p 0)) 0) := by
  have HH := Lib.hid h
  obtain ⟨w1, hw1⟩ : ∃ w1, w1 = (w.alloc (.cells #[.int .i64 k.now, .int .i64 k.term, .int .i64 k.value, .int .i64 k.want, .slice (some ⟨gh, 0, none⟩) n ch, .slice (some ⟨gu, 0, none⟩) n cu] 46)).alloc (.cells #[.int .i64 0, .int .i64 0, .int .i64 0, .int .i64 0, .slice none 0 0, .slice none 0 0] 46) := ⟨_, rfl⟩
  have hkb : LB w w1 w.heap.size n gh ch gu cu k := by rw [hw1]; exact LB.start w h
  have HKB := Lib.hid hkb
  have HW1 := Lib.hid hw1
  obtain ⟨x0, x1, x2, x3, x4, x5, f0, f1, f2, f3, f4, f5⟩ := hkb.cells
  obtain ⟨r0, r1, r2, r3, r4, r5, e0, e1, e2, e3, e4, e5⟩ := hkb.rcells
  clear hkb h hw1
  have hq : IntKind.i64.wrap ((n : Int) - 1) = (n : Int) - 1 := IntWalk.i64_in _ (by omega)
  have hcu := HKB.out.U.cell hp
  obtain ⟨u, hu⟩ : ∃ u, u = k.unt.getD p 0 := ⟨_, rfl⟩
  rw [← hu] at hcu hx
  have HU := Lib.hid hu
  clear hu
  have hp0 : (0 : Int) ≤ (p : Int) := by omega
  have hpn : (p : Int) < (n : Int) := by omega
  have hch := HKB.out.H.cell hp
  obtain ⟨y, hy⟩ : ∃ y, y = k.had.getD p 0 := ⟨_, rfl⟩
  rw [← hy] at hch ⊢
  clear hy
  have hneU := HKB.out.U.ne HKB.out.res (by decide)
  have hneH := HKB.out.H.ne HKB.out.res (by decide)
  go_enter Tryd.func24, Tryd.ntmps24
  go_wp2_with fail
  rw [← HW1.out]
  refine (kin_yes _ _ _ _ (by omega) (by omega)).mono ?_
  rintro e w' ⟨rfl, rfl⟩
  go_wp2
  go_quiet (fail)
  go_wp2
  go_region
  all_goals
    (try go_wp2)
    (try simp only [Exit.inBlock, Exit.then])
    refine bodyPost_ret (results_cell3 rfl _ _ (w.heap.size + 1) 46 _ _ rfl (blk6 (HKB.out.res.drewN (nq + 1)) _ _ _ _ _ _) Tryd.underlying46 rfl info_klender) rfl ?_
    have hd := fun v0 v1 v2 v3 v4 v5 => HKB.out.done v0 v1 v2 v3 v4 v5 (nq + 1) HKB.out.kl
    exact ⟨gh, ch, gu, cu, rfl, (hd _ _ _ _ _ _).1, (hd _ _ _ _ _ _).2⟩

set_option maxHeartbeats 4000000 in
set_option maxRecDepth 100000 in
theorem kBorrow_state (n gh ch gu cu : Nat) (k : Kl) (p : Nat) (hp : p < n) (hx : k.unt.getD p 0 ≤ k.now) (hw : 0 ≤ k.want) (w : World) (h : KL w n k gh gu) (hn : n ≤ 4) :
    Calls Tryd.prog 24 #[.agg #[.int .i64 k.now, .int .i64 k.term, .int .i64 k.value, .int .i64 k.want, .slice (some ⟨gh, 0, none⟩) n ch, .slice (some ⟨gu, 0, none⟩) n cu], .int .i64 p] w (LPost3 w n k (.int .i64 0) 7) := by
  have HH := Lib.hid h
  obtain ⟨w1, hw1⟩ : ∃ w1, w1 = (w.alloc (.cells #[.int .i64 k.now, .int .i64 k.term, .int .i64 k.value, .int .i64 k.want, .slice (some ⟨gh, 0, none⟩) n ch, .slice (some ⟨gu, 0, none⟩) n cu] 46)).alloc (.cells #[.int .i64 0, .int .i64 0, .int .i64 0, .int .i64 0, .slice none 0 0, .slice none 0 0] 46) := ⟨_, rfl⟩
  have hkb : LB w w1 w.heap.size n gh ch gu cu k := by rw [hw1]; exact LB.start w h
  have HKB := Lib.hid hkb
  have HW1 := Lib.hid hw1
  obtain ⟨x0, x1, x2, x3, x4, x5, f0, f1, f2, f3, f4, f5⟩ := hkb.cells
  obtain ⟨r0, r1, r2, r3, r4, r5, e0, e1, e2, e3, e4, e5⟩ := hkb.rcells
  clear hkb h hw1
  have hq : IntKind.i64.wrap ((n : Int) - 1) = (n : Int) - 1 := IntWalk.i64_in _ (by omega)
  have hcu := HKB.out.U.cell hp
  obtain ⟨u, hu⟩ : ∃ u, u = k.unt.getD p 0 := ⟨_, rfl⟩
  rw [← hu] at hcu hx
  have HU := Lib.hid hu
  clear hu
  have hp0 : (0 : Int) ≤ (p : Int) := by omega
  have hpn : (p : Int) < (n : Int) := by omega
  go_enter Tryd.func24, Tryd.ntmps24
  go_wp2_with fail
  rw [← HW1.out]
  refine (kin_yes _ _ _ _ (by omega) (by omega)).mono ?_
  rintro e w' ⟨rfl, rfl⟩
  go_wp2
  go_quiet (fail)
  go_wp2
  (try simp only [Exit.inBlock, Exit.then])
  refine bodyPost_ret (results_cell3 rfl _ _ (w.heap.size + 1) 46 _ _ rfl (blk6 (HKB.out.res.drewN (nq)) _ _ _ _ _ _) Tryd.underlying46 rfl info_klender) rfl ?_
  have hd := fun v0 v1 v2 v3 v4 v5 => HKB.out.done v0 v1 v2 v3 v4 v5 (nq) HKB.out.kl
  exact ⟨gh, ch, gu, cu, rfl, (hd _ _ _ _ _ _).1, (hd _ _ _ _ _ _).2⟩

set_option maxHeartbeats 4000000 in
set_option maxRecDepth 100000 in
theorem kBorrow_lend (n gh ch gu cu : Nat) (k : Kl) (p : Nat) (hp : p < n) (hx : k.unt.getD p 0 ≤ k.now) (hw : k.want < 0) (h1 : 0 ≤ k.now) (h2 : k.now ≤ 1000) (h3 : 0 ≤ k.term) (h4 : k.term ≤ 20) (w : World) (h : KL w n k gh gu) (hn : n ≤ 4) :
    Calls Tryd.prog 24 #[.agg #[.int .i64 k.now, .int .i64 k.term, .int .i64 k.value, .int .i64 k.want, .slice (some ⟨gh, 0, none⟩) n ch, .slice (some ⟨gu, 0, none⟩) n cu], .int .i64 p] w (LPost3 w n (k.lend p) (.int .i64 k.value) 0) := by
  have HH := Lib.hid h
  obtain ⟨w1, hw1⟩ : ∃ w1, w1 = (w.alloc (.cells #[.int .i64 k.now, .int .i64 k.term, .int .i64 k.value, .int .i64 k.want, .slice (some ⟨gh, 0, none⟩) n ch, .slice (some ⟨gu, 0, none⟩) n cu] 46)).alloc (.cells #[.int .i64 0, .int .i64 0, .int .i64 0, .int .i64 0, .slice none 0 0, .slice none 0 0] 46) := ⟨_, rfl⟩
  have hkb : LB w w1 w.heap.size n gh ch gu cu k := by rw [hw1]; exact LB.start w h
  have HKB := Lib.hid hkb
  have HW1 := Lib.hid hw1
  obtain ⟨x0, x1, x2, x3, x4, x5, f0, f1, f2, f3, f4, f5⟩ := hkb.cells
  obtain ⟨r0, r1, r2, r3, r4, r5, e0, e1, e2, e3, e4, e5⟩ := hkb.rcells
  clear hkb h hw1
  have hq : IntKind.i64.wrap ((n : Int) - 1) = (n : Int) - 1 := IntWalk.i64_in _ (by omega)
  have hcu := HKB.out.U.cell hp
  obtain ⟨u, hu⟩ : ∃ u, u = k.unt.getD p 0 := ⟨_, rfl⟩
  rw [← hu] at hcu hx
  have HU := Lib.hid hu
  clear hu
  have hp0 : (0 : Int) ≤ (p : Int) := by omega
  have hpn : (p : Int) < (n : Int) := by omega
  go_enter Tryd.func24, Tryd.ntmps24
  go_wp2_with fail
  rw [← HW1.out]
  refine (kin_yes _ _ _ _ (by omega) (by omega)).mono ?_
  rintro e w' ⟨rfl, rfl⟩
  go_wp2
  go_quiet (fail)
  have hkbq := HKB.out.keep ((Keep.refl [] w1).drewN nq)
  obtain ⟨wq, hwq⟩ : ∃ wq, wq = w1.drewN nq := ⟨_, rfl⟩
  rw [← hwq] at hkbq ⊢
  clear x0 x1 x2 x3 x4 x5 f0 f1 f2 f3 f4 f5 r0 r1 r2 r3 r4 r5 e0 e1 e2 e3 e4 e5 hwq hcu
  obtain ⟨x0, x1, x2, x3, x4, x5, f0, f1, f2, f3, f4, f5⟩ := hkbq.cells
  obtain ⟨r0, r1, r2, r3, r4, r5, e0, e1, e2, e3, e4, e5⟩ := hkbq.rcells
  have HKB := Lib.hid hkbq
  clear hkbq
  go_wp2_with fail
  refine (kSetL gh n ch k.had p k.value _ HKB.out.H hp (by omega)).mono ?_
  rintro e w20 ⟨gh, ch, rfl, hl, _, hb⟩
  have hkb := HKB.out.below hb
  clear x0 x1 x2 x3 x4 x5 f0 f1 f2 f3 f4 f5 r0 r1 r2 r3 r4 r5 e0 e1 e2 e3 e4 e5
  obtain ⟨x0, x1, x2, x3, x4, x5, f0, f1, f2, f3, f4, f5⟩ := hkb.cells
  obtain ⟨r0, r1, r2, r3, r4, r5, e0, e1, e2, e3, e4, e5⟩ := hkb.rcells
  have HKB := Lib.hid hkb; have HL := Lib.hid hl
  clear hkb hl hb
  go_wp2_with fail
  obtain ⟨w21, hwb⟩ : ∃ wb, wb = w20.setCell ⟨w.heap.size, 4, none⟩ (.slice (some ⟨gh, 0, none⟩) n ch) := ⟨_, rfl⟩
  have hkb : LB w w21 w.heap.size n gh ch gu cu { k with had := k.had.set p k.value } := by rw [hwb]; exact HKB.out.setH HL.out
  rw [← hwb]
  clear x0 x1 x2 x3 x4 x5 f0 f1 f2 f3 f4 f5 r0 r1 r2 r3 r4 r5 e0 e1 e2 e3 e4 e5 hwb
  obtain ⟨x0, x1, x2, x3, x4, x5, f0, f1, f2, f3, f4, f5⟩ := hkb.cells
  obtain ⟨r0, r1, r2, r3, r4, r5, e0, e1, e2, e3, e4, e5⟩ := hkb.rcells
  have HKB := Lib.hid hkb
  clear hkb
  refine (kSetL gu n cu k.unt p (k.now + k.term) _ HKB.out.U hp (by omega)).mono ?_
  rintro e w22 ⟨gu, cu, rfl, hl, _, hb⟩
  have hkb := HKB.out.below hb
  clear x0 x1 x2 x3 x4 x5 f0 f1 f2 f3 f4 f5 r0 r1 r2 r3 r4 r5 e0 e1 e2 e3 e4 e5
  obtain ⟨x0, x1, x2, x3, x4, x5, f0, f1, f2, f3, f4, f5⟩ := hkb.cells
  obtain ⟨r0, r1, r2, r3, r4, r5, e0, e1, e2, e3, e4, e5⟩ := hkb.rcells
  have HKB := Lib.hid hkb; have HL := Lib.hid hl
  clear hkb hl hb
  go_wp2_with fail
  obtain ⟨w23, hwb⟩ : ∃ wb, wb = w22.setCell ⟨w.heap.size, 5, none⟩ (.slice (some ⟨gu, 0, none⟩) n cu) := ⟨_, rfl⟩
  have hkb : LB w w23 w.heap.size n gh ch gu cu (k.lend p) := by rw [hwb]; exact HKB.out.setU HL.out
  rw [← hwb]
  clear x0 x1 x2 x3 x4 x5 f0 f1 f2 f3 f4 f5 r0 r1 r2 r3 r4 r5 e0 e1 e2 e3 e4 e5 hwb
  obtain ⟨x0, x1, x2, x3, x4, x5, f0, f1, f2, f3, f4, f5⟩ := hkb.cells
  obtain ⟨r0, r1, r2, r3, r4, r5, e0, e1, e2, e3, e4, e5⟩ := hkb.rcells
  have HKB := Lib.hid hkb
  clear hkb
  go_region
  all_goals
    (try go_wp2)
    (try simp only [Exit.inBlock, Exit.then])
    refine bodyPost_ret (results_cell3 rfl _ _ (w.heap.size + 1) 46 _ _ rfl (blk6 HKB.out.res _ _ _ _ _ _).drew Tryd.underlying46 rfl info_klender) rfl ?_
    have hd := fun v0 v1 v2 v3 v4 v5 => HKB.out.doneD v0 v1 v2 v3 v4 v5 HKB.out.kl
    exact ⟨gh, ch, gu, cu, rfl, (hd _ _ _ _ _ _).1, (hd _ _ _ _ _ _).2⟩

set_option maxHeartbeats 4000000 in
set_option maxRecDepth 100000 in
theorem kChange_range (n gh ch gu cu : Nat) (k : Kl) (v : Int) (hv : v < 0 ∨ 1000 < v) (w : World) (h : KL w n k gh gu) (hn : n ≤ 4) :
    Calls Tryd.prog 26 #[.agg #[.int .i64 k.now, .int .i64 k.term, .int .i64 k.value, .int .i64 k.want, .slice (some ⟨gh, 0, none⟩) n ch, .slice (some ⟨gu, 0, none⟩) n cu], .int .i64 v] w (LPost3 w n k (.bool false) 1) := by
  have HH := Lib.hid h
  obtain ⟨w1, hw1⟩ : ∃ w1, w1 = (w.alloc (.cells #[.int .i64 k.now, .int .i64 k.term, .int .i64 k.value, .int .i64 k.want, .slice (some ⟨gh, 0, none⟩) n ch, .slice (some ⟨gu, 0, none⟩) n cu] 46)).alloc (.cells #[.int .i64 0, .int .i64 0, .int .i64 0, .int .i64 0, .slice none 0 0, .slice none 0 0] 46) := ⟨_, rfl⟩
  have hkb : LB w w1 w.heap.size n gh ch gu cu k := by rw [hw1]; exact LB.start w h
  have HKB := Lib.hid hkb
  have HW1 := Lib.hid hw1
  obtain ⟨x0, x1, x2, x3, x4, x5, f0, f1, f2, f3, f4, f5⟩ := hkb.cells
  obtain ⟨r0, r1, r2, r3, r4, r5, e0, e1, e2, e3, e4, e5⟩ := hkb.rcells
  clear hkb h hw1
  go_enter Tryd.func26, Tryd.ntmps26
  go_wp2_with fail
  rw [← HW1.out]
  refine (kin_no _ _ _ _ hv).mono ?_
  rintro e w' ⟨rfl, rfl⟩
  go_wp2
  (try simp only [Exit.inBlock, Exit.then])
  refine bodyPost_ret (results_cell3 rfl _ _ (w.heap.size + 1) 46 _ _ rfl (blk6 HKB.out.res _ _ _ _ _ _) Tryd.underlying46 rfl info_klender) rfl ?_
  have hd := fun v0 v1 v2 v3 v4 v5 => HKB.out.done v0 v1 v2 v3 v4 v5 (0) HKB.out.kl
  exact ⟨gh, ch, gu, cu, rfl, (hd _ _ _ _ _ _).1, (hd _ _ _ _ _ _).2⟩

set_option maxHeartbeats 4000000 in
set_option maxRecDepth 100000 in
theorem kChange_state (n gh ch gu cu : Nat) (k : Kl) (v : Int) (h1 : 0 ≤ v) (h2 : v ≤ 1000) (hw : 0 ≤ k.want) (w : World) (h : KL w n k gh gu) (hn : n ≤ 4) :
    Calls Tryd.prog 26 #[.agg #[.int .i64 k.now, .int .i64 k.term, .int .i64 k.value, .int .i64 k.want, .slice (some ⟨gh, 0, none⟩) n ch, .slice (some ⟨gu, 0, none⟩) n cu], .int .i64 v] w (LPost3 w n k (.bool false) 7) := by
  have HH := Lib.hid h
  obtain ⟨w1, hw1⟩ : ∃ w1, w1 = (w.alloc (.cells #[.int .i64 k.now, .int .i64 k.term, .int .i64 k.value, .int .i64 k.want, .slice (some ⟨gh, 0, none⟩) n ch, .slice (some ⟨gu, 0, none⟩) n cu] 46)).alloc (.cells #[.int .i64 0, .int .i64 0, .int .i64 0, .int .i64 0, .slice none 0 0, .slice none 0 0] 46) := ⟨_, rfl⟩
  have hkb : LB w w1 w.heap.size n gh ch gu cu k := by rw [hw1]; exact LB.start w h
  have HKB := Lib.hid hkb
  have HW1 := Lib.hid hw1
  obtain ⟨x0, x1, x2, x3, x4, x5, f0, f1, f2, f3, f4, f5⟩ := hkb.cells
  obtain ⟨r0, r1, r2, r3, r4, r5, e0, e1, e2, e3, e4, e5⟩ := hkb.rcells
  clear hkb h hw1
  go_enter Tryd.func26, Tryd.ntmps26
  go_wp2_with fail
  rw [← HW1.out]
  refine (kin_yes _ _ _ _ h1 h2).mono ?_
  rintro e w' ⟨rfl, rfl⟩
  go_wp2
  (try simp only [Exit.inBlock, Exit.then])
  refine bodyPost_ret (results_cell3 rfl _ _ (w.heap.size + 1) 46 _ _ rfl (blk6 HKB.out.res _ _ _ _ _ _) Tryd.underlying46 rfl info_klender) rfl ?_
  have hd := fun v0 v1 v2 v3 v4 v5 => HKB.out.done v0 v1 v2 v3 v4 v5 (0) HKB.out.kl
  exact ⟨gh, ch, gu, cu, rfl, (hd _ _ _ _ _ _).1, (hd _ _ _ _ _ _).2⟩

set_option maxHeartbeats 4000000 in
set_option maxRecDepth 100000 in
theorem kChange_ok (n gh ch gu cu : Nat) (k : Kl) (v : Int) (h1 : 0 ≤ v) (h2 : v ≤ 1000) (hw : k.want < 0) (w : World) (h : KL w n k gh gu) (hn : n ≤ 4) :
    Calls Tryd.prog 26 #[.agg #[.int .i64 k.now, .int .i64 k.term, .int .i64 k.value, .int .i64 k.want, .slice (some ⟨gh, 0, none⟩) n ch, .slice (some ⟨gu, 0, none⟩) n cu], .int .i64 v] w (LPost3 w n (k.wants v).settled (.bool (decide ((k.wants v).settled.want < 0))) 0) := by
  have HH := Lib.hid h
  obtain ⟨w1, hw1⟩ : ∃ w1, w1 = (w.alloc (.cells #[.int .i64 k.now, .int .i64 k.term, .int .i64 k.value, .int .i64 k.want, .slice (some ⟨gh, 0, none⟩) n ch, .slice (some ⟨gu, 0, none⟩) n cu] 46)).alloc (.cells #[.int .i64 0, .int .i64 0, .int .i64 0, .int .i64 0, .slice none 0 0, .slice none 0 0] 46) := ⟨_, rfl⟩
  have hkb : LB w w1 w.heap.size n gh ch gu cu k := by rw [hw1]; exact LB.start w h
  have HKB := Lib.hid hkb
  have HW1 := Lib.hid hw1
  obtain ⟨x0, x1, x2, x3, x4, x5, f0, f1, f2, f3, f4, f5⟩ := hkb.cells
  obtain ⟨r0, r1, r2, r3, r4, r5, e0, e1, e2, e3, e4, e5⟩ := hkb.rcells
  clear hkb h hw1
  go_enter Tryd.func26, Tryd.ntmps26
  go_wp2_with fail
  rw [← HW1.out]
  refine (kin_yes _ _ _ _ h1 h2).mono ?_
  rintro e w' ⟨rfl, rfl⟩
  go_wp2_with fail
  have hkb2 := HKB.out.set (k' := k.wants v) 3 (.int .i64 v) rfl rfl rfl
  obtain ⟨w2, hw2⟩ : ∃ w2, w2 = w1.setCell ⟨w.heap.size, 3, none⟩ (.int .i64 v) := ⟨_, rfl⟩
  rw [← hw2] at hkb2 ⊢
  clear hw2
  refine (kSettled n gh ch gu cu (k.wants v) _ hkb2.kl hn).mono ?_
  rintro e w3 ⟨gh, ch, gu, cu, rfl, hkl, hb3⟩
  have hkb3 := hkb2.below hb3
  clear x0 x1 x2 x3 x4 x5 f0 f1 f2 f3 f4 f5 r0 r1 r2 r3 r4 r5 e0 e1 e2 e3 e4 e5
  obtain ⟨x0, x1, x2, x3, x4, x5, f0, f1, f2, f3, f4, f5⟩ := hkb3.cells
  obtain ⟨r0, r1, r2, r3, r4, r5, e0, e1, e2, e3, e4, e5⟩ := hkb3.rcells
  obtain ⟨k', hk'⟩ : ∃ k', k' = (k.wants v).settled := ⟨_, rfl⟩
  rw [← hk'] at hkl
  have HKS := Lib.hid hk'
  have HKL := Lib.hid hkl
  go_wp2_with fail
  rw [← hk']
  clear hk' hkl hb3
  have hkb4 : LB w (set6 w3 w.heap.size (.int .i64 k'.now) (.int .i64 k'.term) (.int .i64 k'.value) (.int .i64 k'.want) (.slice (some ⟨gh, 0, none⟩) n ch) (.slice (some ⟨gu, 0, none⟩) n cu)) w.heap.size n gh ch gu cu k' := hkb3.setAll HKL.out
  obtain ⟨w4, hw4⟩ : ∃ w4, w4 = set6 w3 w.heap.size (.int .i64 k'.now) (.int .i64 k'.term) (.int .i64 k'.value) (.int .i64 k'.want) (.slice (some ⟨gh, 0, none⟩) n ch) (.slice (some ⟨gu, 0, none⟩) n cu) := ⟨_, rfl⟩
  rw [← hw4] at hkb4
  rw [show ((((((w3.setCell ⟨w.heap.size, 0, none⟩ (.int .i64 k'.now)).setCell ⟨w.heap.size, 1, none⟩ (.int .i64 k'.term)).setCell ⟨w.heap.size, 2, none⟩ (.int .i64 k'.value)).setCell ⟨w.heap.size, 3, none⟩ (.int .i64 k'.want)).setCell ⟨w.heap.size, 4, none⟩ (.slice (some ⟨gh, 0, none⟩) n ch)).setCell ⟨w.heap.size, 5, none⟩ (.slice (some ⟨gu, 0, none⟩) n cu)) = w4 from hw4.symm]
  clear x0 x1 x2 x3 x4 x5 f0 f1 f2 f3 f4 f5 r0 r1 r2 r3 r4 r5 e0 e1 e2 e3 e4 e5 hw4
  obtain ⟨x0, x1, x2, x3, x4, x5, f0, f1, f2, f3, f4, f5⟩ := hkb4.cells
  obtain ⟨r0, r1, r2, r3, r4, r5, e0, e1, e2, e3, e4, e5⟩ := hkb4.rcells
  have HKB := Lib.hid hkb4
  clear hkb4
  go_region
  all_goals
    (try go_wp2)
    (try simp only [Exit.inBlock, Exit.then])
    refine bodyPost_ret (results_cell3 rfl _ _ (w.heap.size + 1) 46 _ _ rfl (blk6 HKB.out.res _ _ _ _ _ _).drew Tryd.underlying46 rfl info_klender) rfl ?_
    have hd := fun v0 v1 v2 v3 v4 v5 => HKB.out.doneD v0 v1 v2 v3 v4 v5 HKB.out.kl
    rw [← HKS.out]
    exact ⟨gh, ch, gu, cu, rfl, (hd _ _ _ _ _ _).1, (hd _ _ _ _ _ _).2⟩

set_option maxHeartbeats 4000000 in
set_option maxRecDepth 100000 in
theorem kGive_range (n gh ch gu cu : Nat) (k : Kl) (p : Int) (hp : p < 0 ∨ (n : Int) - 1 < p) (w : World) (h : KL w n k gh gu) (hn : n ≤ 4) :
    Calls Tryd.prog 28 #[.agg #[.int .i64 k.now, .int .i64 k.term, .int .i64 k.value, .int .i64 k.want, .slice (some ⟨gh, 0, none⟩) n ch, .slice (some ⟨gu, 0, none⟩) n cu], .int .i64 p] w (LPost2 w n k 1) := by
  have HH := Lib.hid h
  obtain ⟨w1, hw1⟩ : ∃ w1, w1 = (w.alloc (.cells #[.int .i64 k.now, .int .i64 k.term, .int .i64 k.value, .int .i64 k.want, .slice (some ⟨gh, 0, none⟩) n ch, .slice (some ⟨gu, 0, none⟩) n cu] 46)).alloc (.cells #[.int .i64 0, .int .i64 0, .int .i64 0, .int .i64 0, .slice none 0 0, .slice none 0 0] 46) := ⟨_, rfl⟩
  have hkb : LB w w1 w.heap.size n gh ch gu cu k := by rw [hw1]; exact LB.start w h
  have HKB := Lib.hid hkb
  have HW1 := Lib.hid hw1
  obtain ⟨x0, x1, x2, x3, x4, x5, f0, f1, f2, f3, f4, f5⟩ := hkb.cells
  obtain ⟨r0, r1, r2, r3, r4, r5, e0, e1, e2, e3, e4, e5⟩ := hkb.rcells
  clear hkb h hw1
  have hq : IntKind.i64.wrap ((n : Int) - 1) = (n : Int) - 1 := IntWalk.i64_in _ (by omega)
  go_enter Tryd.func28, Tryd.ntmps28
  go_wp2_with fail
  rw [← HW1.out]
  refine (kin_no _ _ _ _ hp).mono ?_
  rintro e w' ⟨rfl, rfl⟩
  go_wp2
  (try simp only [Exit.inBlock, Exit.then])
  refine bodyPost_ret (results_cell2 rfl _ _ (w.heap.size + 1) 46 _ _ rfl (blk6 HKB.out.res _ _ _ _ _ _) Tryd.underlying46 rfl info_klender) rfl ?_
  have hd := fun v0 v1 v2 v3 v4 v5 => HKB.out.done v0 v1 v2 v3 v4 v5 (0) HKB.out.kl
  exact ⟨gh, ch, gu, cu, rfl, (hd _ _ _ _ _ _).1, (hd _ _ _ _ _ _).2⟩

set_option maxHeartbeats 4000000 in
set_option maxRecDepth 100000 in
theorem kGive_none (n gh ch gu cu : Nat) (k : Kl) (p : Nat) (hp : p < n) (hx : k.unt.getD p 0 ≤ k.now) (w : World) (h : KL w n k gh gu) (hn : n ≤ 4) :
    Calls Tryd.prog 28 #[.agg #[.int .i64 k.now, .int .i64 k.term, .int .i64 k.value, .int .i64 k.want, .slice (some ⟨gh, 0, none⟩) n ch, .slice (some ⟨gu, 0, none⟩) n cu], .int .i64 p] w (LPost2 w n k 5) := by
  have HH := Lib.hid h
  obtain ⟨w1, hw1⟩ : ∃ w1, w1 = (w.alloc (.cells #[.int .i64 k.now, .int .i64 k.term, .int .i64 k.value, .int .i64 k.want, .slice (some ⟨gh, 0, none⟩) n ch, .slice (some ⟨gu, 0, none⟩) n cu] 46)).alloc (.cells #[.int .i64 0, .int .i64 0, .int .i64 0, .int .i64 0, .slice none 0 0, .slice none 0 0] 46) := ⟨_, rfl⟩
  have hkb : LB w w1 w.heap.size n gh ch gu cu k := by rw [hw1]; exact LB.start w h
  have HKB := Lib.hid hkb
  have HW1 := Lib.hid hw1
  obtain ⟨x0, x1, x2, x3, x4, x5, f0, f1, f2, f3, f4, f5⟩ := hkb.cells
  obtain ⟨r0, r1, r2, r3, r4, r5, e0, e1, e2, e3, e4, e5⟩ := hkb.rcells
  clear hkb h hw1
  have hq : IntKind.i64.wrap ((n : Int) - 1) = (n : Int) - 1 := IntWalk.i64_in _ (by omega)
  have hcu := HKB.out.U.cell hp
  obtain ⟨u, hu⟩ : ∃ u, u = k.unt.getD p 0 := ⟨_, rfl⟩
  rw [← hu] at hcu hx
  have HU := Lib.hid hu
  clear hu
  have hp0 : (0 : Int) ≤ (p : Int) := by omega
  have hpn : (p : Int) < (n : Int) := by omega
  go_enter Tryd.func28, Tryd.ntmps28
  go_wp2_with fail
  rw [← HW1.out]
  refine (kin_yes _ _ _ _ (by omega) (by omega)).mono ?_
  rintro e w' ⟨rfl, rfl⟩
  go_wp2
  go_quiet (fail)
  go_wp2
  (try simp only [Exit.inBlock, Exit.then])
  refine bodyPost_ret (results_cell2 rfl _ _ (w.heap.size + 1) 46 _ _ rfl (blk6 (HKB.out.res.drewN (nq)) _ _ _ _ _ _) Tryd.underlying46 rfl info_klender) rfl ?_
  have hd := fun v0 v1 v2 v3 v4 v5 => HKB.out.done v0 v1 v2 v3 v4 v5 (nq) HKB.out.kl
  exact ⟨gh, ch, gu, cu, rfl, (hd _ _ _ _ _ _).1, (hd _ _ _ _ _ _).2⟩

set_option maxHeartbeats 4000000 in
set_option maxRecDepth 100000 in
theorem kGive_ok (n gh ch gu cu : Nat) (k : Kl) (p : Nat) (hp : p < n) (hx : k.now < k.unt.getD p 0) (w : World) (h : KL w n k gh gu) (hn : n ≤ 4) :
    Calls Tryd.prog 28 #[.agg #[.int .i64 k.now, .int .i64 k.term, .int .i64 k.value, .int .i64 k.want, .slice (some ⟨gh, 0, none⟩) n ch, .slice (some ⟨gu, 0, none⟩) n cu], .int .i64 p] w (LPost2 w n (k.gone p).settled 0) := by
  have HH := Lib.hid h
  obtain ⟨w1, hw1⟩ : ∃ w1, w1 = (w.alloc (.cells #[.int .i64 k.now, .int .i64 k.term, .int .i64 k.value, .int .i64 k.want, .slice (some ⟨gh, 0, none⟩) n ch, .slice (some ⟨gu, 0, none⟩) n cu] 46)).alloc (.cells #[.int .i64 0, .int .i64 0, .int .i64 0, .int .i64 0, .slice none 0 0, .slice none 0 0] 46) := ⟨_, rfl⟩
  have hkb : LB w w1 w.heap.size n gh ch gu cu k := by rw [hw1]; exact LB.start w h
  have HKB := Lib.hid hkb
  have HW1 := Lib.hid hw1
  obtain ⟨x0, x1, x2, x3, x4, x5, f0, f1, f2, f3, f4, f5⟩ := hkb.cells
  obtain ⟨r0, r1, r2, r3, r4, r5, e0, e1, e2, e3, e4, e5⟩ := hkb.rcells
  clear hkb h hw1
  have hq : IntKind.i64.wrap ((n : Int) - 1) = (n : Int) - 1 := IntWalk.i64_in _ (by omega)
  have hcu := HKB.out.U.cell hp
  obtain ⟨u, hu⟩ : ∃ u, u = k.unt.getD p 0 := ⟨_, rfl⟩
  rw [← hu] at hcu hx
  have HU := Lib.hid hu
  clear hu
  have hp0 : (0 : Int) ≤ (p : Int) := by omega
  have hpn : (p : Int) < (n : Int) := by omega
  go_enter Tryd.func28, Tryd.ntmps28
  go_wp2_with fail
  rw [← HW1.out]
  refine (kin_yes _ _ _ _ (by omega) (by omega)).mono ?_
  rintro e w' ⟨rfl, rfl⟩
  go_wp2
  go_quiet (fail)
  have hkbq := HKB.out.keep ((Keep.refl [] w1).drewN nq)
  obtain ⟨wq, hwq⟩ : ∃ wq, wq = w1.drewN nq := ⟨_, rfl⟩
  rw [← hwq] at hkbq ⊢
  clear x0 x1 x2 x3 x4 x5 f0 f1 f2 f3 f4 f5 r0 r1 r2 r3 r4 r5 e0 e1 e2 e3 e4 e5 hwq hcu
  obtain ⟨x0, x1, x2, x3, x4, x5, f0, f1, f2, f3, f4, f5⟩ := hkbq.cells
  obtain ⟨r0, r1, r2, r3, r4, r5, e0, e1, e2, e3, e4, e5⟩ := hkbq.rcells
  have HKB := Lib.hid hkbq
  clear hkbq
  go_wp2_with fail
  refine (kSetL gu n cu k.unt p 0 _ HKB.out.U hp (by omega)).mono ?_
  rintro e w20 ⟨gu, cu, rfl, hl, _, hb⟩
  have hkb := HKB.out.below hb
  clear x0 x1 x2 x3 x4 x5 f0 f1 f2 f3 f4 f5 r0 r1 r2 r3 r4 r5 e0 e1 e2 e3 e4 e5
  obtain ⟨x0, x1, x2, x3, x4, x5, f0, f1, f2, f3, f4, f5⟩ := hkb.cells
  obtain ⟨r0, r1, r2, r3, r4, r5, e0, e1, e2, e3, e4, e5⟩ := hkb.rcells
  have HKB := Lib.hid hkb; have HL := Lib.hid hl
  clear hkb hl hb
  go_wp2_with fail
  obtain ⟨w21, hwb⟩ : ∃ wb, wb = w20.setCell ⟨w.heap.size, 5, none⟩ (.slice (some ⟨gu, 0, none⟩) n cu) := ⟨_, rfl⟩
  have hkb : LB w w21 w.heap.size n gh ch gu cu (k.gone p) := by rw [hwb]; exact HKB.out.setU HL.out
  rw [← hwb]
  clear x0 x1 x2 x3 x4 x5 f0 f1 f2 f3 f4 f5 r0 r1 r2 r3 r4 r5 e0 e1 e2 e3 e4 e5 hwb
  obtain ⟨x0, x1, x2, x3, x4, x5, f0, f1, f2, f3, f4, f5⟩ := hkb.cells
  obtain ⟨r0, r1, r2, r3, r4, r5, e0, e1, e2, e3, e4, e5⟩ := hkb.rcells
  have HKB := Lib.hid hkb
  clear hkb
  have hkb2 := HKB.out
  refine (kSettled n gh ch gu cu (k.gone p) _ hkb2.kl hn).mono ?_
  rintro e w3 ⟨gh, ch, gu, cu, rfl, hkl, hb3⟩
  have hkb3 := hkb2.below hb3
  clear x0 x1 x2 x3 x4 x5 f0 f1 f2 f3 f4 f5 r0 r1 r2 r3 r4 r5 e0 e1 e2 e3 e4 e5
  obtain ⟨x0, x1, x2, x3, x4, x5, f0, f1, f2, f3, f4, f5⟩ := hkb3.cells
  obtain ⟨r0, r1, r2, r3, r4, r5, e0, e1, e2, e3, e4, e5⟩ := hkb3.rcells
  go_wp2
  (try simp only [Exit.inBlock, Exit.then])
  refine bodyPost_ret (results_cell2 rfl _ _ (w.heap.size + 1) 46 _ _ rfl (blk6 hkb3.res _ _ _ _ _ _) Tryd.underlying46 rfl info_klender) rfl ?_
  have hd := fun v0 v1 v2 v3 v4 v5 => hkb3.done v0 v1 v2 v3 v4 v5 (0) hkl
  exact ⟨gh, ch, gu, cu, rfl, (hd _ _ _ _ _ _).1, (hd _ _ _ _ _ _).2⟩

end Go.Proofs.YtjnghpambjjlkaaDoor
