/-
  The reference's caches: NewCaches, Read, Write, Leave, by their contracts.
-/
import Derived.Test.YtjnghpambjjlkaaDoorCohereRef
import Derived.BigRegion
namespace Go.Proofs.YtjnghpambjjlkaaDoor
open Go.RowKit

/-- In the walk of a function of the reference: its variable at h, its result behind it. -/
structure KB (w0 w : World) (h n N gm cm gs cs gv cv : Nat) (mv : Int) (mem es os : List Int) : Prop where
  box : Blk w h 66 (kTop n N gm cm gs cs gv cv mv)
  res : Blk w (h + 1) 66 kZero
  M : LS w gm 4 mem
  S : LS w gs N es
  V : LS w gv N os
  bel : Below h w0 w
  h0 : h = w0.heap.size
section
variable {w0 w w' : World} {h n N gm cm gs cs gv cv : Nat} {mv : Int} {mem es os : List Int}
theorem KB.cells (k : KB w0 w h n N gm cm gs cs gv cv mv mem es os) : w.cell? ⟨h, 0, none⟩ = some (.int .i64 n) ∧ w.cell? ⟨h, 1, none⟩ = some (.slice (some ⟨gm, 0, none⟩) 4 cm) ∧ w.cell? ⟨h, 2, none⟩ = some (.slice (some ⟨gs, 0, none⟩) N cs) ∧ w.cell? ⟨h, 3, none⟩ = some (.slice (some ⟨gv, 0, none⟩) N cv) ∧ w.cell? ⟨h, 4, none⟩ = some (.int .i64 mv) ∧
    w.frozen? ⟨h, 0, none⟩ = false ∧ w.frozen? ⟨h, 1, none⟩ = false ∧ w.frozen? ⟨h, 2, none⟩ = false ∧ w.frozen? ⟨h, 3, none⟩ = false ∧ w.frozen? ⟨h, 4, none⟩ = false :=
  ⟨k.box.cell_ (i := 0) rfl, k.box.cell_ (i := 1) rfl, k.box.cell_ (i := 2) rfl, k.box.cell_ (i := 3) rfl, k.box.cell_ (i := 4) rfl, k.box.free 0, k.box.free 1, k.box.free 2, k.box.free 3, k.box.free 4⟩
theorem KB.rcells (k : KB w0 w h n N gm cm gs cs gv cv mv mem es os) : w.cell? ⟨h + 1, 0, none⟩ = some (.int .i64 0) ∧ w.cell? ⟨h + 1, 1, none⟩ = some (.slice none 0 0) ∧ w.cell? ⟨h + 1, 2, none⟩ = some (.slice none 0 0) ∧ w.cell? ⟨h + 1, 3, none⟩ = some (.slice none 0 0) ∧ w.cell? ⟨h + 1, 4, none⟩ = some (.int .i64 0) ∧
    w.frozen? ⟨h + 1, 0, none⟩ = false ∧ w.frozen? ⟨h + 1, 1, none⟩ = false ∧ w.frozen? ⟨h + 1, 2, none⟩ = false ∧ w.frozen? ⟨h + 1, 3, none⟩ = false ∧ w.frozen? ⟨h + 1, 4, none⟩ = false :=
  ⟨k.res.cell_ (i := 0) rfl, k.res.cell_ (i := 1) rfl, k.res.cell_ (i := 2) rfl, k.res.cell_ (i := 3) rfl, k.res.cell_ (i := 4) rfl, k.res.free 0, k.res.free 1, k.res.free 2, k.res.free 3, k.res.free 4⟩
theorem KB.keep (k : KB w0 w h n N gm cm gs cs gv cv mv mem es os) (hk : Keep [] w w') : KB w0 w' h n N gm cm gs cs gv cv mv mem es os :=
  ⟨k.box.keep hk (by simp), k.res.keep hk (by simp), k.M.keep0 hk, k.S.keep0 hk, k.V.keep0 hk, k.bel.trans (hk.below (by have := k.bel.size; have := k.h0; omega) (by simp)), k.h0⟩
theorem KB.below (k : KB w0 w h n N gm cm gs cs gv cv mv mem es os) (hb : Below w.heap.size w w') : KB w0 w' h n N gm cm gs cs gv cv mv mem es os := k.keep (Keep.of_below hb (Nat.le_refl _))
theorem KB.hk (k : KB w0 w h n N gm cm gs cs gv cv mv mem es os) (i : Nat) (v : Value) : Keep [h] w (w.setCell ⟨h, i, none⟩ v) := (Keep.refl _ w).set (fun _ => by simp) _
theorem KB.belS (k : KB w0 w h n N gm cm gs cs gv cv mv mem es os) (hk : Keep [h] w w') : Below h w0 w' := k.bel.trans (hk.below (by have := k.bel.size; have := k.h0; omega) (by simp))
theorem KB.setS (k : KB w0 w h n N gm cm gs cs gv cv mv mem es os) {g c : Nat} {l : List Int} (hl : LS w g N l) : KB w0 (w.setCell ⟨h, 2, none⟩ (.slice (some ⟨g, 0, none⟩) N c)) h n N gm cm g c gv cv mv mem l os :=
  ⟨k.box.set 2 _, k.res.keep (k.hk 2 _) (by simp), k.M.keep1 (k.hk 2 _) k.box (by decide), hl.keep1 (k.hk 2 _) k.box (by decide), k.V.keep1 (k.hk 2 _) k.box (by decide), k.belS (k.hk 2 _), k.h0⟩
theorem KB.setV (k : KB w0 w h n N gm cm gs cs gv cv mv mem es os) {g c : Nat} {l : List Int} (hl : LS w g N l) : KB w0 (w.setCell ⟨h, 3, none⟩ (.slice (some ⟨g, 0, none⟩) N c)) h n N gm cm gs cs g c mv mem es l :=
  ⟨k.box.set 3 _, k.res.keep (k.hk 3 _) (by simp), k.M.keep1 (k.hk 3 _) k.box (by decide), k.S.keep1 (k.hk 3 _) k.box (by decide), hl.keep1 (k.hk 3 _) k.box (by decide), k.belS (k.hk 3 _), k.h0⟩
theorem KB.setMv (k : KB w0 w h n N gm cm gs cs gv cv mv mem es os) (x : Int) : KB w0 (w.setCell ⟨h, 4, none⟩ (.int .i64 x)) h n N gm cm gs cs gv cv x mem es os :=
  ⟨k.box.set 4 _, k.res.keep (k.hk 4 _) (by simp), k.M.keep1 (k.hk 4 _) k.box (by decide), k.S.keep1 (k.hk 4 _) k.box (by decide), k.V.keep1 (k.hk 4 _) k.box (by decide), k.belS (k.hk 4 _), k.h0⟩
theorem KB.setAll (k : KB w0 w h n N gm cm gs cs gv cv mv mem es os) {gm' cm' gs' cs' gv' cv' : Nat} {s : Cs} (hc : KC w n N s gm' gs' gv') : KB w0 (set5 w h (.int .i64 n) (.slice (some ⟨gm', 0, none⟩) 4 cm') (.slice (some ⟨gs', 0, none⟩) N cs') (.slice (some ⟨gv', 0, none⟩) N cv') (.int .i64 s.mv)) h n N gm' cm' gs' cs' gv' cv' s.mv s.mem (ev s.ls) (od s.ls) :=
  ⟨blk5 k.box _ _ _ _ _, k.res.keep (keep5 _ _ _ _ _ _ _) (by simp), hc.M.keep1 (keep5 _ _ _ _ _ _ _) k.box (by decide), hc.S.keep1 (keep5 _ _ _ _ _ _ _) k.box (by decide), hc.V.keep1 (keep5 _ _ _ _ _ _ _) k.box (by decide), k.belS (keep5 _ _ _ _ _ _ _), k.h0⟩
theorem KB.start (w : World) {s : Cs} (hc : KC w n N s gm gs gv) : KB w ((w.alloc (.cells (kTop n N gm cm gs cs gv cv s.mv).toArray 66)).alloc (.cells kZero.toArray 66)) w.heap.size n N gm cm gs cs gv cv s.mv s.mem (ev s.ls) (od s.ls) := by
  have hb := Blk.new w 66 (kTop n N gm cm gs cs gv cv s.mv)
  have hb2 := Blk.new (w.alloc (.cells (kTop n N gm cm gs cs gv cv s.mv).toArray 66)) 66 kZero
  rw [World.size_alloc] at hb2
  have hk : Keep [] w _ := ((Keep.refl [] w).alloc (.cells (kTop n N gm cm gs cs gv cv s.mv).toArray 66)).alloc (.cells kZero.toArray 66)
  exact ⟨hb.alloc _, hb2, hc.M.keep0 hk, hc.S.keep0 hk, hc.V.keep0 hk, hk.below (Nat.le_refl _) (by simp), rfl⟩
theorem KB.kc (k : KB w0 w h n N gm cm gs cs gv cv mv mem es os) {s : Cs} (hm : s.mem = mem) (he : ev s.ls = es) (ho : od s.ls = os) (hz : s.ls.length = 8 * n) (hN : N = 4 * n) : KC w n N s gm gs gv := ⟨by rw [hm]; exact k.M, by rw [he]; exact k.S, by rw [ho]; exact k.V, hz, hN⟩
/-- What is told at the end. -/
theorem KB.done (k : KB w0 w h n N gm cm gs cs gv cv mv mem es os) {s : Cs} (hm : s.mem = mem) (he : ev s.ls = es) (ho : od s.ls = os) (hz : s.ls.length = 8 * n) (hN : N = 4 * n) (v0 v1 v2 v3 v4 : Value) (q : Nat) :
    KC (set5 (w.drewN q) (h + 1) v0 v1 v2 v3 v4) n N s gm gs gv ∧ Below w0.heap.size w0 (set5 (w.drewN q) (h + 1) v0 v1 v2 v3 v4) := by
  have hk : Keep [h + 1] (w.drewN q) _ := keep5 (w.drewN q) (h + 1) v0 v1 v2 v3 v4
  have k2 := k.keep ((Keep.refl [] w).drewN q)
  refine ⟨(k2.kc hm he ho hz hN).keep1 hk k2.res (by decide), ?_⟩
  have := k2.bel
  rw [← k.h0]
  exact this.trans (hk.below (by have := this.size; have := k.h0; omega) (by simp))
theorem KB.done0 (k : KB w0 w h n N gm cm gs cs gv cv mv mem es os) {s : Cs} (hm : s.mem = mem) (he : ev s.ls = es) (ho : od s.ls = os) (hz : s.ls.length = 8 * n) (hN : N = 4 * n) (v0 v1 v2 v3 v4 : Value) :
    KC (set5 w (h + 1) v0 v1 v2 v3 v4) n N s gm gs gv ∧ Below w0.heap.size w0 (set5 w (h + 1) v0 v1 v2 v3 v4) := k.done hm he ho hz hN v0 v1 v2 v3 v4 0
end

theorem put_ev (s : Cs) (p k : Nat) (x y : Int) : ev (s.put p k x y).ls = (ev s.ls).set (p * 4 + k) x := by
  have e : at_ p k = 2 * (p * 4 + k) := by unfold at_; omega
  show ev ((s.ls.set (at_ p k) x).set (at_ p k + 1) y) = _
  rw [e, ev_set_od, ev_set]
theorem put_od (s : Cs) (p k : Nat) (x y : Int) : od (s.put p k x y).ls = (od s.ls).set (p * 4 + k) y := by
  have e : at_ p k = 2 * (p * 4 + k) := by unfold at_; omega
  show od ((s.ls.set (at_ p k) x).set (at_ p k + 1) y) = _
  rw [e, od_set, od_set_ev]

def KRead (w : World) (n N : Nat) (s : Cs) (x : Int) (e : Ending) (w' : World) : Prop :=
  ∃ gm cm gs cs gv cv, e = .returned (.tuple #[.agg #[.int .i64 n, .slice (some ⟨gm, 0, none⟩) 4 cm, .slice (some ⟨gs, 0, none⟩) N cs, .slice (some ⟨gv, 0, none⟩) N cv, .int .i64 s.mv], .int .i64 x]) ∧ KC w' n N s gm gs gv ∧ Below w.heap.size w w'

set_option maxHeartbeats 8000000 in
set_option maxRecDepth 100000 in
theorem kRead (n N p k gm cm gs cs gv cv : Nat) (s : Cs) (w : World) (h : KC w n N s gm gs gv) (hn : n ≤ 4) (hp : p < n) (hk : k < 4) (h0 : 0 ≤ s.mv) (h1 : s.mv ≤ 1000) :
    Calls Tryd.prog 34 #[.agg #[.int .i64 n, .slice (some ⟨gm, 0, none⟩) 4 cm, .slice (some ⟨gs, 0, none⟩) N cs, .slice (some ⟨gv, 0, none⟩) N cv, .int .i64 s.mv], .int .i64 p, .int .i64 k] w (KRead w n N (s.read n p k) ((s.read n p k).va p k)) := by
  have HN := Lib.hid h.hN
  have HZ := Lib.hid h.sz
  obtain ⟨w1, hw1⟩ : ∃ w1, w1 = (w.alloc (.cells #[.int .i64 n, .slice (some ⟨gm, 0, none⟩) 4 cm, .slice (some ⟨gs, 0, none⟩) N cs, .slice (some ⟨gv, 0, none⟩) N cv, .int .i64 s.mv] 66)).alloc (.cells #[.int .i64 0, .slice none 0 0, .slice none 0 0, .slice none 0 0, .int .i64 0] 66) := ⟨_, rfl⟩
  have hkb : KB w w1 w.heap.size n N gm cm gs cs gv cv s.mv s.mem (ev s.ls) (od s.ls) := by rw [hw1]; exact KB.start w h
  have HKB := Lib.hid hkb
  have HKC := Lib.hid (hkb.kc (s := s) rfl rfl rfl h.sz h.hN)
  have HW1 := Lib.hid hw1
  obtain ⟨q, hq⟩ : ∃ q : Nat, q = p * 4 := ⟨_, rfl⟩
  obtain ⟨j, hj⟩ : ∃ j : Nat, j = p * 4 + k := ⟨_, rfl⟩
  have hqi : (p : Int) * 4 = (q : Int) := by omega
  have hji : (q : Int) + (k : Int) = (j : Int) := by omega
  have hjN : j < N := by have := HN.out; omega
  have hj0 : (0 : Int) ≤ (j : Int) := by omega
  have hk0 : (0 : Int) ≤ (k : Int) := by omega
  have hk4 : (k : Int) < 4 := by omega
  have hjNi : (j : Int) < (N : Int) := by omega
  have hwq : IntKind.i64.wrap (q : Int) = (q : Int) := IntWalk.i64_in _ (by omega)
  have hwj : IntKind.i64.wrap (j : Int) = (j : Int) := IntWalk.i64_in _ (by omega)
  have hwk : IntKind.i64.wrap (k : Int) = (k : Int) := IntWalk.i64_in _ (by omega)
  have hc := HKC.out.st hj hjN
  have hcv := HKC.out.va hj hjN
  obtain ⟨y, hy⟩ : ∃ y, y = s.st p k := ⟨_, rfl⟩
  obtain ⟨z, hz⟩ : ∃ z, z = s.va p k := ⟨_, rfl⟩
  rw [← hy] at hc
  rw [← hz] at hcv
  have HY := Lib.hid hy; have HZV := Lib.hid hz; have HJ := Lib.hid hj
  have HQ := Lib.hid hq
  obtain ⟨x0, x1, x2, x3, x4, f0, f1, f2, f3, f4⟩ := hkb.cells
  obtain ⟨r0, r1, r2, r3, r4, e0, e1, e2, e3, e4⟩ := hkb.rcells
  clear hkb h hw1 hy hz hj hq
  by_cases ey : y = 0
  · subst ey
    have HRD : Hid (s.read n p k = ((s.calm n k).put p k 1 ((s.calm n k).me k)).more) := Lib.hid (by unfold Cs.read; rw [if_pos HY.out.symm])
    have hmv := calm_mv n k s
    obtain ⟨t, ht⟩ : ∃ t, t = s.calm n k := ⟨_, rfl⟩
    rw [← ht] at HRD hmv
    have HT := Lib.hid ht
    clear x0 x1 x2 x3 x4 f0 f1 f2 f3 f4 r0 r1 r2 r3 r4 e0 e1 e2 e3 e4 ht hcv
    rw [HW1.out] at hc
    go_enter Tryd.func34, Tryd.ntmps34
    go_wp2_with fail
    rw [← HW1.out]
    refine (kCalm n N k gm cm gs cs gv cv s _ HKC.out hn hk h0 h1).mono ?_
    rintro e w2 ⟨gm, cm, gs, cs, gv, cv, rfl, hkc2, hb2⟩
    rw [← HT.out] at hkc2
    have HT2 : Hid ((s.calm n k).mv = t.mv) := Lib.hid (by rw [HT.out])
    rw [HT2.out]
    have hkb2 := HKB.out.below hb2
    obtain ⟨x0, x1, x2, x3, x4, f0, f1, f2, f3, f4⟩ := hkb2.cells
    have HKC2 := Lib.hid hkc2; have HKB2 := Lib.hid hkb2
    clear hkc2 hkb2 hb2 hc
    go_wp2_with fail
    obtain ⟨w3, hw3⟩ : ∃ w3, w3 = set5 w2 w.heap.size (.int .i64 n) (.slice (some ⟨gm, 0, none⟩) 4 cm) (.slice (some ⟨gs, 0, none⟩) N cs) (.slice (some ⟨gv, 0, none⟩) N cv) (.int .i64 t.mv) := ⟨_, rfl⟩
    have hkb3 : KB w w3 w.heap.size n N gm cm gs cs gv cv t.mv t.mem (ev t.ls) (od t.ls) := by rw [hw3]; exact HKB2.out.setAll HKC2.out
    rw [show (((((w2.setCell ⟨w.heap.size, 0, none⟩ (.int .i64 n)).setCell ⟨w.heap.size, 1, none⟩ (.slice (some ⟨gm, 0, none⟩) 4 cm)).setCell ⟨w.heap.size, 2, none⟩ (.slice (some ⟨gs, 0, none⟩) N cs)).setCell ⟨w.heap.size, 3, none⟩ (.slice (some ⟨gv, 0, none⟩) N cv)).setCell ⟨w.heap.size, 4, none⟩ (.int .i64 t.mv)) = w3 from hw3.symm]
    have HKB3 := Lib.hid hkb3
    clear hkb3 hw3 x0 x1 x2 x3 x4 f0 f1 f2 f3 f4
    refine (kSetL gs N cs (ev t.ls) j 1 _ HKB3.out.S hjN (by have := HN.out; omega)).mono ?_
    rintro e w4 ⟨gs', cs', rfl, hl4, _, hb4⟩
    have hkb4 := HKB3.out.below hb4
    obtain ⟨x0, x1, x2, x3, x4, f0, f1, f2, f3, f4⟩ := hkb4.cells
    have HKB4 := Lib.hid hkb4; have HL4 := Lib.hid hl4
    clear hkb4 hl4 hb4
    go_wp2_with fail
    obtain ⟨w5, hw5⟩ : ∃ w5, w5 = w4.setCell ⟨w.heap.size, 2, none⟩ (.slice (some ⟨gs', 0, none⟩) N cs') := ⟨_, rfl⟩
    have hkb5 : KB w w5 w.heap.size n N gm cm gs' cs' gv cv t.mv t.mem ((ev t.ls).set j 1) (od t.ls) := by rw [hw5]; exact HKB4.out.setS HL4.out
    rw [← hw5]
    clear x0 x1 x2 x3 x4 f0 f1 f2 f3 f4
    obtain ⟨x0, x1, x2, x3, x4, f0, f1, f2, f3, f4⟩ := hkb5.cells
    have hme := hkb5.M.cell hk
    obtain ⟨x, hx⟩ : ∃ x, x = t.mem.getD k 0 := ⟨_, rfl⟩
    rw [← hx] at hme
    have HX := Lib.hid hx
    have HKB5 := Lib.hid hkb5
    clear hkb5 hw5 HKB4 HL4 hx
    go_still_tail 11, (by kernel_rfl)
    go_wp2_with fail
    refine (kSetL gv N cv (od t.ls) j x _ (HKB5.out.V.keep0 (Keep.refl _ w5).drew) hjN (by have := HN.out; omega)).mono ?_
    rintro e w6 ⟨gv', cv', rfl, hl6, _, hb6⟩
    have hkb6 := (HKB5.out.keep (Keep.refl _ w5).drew).below hb6
    clear x0 x1 x2 x3 x4 f0 f1 f2 f3 f4 hme
    obtain ⟨x0, x1, x2, x3, x4, f0, f1, f2, f3, f4⟩ := hkb6.cells
    have HKB6 := Lib.hid hkb6; have HL6 := Lib.hid hl6
    clear hkb6 hl6 hb6
    go_wp2_with fail
    obtain ⟨w7, hw7⟩ : ∃ w7, w7 = (w6.setCell ⟨w.heap.size, 3, none⟩ (.slice (some ⟨gv', 0, none⟩) N cv')).setCell ⟨w.heap.size, 4, none⟩ (.int .i64 (t.mv + 1)) := ⟨_, rfl⟩
    have hkb7 : KB w w7 w.heap.size n N gm cm gs' cs' gv' cv' (t.mv + 1) t.mem ((ev t.ls).set j 1) ((od t.ls).set j x) := by rw [hw7]; exact (HKB6.out.setV HL6.out).setMv _
    rw [← hw7]
    clear x0 x1 x2 x3 x4 f0 f1 f2 f3 f4
    obtain ⟨x0, x1, x2, x3, x4, f0, f1, f2, f3, f4⟩ := hkb7.cells
    obtain ⟨r0, r1, r2, r3, r4, e0, e1, e2, e3, e4⟩ := hkb7.rcells
    have hzt : t.ls.length = 8 * n := HKC2.out.sz
    have hx7 := hkb7.V.cell hjN
    rw [cGetD_set (od t.ls) j x (by rw [od_len]; have := HN.out; omega)] at hx7
    have HKB7 := Lib.hid hkb7
    have hne := hkb7.V.ne hkb7.res (by decide)
    clear hkb7 hw7 HKB6 HL6 HKB5
    go_region
    go_wp2
    refine bodyPost_ret (results_cell2 rfl _ _ (w.heap.size + 1) 66 _ _ rfl (blk5 HKB7.out.res _ _ _ _ _).drew Tryd.underlying66 rfl info_kcaches) rfl ?_
    have hva : (((t.put p k 1 x).more).va p k) = x := put_va t p k 1 x (by have := HN.out; have := HJ.out; unfold at_; omega)
    have hem : ((t.put p k 1 x).more).mv = t.mv + 1 := rfl
    have hX : (t.me k) = x := HX.out.symm
    have hd := fun v0 v1 v2 v3 v4 => HKB7.out.done (s := (t.put p k 1 x).more) rfl (by rw [HJ.out]; exact put_ev t p k 1 x) (by rw [HJ.out]; exact put_od t p k 1 x) (by show ((t.ls.set _ _).set _ _).length = _; simpa using hzt) HN.out v0 v1 v2 v3 v4 1
    rw [HRD.out, hX, hva]
    exact ⟨gm, cm, gs', cs', gv', cv', rfl, (hd _ _ _ _ _).1, (hd _ _ _ _ _).2⟩
  · have HRD : Hid (s.read n p k = s) := Lib.hid (by unfold Cs.read; rw [if_neg (by rw [← HY.out]; exact ey)])
    rw [HW1.out] at hc hcv
    go_enter Tryd.func34, Tryd.ntmps34
    go_wp2_with fail
    rw [← HW1.out] at hc hcv ⊢
    have hne := HKB.out.V.ne HKB.out.res (by decide)
    go_region
    go_wp2
    refine bodyPost_ret (results_cell2 rfl _ _ (w.heap.size + 1) 66 _ _ rfl (blk5 HKB.out.res _ _ _ _ _).drew Tryd.underlying66 rfl info_kcaches) rfl ?_
    have hd := fun v0 v1 v2 v3 v4 => HKB.out.done (s := s) rfl rfl rfl HZ.out HN.out v0 v1 v2 v3 v4 1
    have hz' : s.va p k = z := HZV.out.symm
    rw [HRD.out, hz']
    refine ⟨gm, cm, gs, cs, gv, cv, ?_, ?_⟩
    · rfl
    · exact ⟨(hd _ _ _ _ _).1, (hd _ _ _ _ _).2⟩
end Go.Proofs.YtjnghpambjjlkaaDoor
