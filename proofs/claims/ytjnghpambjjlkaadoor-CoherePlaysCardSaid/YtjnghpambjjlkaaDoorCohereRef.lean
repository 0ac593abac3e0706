/-
  The reference's caches: how they lie in memory; calm, by its contract.
-/
import Derived.Test.YtjnghpambjjlkaaDoorRef3L
import Derived.Test.YtjnghpambjjlkaaDoorCohereLaw
namespace Go.Proofs.YtjnghpambjjlkaaDoor
open Go.RowKit

def ev (l : List Int) : List Int := (List.range (l.length / 2)).map fun i => l.getD (2 * i) 0
def od (l : List Int) : List Int := (List.range (l.length / 2)).map fun i => l.getD (2 * i + 1) 0
theorem ev_len (l : List Int) : (ev l).length = l.length / 2 := by simp [ev]
theorem od_len (l : List Int) : (od l).length = l.length / 2 := by simp [od]
theorem ev_get (l : List Int) {i : Nat} (h : i < l.length / 2) : (ev l).getD i 0 = l.getD (2 * i) 0 := by
  rw [List.getD, ev, List.getElem?_map, List.getElem?_range h]; rfl
theorem od_get (l : List Int) {i : Nat} (h : i < l.length / 2) : (od l).getD i 0 = l.getD (2 * i + 1) 0 := by
  rw [List.getD, od, List.getElem?_map, List.getElem?_range h]; rfl
theorem ev_set (l : List Int) (i : Nat) (x : Int) : ev (l.set (2 * i) x) = (ev l).set i x := by
  apply List.ext_getElem
  · simp [ev_len]
  intro j h1 h2
  simp only [ev, List.length_set, List.getElem_map, List.getElem_range, List.getElem_set]
  have hj : j < l.length / 2 := by simpa [ev_len] using h1
  by_cases e : i = j
  · subst e; rw [if_pos rfl, cGetD_set _ _ _ (by omega)]
  · rw [if_neg e, getD_set_ne _ _ _ _ (by omega)]
theorem od_set (l : List Int) (i : Nat) (x : Int) : od (l.set (2 * i + 1) x) = (od l).set i x := by
  apply List.ext_getElem
  · simp [od_len]
  intro j h1 h2
  simp only [od, List.length_set, List.getElem_map, List.getElem_range, List.getElem_set]
  have hj : j < l.length / 2 := by simpa [od_len] using h1
  by_cases e : i = j
  · subst e; rw [if_pos rfl, cGetD_set _ _ _ (by omega)]
  · rw [if_neg e, getD_set_ne _ _ _ _ (by omega)]
theorem od_set_ev (l : List Int) (i : Nat) (x : Int) : od (l.set (2 * i) x) = od l := by
  unfold od; rw [List.length_set]
  refine List.map_congr_left fun j _ => getD_set_ne _ _ _ _ (by omega)
theorem ev_set_od (l : List Int) (i : Nat) (x : Int) : ev (l.set (2 * i + 1) x) = ev l := by
  unfold ev; rw [List.length_set]
  refine List.map_congr_left fun j _ => getD_set_ne _ _ _ _ (by omega)

/-- The reference's caches: three lists. -/
structure KC (w : World) (n N : Nat) (s : Cs) (gm gs gv : Nat) : Prop where
  M : LS w gm 4 s.mem
  S : LS w gs N (ev s.ls)
  V : LS w gv N (od s.ls)
  sz : s.ls.length = 8 * n
  hN : N = 4 * n
section
variable {w w' : World} {n N gm gs gv : Nat} {s : Cs}
theorem KC.keep0 (h : KC w n N s gm gs gv) (hk : Keep [] w w') : KC w' n N s gm gs gv := ⟨h.M.keep0 hk, h.S.keep0 hk, h.V.keep0 hk, h.sz, h.hN⟩
theorem KC.keep1 (h : KC w n N s gm gs gv) {b : Nat} {t : TypeId} {cs : List Value} (hk : Keep [b] w w') (hb : Blk w b t cs) (ht : 3 ≠ t) : KC w' n N s gm gs gv := ⟨h.M.keep1 hk hb ht, h.S.keep1 hk hb ht, h.V.keep1 hk hb ht, h.sz, h.hN⟩
theorem KC.keep2 (h : KC w n N s gm gs gv) {b d : Nat} {t t' : TypeId} {cs ds : List Value} (hk : Keep [b, d] w w') (hb : Blk w b t cs) (ht : 3 ≠ t) (hd : Blk w d t' ds) (ht' : 3 ≠ t') : KC w' n N s gm gs gv :=
  ⟨h.M.keepN hk (by have := h.M.ne hb ht; have := h.M.ne hd ht'; simp; omega), h.S.keepN hk (by have := h.S.ne hb ht; have := h.S.ne hd ht'; simp; omega), h.V.keepN hk (by have := h.V.ne hb ht; have := h.V.ne hd ht'; simp; omega), h.sz, h.hN⟩
theorem KC.st (h : KC w n N s gm gs gv) {p k j : Nat} (hj : j = p * 4 + k) (hl : j < N) : w.cell? ⟨gs, j, none⟩ = some (.int .i64 (s.st p k)) := by
  have e := h.hN
  have e2 := h.sz
  have := h.S.cell hl
  rw [ev_get _ (by omega)] at this
  rw [this, hj]; unfold Cs.st at_; rw [show 2 * (p * 4 + k) = p * 8 + k * 2 by omega]
theorem KC.va (h : KC w n N s gm gs gv) {p k j : Nat} (hj : j = p * 4 + k) (hl : j < N) : w.cell? ⟨gv, j, none⟩ = some (.int .i64 (s.va p k)) := by
  have e := h.hN
  have e2 := h.sz
  have := h.V.cell hl
  rw [od_get _ (by omega)] at this
  rw [this, hj]; unfold Cs.va at_; rw [show 2 * (p * 4 + k) + 1 = p * 8 + k * 2 + 1 by omega]
theorem KC.me (h : KC w n N s gm gs gv) {k : Nat} (hk : k < 4) : w.cell? ⟨gm, k, none⟩ = some (.int .i64 (s.me k)) := h.M.cell hk
end

def kTop (n N : Nat) (gm cm gs cs gv cv : Nat) (mv : Int) : List Value := [.int .i64 n, .slice (some ⟨gm, 0, none⟩) 4 cm, .slice (some ⟨gs, 0, none⟩) N cs, .slice (some ⟨gv, 0, none⟩) N cv, .int .i64 mv]
abbrev set5 (w : World) (b : Nat) (v0 v1 v2 v3 v4 : Value) : World := ((((w.setCell ⟨b, 0, none⟩ v0).setCell ⟨b, 1, none⟩ v1).setCell ⟨b, 2, none⟩ v2).setCell ⟨b, 3, none⟩ v3).setCell ⟨b, 4, none⟩ v4
theorem keep5 (w : World) (b : Nat) (v0 v1 v2 v3 v4 : Value) : Keep [b] w (set5 w b v0 v1 v2 v3 v4) :=
  (((((Keep.refl [b] w).set (p := ⟨b, 0, none⟩) (fun _ => by simp) _).set (p := ⟨b, 1, none⟩) (fun _ => by simp) _).set (p := ⟨b, 2, none⟩) (fun _ => by simp) _).set (p := ⟨b, 3, none⟩) (fun _ => by simp) _).set (p := ⟨b, 4, none⟩) (fun _ => by simp) _
theorem blk5 {w : World} {b : Nat} {t : TypeId} {a0 a1 a2 a3 a4 : Value} (h : Blk w b t [a0, a1, a2, a3, a4]) (v0 v1 v2 v3 v4 : Value) : Blk (set5 w b v0 v1 v2 v3 v4) b t [v0, v1, v2, v3, v4] :=
  ((((h.set 0 v0).set 1 v1).set 2 v2).set 3 v3).set 4 v4
def KPost (w : World) (n N : Nat) (s : Cs) (e : Ending) (w' : World) : Prop :=
  ∃ gm cm gs cs gv cv, e = .returned (.agg #[.int .i64 n, .slice (some ⟨gm, 0, none⟩) 4 cm, .slice (some ⟨gs, 0, none⟩) N cs, .slice (some ⟨gv, 0, none⟩) N cv, .int .i64 s.mv]) ∧ KC w' n N s gm gs gv ∧ Below w.heap.size w w'
def kZero : List Value := [.int .i64 0, .slice none 0 0, .slice none 0 0, .slice none 0 0, .int .i64 0]
theorem info_kcaches : (Tryd.prog.info? 66).map (·.size) = some 5 := by kernel_rfl
def CalmRel (w : World) (n N k : Nat) (s : Cs) (i : Value) (wr : World) : Prop :=
  ∃ (p gm cm gs cs gv cv : Nat), p ≤ n ∧ i = .int .i64 p ∧ Blk wr w.heap.size 66 (kTop n N gm cm gs cs gv cv (s.calm p k).mv) ∧ Blk wr (w.heap.size + 1) 66 kZero ∧ KC wr n N (s.calm p k) gm gs gv ∧ Below w.heap.size w wr

set_option maxHeartbeats 2000000 in
set_option maxRecDepth 100000 in
theorem kCalm (n N k gm cm gs cs gv cv : Nat) (s : Cs) (w : World) (h : KC w n N s gm gs gv) (hn : n ≤ 4) (hk : k < 4) (h0 : 0 ≤ s.mv) (h1 : s.mv ≤ 1000) :
    Calls Tryd.prog 50 #[.agg #[.int .i64 n, .slice (some ⟨gm, 0, none⟩) 4 cm, .slice (some ⟨gs, 0, none⟩) N cs, .slice (some ⟨gv, 0, none⟩) N cv, .int .i64 s.mv], .int .i64 k] w (KPost w n N (s.calm n k)) := by
  have HN := Lib.hid h.hN
  have H := Lib.hid h; clear h
  go_enter Tryd.func50, Tryd.ntmps50
  go_wp2
  go_loopw [5] (fun i wr => CalmRel w n N k s i wr) (fun i _ => n - (intOf i).toNat)
  case atStart =>
    have hb := Blk.new w 66 (kTop n N gm cm gs cs gv cv s.mv)
    have hb2 := Blk.new (w.alloc (.cells (kTop n N gm cm gs cs gv cv s.mv).toArray 66)) 66 kZero
    rw [World.size_alloc] at hb2
    exact ⟨0, gm, cm, gs, cs, gv, cv, Nat.zero_le _, rfl, hb.alloc _, hb2, H.out.keep0 (((Keep.refl _ w).alloc _).alloc _), ((Below.refl _ w).alloc (Nat.le_refl _) _).alloc (by simp) _⟩
  case round =>
    obtain ⟨p, gm, cm, gs, cs, gv, cv, hp, rfl, hbx, hbr, hkc, hbel⟩ := hrel
    have hmv := calm_mv p k s
    obtain ⟨t, ht⟩ : ∃ t, t = s.calm p k := ⟨_, rfl⟩
    rw [← ht] at hbx hkc hmv
    have hx0 := hbx.cell_ (i := 0) rfl
    have hx1 := hbx.cell_ (i := 1) rfl
    have hx2 := hbx.cell_ (i := 2) rfl
    have hx3 := hbx.cell_ (i := 3) rfl
    have hx4 := hbx.cell_ (i := 4) rfl
    have hf0 := hbx.free 0
    have hf1 := hbx.free 1
    have hf2 := hbx.free 2
    have hf3 := hbx.free 3
    have hf4 := hbx.free 4
    have hr0 := hbr.cell_ (i := 0) rfl
    have hr1 := hbr.cell_ (i := 1) rfl
    have hr2 := hbr.cell_ (i := 2) rfl
    have hr3 := hbr.cell_ (i := 3) rfl
    have hr4 := hbr.cell_ (i := 4) rfl
    have hg0 := hbr.free 0
    have hg1 := hbr.free 1
    have hg2 := hbr.free 2
    have hg3 := hbr.free 3
    have hg4 := hbr.free 4
    have HT := Lib.hid ht; have HBX := Lib.hid hbx; have HBR := Lib.hid hbr; have HKC := Lib.hid hkc; have HB := Lib.hid hbel
    clear ht hbx hbr hkc hbel
    by_cases hlt : p < n
    · have hpn : (p : Int) < (n : Int) := by omega
      obtain ⟨q, hq⟩ : ∃ q : Nat, q = p * 4 := ⟨_, rfl⟩
      obtain ⟨j, hj⟩ : ∃ j : Nat, j = p * 4 + k := ⟨_, rfl⟩
      have hqi : (p : Int) * 4 = (q : Int) := by omega
      have hji : (q : Int) + (k : Int) = (j : Int) := by omega
      have hjN : j < N := by have := HN.out; omega
      have hj0 : (0 : Int) ≤ (j : Int) := by omega
      have hjNi : (j : Int) < (N : Int) := by omega
      have hwq : IntKind.i64.wrap (q : Int) = (q : Int) := IntWalk.i64_in _ (by omega)
      have hwj : IntKind.i64.wrap (j : Int) = (j : Int) := IntWalk.i64_in _ (by omega)
      have hc := HKC.out.st hj hjN
      have hcv := HKC.out.va hj hjN
      obtain ⟨y, hy⟩ : ∃ y, y = t.st p k := ⟨_, rfl⟩
      obtain ⟨z, hz⟩ : ∃ z, z = t.va p k := ⟨_, rfl⟩
      rw [← hy] at hc
      rw [← hz] at hcv
      have HY := Lib.hid hy; have HZ := Lib.hid hz; have HQ := Lib.hid hq; have HJ := Lib.hid hj
      clear hy hz hq hj hr0 hr1 hr2 hr3 hr4 hg0 hg1 hg2 hg3 hg4
      by_cases e2 : y = 2
      · subst e2
        have HS : Hid (s.calm (p + 1) k = ⟨t.mem.set k z, t.ls.set (at_ p k) 1, t.mv + 1⟩) := Lib.hid (by
          have e : t.st p k = 2 := HY.out.symm
          rw [HZ.out]
          rw [HT.out] at e ⊢
          unfold Cs.st at e
          simp only [Cs.calm, calmK, Cs.va] at e ⊢
          rw [if_pos e])
        have HSZ := Lib.hid HKC.out.sz
        go_wp2
        go_still_tail 11, (by kernel_rfl)
        go_wp2_with fail
        refine (kSetL gm 4 cm t.mem k z _ (HKC.out.M.keep0 (Keep.refl _ wr).drew) hk (by decide)).mono ?_
        rintro e w1 ⟨g1, c1, rfl, hl1, hg1, hb1⟩
        have hk1 : Keep [] wr w1 := ((Keep.refl _ wr).drew).trans (Keep.of_below hb1 (Nat.le_refl _))
        have hbx1 := HBX.out.keep hk1 (by simp)
        have hy1 := hbx1.cell_ (i := 1) rfl
        have hy2 := hbx1.cell_ (i := 2) rfl
        have hy4 := hbx1.cell_ (i := 4) rfl
        have hz1 := hbx1.free 1
        have hz2 := hbx1.free 2
        have hz4 := hbx1.free 4
        have HBX1 := Lib.hid hbx1; have HL1 := Lib.hid hl1; have HK1 := Lib.hid hk1
        clear hx0 hx1 hx2 hx3 hx4 hf0 hf1 hf2 hf3 hf4 hbx1 hl1 hk1 hb1 hc hcv hg1
        go_wp2_with fail
        obtain ⟨w2, hw2⟩ : ∃ w2, w2 = w1.setCell ⟨w.heap.size, 1, none⟩ (.slice (some ⟨g1, 0, none⟩) 4 c1) := ⟨_, rfl⟩
        rw [← hw2]
        have hbx2 : Blk w2 w.heap.size 66 (kTop n N g1 c1 gs cs gv cv t.mv) := by rw [hw2]; exact HBX1.out.set 1 _
        have hk2 : Keep [w.heap.size] w1 w2 := by rw [hw2]; exact (Keep.refl _ w1).set (fun _ => by simp) _
        have hsz := HB.out.size
        have hm2 : LS w2 g1 4 (t.mem.set k z) := HL1.out.keep1 hk2 HBX1.out (by decide)
        have hs2 : LS w2 gs N (ev t.ls) := (HKC.out.S.keep0 HK1.out).keep1 hk2 HBX1.out (by decide)
        have hv2 : LS w2 gv N (od t.ls) := (HKC.out.V.keep0 HK1.out).keep1 hk2 HBX1.out (by decide)
        have HBR2 := Lib.hid ((HBR.out.keep HK1.out (by simp)).keep hk2 (by simp))
        have HB2 := Lib.hid (HB.out.trans ((HK1.out.below hsz (by simp)).trans (hk2.below (by have := HK1.out.size; omega) (by simp))))
        have HM2 := Lib.hid hm2; have HS2 := Lib.hid hs2; have HV2 := Lib.hid hv2; have HBX2 := Lib.hid hbx2
        clear hw2 hbx2 hk2 hm2 hs2 hv2 hy1 hy2 hy4 hz1 hz2 hz4 HBX1 HL1 HK1
        refine (kSetL gs N cs (ev t.ls) j 1 _ HS2.out hjN (by have := HN.out; omega)).mono ?_
        rintro e w3 ⟨g3, c3, rfl, hl3, hg3, hb3⟩
        have hk3 : Keep [] w2 w3 := Keep.of_below hb3 (Nat.le_refl _)
        have hbx3 := HBX2.out.keep hk3 (by simp)
        have hy2 := hbx3.cell_ (i := 2) rfl
        have hy4 := hbx3.cell_ (i := 4) rfl
        have hz2 := hbx3.free 2
        have hz4 := hbx3.free 4
        have HBX3 := Lib.hid hbx3; have HL3 := Lib.hid hl3; have HK3 := Lib.hid hk3
        clear hbx3 hl3 hk3 hb3 hg3
        go_wp2
        go_roundw
        case rel =>
          have hkf : Keep [w.heap.size] w3 ((w3.setCell ⟨w.heap.size, 2, none⟩ (.slice (some ⟨g3, 0, none⟩) N c3)).setCell ⟨w.heap.size, 4, none⟩ (.int .i64 (t.mv + 1))) := ((Keep.refl _ w3).set (fun _ => by simp) _).set (fun _ => by simp) _
          have e1 : (ev t.ls).set j 1 = ev (t.ls.set (at_ p k) 1) := by rw [show at_ p k = 2 * j by unfold at_; have := HJ.out; omega, ev_set]
          have e2 : od t.ls = od (t.ls.set (at_ p k) 1) := by rw [show at_ p k = 2 * j by unfold at_; have := HJ.out; omega, od_set_ev]
          have hl3 := HL3.out
          have hv2 := HV2.out
          rw [e1] at hl3
          rw [e2] at hv2
          refine ⟨p + 1, g1, c1, g3, c3, gv, cv, hlt, by simp, ?_, ?_, ?_, ?_⟩
          · rw [HS.out]; exact (HBX3.out.set 2 _).set 4 _
          · exact (HBR2.out.keep HK3.out (by simp)).keep hkf (by simp)
          · rw [HS.out]
            exact ⟨(HM2.out.keep0 HK3.out).keep1 hkf HBX3.out (by decide), hl3.keep1 hkf HBX3.out (by decide), (hv2.keep0 HK3.out).keep1 hkf HBX3.out (by decide), by simpa using HKC.out.sz, HN.out⟩
          · have := HB2.out.size
            exact HB2.out.trans ((HK3.out.below this (by simp)).trans (hkf.below (by have := HK3.out.size; omega) (by simp)))
        case measure => simp [intOf]; omega
      · have e2' : (y == 2) = false := beq_eq_false_iff_ne.2 e2
        have HS : Hid (s.calm (p + 1) k = t) := Lib.hid (by
          have e : ¬ t.st p k = 2 := by rw [← HY.out]; exact e2
          rw [HT.out] at e ⊢
          unfold Cs.st at e
          simp only [Cs.calm, calmK] at e ⊢
          rw [if_neg e])
        go_wp2
        go_roundw
        case rel => exact ⟨p + 1, gm, cm, gs, cs, gv, cv, hlt, by simp, by rw [HS.out]; exact HBX.out, HBR.out, by rw [HS.out]; exact HKC.out, HB.out⟩
        case measure => simp [intOf]; omega
    · obtain rfl : p = n := by omega
      go_wp2
      (try simp only [Exit.inBlock, Exit.then])
      refine bodyPost_ret (results_cell1 rfl _ _ (w.heap.size + 1) 66 _ _ rfl (blk5 HBR.out _ _ _ _ _) Tryd.underlying66 rfl info_kcaches) rfl ?_
      exact ⟨gm, cm, gs, cs, gv, cv, by rw [← HT.out], by rw [← HT.out]; exact HKC.out.keep1 (keep5 _ _ _ _ _ _ _) HBR.out (by decide), HB.out.trans ((keep5 _ _ _ _ _ _ _).below HB.out.size (by simp))⟩
end Go.Proofs.YtjnghpambjjlkaaDoor
