/-
  The reference's Open, by its contract (printed by wip/gen_bookrefopen.py).
-/
import Derived.Test.YticckfioggeaeaaGreatDoorBookRefLine
import Derived.Test.YticckfioggeaeaaGreatDoorGB
set_option linter.unusedVariables false
set_option linter.unusedSimpArgs false
set_option linter.unnecessarySimpa false
set_option linter.unusedVariables false
namespace Go.Proofs.YticckfioggeaeaaGreatDoor
open Go.RowKit

/-- What Open of a text tells: slots and store (none of an error), how many lines, what is wrong. -/
def openS (slots : Int) (text : List UInt8) : Nat × Bk × Int × Int :=
  if ¬ (1 ≤ slots ∧ slots ≤ 8) then (0, bk0, 0, 1) else if 2000 < text.length then (0, bk0, 0, 4)
  else if (openL slots.toNat bk0 (lns text)).2.2 ≠ 0 then (0, bk0, (openL slots.toNat bk0 (lns text)).2.1, (openL slots.toNat bk0 (lns text)).2.2)
  else (slots.toNat, (openL slots.toNat bk0 (lns text)).1, (openL slots.toNat bk0 (lns text)).2.1, 0)
abbrev ROpenPost (w : World) (r : Nat × Bk × Int × Int) (e : Ending) (w' : World) : Prop := RPutPost w r.1 r.2.1 r.2.2.1 r.2.2.2 e w'
theorem ropen_err {w w' : World} {r : Nat × Bk × Int × Int} {m e : Int} (h : r = (0, bk0, m, e)) (hb : Below w.heap.size w w') : ROpenPost w r (.returned (.tuple #[.agg #[.int .i64 0, .slice none 0 0, .slice none 0 0, .string ⟨#[]⟩, .int .i64 0], .int .i64 m, .int .i64 e])) w' := by
  subst h
  exact ⟨_, rfl, ⟨none, none, 0, 0, 0, 0, rfl, OwnInts.nil _ _, OwnInts.nil _ _, rfl, rfl⟩, hb⟩
structure RO (w wr : World) (slots : Nat) (s : Bk) (ls : List (List UInt8)) (p0 : Nat) (aK aV : Option Addr) (nK nV cK cV : Nat) : Prop where
  x : BX wr (w.heap.size + 1) slots s aK aV nK nV cK cV
  res : Blk wr w.heap.size 24 [.int .i64 0, .slice none 0 0, .slice none 0 0, .string ⟨#[]⟩, .int .i64 0]
  l : ∀ q y, ls[q]? = some y → wr.cell? ⟨p0, q, none⟩ = some (strV y)
  hp : w.heap.size + 2 ≤ p0
  hp2 : p0 < wr.heap.size
  bel : Below w.heap.size w wr
theorem RO.keep {w wr w' : World} {slots : Nat} {s : Bk} {ls : List (List UInt8)} {p0 : Nat} {aK aV : Option Addr} {nK nV cK cV : Nat} (h : RO w wr slots s ls p0 aK aV nK nV cK cV) (hk : Keep [] wr w') : RO w w' slots s ls p0 aK aV nK nV cK cV :=
  ⟨h.x.keep0 hk, h.res.keep hk (by simp), fun q y hy => (hk.cell (p := ⟨p0, q, none⟩) h.hp2 (by simp)).trans (h.l q y hy), h.hp, Nat.lt_of_lt_of_le h.hp2 hk.size, h.bel.trans (hk.below h.bel.size (by simp))⟩
/-- A new store is written into the box. -/
theorem RO.put {w wr : World} {slots : Nat} {s s' : Bk} {ls : List (List UInt8)} {p0 q : Nat} {aK aV aK' aV' : Option Addr} {nK nV cK cV nK' nV' cK' cV' : Nat} (h : RO w wr slots s ls p0 aK aV nK nV cK cV) (hb : BX wr q slots s' aK' aV' nK' nV' cK' cV') :
    RO w (set5 wr (w.heap.size + 1) (.int .i64 slots) (.slice aK' nK' cK') (.slice aV' nV' cV') (.string ⟨s'.text.toArray⟩) (.int .i64 s'.many)) slots s' ls p0 aK' aV' nK' nV' cK' cV' := by
  have hk := keep5 wr (w.heap.size + 1) (.int .i64 slots) (.slice aK' nK' cK') (.slice aV' nV' cV') (.string ⟨s'.text.toArray⟩) (.int .i64 s'.many)
  have h1 := h.hp
  exact ⟨hb.move h.x.box, h.res.keep hk (by simp), fun q y hy => (hk.cell (p := ⟨p0, q, none⟩) h.hp2 (by simp; omega)).trans (h.l q y hy), h.hp, Nat.lt_of_lt_of_le h.hp2 hk.size, h.bel.trans (hk.below h.bel.size (by simp))⟩
theorem RO.start {w w3 : World} {p0 : Nat} {slots : Nat} {ls : List (List UInt8)} (hb : Below (((w.alloc (.cells #[.int .i64 0, .slice none 0 0, .slice none 0 0, .string ⟨#[]⟩, .int .i64 0] 24)).alloc (.cells #[.int .i64 slots, .slice none 0 0, .slice none 0 0, .string ⟨#[]⟩, .int .i64 0] 24)).heap.size) ((w.alloc (.cells #[.int .i64 0, .slice none 0 0, .slice none 0 0, .string ⟨#[]⟩, .int .i64 0] 24)).alloc (.cells #[.int .i64 slots, .slice none 0 0, .slice none 0 0, .string ⟨#[]⟩, .int .i64 0] 24)) w3)
    (hl : ∀ q y, ls[q]? = some y → w3.cell? ⟨p0, q, none⟩ = some (strV y)) (hp : w.heap.size + 2 ≤ p0) (hp2 : p0 < w3.heap.size) : RO w w3 slots bk0 ls p0 none none 0 0 0 0 := by
  have b1 := Blk.new (w.alloc (.cells #[.int .i64 0, .slice none 0 0, .slice none 0 0, .string ⟨#[]⟩, .int .i64 0] 24)) 24 [.int .i64 slots, .slice none 0 0, .slice none 0 0, .string ⟨#[]⟩, .int .i64 0]
  have b2 := (Blk.new w 24 [.int .i64 0, .slice none 0 0, .slice none 0 0, .string ⟨#[]⟩, .int .i64 0]).alloc (.cells #[.int .i64 slots, .slice none 0 0, .slice none 0 0, .string ⟨#[]⟩, .int .i64 0] 24)
  rw [World.size_alloc] at b1
  have hk := Keep.of_below (F := []) hb (Nat.le_refl _)
  exact ⟨⟨b1.keep hk (by simp), OwnInts.nil _ _, OwnInts.nil _ _, rfl, rfl⟩, b2.keep hk (by simp), hl, hp, hp2, (((Below.refl _ w).alloc (Nat.le_refl _) _).alloc (by simp) _).trans (hb.mono (by simp; omega))⟩
def RoRel (w : World) (slots p0 m : Nat) (text : List UInt8) (i : Value) (wr : World) : Prop :=
  ∃ (k : Nat) (s : Bk) (aK aV : Option Addr) (nK nV cK cV : Nat), k + 1 ≤ m ∧ i = .int .i64 k ∧ BkOk slots s ∧ s.many = k ∧ openL slots bk0 (lns text) = openL slots s ((lns text).drop k) ∧ RO w wr slots s (cutAt 10 text) p0 aK aV nK nV cK cV
set_option maxHeartbeats 4000000 in
set_option maxRecDepth 100000 in
theorem rOpen_yes (slots : Nat) (h1 : 1 ≤ slots) (h8 : slots ≤ 8) (text : List UInt8) (w : World) :
    Calls Tryz.prog 11 #[.int .i64 slots, .string ⟨text.toArray⟩] w (ROpenPost w (openS slots text)) := by
  have hsz : (⟨text.toArray⟩ : ByteArray).size = text.length := by simp [ByteArray.size]
  have hn : (slots : Int).toNat = slots := by omega
  by_cases hlong : 2000 < text.length
  · have HR : Hid (openS slots text = (0, bk0, 0, 4)) := Lib.hid (by unfold openS; rw [if_neg (by omega), if_pos hlong])
    have h2 : (2000 : Int) < (text.length : Int) := by omega
    go_enter Tryz.func11, Tryz.ntmps11
    go_wp2
    refine bodyPost_ret (results_cell3 rfl _ _ w.heap.size 24 _ _ rfl (Blk.new w 24 [.int .i64 0, .slice none 0 0, .slice none 0 0, .string ⟨#[]⟩, .int .i64 0]) Tryz.underlying24 rfl info_rstore) rfl ?_
    exact ropen_err HR.out ((Below.refl _ w).alloc (Nat.le_refl _) _)
  · have h2 : ¬ (2000 : Int) < (text.length : Int) := by omega
    have HR : Hid (openS slots text = if (openL slots bk0 (lns text)).2.2 ≠ 0 then (0, bk0, (openL slots bk0 (lns text)).2.1, (openL slots bk0 (lns text)).2.2) else (slots, (openL slots bk0 (lns text)).1, (openL slots bk0 (lns text)).2.1, 0)) := Lib.hid (by unfold openS; rw [if_neg (by omega), if_neg hlong, hn])
    have hs1 : 1 ≤ (slots : Int) := by omega
    have hs8 : (slots : Int) ≤ 8 := by omega
    go_enter Tryz.func11, Tryz.ntmps11
    go_upto_region 6 with fail
    obtain ⟨w1, hw1⟩ : ∃ w1, w1 = (w.alloc (.cells #[.int .i64 0, .slice none 0 0, .slice none 0 0, .string ⟨#[]⟩, .int .i64 0] 24)).alloc (.cells #[.int .i64 slots, .slice none 0 0, .slice none 0 0, .string ⟨#[]⟩, .int .i64 0] 24) := ⟨_, rfl⟩
    have HW1 := Lib.hid hw1
    rw [← hw1]
    clear hw1
    go_wp2_with fail
    refine (rCut 10 text (by omega) _).mono ?_
    rintro e w3 ⟨v3, rfl, ho3, hb3⟩
    obtain ⟨m, hm⟩ : ∃ m, m = (cutAt 10 text).length := ⟨_, rfl⟩
    have HM := Lib.hid hm
    have hmp : 0 < m := by rw [hm]; exact List.length_pos_iff.2 (cutAt_ne 10 text)
    have hm3 : m ≤ 2001 := by rw [hm]; have := cut_count 10 text; omega
    obtain ⟨p0, c3, hv3, hp0, hcell⟩ := ho3.shape (by rw [← hm]; exact hmp)
    have hpw : w1.heap.size ≤ p0 := by
      have := (World.ownsRow.lt ho3 p0 (by rw [hv3]; rfl)).1
      exact this
    rw [← hm] at hv3
    subst hv3
    have hro : RO w w3 slots bk0 (cutAt 10 text) p0 none none 0 0 0 0 := RO.start (by rw [← HW1.out]; exact hb3) hcell (by rw [HW1.out] at hpw; simpa using hpw) hp0
    have HRO := Lib.hid hro
    clear ho3 hb3 hcell hpw hp0 hm hro
    go_wp2
    go_loopw [9] (fun v9 wr => RoRel w slots p0 m text v9 wr) (fun v9 _ => m - (intOf v9).toNat)
    case atStart => exact ⟨0, bk0, none, none, 0, 0, 0, 0, hmp, rfl, bk0_ok slots, rfl, rfl, HRO.out⟩
    case round =>
      obtain ⟨k, s, aK, aV, nK, nV, cK, cV, hk, rfl, hok, hmany, hop, hro⟩ := hrel
      have HO := Lib.hid hro; have HOK := Lib.hid hok; have HMY := Lib.hid hmany; have HOP := Lib.hid hop
      clear hro hok hmany hop HRO
      by_cases hlt : k + 1 < m
      · have hki : (k : Int) + 1 < (m : Int) := by omega
        have hk0 : (0 : Int) ≤ (k : Int) := by omega
        have hkm : (k : Int) < (m : Int) := by omega
        have hw1 : IntKind.i64.wrap ((k : Int) + 1) = (k : Int) + 1 := IntWalk.i64_in _ (by omega)
        obtain ⟨x, hx⟩ : ∃ x, (cutAt 10 text)[k]? = some x := ⟨_, List.getElem?_eq_getElem (by rw [← HM.out]; omega)⟩
        have hxl : x.length ≤ 3000 := by have := cut_small10 10 text x (List.mem_of_getElem? hx); omega
        have hcx := HO.out.l k x hx
        have HSTEP : Hid (openL slots bk0 (lns text) = if (lineM slots s x).2 ≠ 0 then (s, ((s.many : Nat) : Int) + 1, (lineM slots s x).2) else openL slots (lineM slots s x).1 ((lns text).drop (k + 1))) := Lib.hid (by
          rw [HOP.out]
          exact open_step (by rw [lns_get (by rw [← HM.out]; exact hlt)]; exact hx))
        have HLO := Lib.hid (lineM_ok HOK.out h1 x)
        clear hx
        go_upto_region 10 with fail
        have hrd : ∀ wx, Keep [] wr wx → (wx.cell? ⟨(w.heap.size + 1), 0, none⟩ = some (.int .i64 slots) ∧ wx.cell? ⟨(w.heap.size + 1), 1, none⟩ = some (.slice aK nK cK) ∧ wx.cell? ⟨(w.heap.size + 1), 2, none⟩ = some (.slice aV nV cV) ∧ wx.cell? ⟨(w.heap.size + 1), 3, none⟩ = some (.string ⟨s.text.toArray⟩) ∧ wx.cell? ⟨(w.heap.size + 1), 4, none⟩ = some (.int .i64 s.many)) ∧ wx.cell? ⟨p0, k, none⟩ = some (strV x) := fun wx hk => by
          obtain ⟨x0, x1, x2, x3, x4, _⟩ := (HO.out.x.keep0 hk).cells
          exact ⟨⟨x0, x1, x2, x3, x4⟩, (hk.cell (p := ⟨p0, k, none⟩) HO.out.hp2 (by simp)).trans hcx⟩
        have HRD := Lib.hid hrd
        clear hrd hcx
        go_cut [10, 11] (fun yA yB wx => CutR wr slots (lineM slots s x).1 wx yA ∧ yB = .int .i64 (lineM slots s x).2)
        case first =>
          go_region_held3 (fun w' => (w'.cell? ⟨(w.heap.size + 1), 0, none⟩ = some (.int .i64 slots) ∧ w'.cell? ⟨(w.heap.size + 1), 1, none⟩ = some (.slice aK nK cK) ∧ w'.cell? ⟨(w.heap.size + 1), 2, none⟩ = some (.slice aV nV cV) ∧ w'.cell? ⟨(w.heap.size + 1), 3, none⟩ = some (.string ⟨s.text.toArray⟩) ∧ w'.cell? ⟨(w.heap.size + 1), 4, none⟩ = some (.int .i64 s.many)) ∧ w'.cell? ⟨p0, k, none⟩ = some (strV x))
            (first | (refine HRD.out _ ?_; first | with_reducible exact HK3.out | with_reducible exact HK3.out.alloc _ | with_reducible exact (Keep.refl [] wr).drew | with_reducible exact ((Keep.refl [] wr).alloc _).drew | with_reducible exact ((Keep.refl [] wr).drew).alloc _ | with_reducible exact keep_new5 HK3.out _ _ _ _ _) | fail)
            (first
            | (go_at_call 30; refine (rLine slots s _ x hxl _ (HO.out.x.keep0 (by first | exact (Keep.refl [] wr).drew | exact ((Keep.refl [] wr).drew).alloc _ | exact ((Keep.refl [] wr).alloc _).drew)).rb HOK.out h8 h1).mono ?_; rintro e w4 ⟨X4, rfl, ⟨aK4, aV4, nK4, nV4, cK4, cV4, rfl, hK4, hV4, hkl4, hvl4⟩, hb4⟩; (try (have hyb := ((Blk.new wr 24 [.int .i64 0, .slice none 0 0, .slice none 0 0, .string ⟨#[]⟩, .int .i64 0]).drew).below hb4 (by simp); have y0 := hyb.cell_ (i := 0) (v := .int .i64 0) rfl; have y1 := hyb.cell_ (i := 1) (v := .slice none 0 0) rfl; have y2 := hyb.cell_ (i := 2) (v := .slice none 0 0) rfl; have y3 := hyb.cell_ (i := 3) (v := .string ⟨#[]⟩) rfl; have y4 := hyb.cell_ (i := 4) (v := .int .i64 0) rfl; have fy0 := hyb.free 0; have fy1 := hyb.free 1; have fy2 := hyb.free 2; have fy3 := hyb.free 3; have fy4 := hyb.free 4; have HYB := Lib.hid hyb; clear hyb)); have HK3 : Hid (Keep [] wr w4) := (by first | exact Lib.hid (((Keep.refl [] wr).drew).trans (Keep.of_below hb4 (Nat.le_refl _))) | exact Lib.hid ((((Keep.refl [] wr).alloc _).drew).trans (Keep.of_below hb4 (Nat.le_refl _))) | exact Lib.hid ((((Keep.refl [] wr).drew).alloc _).trans (Keep.of_below hb4 (Nat.le_refl _)))); have HK4 := Lib.hid hK4; have HV4 := Lib.hid hV4; have HKL4 := Lib.hid hkl4; have HVL4 := Lib.hid hvl4; clear hK4 hV4 hkl4 hvl4 hb4)
            | fail)
          all_goals
            (try go_wp2)
            go_meet
          all_goals first
            | with_reducible exact ⟨CutR.behind HK4.out HV4.out HKL4.out HVL4.out (HK3.out.below (Nat.le_refl _) (by simp)), rfl⟩
            | with_reducible exact ⟨CutR.ahead HYB.out HK4.out HV4.out HKL4.out HVL4.out (HK3.out.below (Nat.le_refl _) (by simp)), rfl⟩
        case rest =>
          obtain ⟨⟨q, aK4, aV4, nK4, nV4, cK4, cV4, rfl, hbx4, hq4, hbl4⟩, rfl⟩ := hcut
          have HBX4 := Lib.hid hbx4; have HQ4 := Lib.hid hq4; have HBL4 := Lib.hid hbl4
          clear hbx4 hq4 hbl4
          have hoc := HO.out.keep (Keep.of_below (F := []) HBL4.out (Nat.le_refl _))
          have HOC := Lib.hid hoc
          clear hoc HO HRD
          obtain ⟨er, her⟩ : ∃ er, er = (lineM slots s x).2 := ⟨_, rfl⟩
          obtain ⟨s2, hs2⟩ : ∃ s2, s2 = (lineM slots s x).1 := ⟨_, rfl⟩
          rw [← her, ← hs2] at HSTEP HLO
          rw [← hs2] at HBX4
          rw [← her]
          clear her hs2
          by_cases he0 : er = 0
          · subst he0
            have HSTEP2 : Hid (openL slots bk0 (lns text) = openL slots s2 ((lns text).drop (k + 1))) := Lib.hid (by rw [HSTEP.out, if_neg (by simp)])
            have HMY2 : Hid (s2.many = k + 1) := Lib.hid (by rw [HLO.out.2 rfl, HMY.out])
            obtain ⟨x0, x1, x2, x3, x4, f0, f1, f2, f3, f4⟩ := HBX4.out.cells
            obtain ⟨y0, y1, y2, y3, y4, g0, g1, g2, g3, g4⟩ := HOC.out.x.cells
            go_wp2
            go_roundw
            case rel => exact ⟨k + 1, s2, _, _, _, _, _, _, by omega, by simp, HLO.out.1, HMY2.out, HSTEP2.out, HOC.out.put HBX4.out⟩
            case measure => simp [intOf]; omega
          · have hen : (er != 0) = true := by simpa using he0
            have HR2 : Hid (openS slots text = (0, bk0, (k : Int) + 1, er)) := Lib.hid (by
              have e1 : openL slots bk0 (lns text) = (s, ((s.many : Nat) : Int) + 1, er) := by rw [HSTEP.out, if_pos he0]
              rw [HR.out, e1, if_pos he0, HMY.out])
            have y := HOC.out.res
            have y0 := y.cell_ (i := 0) (v := .int .i64 0) rfl; have y1 := y.cell_ (i := 1) (v := .slice none 0 0) rfl; have y2 := y.cell_ (i := 2) (v := .slice none 0 0) rfl; have y3 := y.cell_ (i := 3) (v := .string ⟨#[]⟩) rfl; have y4 := y.cell_ (i := 4) (v := .int .i64 0) rfl
            have f0 := y.free 0; have f1 := y.free 1; have f2 := y.free 2; have f3 := y.free 3; have f4 := y.free 4
            clear y HSTEP
            go_wp2
            refine bodyPost_ret (results_cell3 rfl _ _ w.heap.size 24 _ _ rfl (blk5 HOC.out.res _ _ _ _ _) Tryz.underlying24 rfl info_rstore) rfl ?_
            exact ropen_err HR2.out (HOC.out.bel.trans ((keep5 wc w.heap.size _ _ _ _ _).below HOC.out.bel.size (by simp)))
      · obtain rfl : m = k + 1 := by omega
        have hki : ¬ (k : Int) + 1 < ((k + 1 : Nat) : Int) := by omega
        have hw1 : IntKind.i64.wrap ((k : Int) + 1) = (k : Int) + 1 := IntWalk.i64_in _ (by omega)
        have HEND : Hid (openS slots text = (slots, s, (s.many : Int), 0)) := Lib.hid (by
          have e1 : (lns text).drop k = [] := List.drop_eq_nil_of_le (by unfold lns; rw [List.length_dropLast, ← HM.out]; omega)
          rw [HR.out, HOP.out, e1, openL, if_neg (by simp)])
        go_upto_region 14 with fail
        have HC : Hid (∀ wx, Keep [w.heap.size] wr wx → wx.cell? ⟨(w.heap.size + 1), 0, none⟩ = some (.int .i64 slots) ∧ wx.cell? ⟨(w.heap.size + 1), 1, none⟩ = some (.slice aK nK cK) ∧ wx.cell? ⟨(w.heap.size + 1), 2, none⟩ = some (.slice aV nV cV) ∧ wx.cell? ⟨(w.heap.size + 1), 3, none⟩ = some (.string ⟨s.text.toArray⟩) ∧ wx.cell? ⟨(w.heap.size + 1), 4, none⟩ = some (.int .i64 s.many)) := Lib.hid fun wx hk => by
          have hb := HO.out.x.box.keep hk (by simp)
          exact ⟨hb.cell_ (i := 0) rfl, hb.cell_ (i := 1) rfl, hb.cell_ (i := 2) rfl, hb.cell_ (i := 3) rfl, hb.cell_ (i := 4) rfl⟩
        have y := HO.out.res
        have y0 := y.cell_ (i := 0) (v := .int .i64 0) rfl; have y1 := y.cell_ (i := 1) (v := .slice none 0 0) rfl; have y2 := y.cell_ (i := 2) (v := .slice none 0 0) rfl; have y3 := y.cell_ (i := 3) (v := .string ⟨#[]⟩) rfl; have y4 := y.cell_ (i := 4) (v := .int .i64 0) rfl
        have f0 := y.free 0; have f1 := y.free 1; have f2 := y.free 2; have f3 := y.free 3; have f4 := y.free 4
        obtain ⟨x0, x1, x2, x3, x4, _, _, _, _, _⟩ := HO.out.x.cells
        clear y
        go_region_held3 (fun w' => w'.cell? ⟨(w.heap.size + 1), 0, none⟩ = some (.int .i64 slots) ∧ w'.cell? ⟨(w.heap.size + 1), 1, none⟩ = some (.slice aK nK cK) ∧ w'.cell? ⟨(w.heap.size + 1), 2, none⟩ = some (.slice aV nV cV) ∧ w'.cell? ⟨(w.heap.size + 1), 3, none⟩ = some (.string ⟨s.text.toArray⟩) ∧ w'.cell? ⟨(w.heap.size + 1), 4, none⟩ = some (.int .i64 s.many))
          (first | (refine HC.out _ ?_; first | with_reducible exact (Keep.refl [w.heap.size] wr).drew | with_reducible exact (keep5 wr w.heap.size _ _ _ _ _).drew) | fail)
          (fail)
        go_wp2
        refine bodyPost_ret (results_cell3 rfl _ _ w.heap.size 24 _ _ rfl (blk5 HO.out.res _ _ _ _ _).drew Tryz.underlying24 rfl info_rstore) rfl ?_
        have hk5 := (keep5 wr w.heap.size (.int .i64 slots) (.slice aK nK cK) (.slice aV nV cV) (.string ⟨s.text.toArray⟩) (.int .i64 s.many)).drew
        rw [HEND.out]
        exact ⟨_, rfl, ⟨aK, aV, nK, nV, cK, cV, rfl, own_keep1 HO.out.x.K hk5 HO.out.res (by decide), own_keep1 HO.out.x.V hk5 HO.out.res (by decide), HO.out.x.kl, HO.out.x.vl⟩, HO.out.bel.trans (hk5.below HO.out.bel.size (by simp))⟩
theorem rOpen_no (slots : Int) (h : ¬ (1 ≤ slots ∧ slots ≤ 8)) (text : List UInt8) (w : World) :
    Calls Tryz.prog 11 #[.int .i64 slots, .string ⟨text.toArray⟩] w (ROpenPost w (openS slots text)) := by
  have HR : Hid (openS slots text = (0, bk0, 0, 1)) := Lib.hid (by unfold openS; rw [if_pos h])
  have hc : slots < 1 ∨ (¬ slots < 1 ∧ 8 < slots) := by omega
  clear h
  go_enter Tryz.func11, Tryz.ntmps11
  rcases hc with h | ⟨h, h2⟩
  all_goals
    go_wp2
    refine bodyPost_ret (results_cell3 rfl _ _ w.heap.size 24 _ _ rfl (Blk.new w 24 [.int .i64 0, .slice none 0 0, .slice none 0 0, .string ⟨#[]⟩, .int .i64 0]) Tryz.underlying24 rfl info_rstore) rfl ?_
    exact ropen_err HR.out ((Below.refl _ w).alloc (Nat.le_refl _) _)
theorem rOpen_any (slots : Int) (text : List UInt8) (w : World) :
    Calls Tryz.prog 11 #[.int .i64 slots, .string ⟨text.toArray⟩] w (ROpenPost w (openS slots text)) := by
  by_cases h : 1 ≤ slots ∧ slots ≤ 8
  · obtain ⟨d, rfl⟩ := Int.eq_ofNat_of_zero_le (show 0 ≤ slots by omega)
    exact rOpen_yes d (by omega) (by omega) text w
  · exact rOpen_no slots h text w
end Go.Proofs.YticckfioggeaeaaGreatDoor
