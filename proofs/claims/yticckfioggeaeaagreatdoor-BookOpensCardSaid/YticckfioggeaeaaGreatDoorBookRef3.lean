/-
  The reference's store: how it lies; front, down, by their contracts.
-/
import Derived.Test.YticckfioggeaeaaGreatDoorGJ
import Derived.BigRegion
import Derived.StillTailTactics
import Derived.Deep.DeepCutAuto
set_option linter.unusedVariables false
set_option linter.unusedSimpArgs false
set_option linter.unnecessarySimpa false
set_option linter.unusedVariables false
namespace Go.Proofs.YticckfioggeaeaaGreatDoor
open Go.RowKit

theorem oi_ne {w : World} {base b : Nat} {v : Value} {l : List Int} {t : TypeId} {cs : List Value} (h : OwnInts w base v l) (hb : Blk w b t cs) (ht : 3 ≠ t) : v.ownBlock ≠ some b := by
  obtain ⟨hl, ⟨rfl, hn⟩ | ⟨g, cap, cur, rfl, _, hh, _⟩⟩ := h
  · simp [Value.ownBlock]
  · intro e
    simp only [Value.ownBlock, Option.some.injEq] at e
    subst e
    unfold Blk at hb
    rw [hh] at hb
    injection hb with hb
    injection hb with _ h2
    exact ht h2
theorem own_keep1 {w w' : World} {base b : Nat} {v : Value} {l : List Int} {t : TypeId} {cs : List Value} (h : OwnInts w base v l) (hk : Keep [b] w w') (hb : Blk w b t cs) (ht : 3 ≠ t) : OwnInts w' base v l :=
  h.keep fun g hg => hk.block g (World.ownsRow.lt h g hg).2 (by simp; rintro rfl; exact oi_ne h hb ht hg)
theorem own_keep0 {w w' : World} {base : Nat} {v : Value} {l : List Int} (h : OwnInts w base v l) (hk : Keep [] w w') : OwnInts w' base v l :=
  h.keep fun g hg => hk.block g (World.ownsRow.lt h g hg).2 (by simp)
/-- A list's slice, told. -/
def OutS (w : World) (m : Nat) (l : List Int) (e : Ending) (w' : World) : Prop := ∃ a c, e = .returned (.slice a m c) ∧ OwnInts w' 0 (.slice a m c) l ∧ l.length = m ∧ Below w.heap.size w w'
theorem OutPost.s {w : World} {m : Nat} {l : List Int} {e : Ending} {w' : World} (h : OutPost w l e w') (hm : l.length = m) : OutS w m l e w' := by
  obtain ⟨v, rfl, ho, hb⟩ := h
  obtain ⟨a, c, rfl, _⟩ := ho.shape
  rw [hm] at ho ⊢
  exact ⟨a, c, rfl, own_low ho (Nat.zero_le _), hm, hb⟩
theorem less_s (a : Option Addr) (c n i : Nat) (l : List Int) (w : World) (h : OwnInts w 0 (.slice a n c) l) (hl : l.length = n) (hi : i < n) (hn : n ≤ 1000) :
    Calls Tryz.prog 79 #[.slice a n c, .int .i64 i] w (OutS w (n - 1) (l.eraseIdx i)) :=
  (rLess _ 0 i l w h (by omega) (by omega)).mono fun _ _ hp => hp.s (by rw [List.length_eraseIdx, hl, if_pos hi])
theorem put_s (a : Option Addr) (c n : Nat) (x : Int) (l : List Int) (w : World) (h : OwnInts w 0 (.slice a n c) l) (hl : l.length = n) (hn : n ≤ 1000) :
    Calls Tryz.prog 98 #[.slice a n c, .int .i64 0, .int .i64 x] w (OutS w (n + 1) (x :: l)) :=
  (rPut0 _ 0 x l w h (by omega)).mono fun _ _ hp => hp.s (by rw [List.length_cons, hl])
theorem own_in {w : World} {a : Option Addr} {n c : Nat} {l : List Int} (h : OwnInts w 0 (.slice a n c) l) : IntsIn w w.heap.size a l := by
  obtain ⟨a', c', e, h2⟩ := h.shape
  injection e with e1 _ _
  subst e1
  exact h2

def rZero : List Value := [.int .i64 0, .slice none 0 0, .slice none 0 0, .string ⟨#[]⟩, .int .i64 0]
def rTop (slots : Int) (aK aV : Option Addr) (nK nV cK cV : Nat) (txt : List UInt8) (many : Int) : List Value := [.int .i64 slots, .slice aK nK cK, .slice aV nV cV, .string ⟨txt.toArray⟩, .int .i64 many]
abbrev rVal (slots : Int) (aK aV : Option Addr) (nK nV cK cV : Nat) (txt : List UInt8) (many : Int) : Value := .agg #[.int .i64 slots, .slice aK nK cK, .slice aV nV cV, .string ⟨txt.toArray⟩, .int .i64 many]
structure RB (w0 w : World) (h : Nat) (slots : Int) (aK aV : Option Addr) (nK nV cK cV : Nat) (lK lV : List Int) (txt : List UInt8) (many : Int) : Prop where
  box : Blk w h 24 (rTop slots aK aV nK nV cK cV txt many)
  res : Blk w (h + 1) 24 rZero
  K : OwnInts w 0 (.slice aK nK cK) lK
  V : OwnInts w 0 (.slice aV nV cV) lV
  kl : lK.length = nK
  vl : lV.length = nV
  bel : Below h w0 w
  h0 : h = w0.heap.size
theorem info_rstore : (Tryz.prog.info? 24).map (·.size) = some 5 := by kernel_rfl
section
variable {w0 w w' : World} {h : Nat} {slots : Int} {aK aV a : Option Addr} {nK nV cK cV n c : Nat} {lK lV l : List Int} {txt : List UInt8} {many : Int}
theorem RB.start (w : World) (hk : OwnInts w 0 (.slice aK nK cK) lK) (hv : OwnInts w 0 (.slice aV nV cV) lV) (hkl : lK.length = nK) (hvl : lV.length = nV) :
    RB w ((w.alloc (.cells #[.int .i64 slots, .slice aK nK cK, .slice aV nV cV, .string ⟨txt.toArray⟩, .int .i64 many] 24)).alloc (.cells #[.int .i64 0, .slice none 0 0, .slice none 0 0, .string ⟨#[]⟩, .int .i64 0] 24)) w.heap.size slots aK aV nK nV cK cV lK lV txt many := by
  have b1 := (Blk.new w 24 (rTop slots aK aV nK nV cK cV txt many)).alloc (.cells rZero.toArray 24)
  have b2 := Blk.new (w.alloc (.cells (rTop slots aK aV nK nV cK cV txt many).toArray 24)) 24 rZero
  rw [World.size_alloc] at b2
  have hb : Keep [] w ((w.alloc (.cells #[.int .i64 slots, .slice aK nK cK, .slice aV nV cV, .string ⟨txt.toArray⟩, .int .i64 many] 24)).alloc (.cells #[.int .i64 0, .slice none 0 0, .slice none 0 0, .string ⟨#[]⟩, .int .i64 0] 24)) := ((Keep.refl [] w).alloc _).alloc _
  exact ⟨b1, b2, own_keep0 hk hb, own_keep0 hv hb, hkl, hvl, hb.below (Nat.le_refl _) (by simp), rfl⟩
theorem RB.keep (k : RB w0 w h slots aK aV nK nV cK cV lK lV txt many) (hk : Keep [] w w') : RB w0 w' h slots aK aV nK nV cK cV lK lV txt many :=
  ⟨k.box.keep hk (by simp), k.res.keep hk (by simp), own_keep0 k.K hk, own_keep0 k.V hk, k.kl, k.vl, k.bel.trans (hk.below (by have := k.bel.size; have := k.h0; omega) (by simp)), k.h0⟩
theorem RB.below (k : RB w0 w h slots aK aV nK nV cK cV lK lV txt many) (hb : Below w.heap.size w w') : RB w0 w' h slots aK aV nK nV cK cV lK lV txt many := k.keep (Keep.of_below hb (Nat.le_refl _))
theorem RB.belS (k : RB w0 w h slots aK aV nK nV cK cV lK lV txt many) (hk : Keep [h] w w') : Below h w0 w' := k.bel.trans (hk.below (by have := k.bel.size; have := k.h0; omega) (by simp))
theorem RB.cells (k : RB w0 w h slots aK aV nK nV cK cV lK lV txt many) : w.cell? ⟨h, 0, none⟩ = some (.int .i64 slots) ∧ w.cell? ⟨h, 1, none⟩ = some (.slice aK nK cK) ∧ w.cell? ⟨h, 2, none⟩ = some (.slice aV nV cV) ∧ w.cell? ⟨h, 3, none⟩ = some (.string ⟨txt.toArray⟩) ∧ w.cell? ⟨h, 4, none⟩ = some (.int .i64 many) ∧
    w.frozen? ⟨h, 0, none⟩ = false ∧ w.frozen? ⟨h, 1, none⟩ = false ∧ w.frozen? ⟨h, 2, none⟩ = false ∧ w.frozen? ⟨h, 3, none⟩ = false ∧ w.frozen? ⟨h, 4, none⟩ = false :=
  ⟨k.box.cell_ (i := 0) rfl, k.box.cell_ (i := 1) rfl, k.box.cell_ (i := 2) rfl, k.box.cell_ (i := 3) rfl, k.box.cell_ (i := 4) rfl, k.box.free 0, k.box.free 1, k.box.free 2, k.box.free 3, k.box.free 4⟩
theorem RB.rcells (k : RB w0 w h slots aK aV nK nV cK cV lK lV txt many) : w.cell? ⟨h + 1, 0, none⟩ = some (.int .i64 0) ∧ w.cell? ⟨h + 1, 1, none⟩ = some (.slice none 0 0) ∧ w.cell? ⟨h + 1, 2, none⟩ = some (.slice none 0 0) ∧ w.cell? ⟨h + 1, 3, none⟩ = some (.string ⟨#[]⟩) ∧ w.cell? ⟨h + 1, 4, none⟩ = some (.int .i64 0) ∧
    w.frozen? ⟨h + 1, 0, none⟩ = false ∧ w.frozen? ⟨h + 1, 1, none⟩ = false ∧ w.frozen? ⟨h + 1, 2, none⟩ = false ∧ w.frozen? ⟨h + 1, 3, none⟩ = false ∧ w.frozen? ⟨h + 1, 4, none⟩ = false :=
  ⟨k.res.cell_ (i := 0) rfl, k.res.cell_ (i := 1) rfl, k.res.cell_ (i := 2) rfl, k.res.cell_ (i := 3) rfl, k.res.cell_ (i := 4) rfl, k.res.free 0, k.res.free 1, k.res.free 2, k.res.free 3, k.res.free 4⟩
theorem RB.hk (_ : RB w0 w h slots aK aV nK nV cK cV lK lV txt many) (i : Nat) (v : Value) : Keep [h] w (w.setCell ⟨h, i, none⟩ v) := (Keep.refl _ w).set (fun _ => by simp) _
theorem RB.setK (k : RB w0 w h slots aK aV nK nV cK cV lK lV txt many) (hl : OwnInts w 0 (.slice a n c) l) (hn : l.length = n) : RB w0 (w.setCell ⟨h, 1, none⟩ (.slice a n c)) h slots a aV n nV c cV l lV txt many :=
  ⟨k.box.set 1 _, k.res.keep (k.hk 1 _) (by simp), own_keep1 hl (k.hk 1 _) k.box (by decide), own_keep1 k.V (k.hk 1 _) k.box (by decide), hn, k.vl, k.belS (k.hk 1 _), k.h0⟩
theorem RB.setV (k : RB w0 w h slots aK aV nK nV cK cV lK lV txt many) (hl : OwnInts w 0 (.slice a n c) l) (hn : l.length = n) : RB w0 (w.setCell ⟨h, 2, none⟩ (.slice a n c)) h slots aK a nK n cK c lK l txt many :=
  ⟨k.box.set 2 _, k.res.keep (k.hk 2 _) (by simp), own_keep1 k.K (k.hk 2 _) k.box (by decide), own_keep1 hl (k.hk 2 _) k.box (by decide), k.kl, hn, k.belS (k.hk 2 _), k.h0⟩
theorem RB.setT (k : RB w0 w h slots aK aV nK nV cK cV lK lV txt many) (t : List UInt8) : RB w0 (w.setCell ⟨h, 3, none⟩ (.string ⟨t.toArray⟩)) h slots aK aV nK nV cK cV lK lV t many :=
  ⟨k.box.set 3 _, k.res.keep (k.hk 3 _) (by simp), own_keep1 k.K (k.hk 3 _) k.box (by decide), own_keep1 k.V (k.hk 3 _) k.box (by decide), k.kl, k.vl, k.belS (k.hk 3 _), k.h0⟩
theorem RB.setM (k : RB w0 w h slots aK aV nK nV cK cV lK lV txt many) (m : Int) : RB w0 (w.setCell ⟨h, 4, none⟩ (.int .i64 m)) h slots aK aV nK nV cK cV lK lV txt m :=
  ⟨k.box.set 4 _, k.res.keep (k.hk 4 _) (by simp), own_keep1 k.K (k.hk 4 _) k.box (by decide), own_keep1 k.V (k.hk 4 _) k.box (by decide), k.kl, k.vl, k.belS (k.hk 4 _), k.h0⟩
abbrev set5 (w : World) (b : Nat) (v0 v1 v2 v3 v4 : Value) : World := ((((w.setCell ⟨b, 0, none⟩ v0).setCell ⟨b, 1, none⟩ v1).setCell ⟨b, 2, none⟩ v2).setCell ⟨b, 3, none⟩ v3).setCell ⟨b, 4, none⟩ v4
theorem keep5 (w : World) (b : Nat) (v0 v1 v2 v3 v4 : Value) : Keep [b] w (set5 w b v0 v1 v2 v3 v4) :=
  (((((Keep.refl [b] w).set (p := ⟨b, 0, none⟩) (fun _ => by simp) _).set (p := ⟨b, 1, none⟩) (fun _ => by simp) _).set (p := ⟨b, 2, none⟩) (fun _ => by simp) _).set (p := ⟨b, 3, none⟩) (fun _ => by simp) _).set (p := ⟨b, 4, none⟩) (fun _ => by simp) _
theorem blk5 {w : World} {b : Nat} {t : TypeId} {a0 a1 a2 a3 a4 : Value} (h : Blk w b t [a0, a1, a2, a3, a4]) (v0 v1 v2 v3 v4 : Value) : Blk (set5 w b v0 v1 v2 v3 v4) b t [v0, v1, v2, v3, v4] :=
  ((((h.set 0 v0).set 1 v1).set 2 v2).set 3 v3).set 4 v4
theorem RB.xres (k : RB w0 w h slots aK aV nK nV cK cV lK lV txt many) (v0 v1 v2 v3 v4 : Value) : (set5 w (h + 1) v0 v1 v2 v3 v4).cell? ⟨h, 0, none⟩ = some (.int .i64 slots) ∧ (set5 w (h + 1) v0 v1 v2 v3 v4).cell? ⟨h, 1, none⟩ = some (.slice aK nK cK) ∧ (set5 w (h + 1) v0 v1 v2 v3 v4).cell? ⟨h, 2, none⟩ = some (.slice aV nV cV) ∧ (set5 w (h + 1) v0 v1 v2 v3 v4).cell? ⟨h, 3, none⟩ = some (.string ⟨txt.toArray⟩) ∧ (set5 w (h + 1) v0 v1 v2 v3 v4).cell? ⟨h, 4, none⟩ = some (.int .i64 many) := by
  have hb := k.box.keep (keep5 w (h + 1) v0 v1 v2 v3 v4) (by simp)
  exact ⟨hb.cell_ (i := 0) rfl, hb.cell_ (i := 1) rfl, hb.cell_ (i := 2) rfl, hb.cell_ (i := 3) rfl, hb.cell_ (i := 4) rfl⟩
/-- Written into the result's block: what a call leaves. -/
theorem RB.done (k : RB w0 w h slots aK aV nK nV cK cV lK lV txt many) (v0 v1 v2 v3 v4 : Value) : OwnInts (set5 w (h + 1) v0 v1 v2 v3 v4) 0 (.slice aK nK cK) lK ∧ OwnInts (set5 w (h + 1) v0 v1 v2 v3 v4) 0 (.slice aV nV cV) lV ∧ Below w0.heap.size w0 (set5 w (h + 1) v0 v1 v2 v3 v4) := by
  have hk := keep5 w (h + 1) v0 v1 v2 v3 v4
  refine ⟨own_keep1 k.K hk k.res (by decide), own_keep1 k.V hk k.res (by decide), ?_⟩
  rw [← k.h0]
  exact k.bel.trans (hk.below (by have := k.bel.size; have := k.h0; omega) (by simp))
/-- A whole new store is written into the box. -/
theorem RB.setAll (k : RB w0 w h slots aK aV nK nV cK cV lK lV txt many) {slots' : Int} {aK' aV' : Option Addr} {nK' nV' cK' cV' : Nat} {lK' lV' : List Int} {txt' : List UInt8} {many' : Int} (hK : OwnInts w 0 (.slice aK' nK' cK') lK') (hV : OwnInts w 0 (.slice aV' nV' cV') lV') (hkl : lK'.length = nK') (hvl : lV'.length = nV') :
    RB w0 (set5 w h (.int .i64 slots') (.slice aK' nK' cK') (.slice aV' nV' cV') (.string ⟨txt'.toArray⟩) (.int .i64 many')) h slots' aK' aV' nK' nV' cK' cV' lK' lV' txt' many' := by
  have hk := keep5 w h (.int .i64 slots') (.slice aK' nK' cK') (.slice aV' nV' cV') (.string ⟨txt'.toArray⟩) (.int .i64 many')
  exact ⟨blk5 k.box _ _ _ _ _, k.res.keep hk (by simp), own_keep1 hK hk k.box (by decide), own_keep1 hV hk k.box (by decide), hkl, hvl, k.belS hk, k.h0⟩
end
/-- A store by value, told. -/
def RSt (w : World) (slots : Int) (lK lV : List Int) (txt : List UInt8) (many : Int) (X : Value) : Prop :=
  ∃ (aK aV : Option Addr) (nK nV cK cV : Nat), X = rVal slots aK aV nK nV cK cV txt many ∧ OwnInts w 0 (.slice aK nK cK) lK ∧ OwnInts w 0 (.slice aV nV cV) lV ∧ lK.length = nK ∧ lV.length = nV
def RPost (w : World) (slots : Int) (lK lV : List Int) (txt : List UInt8) (many : Int) (e : Ending) (w' : World) : Prop := ∃ X, e = .returned X ∧ RSt w' slots lK lV txt many X ∧ Below w.heap.size w w'

/-! ### down -/
set_option maxHeartbeats 2000000 in
set_option maxRecDepth 100000 in
theorem rDown (slots : Int) (lK lV : List Int) (txt : List UInt8) (many : Int) (X : Value) (word : List UInt8) (w : World) (h : RSt w slots lK lV txt many X) (hw : word.length ≤ 100) (ht : txt.length ≤ 2000) (h0 : 0 ≤ many) (h60 : many ≤ 60) :
    Calls Tryz.prog 81 #[X, .string ⟨word.toArray⟩] w (RPost w slots lK lV (txt ++ lineOf word) (many + 1)) := by
  obtain ⟨aK, aV, nK, nV, cK, cV, rfl, hK, hV, hkl, hvl⟩ := h
  obtain ⟨w1, hw1⟩ : ∃ w1, w1 = (w.alloc (.cells #[.int .i64 slots, .slice aK nK cK, .slice aV nV cV, .string ⟨txt.toArray⟩, .int .i64 many] 24)).alloc (.cells #[.int .i64 0, .slice none 0 0, .slice none 0 0, .string ⟨#[]⟩, .int .i64 0] 24) := ⟨_, rfl⟩
  have hd1 := RB.start (slots := slots) (txt := txt) (many := many) w hK hV hkl hvl
  rw [← hw1] at hd1
  have HD1 := Lib.hid hd1; have HW1 := Lib.hid hw1
  clear hd1 hw1 hK hV hkl hvl
  obtain ⟨q, hq⟩ : ∃ q, sumB word = q := ⟨_, rfl⟩
  have hq9 := sumB_lt word
  rw [hq] at hq9
  have HQ := Lib.hid hq
  have hil := itoa_len (n := (q : Int)) (k := 4) (by omega) (by decide) (by omega)
  have HSS : Hid ((⟨txt.toArray⟩ : ByteArray) ++ ⟨word.toArray⟩ ++ ⟨#[32]⟩ ++ ⟨(Lib.itoa (q : Int)).toArray⟩ ++ ⟨#[10]⟩ = ⟨(txt ++ lineOf word).toArray⟩) := Lib.hid (by
    have e : txt ++ lineOf word = txt ++ word ++ [32] ++ Lib.itoa (q : Int) ++ [10] := by unfold lineOf; rw [HQ.out]; simp
    rw [e, ← str_cat, ← str_cat, ← str_cat, ← str_cat])
  clear hq
  go_enter Tryz.func81, Tryz.ntmps81
  go_upto_region 1 with fail
  rw [← HW1.out]
  have HD2 := Lib.hid (HD1.out.keep (Keep.refl _ w1).drew)
  obtain ⟨x0, x1, x2, x3, x4, f0, f1, f2, f3, f4⟩ := HD2.out.cells
  obtain ⟨y0, y1, y2, y3, y4, g0, g1, g2, g3, g4⟩ := HD2.out.rcells
  have k1 : ¬ 9223372036854775807 < txt.length + word.length := by omega
  have k2 : ¬ 9223372036854775807 < txt.length + word.length + 1 := by omega
  have k3 : ¬ 9223372036854775807 < txt.length + word.length + 1 + (Lib.itoa (q : Int)).length := by omega
  have k4 : ¬ 9223372036854775807 < txt.length + word.length + 1 + (Lib.itoa (q : Int)).length + 1 := by omega
  go_still_tail 10, (by kernel_rfl)
  still_call (still_eq (rsum_l word q _ HQ.out (by omega)))
  repeat still_step
  still_call (still_eq (rdigits_int (q : Int) (by omega) (by omega) _))
  repeat still_step
  refine wpStill_nil ?_
  clear x0 x1 x2 x3 x4 f0 f1 f2 f3 f4 y0 y1 y2 y3 y4 g0 g1 g2 g3 g4
  obtain ⟨x0, x1, x2, x3, x4, f0, f1, f2, f3, f4⟩ := HD2.out.cells
  go_upto_region 2 with fail
  rw [HSS.out]
  obtain ⟨w3, hw3⟩ : ∃ w3, w3 = (w1.setCell ⟨w.heap.size, 3, none⟩ (.string ⟨(txt ++ lineOf word).toArray⟩)).drew := ⟨_, rfl⟩
  have hd3 := (HD1.out.setT (txt ++ lineOf word)).keep (Keep.refl _ _).drew
  rw [← hw3] at hd3 ⊢
  have HD3 := Lib.hid hd3
  clear hd3 hw3 x0 x1 x2 x3 x4 f0 f1 f2 f3 f4
  obtain ⟨x0, x1, x2, x3, x4, f0, f1, f2, f3, f4⟩ := HD3.out.cells
  have hinc : IntKind.i64.wrap (many + 1) = many + 1 := IntWalk.i64_in _ (by omega)
  go_upto_region 3 with fail
  have hd4 := HD3.out.setM (many + 1)
  obtain ⟨w4, hw4⟩ : ∃ w4, w4 = w3.setCell ⟨w.heap.size, 4, none⟩ (.int .i64 (many + 1)) := ⟨_, rfl⟩
  rw [← hw4] at hd4 ⊢
  have HD4 := Lib.hid hd4
  clear hd4 hw4 x0 x1 x2 x3 x4 f0 f1 f2 f3 f4
  obtain ⟨x0, x1, x2, x3, x4, f0, f1, f2, f3, f4⟩ := HD4.out.cells
  obtain ⟨y0, y1, y2, y3, y4, g0, g1, g2, g3, g4⟩ := HD4.out.rcells
  go_wp2
  have HDE := HD4
  (try simp only [Exit.inBlock, Exit.then])
  refine bodyPost_ret (results_cell1 rfl _ _ (w.heap.size + 1) 24 _ _ rfl (blk5 HDE.out.res _ _ _ _ _) Tryz.underlying24 rfl info_rstore) rfl ?_
  have hd := HDE.out.done (.int .i64 slots) (.slice aK nK cK) (.slice aV nV cV) (.string ⟨(txt ++ lineOf word).toArray⟩) (.int .i64 (many + 1))
  exact ⟨_, rfl, ⟨aK, aV, nK, nV, cK, cV, rfl, hd.1, hd.2.1, HDE.out.kl, HDE.out.vl⟩, hd.2.2⟩

/-! ### front -/
theorem rFront_miss (slots : Int) (lK lV : List Int) (txt : List UInt8) (many : Int) (X : Value) (k v : Int) (w : World) (h : RSt w slots lK lV txt many X) (hp : plOf lK k = -1) (hn : lK.length ≤ 8) (hn2 : lV.length ≤ 8) :
    Calls Tryz.prog 80 #[X, .int .i64 k, .int .i64 v] w (RPost w slots (k :: lK) (v :: lV) txt many) := by
  obtain ⟨aK, aV, nK, nV, cK, cV, rfl, hK, hV, hkl, hvl⟩ := h
  obtain ⟨w1, hw1⟩ : ∃ w1, w1 = (w.alloc (.cells #[.int .i64 slots, .slice aK nK cK, .slice aV nV cV, .string ⟨txt.toArray⟩, .int .i64 many] 24)).alloc (.cells #[.int .i64 0, .slice none 0 0, .slice none 0 0, .string ⟨#[]⟩, .int .i64 0] 24) := ⟨_, rfl⟩
  have hd1 := RB.start (slots := slots) (txt := txt) (many := many) w hK hV hkl hvl
  rw [← hw1] at hd1
  have HD1 := Lib.hid hd1; have HW1 := Lib.hid hw1; have HP := Lib.hid hp
  rw [hkl] at hn
  rw [hvl] at hn2
  clear hd1 hw1 hK hV hkl hvl hp
  go_enter Tryz.func80, Tryz.ntmps80
  go_upto_region 1 with fail
  rw [← HW1.out]
  obtain ⟨x0, x1, x2, x3, x4, f0, f1, f2, f3, f4⟩ := HD1.out.cells
  go_wp2_with fail
  refine (rPlace aK nK cK _ lK k _ HD1.out.kl (own_in HD1.out.K) (by omega)).mono ?_
  rintro e w2 ⟨rfl, rfl⟩
  rw [HP.out]
  go_wp2_with fail
  refine (put_s aK cK nK k lK _ HD1.out.K HD1.out.kl (by omega)).mono ?_
  rintro e w3 ⟨a3, c3, rfl, ho3, hn3, hb3⟩
  have HD3 := Lib.hid (HD1.out.below hb3)
  have HO3 := Lib.hid ho3; have HN3 := Lib.hid hn3
  clear ho3 hn3 hb3 x0 x1 x2 x3 x4 f0 f1 f2 f3 f4
  obtain ⟨x0, x1, x2, x3, x4, f0, f1, f2, f3, f4⟩ := HD3.out.cells
  go_upto_region 6 with fail
  obtain ⟨w4, hw4⟩ : ∃ w', w' = (w3.setCell ⟨w.heap.size, 1, none⟩ (.slice a3 (nK + 1) c3)) := ⟨_, rfl⟩
  have hd4 := HD3.out.setK HO3.out HN3.out
  rw [← hw4] at hd4 ⊢
  have HD4 := Lib.hid hd4
  clear hd4 hw4 x0 x1 x2 x3 x4 f0 f1 f2 f3 f4
  obtain ⟨x0, x1, x2, x3, x4, f0, f1, f2, f3, f4⟩ := HD4.out.cells
  go_wp2_with fail
  refine (put_s aV cV nV v lV _ HD4.out.V HD4.out.vl (by omega)).mono ?_
  rintro e w5 ⟨a5, c5, rfl, ho5, hn5, hb5⟩
  have HD5 := Lib.hid (HD4.out.below hb5)
  have HO5 := Lib.hid ho5; have HN5 := Lib.hid hn5
  clear ho5 hn5 hb5 x0 x1 x2 x3 x4 f0 f1 f2 f3 f4
  obtain ⟨x0, x1, x2, x3, x4, f0, f1, f2, f3, f4⟩ := HD5.out.cells
  go_upto_region 7 with fail
  obtain ⟨w6, hw6⟩ : ∃ w', w' = (w5.setCell ⟨w.heap.size, 2, none⟩ (.slice a5 (nV + 1) c5)) := ⟨_, rfl⟩
  have hd6 := HD5.out.setV HO5.out HN5.out
  rw [← hw6] at hd6 ⊢
  have HD6 := Lib.hid hd6
  clear hd6 hw6 x0 x1 x2 x3 x4 f0 f1 f2 f3 f4
  obtain ⟨x0, x1, x2, x3, x4, f0, f1, f2, f3, f4⟩ := HD6.out.cells
  obtain ⟨y0, y1, y2, y3, y4, g0, g1, g2, g3, g4⟩ := HD6.out.rcells
  go_wp2
  have HDE := HD6
  (try simp only [Exit.inBlock, Exit.then])
  refine bodyPost_ret (results_cell1 rfl _ _ (w.heap.size + 1) 24 _ _ rfl (blk5 HDE.out.res _ _ _ _ _) Tryz.underlying24 rfl info_rstore) rfl ?_
  have hd := HDE.out.done (.int .i64 slots) (.slice a3 (nK + 1) c3) (.slice a5 (nV + 1) c5) (.string ⟨txt.toArray⟩) (.int .i64 many)
  exact ⟨_, rfl, ⟨a3, a5, nK + 1, nV + 1, c3, c5, rfl, hd.1, hd.2.1, HDE.out.kl, HDE.out.vl⟩, hd.2.2⟩
end Go.Proofs.YticckfioggeaeaaGreatDoor
