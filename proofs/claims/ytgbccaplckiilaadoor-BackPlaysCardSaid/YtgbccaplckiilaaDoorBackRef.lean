/-
  The reference's disk: how it lies in memory; its functions, by their contracts (printed by wip/gen_backref.py).
-/
import Derived.Test.YtgbccaplckiilaaDoorRefPut
import Derived.Test.YtgbccaplckiilaaDoorBackLaw
import Derived.Deep.QuietTactic
import Derived.BigQuiet
import Derived.BigRegion
import Derived.StillTailTactics
namespace Go.Proofs.YtgbccaplckiilaaDoor
open Go.RowKit

theorem oi_ne {w : World} {base b : Nat} {v : Value} {l : List Int} {t : TypeId} {cs : List Value} (h : OwnInts w base v l) (hb : Blk w b t cs) (ht : 3 ≠ t) : v.ownBlock ≠ some b := by
  obtain ⟨hl, ⟨rfl, hn⟩ | ⟨g, cap, cur, rfl, _, hh, _⟩⟩ := h
  · simp [Value.ownBlock]
  · intro e
    simp only [Value.ownBlock, Option.some.injEq] at e
    subst e
    unfold Blk at hb
    rw [hh] at hb
    injection hb with hb
    injection hb with _ h2
    exact ht h2
theorem own_keep1 {w w' : World} {base b : Nat} {v : Value} {l : List Int} {t : TypeId} {cs : List Value} (h : OwnInts w base v l) (hk : Keep [b] w w') (hb : Blk w b t cs) (ht : 3 ≠ t) : OwnInts w' base v l :=
  h.keep fun g hg => hk.block g (World.ownsRow.lt h g hg).2 (by simp; rintro rfl; exact oi_ne h hb ht hg)
theorem own_keep0 {w w' : World} {base : Nat} {v : Value} {l : List Int} (h : OwnInts w base v l) (hk : Keep [] w w') : OwnInts w' base v l :=
  h.keep fun g hg => hk.block g (World.ownsRow.lt h g hg).2 (by simp)
theorem own_lower {w : World} {b b' : Nat} {v : Value} {xs : List Int} (h : OwnInts w b v xs) (hb : b' ≤ b) : OwnInts w b' v xs := h.lower hb
/-- A list's slice, told. -/
def OutS (w : World) (m : Nat) (l : List Int) (e : Ending) (w' : World) : Prop := ∃ a c, e = .returned (.slice a m c) ∧ OwnInts w' 0 (.slice a m c) l ∧ l.length = m ∧ Below w.heap.size w w'
theorem OutPost.s {w : World} {m : Nat} {l : List Int} {e : Ending} {w' : World} (h : OutPost w l e w') (hm : l.length = m) : OutS w m l e w' := by
  obtain ⟨v, rfl, ho, hb⟩ := h
  obtain ⟨a, c, rfl, _⟩ := ho.shape
  rw [hm] at ho ⊢
  exact ⟨a, c, rfl, own_lower ho (Nat.zero_le _), hm, hb⟩
theorem SetPost.s {w : World} {m i : Nat} {x : Int} {l : List Int} {e : Ending} {w' : World} (h : SetPost w l i x e w') (hm : l.length = m) : OutS w m (l.set i x) e w' := by
  obtain ⟨v, rfl, ho, hb⟩ := h
  obtain ⟨a, c, rfl, _⟩ := ho.shape
  rw [List.length_set, hm] at ho ⊢
  exact ⟨a, c, rfl, own_lower ho (Nat.zero_le _), by rw [List.length_set, hm], hb⟩
theorem drop_s (a : Option Addr) (c n i : Nat) (l : List Int) (w : World) (h : OwnInts w 0 (.slice a n c) l) (hl : l.length = n) (hi : i < n) (hn : n ≤ 1000) :
    Calls Tryd.prog 22 #[.slice a n c, .int .i64 i] w (OutS w (n - 1) (l.eraseIdx i)) :=
  (kDrop _ 0 i l w h (by omega) (by omega)).mono fun _ _ hp => hp.s (by rw [List.length_eraseIdx, hl, if_pos hi])
theorem put_s (a : Option Addr) (c n : Nat) (x : Int) (l : List Int) (w : World) (h : OwnInts w 0 (.slice a n c) l) (hl : l.length = n) (hn : n ≤ 1000) :
    Calls Tryd.prog 24 #[.slice a n c, .int .i64 0, .int .i64 x] w (OutS w (n + 1) (x :: l)) :=
  (rPut0 _ 0 x l w h (by omega)).mono fun _ _ hp => hp.s (by rw [List.length_cons, hl])
theorem own_none {w : World} {n c : Nat} {l : List Int} (h : OwnInts w 0 (.slice none n c) l) : c = 0 := by
  obtain ⟨hl, ⟨e, hn⟩ | ⟨g, cap, cur, e, _⟩⟩ := h
  · injection e
  · cases e
theorem own_in {w : World} {a : Option Addr} {n c : Nat} {l : List Int} (h : OwnInts w 0 (.slice a n c) l) : IntsIn w w.heap.size a l := by
  obtain ⟨a', c', e, h2⟩ := h.shape
  injection e with e1 _ _
  subst e1
  exact h2
theorem set_s (a : Option Addr) (c n i : Nat) (x : Int) (l : List Int) (w : World) (h : OwnInts w 0 (.slice a n c) l) (hl : l.length = n) (hi : i < n) (hn : n ≤ 1000) :
    Calls Tryd.prog 29 #[.slice a n c, .int .i64 i, .int .i64 x] w (OutS w n (l.set i x)) :=
  (kSet a n c w.heap.size l i x w hl (own_in h) (fun e => by subst e; exact own_none h) hi hn).mono fun _ _ hp => hp.s hl

def dZero : List Value := [.int .i64 0, .slice none 0 0, .slice none 0 0, .slice none 0 0, .slice none 0 0, .int .i64 0, .int .i64 0]
def dTop (slots : Nat) (aB aH aV aD : Option Addr) (nB nH nV nD cB cH cV cD : Nat) (r q : Int) : List Value := [.int .i64 slots, .slice aB nB cB, .slice aH nH cH, .slice aV nV cV, .slice aD nD cD, .int .i64 r, .int .i64 q]
structure DIn (w : World) (aB aH aV aD : Option Addr) (nB nH nV nD cB cH cV cD : Nat) (lB lH lV lD : List Int) (r q : Int) : Prop where
  B : OwnInts w 0 (.slice aB nB cB) lB
  H : OwnInts w 0 (.slice aH nH cH) lH
  V : OwnInts w 0 (.slice aV nV cV) lV
  D : OwnInts w 0 (.slice aD nD cD) lD
  bl : lB.length = nB
  hl : lH.length = nH
  vl : lV.length = nV
  dl : lD.length = nD
structure DB (w0 w : World) (h slots : Nat) (aB aH aV aD : Option Addr) (nB nH nV nD cB cH cV cD : Nat) (lB lH lV lD : List Int) (r q : Int) : Prop where
  box : Blk w h 32 (dTop slots aB aH aV aD nB nH nV nD cB cH cV cD r q)
  res : Blk w (h + 1) 32 dZero
  inn : DIn w aB aH aV aD nB nH nV nD cB cH cV cD lB lH lV lD r q
  bel : Below h w0 w
  h0 : h = w0.heap.size
theorem info_disk : (Tryd.prog.info? 32).map (·.size) = some 7 := by kernel_rfl
section
variable {w0 w w' : World} {h slots : Nat} {aB aH aV aD a : Option Addr} {nB nH nV nD cB cH cV cD n c : Nat} {lB lH lV lD l : List Int} {r q : Int}
theorem DIn.keep0 (k : DIn w aB aH aV aD nB nH nV nD cB cH cV cD lB lH lV lD r q) (hk : Keep [] w w') : DIn w' aB aH aV aD nB nH nV nD cB cH cV cD lB lH lV lD r q := { k with B := own_keep0 k.B hk, H := own_keep0 k.H hk, V := own_keep0 k.V hk, D := own_keep0 k.D hk }
theorem DIn.keep1 (k : DIn w aB aH aV aD nB nH nV nD cB cH cV cD lB lH lV lD r q) {b : Nat} {t : TypeId} {cs : List Value} (hk : Keep [b] w w') (hb : Blk w b t cs) (ht : 3 ≠ t) : DIn w' aB aH aV aD nB nH nV nD cB cH cV cD lB lH lV lD r q := { k with B := own_keep1 k.B hk hb ht, H := own_keep1 k.H hk hb ht, V := own_keep1 k.V hk hb ht, D := own_keep1 k.D hk hb ht }
theorem DB.keep (k : DB w0 w h slots aB aH aV aD nB nH nV nD cB cH cV cD lB lH lV lD r q) (hk : Keep [] w w') : DB w0 w' h slots aB aH aV aD nB nH nV nD cB cH cV cD lB lH lV lD r q :=
  ⟨k.box.keep hk (by simp), k.res.keep hk (by simp), k.inn.keep0 hk, k.bel.trans (hk.below (by have := k.bel.size; have := k.h0; omega) (by simp)), k.h0⟩
theorem DB.below (k : DB w0 w h slots aB aH aV aD nB nH nV nD cB cH cV cD lB lH lV lD r q) (hb : Below w.heap.size w w') : DB w0 w' h slots aB aH aV aD nB nH nV nD cB cH cV cD lB lH lV lD r q := k.keep (Keep.of_below hb (Nat.le_refl _))
theorem DB.belS (k : DB w0 w h slots aB aH aV aD nB nH nV nD cB cH cV cD lB lH lV lD r q) (hk : Keep [h] w w') : Below h w0 w' := k.bel.trans (hk.below (by have := k.bel.size; have := k.h0; omega) (by simp))
theorem DB.cells (k : DB w0 w h slots aB aH aV aD nB nH nV nD cB cH cV cD lB lH lV lD r q) : w.cell? ⟨h, 0, none⟩ = some (.int .i64 slots) ∧ w.cell? ⟨h, 1, none⟩ = some (.slice aB nB cB) ∧ w.cell? ⟨h, 2, none⟩ = some (.slice aH nH cH) ∧ w.cell? ⟨h, 3, none⟩ = some (.slice aV nV cV) ∧ w.cell? ⟨h, 4, none⟩ = some (.slice aD nD cD) ∧ w.cell? ⟨h, 5, none⟩ = some (.int .i64 r) ∧ w.cell? ⟨h, 6, none⟩ = some (.int .i64 q) ∧
    w.frozen? ⟨h, 0, none⟩ = false ∧ w.frozen? ⟨h, 1, none⟩ = false ∧ w.frozen? ⟨h, 2, none⟩ = false ∧ w.frozen? ⟨h, 3, none⟩ = false ∧ w.frozen? ⟨h, 4, none⟩ = false ∧ w.frozen? ⟨h, 5, none⟩ = false ∧ w.frozen? ⟨h, 6, none⟩ = false :=
  ⟨k.box.cell_ (i := 0) rfl, k.box.cell_ (i := 1) rfl, k.box.cell_ (i := 2) rfl, k.box.cell_ (i := 3) rfl, k.box.cell_ (i := 4) rfl, k.box.cell_ (i := 5) rfl, k.box.cell_ (i := 6) rfl, k.box.free 0, k.box.free 1, k.box.free 2, k.box.free 3, k.box.free 4, k.box.free 5, k.box.free 6⟩
theorem DB.rcells (k : DB w0 w h slots aB aH aV aD nB nH nV nD cB cH cV cD lB lH lV lD r q) : w.cell? ⟨h + 1, 0, none⟩ = some (.int .i64 0) ∧ w.cell? ⟨h + 1, 1, none⟩ = some (.slice none 0 0) ∧ w.cell? ⟨h + 1, 2, none⟩ = some (.slice none 0 0) ∧ w.cell? ⟨h + 1, 3, none⟩ = some (.slice none 0 0) ∧ w.cell? ⟨h + 1, 4, none⟩ = some (.slice none 0 0) ∧ w.cell? ⟨h + 1, 5, none⟩ = some (.int .i64 0) ∧ w.cell? ⟨h + 1, 6, none⟩ = some (.int .i64 0) ∧
    w.frozen? ⟨h + 1, 0, none⟩ = false ∧ w.frozen? ⟨h + 1, 1, none⟩ = false ∧ w.frozen? ⟨h + 1, 2, none⟩ = false ∧ w.frozen? ⟨h + 1, 3, none⟩ = false ∧ w.frozen? ⟨h + 1, 4, none⟩ = false ∧ w.frozen? ⟨h + 1, 5, none⟩ = false ∧ w.frozen? ⟨h + 1, 6, none⟩ = false :=
  ⟨k.res.cell_ (i := 0) rfl, k.res.cell_ (i := 1) rfl, k.res.cell_ (i := 2) rfl, k.res.cell_ (i := 3) rfl, k.res.cell_ (i := 4) rfl, k.res.cell_ (i := 5) rfl, k.res.cell_ (i := 6) rfl, k.res.free 0, k.res.free 1, k.res.free 2, k.res.free 3, k.res.free 4, k.res.free 5, k.res.free 6⟩
theorem DB.hk (_ : DB w0 w h slots aB aH aV aD nB nH nV nD cB cH cV cD lB lH lV lD r q) (i : Nat) (v : Value) : Keep [h] w (w.setCell ⟨h, i, none⟩ v) := (Keep.refl _ w).set (fun _ => by simp) _
abbrev set7 (w : World) (b : Nat) (v0 v1 v2 v3 v4 v5 v6 : Value) : World := ((((((w.setCell ⟨b, 0, none⟩ v0).setCell ⟨b, 1, none⟩ v1).setCell ⟨b, 2, none⟩ v2).setCell ⟨b, 3, none⟩ v3).setCell ⟨b, 4, none⟩ v4).setCell ⟨b, 5, none⟩ v5).setCell ⟨b, 6, none⟩ v6
theorem keep7 (w : World) (b : Nat) (v0 v1 v2 v3 v4 v5 v6 : Value) : Keep [b] w (set7 w b v0 v1 v2 v3 v4 v5 v6) :=
  (((((((Keep.refl [b] w).set (p := ⟨b, 0, none⟩) (fun _ => by simp) _).set (p := ⟨b, 1, none⟩) (fun _ => by simp) _).set (p := ⟨b, 2, none⟩) (fun _ => by simp) _).set (p := ⟨b, 3, none⟩) (fun _ => by simp) _).set (p := ⟨b, 4, none⟩) (fun _ => by simp) _).set (p := ⟨b, 5, none⟩) (fun _ => by simp) _).set (p := ⟨b, 6, none⟩) (fun _ => by simp) _
theorem blk7 {w : World} {b : Nat} {t : TypeId} {a0 a1 a2 a3 a4 a5 a6 : Value} (h : Blk w b t [a0, a1, a2, a3, a4, a5, a6]) (v0 v1 v2 v3 v4 v5 v6 : Value) : Blk (set7 w b v0 v1 v2 v3 v4 v5 v6) b t [v0, v1, v2, v3, v4, v5, v6] :=
  ((((((h.set 0 v0).set 1 v1).set 2 v2).set 3 v3).set 4 v4).set 5 v5).set 6 v6
theorem DB.setB (k : DB w0 w h slots aB aH aV aD nB nH nV nD cB cH cV cD lB lH lV lD r q) (hl : OwnInts w 0 (.slice a n c) l) (hn : l.length = n) : DB w0 (w.setCell ⟨h, 1, none⟩ (.slice a n c)) h slots a aH aV aD n nH nV nD c cH cV cD l lH lV lD r q :=
  ⟨k.box.set 1 _, k.res.keep (k.hk 1 _) (by simp), { k.inn.keep1 (k.hk 1 _) k.box (by decide) with B := own_keep1 hl (k.hk 1 _) k.box (by decide), bl := hn }, k.belS (k.hk 1 _), k.h0⟩
theorem DB.setH (k : DB w0 w h slots aB aH aV aD nB nH nV nD cB cH cV cD lB lH lV lD r q) (hl : OwnInts w 0 (.slice a n c) l) (hn : l.length = n) : DB w0 (w.setCell ⟨h, 2, none⟩ (.slice a n c)) h slots aB a aV aD nB n nV nD cB c cV cD lB l lV lD r q :=
  ⟨k.box.set 2 _, k.res.keep (k.hk 2 _) (by simp), { k.inn.keep1 (k.hk 2 _) k.box (by decide) with H := own_keep1 hl (k.hk 2 _) k.box (by decide), hl := hn }, k.belS (k.hk 2 _), k.h0⟩
theorem DB.setV (k : DB w0 w h slots aB aH aV aD nB nH nV nD cB cH cV cD lB lH lV lD r q) (hl : OwnInts w 0 (.slice a n c) l) (hn : l.length = n) : DB w0 (w.setCell ⟨h, 3, none⟩ (.slice a n c)) h slots aB aH a aD nB nH n nD cB cH c cD lB lH l lD r q :=
  ⟨k.box.set 3 _, k.res.keep (k.hk 3 _) (by simp), { k.inn.keep1 (k.hk 3 _) k.box (by decide) with V := own_keep1 hl (k.hk 3 _) k.box (by decide), vl := hn }, k.belS (k.hk 3 _), k.h0⟩
theorem DB.setD (k : DB w0 w h slots aB aH aV aD nB nH nV nD cB cH cV cD lB lH lV lD r q) (hl : OwnInts w 0 (.slice a n c) l) (hn : l.length = n) : DB w0 (w.setCell ⟨h, 4, none⟩ (.slice a n c)) h slots aB aH aV a nB nH nV n cB cH cV c lB lH lV l r q :=
  ⟨k.box.set 4 _, k.res.keep (k.hk 4 _) (by simp), { k.inn.keep1 (k.hk 4 _) k.box (by decide) with D := own_keep1 hl (k.hk 4 _) k.box (by decide), dl := hn }, k.belS (k.hk 4 _), k.h0⟩
theorem DB.setR (k : DB w0 w h slots aB aH aV aD nB nH nV nD cB cH cV cD lB lH lV lD r q) (x : Int) : DB w0 (w.setCell ⟨h, 5, none⟩ (.int .i64 x)) h slots aB aH aV aD nB nH nV nD cB cH cV cD lB lH lV lD x q :=
  ⟨k.box.set 5 _, k.res.keep (k.hk 5 _) (by simp), { k.inn.keep1 (k.hk 5 _) k.box (by decide) with }, k.belS (k.hk 5 _), k.h0⟩
theorem DB.setQ (k : DB w0 w h slots aB aH aV aD nB nH nV nD cB cH cV cD lB lH lV lD r q) (x : Int) : DB w0 (w.setCell ⟨h, 6, none⟩ (.int .i64 x)) h slots aB aH aV aD nB nH nV nD cB cH cV cD lB lH lV lD r x :=
  ⟨k.box.set 6 _, k.res.keep (k.hk 6 _) (by simp), { k.inn.keep1 (k.hk 6 _) k.box (by decide) with }, k.belS (k.hk 6 _), k.h0⟩
theorem DB.setAll {aB' aH' aV' aD' : Option Addr} {nB' nH' nV' nD' cB' cH' cV' cD' : Nat} {lB' lH' lV' lD' : List Int} {r' q' : Int} (k : DB w0 w h slots aB aH aV aD nB nH nV nD cB cH cV cD lB lH lV lD r q) (hc : DIn w aB' aH' aV' aD' nB' nH' nV' nD' cB' cH' cV' cD' lB' lH' lV' lD' r' q') : DB w0 (set7 w h (.int .i64 slots) (.slice aB' nB' cB') (.slice aH' nH' cH') (.slice aV' nV' cV') (.slice aD' nD' cD') (.int .i64 r') (.int .i64 q')) h slots aB' aH' aV' aD' nB' nH' nV' nD' cB' cH' cV' cD' lB' lH' lV' lD' r' q' :=
  ⟨blk7 k.box _ _ _ _ _ _ _, k.res.keep (keep7 _ _ _ _ _ _ _ _ _) (by simp), hc.keep1 (keep7 _ _ _ _ _ _ _ _ _) k.box (by decide), k.belS (keep7 _ _ _ _ _ _ _ _ _), k.h0⟩
theorem DB.start (w : World) (hc : DIn w aB aH aV aD nB nH nV nD cB cH cV cD lB lH lV lD r q) : DB w ((w.alloc (.cells #[.int .i64 (slots : Nat), .slice aB nB cB, .slice aH nH cH, .slice aV nV cV, .slice aD nD cD, .int .i64 r, .int .i64 q] 32)).alloc (.cells #[.int .i64 0, .slice none 0 0, .slice none 0 0, .slice none 0 0, .slice none 0 0, .int .i64 0, .int .i64 0] 32)) w.heap.size slots aB aH aV aD nB nH nV nD cB cH cV cD lB lH lV lD r q := by
  have hb := Blk.new w 32 (dTop slots aB aH aV aD nB nH nV nD cB cH cV cD r q)
  have hb2 := Blk.new (w.alloc (.cells (dTop slots aB aH aV aD nB nH nV nD cB cH cV cD r q).toArray 32)) 32 dZero
  rw [World.size_alloc] at hb2
  have hk : Keep [] w _ := ((Keep.refl [] w).alloc (.cells (dTop slots aB aH aV aD nB nH nV nD cB cH cV cD r q).toArray 32)).alloc (.cells dZero.toArray 32)
  exact ⟨hb.alloc _, hb2, hc.keep0 hk, hk.below (Nat.le_refl _) (by simp), rfl⟩
/-- What is told at the end. -/
theorem DB.done (k : DB w0 w h slots aB aH aV aD nB nH nV nD cB cH cV cD lB lH lV lD r q) (v0 v1 v2 v3 v4 v5 v6 : Value) :
    DIn (set7 w (h + 1) v0 v1 v2 v3 v4 v5 v6) aB aH aV aD nB nH nV nD cB cH cV cD lB lH lV lD r q ∧ Below w0.heap.size w0 (set7 w (h + 1) v0 v1 v2 v3 v4 v5 v6) := by
  have hk : Keep [h + 1] w _ := keep7 w (h + 1) v0 v1 v2 v3 v4 v5 v6
  refine ⟨k.inn.keep1 hk k.res (by decide), ?_⟩
  have := k.bel
  rw [← k.h0]
  exact this.trans (hk.below (by have := this.size; have := k.h0; omega) (by simp))
theorem DB.doneN (k : DB w0 w h slots aB aH aV aD nB nH nV nD cB cH cV cD lB lH lV lD r q) (v0 v1 v2 v3 v4 v5 v6 : Value) (n : Nat) :
    DIn ((set7 w (h + 1) v0 v1 v2 v3 v4 v5 v6).drewN n) aB aH aV aD nB nH nV nD cB cH cV cD lB lH lV lD r q ∧ Below w0.heap.size w0 ((set7 w (h + 1) v0 v1 v2 v3 v4 v5 v6).drewN n) := by
  obtain ⟨h1, h2⟩ := k.done v0 v1 v2 v3 v4 v5 v6
  have hk : Keep [] (set7 w (h + 1) v0 v1 v2 v3 v4 v5 v6) _ := (Keep.refl [] _).drewN n
  exact ⟨h1.keep0 hk, h2.trans (hk.below h2.size (by simp))⟩
end
def DPost (w : World) (slots nB nH nV nD : Nat) (lB lH lV lD : List Int) (r q : Int) (e : Ending) (w' : World) : Prop :=
  ∃ aB aH aV aD cB cH cV cD, e = .returned (.agg #[.int .i64 (slots : Nat), .slice aB nB cB, .slice aH nH cH, .slice aV nV cV, .slice aD nD cD, .int .i64 r, .int .i64 q]) ∧ DIn w' aB aH aV aD nB nH nV nD cB cH cV cD lB lH lV lD r q ∧ Below w.heap.size w w'
def DPost2 (w : World) (slots nB nH nV nD : Nat) (lB lH lV lD : List Int) (r q v : Int) (e : Ending) (w' : World) : Prop :=
  ∃ aB aH aV aD cB cH cV cD, e = .returned (.tuple #[.agg #[.int .i64 (slots : Nat), .slice aB nB cB, .slice aH nH cH, .slice aV nV cV, .slice aD nD cD, .int .i64 r, .int .i64 q], .int .i64 v]) ∧ DIn w' aB aH aV aD nB nH nV nD cB cH cV cD lB lH lV lD r q ∧ Below w.heap.size w w'
theorem own_cell {w : World} {a : Option Addr} {n c i : Nat} {l : List Int} (h : OwnInts w 0 (.slice a n c) l) (hi : i < l.length) : ∃ g, a = some ⟨g, 0, none⟩ ∧ w.cell? ⟨g, i, none⟩ = some (.int .i64 (l.getD i 0)) := by
  obtain ⟨g, cap, e, _, _, hc, _⟩ := h.setAt hi
  injection e with e1 _ _
  refine ⟨g, e1, ?_⟩
  rw [hc, List.getD, List.getElem?_eq_getElem hi]; rfl
end Go.Proofs.YtgbccaplckiilaaDoor
