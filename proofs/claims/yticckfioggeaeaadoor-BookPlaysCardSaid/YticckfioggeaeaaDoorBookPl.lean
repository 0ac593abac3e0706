/-
  A store beside the reference's: how both lie.
-/
import Derived.Test.YticckfioggeaeaaDoorBookRef5
import Derived.Test.YticckfioggeaeaaDoorGL
set_option linter.unusedVariables false
set_option linter.unusedSimpArgs false
set_option linter.unnecessarySimpa false
namespace Go.Proofs.YticckfioggeaeaaDoor
open Go.RowKit

theorem MapAt.ne_ints {w : World} {g : Nat} {M : List Ent} {base : Nat} {v : Value} {l : List Int} (h : MapAt w g M) (ho : OwnInts w base v l) : v.ownBlock ≠ some g := by
  obtain ⟨L, c, hl, _⟩ := h
  intro e
  rcases ho.2 with ⟨rfl, _⟩ | ⟨g', cap, cur, rfl, _, hg, _⟩
  · simp [Value.ownBlock] at e
  · simp only [Value.ownBlock, Option.some.injEq] at e
    subst e
    have := hl.blk
    rw [hg] at this
    cases this
theorem OwnB.ne_ints {w : World} {v v' : Value} {l : List UInt8} {base : Nat} {xs : List Int} (h : OwnB w v l) (ho : OwnInts w base v' xs) {x : Nat} (hx : v.ownBlock = some x) (hx2 : v'.ownBlock = some x) : False := by
  rcases ho.2 with ⟨rfl, _⟩ | ⟨g', cap, cur, rfl, _, hg, _⟩
  · simp [Value.ownBlock] at hx2
  · simp only [Value.ownBlock, Option.some.injEq] at hx2
    subst hx2
    rcases h.2 with ⟨rfl, _⟩ | ⟨g2, cap2, cur2, fz, rfl, _, hg2, _⟩
    · simp [Value.ownBlock] at hx
    · simp only [Value.ownBlock, Option.some.injEq] at hx
      subst hx
      rw [hg] at hg2
      injection hg2 with h1
      injection h1 with _ h2
      exact absurd h2 (by decide)
/-- The book s, and the reference's t in the block h. -/
structure PS (w wr : World) (b h slots : Nat) (s t : Bk) (aK aV : Option Addr) (nK nV cK cV : Nat) : Prop where
  bk : ∃ O, BookAt O wr b slots s ∧ ∀ x, x < w.heap.size → ¬ O x
  box : Blk wr h 39 (rTop slots aK aV nK nV cK cV t.text t.many)
  K : OwnInts wr 0 (.slice aK nK cK) t.keys
  V : OwnInts wr 0 (.slice aV nV cV) (t.M.map (·.2))
  kl : t.keys.length = nK
  vl : (t.M.map (·.2)).length = nV
  bel : Below w.heap.size w wr
  hlo : w.heap.size ≤ h
section
variable {w wr w' : World} {b h slots : Nat} {s t s' t' : Bk} {aK aV aK' aV' : Option Addr} {nK nV cK cV nK' nV' cK' cV' : Nat}
/-- What the book may write is apart from the reference's. -/
theorem PS.open_ (k : PS w wr b h slots s t aK aV nK nV cK cV) : ∃ O, BookAt O wr b slots s ∧ (∀ x, x < w.heap.size → ¬ O x) ∧ ¬ O h ∧ (∀ x, (Value.slice aK nK cK).ownBlock = some x → ¬ O x) ∧ (∀ x, (Value.slice aV nV cV).ownBlock = some x → ¬ O x) := by
  obtain ⟨O, ⟨gm, E, p, bv, hB⟩, hlo⟩ := k.bk
  have hi : ∀ (v : Value) (l : List Int), OwnInts wr 0 v l → ∀ x, v.ownBlock = some x → ¬ (O x ∧ (x = b ∨ x = gm ∨ bv.ownBlock = some x ∨ wr.heap.size ≤ x)) := by
    rintro v l ho x hx ⟨_, rfl | rfl | h2 | h2⟩
    · exact oi_ne ho hB.top (by decide) hx
    · exact hB.map.ne_ints ho hx
    · exact hB.txt.ne_ints ho h2 hx
    · have := World.ownsRow.lt ho x hx; omega
  refine ⟨fun x => O x ∧ (x = b ∨ x = gm ∨ bv.ownBlock = some x ∨ wr.heap.size ≤ x), ⟨gm, E, p, bv, { hB with ob := ⟨hB.ob, .inl rfl⟩, og := ⟨hB.og, .inr (.inl rfl)⟩, ov := fun x hx => ⟨hB.ov x hx, .inr (.inr (.inl hx))⟩, on := fun x hx => ⟨hB.on x hx, .inr (.inr (.inr hx))⟩ }⟩, fun x hx ho => hlo x hx ho.1, ?_, hi _ _ k.K, hi _ _ k.V⟩
  rintro ⟨_, h2 | h2 | h2 | h2⟩
  · exact k.box.ne hB.top (by decide) h2
  · exact hB.map.ne k.box h2.symm
  · exact hB.txt.ne k.box (by decide) h2
  · have := k.box.lt; omega
theorem PS.book {O : Nat → Prop} (k : PS w wr b h slots s t aK aV nK nV cK cV) (h1 : BookAt O w' b slots s') (hk : KeepP O wr w') (hlo : ∀ x, x < w.heap.size → ¬ O x) (hh : ¬ O h) (hK : ∀ x, (Value.slice aK nK cK).ownBlock = some x → ¬ O x) (hV : ∀ x, (Value.slice aV nV cV).ownBlock = some x → ¬ O x) :
    PS w w' b h slots s' t aK aV nK nV cK cV :=
  { k with
    bk := ⟨O, h1, hlo⟩
    box := (hk.block h k.box.lt hh).trans k.box
    K := k.K.keep fun x hx => hk.block x (World.ownsRow.lt k.K x hx).2 (hK x hx)
    V := k.V.keep fun x hx => hk.block x (World.ownsRow.lt k.V x hx).2 (hV x hx)
    bel := k.bel.trans (hk.toBelow k.bel.size hlo) }
theorem PS.below (k : PS w wr b h slots s t aK aV nK nV cK cV) (hb : Below wr.heap.size wr w') : PS w w' b h slots s t aK aV nK nV cK cV := by
  obtain ⟨O, hB, hlo, hh, hK, hV⟩ := k.open_
  exact k.book (hB.below hb) (KeepP.of_below hb (Nat.le_refl _)) hlo hh hK hV
theorem PS.keep0 (k : PS w wr b h slots s t aK aV nK nV cK cV) (hk : Keep [] wr w') : PS w w' b h slots s t aK aV nK nV cK cV := k.below (hk.below (Nat.le_refl _) (by simp))
theorem PS.drew (k : PS w wr b h slots s t aK aV nK nV cK cV) : PS w wr.drew b h slots s t aK aV nK nV cK cV := k.keep0 (Keep.refl [] wr).drew
theorem PS.tab (k : PS w wr b h slots s t aK aV nK nV cK cV) (ht : Tab w) : Tab wr := ht.below k.bel (Nat.le_refl _)
theorem PS.rb (k : PS w wr b h slots s t aK aV nK nV cK cV) : RB4 wr slots t (rVal slots aK aV nK nV cK cV t.text t.many) := ⟨aK, aV, nK, nV, cK, cV, rfl, k.K, k.V, k.kl, k.vl⟩
/-- A new value of the reference's is stored. -/
theorem PS.ref (k : PS w wr b h slots s t aK aV nK nV cK cV) (hK : OwnInts wr 0 (.slice aK' nK' cK') t'.keys) (hV : OwnInts wr 0 (.slice aV' nV' cV') (t'.M.map (·.2))) (hkl : t'.keys.length = nK') (hvl : (t'.M.map (·.2)).length = nV') :
    PS w (set5 wr h (.int .i64 slots) (.slice aK' nK' cK') (.slice aV' nV' cV') (.string ⟨t'.text.toArray⟩) (.int .i64 t'.many)) b h slots s t' aK' aV' nK' nV' cK' cV' := by
  obtain ⟨O, hB, hlo, hh, _, _⟩ := k.open_
  have hk := keep5 wr h (.int .i64 slots) (.slice aK' nK' cK') (.slice aV' nV' cV') (.string ⟨t'.text.toArray⟩) (.int .i64 t'.many)
  exact ⟨⟨_, hB.away (O2 := fun x => x = h) (hk.toP (by simp)) (fun x _ ho e => hh (e ▸ ho)), fun x hx ho => hlo x hx ho.1⟩, blk5 k.box _ _ _ _ _, own_keep1 hK hk k.box (by decide), own_keep1 hV hk k.box (by decide), hkl, hvl, k.bel.trans (hk.below k.bel.size (by simp; exact k.hlo)), k.hlo⟩
theorem PS.cells (k : PS w wr b h slots s t aK aV nK nV cK cV) : wr.cell? ⟨h, 0, none⟩ = some (.int .i64 slots) ∧ wr.cell? ⟨h, 1, none⟩ = some (.slice aK nK cK) ∧ wr.cell? ⟨h, 2, none⟩ = some (.slice aV nV cV) ∧ wr.cell? ⟨h, 3, none⟩ = some (.string ⟨t.text.toArray⟩) ∧ wr.cell? ⟨h, 4, none⟩ = some (.int .i64 t.many) ∧
    wr.frozen? ⟨h, 0, none⟩ = false ∧ wr.frozen? ⟨h, 1, none⟩ = false ∧ wr.frozen? ⟨h, 2, none⟩ = false ∧ wr.frozen? ⟨h, 3, none⟩ = false ∧ wr.frozen? ⟨h, 4, none⟩ = false :=
  ⟨k.box.cell_ (i := 0) rfl, k.box.cell_ (i := 1) rfl, k.box.cell_ (i := 2) rfl, k.box.cell_ (i := 3) rfl, k.box.cell_ (i := 4) rfl, k.box.free 0, k.box.free 1, k.box.free 2, k.box.free 3, k.box.free 4⟩
theorem PS.ok (k : PS w wr b h slots s t aK aV nK nV cK cV) : BkOk slots s ∧ 1 ≤ slots ∧ slots ≤ 8 := by
  obtain ⟨O, hB, _⟩ := k.bk
  exact hB.ok
end
end Go.Proofs.YticckfioggeaeaaDoor
