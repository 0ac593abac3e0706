/-
  Several texts in one (merged by wip/mergefix.py): BookMap, BookMap2, BookMap3, BookCmp, BookOrd.
-/
import Derived.Test.YticckfioggeaeaaGreatDoorGA
import Derived.Maps.RangeWalk
import Derived.Deep.RegionWith
import Derived.Deep.RegionHeld3
set_option linter.unusedVariables false
set_option linter.unusedSimpArgs false
set_option linter.unnecessarySimpa false
/-
  A map of entries (a value, a turn) by keys, as a list: looked up, stored into, deleted from, ranged over.
-/
namespace Go.Proofs.YticckfioggeaeaaGreatDoor
open Go.RowKit

abbrev Ent := Int × Int × Int
def entOf (p : Ent × Nat) : MapEntry := ⟨.int .i64 p.1.1, .agg #[.int .i64 p.1.2.1, .int .i64 p.1.2.2], p.2⟩
structure MapL (w : World) (g : Nat) (L : List (Ent × Nat)) (clock : Nat) : Prop where
  blk : w.heap[g]? = some (.map (L.map entOf).toArray clock)
  nod : (L.map (·.1.1)).Nodup
  born : (L.map (·.2)).Nodup
  old : ∀ p ∈ L, p.2 < clock
def MapAt (w : World) (g : Nat) (M : List Ent) : Prop := ∃ L clock, MapL w g L clock ∧ (L.map (·.1)).Perm M
theorem MapL.lt {w : World} {g : Nat} {L : List (Ent × Nat)} {clock : Nat} (h : MapL w g L clock) : g < w.heap.size := (Array.getElem?_eq_some_iff.1 h.blk).1
theorem MapAt.lt {w : World} {g : Nat} {M : List Ent} (h : MapAt w g M) : g < w.heap.size := by
  obtain ⟨L, c, h, _⟩ := h
  exact h.lt
theorem MapAt.keep {w w' : World} {g : Nat} {M : List Ent} (h : MapAt w g M) (hk : w'.heap[g]? = w.heap[g]?) : MapAt w' g M := by
  obtain ⟨L, c, h, hp⟩ := h
  exact ⟨L, c, ⟨hk.trans h.blk, h.nod, h.born, h.old⟩, hp⟩
theorem MapAt.nodup {w : World} {g : Nat} {M : List Ent} (h : MapAt w g M) : (M.map (·.1)).Nodup := by
  obtain ⟨L, c, h, hp⟩ := h
  have := (hp.map (·.1)).nodup_iff.1 (by rw [List.map_map]; exact h.nod)
  exact this
theorem MapAt.perm {w : World} {g : Nat} {M M' : List Ent} (h : MapAt w g M) (hp : M.Perm M') : MapAt w g M' := by
  obtain ⟨L, c, h, h2⟩ := h
  exact ⟨L, c, h, h2.trans hp⟩
theorem mapAt_new (w : World) : MapAt (w.alloc (.map #[] 0)) w.heap.size [] := ⟨[], 0, ⟨by show (w.heap.push _)[w.heap.size]? = _; simp, by simp, by simp, by simp⟩, by simp⟩
theorem find_ent {P : Program} {k : TypeId} (hk : P.underlying k = some (.int .i64)) (w : World) (x : Int) (L : List (Ent × Nat)) :
    ((Instr.findKey k (.int .i64 x) (L.map entOf)).run P w = .ok none w ∧ ∀ p ∈ L, p.1.1 ≠ x) ∨
    ∃ j p, (Instr.findKey k (.int .i64 x) (L.map entOf)).run P w = .ok (some (j, (entOf p).val)) w ∧ L[j]? = some p ∧ p.1.1 = x := by
  rcases MapKept.findNow_spec (d := .int .i64) (k := .int .i64 x) (by simp [MapKept.IsKey]) (L.map entOf) 0 (by intro y hy; obtain ⟨p, _, rfl⟩ := List.mem_map.1 hy; simp [MapKept.IsKey, entOf]) with ⟨h1, h2⟩ | ⟨j, e, h1, h2, h3⟩
  · left
    refine ⟨MapKept.run_findKey hk h1, fun p hp e => h2 (entOf p) (List.mem_map.2 ⟨p, hp, rfl⟩) ?_⟩
    simp [entOf, e]
  · right
    rw [List.getElem?_map] at h2
    obtain ⟨p, hp, rfl⟩ := Option.map_eq_some_iff.1 h2
    refine ⟨0 + j, p, MapKept.run_findKey hk h1, by simpa using hp, by simpa [entOf] using h3⟩
theorem cons_erase {α : Type} : ∀ {L : List α} {j : Nat} {p : α}, L[j]? = some p → (p :: L.eraseIdx j).Perm L
  | [], _, _, h => by simp at h
  | a :: l, 0, p, h => by
    simp at h
    subst h
    exact List.Perm.refl _
  | a :: l, j + 1, p, h => by
    rw [List.getElem?_cons_succ] at h
    rw [List.eraseIdx_cons_succ]
    exact (List.Perm.swap a p _).trans ((cons_erase h).cons a)
theorem set_erase {α : Type} : ∀ {L : List α} {j : Nat} {q : α}, j < L.length → (L.set j q).Perm (q :: L.eraseIdx j)
  | [], _, _, h => by simp at h
  | a :: l, 0, q, h => List.Perm.refl _
  | a :: l, j + 1, q, h => by
    rw [List.set_cons_succ, List.eraseIdx_cons_succ]
    exact ((set_erase (by simpa using h)).cons a).trans (List.Perm.swap q a _)
theorem map_erase {α β : Type} (f : α → β) : ∀ (L : List α) (j : Nat), (L.map f).eraseIdx j = (L.eraseIdx j).map f
  | [], _ => by simp
  | a :: l, 0 => by simp
  | a :: l, j + 1 => by simp [map_erase f l j]
theorem erase_perm {L : List (Ent × Nat)} {M : List Ent} {j : Nat} {p : Ent × Nat} {x : Int} (hn : (L.map (·.1.1)).Nodup) (hp : (L.map (·.1)).Perm M) (h2 : L[j]? = some p) (h3 : p.1.1 = x) : ((L.eraseIdx j).map (·.1)).Perm (M.filter fun q => q.1 != x) := by
  obtain ⟨hj, hjp⟩ := List.getElem?_eq_some_iff.1 h2
  have h4 : (p :: L.eraseIdx j).Perm L := cons_erase h2
  have h5 := (h4.map (·.1)).trans hp
  have h6 := h5.filter (fun q : Ent => q.1 != x)
  rw [List.map_cons, List.filter_cons, if_neg (by simp [h3])] at h6
  have h7 := (h4.map (·.1.1)).nodup_iff.2 hn
  rw [List.map_cons, List.nodup_cons] at h7
  have h8 : ((L.eraseIdx j).map (·.1)).filter (fun q : Ent => q.1 != x) = (L.eraseIdx j).map (·.1) := List.filter_eq_self.2 fun q hq => by
    obtain ⟨r, hr, rfl⟩ := List.mem_map.1 hq
    have : r.1.1 ≠ x := fun e => h7.1 (by rw [h3, ← e]; exact List.mem_map.2 ⟨r, hr, rfl⟩)
    simpa using this
  rw [h8] at h6
  exact h6
section
variable {P : Program} {T k e : TypeId} (ht : P.underlying T = some (.map k e)) (hk : P.underlying k = some (.int .i64))
include ht hk
/-- Looked up. -/
theorem look_map {w : World} {g : Nat} {M : List Ent} (hz : (zeroValue e).run P w = .ok (.agg #[.int .i64 0, .int .i64 0]) w) (c : Bool) (h : MapAt w g M) (x : Int) :
    (∃ v t, (x, v, t) ∈ M ∧ (Instr.lookup T (.map (some g)) (.int .i64 x) c).run P w = .ok (if c then .tuple #[.agg #[.int .i64 v, .int .i64 t], .bool true] else .agg #[.int .i64 v, .int .i64 t]) w) ∨
    ((∀ p ∈ M, p.1 ≠ x) ∧ (Instr.lookup T (.map (some g)) (.int .i64 x) c).run P w = .ok (if c then .tuple #[.agg #[.int .i64 0, .int .i64 0], .bool false] else .agg #[.int .i64 0, .int .i64 0]) w) := by
  obtain ⟨L, cl, h, hp⟩ := h
  rcases find_ent hk w x L with ⟨h1, h2⟩ | ⟨j, p, h1, h2, h3⟩
  · right
    refine ⟨fun p hpm => ?_, by simp [Instr.lookup, run_underlying ht, MapKept.run_getObj_map h.blk, MapKept.run_checkKey hk (k := .int .i64 x) (by simp [MapKept.IsKey]), h1, hz, Result.andThen]⟩
    obtain ⟨q, hq, rfl⟩ := List.mem_map.1 (hp.mem_iff.2 hpm)
    exact h2 q hq
  · left
    refine ⟨p.1.2.1, p.1.2.2, ?_, by simp [Instr.lookup, run_underlying ht, MapKept.run_getObj_map h.blk, MapKept.run_checkKey hk (k := .int .i64 x) (by simp [MapKept.IsKey]), h1, entOf, Result.andThen]⟩
    refine hp.mem_iff.1 (List.mem_map.2 ⟨p, List.mem_of_getElem? h2, ?_⟩)
    obtain ⟨⟨a, b, c'⟩, d⟩ := p
    simp_all
/-- Stored into. -/
theorem put_map {w : World} {g : Nat} {M : List Ent} (h : MapAt w g M) (x v t : Int) :
    ∃ w', (Instr.mapUpdate T (.map (some g)) (.int .i64 x) (.agg #[.int .i64 v, .int .i64 t])).run P w = .ok () w' ∧ MapAt w' g ((x, v, t) :: M.filter fun p => p.1 != x) ∧ w.grownBy w' (some g) ∧ w'.heap.size = w.heap.size := by
  obtain ⟨L, cl, h, hp⟩ := h
  have hgr : ∀ o : Obj, w.grownBy { w with heap := w.heap.setIfInBounds g o } (some g) := fun o => ⟨rfl, rfl, rfl, by simp, fun i _ hi => (MapKept.heap_set h.blk).2 i (fun e => hi (by rw [e]))⟩
  have hM : ∀ q ∈ L, q.1.1 ≠ x → q.1 ∈ M.filter fun p => p.1 != x := fun q hq hne => List.mem_filter.2 ⟨hp.mem_iff.1 (List.mem_map.2 ⟨q, hq, rfl⟩), by simpa using hne⟩
  rcases find_ent hk w x L with ⟨h1, h2⟩ | ⟨j, p, h1, h2, h3⟩
  · refine ⟨{ w with heap := w.heap.setIfInBounds g (.map ((L ++ [((x, v, t), cl)]).map entOf).toArray (cl + 1)) }, by simp [Instr.mapUpdate, run_underlying ht, MapKept.run_getObj_map h.blk, MapKept.run_checkKey hk (k := .int .i64 x) (by simp [MapKept.IsKey]), h1, MapKept.run_setObj_map _ h.blk, Result.andThen, entOf], ⟨L ++ [((x, v, t), cl)], cl + 1, ⟨?_, ?_, ?_, ?_⟩, ?_⟩, hgr _, by simp⟩
    · exact (MapKept.heap_set h.blk).1
    · rw [List.map_append, List.nodup_append]
      refine ⟨h.nod, by simp, fun a ha b hb => ?_⟩
      simp at hb
      subst hb
      obtain ⟨q, hq, rfl⟩ := List.mem_map.1 ha
      exact h2 q hq
    · rw [List.map_append, List.nodup_append]
      refine ⟨h.born, by simp, fun a ha b hb => ?_⟩
      simp at hb
      subst hb
      obtain ⟨q, hq, rfl⟩ := List.mem_map.1 ha
      have := h.old q hq
      omega
    · intro q hq
      rw [List.mem_append, List.mem_singleton] at hq
      rcases hq with hq | rfl
      · have := h.old q hq; omega
      · exact Nat.lt_succ_self _
    · rw [List.map_append]
      refine List.perm_append_comm.trans ?_
      refine List.Perm.cons _ ?_
      have : M.filter (fun p => p.1 != x) = M := List.filter_eq_self.2 fun p hpm => by
        obtain ⟨q, hq, rfl⟩ := List.mem_map.1 (hp.mem_iff.2 hpm)
        simpa using h2 q hq
      rw [this]
      exact hp
  · have hj : j < L.length := (List.getElem?_eq_some_iff.1 h2).1
    have hjp : L[j] = p := by simpa [hj] using h2
    have hmod : (L.map entOf).modify j (fun e => { e with key := .int .i64 x, val := .agg #[.int .i64 v, .int .i64 t] }) = (L.set j ((x, v, t), p.2)).map entOf := by
      apply List.ext_getElem?
      intro i
      rw [List.getElem?_modify, List.getElem?_map, List.getElem?_map, List.getElem?_set]
      by_cases hij : j = i
      · subst hij
        simp [hj, hjp, entOf]
      · simp [hij]
    refine ⟨{ w with heap := w.heap.setIfInBounds g (.map ((L.set j ((x, v, t), p.2)).map entOf).toArray cl) }, ?_, ⟨L.set j ((x, v, t), p.2), cl, ⟨?_, ?_, ?_, ?_⟩, ?_⟩, hgr _, by simp⟩
    · rw [← hmod]
      simp [Instr.mapUpdate, run_underlying ht, MapKept.run_getObj_map h.blk, MapKept.run_checkKey hk (k := .int .i64 x) (by simp [MapKept.IsKey]), h1, hjp, hj, entOf, h3, MapKept.run_keyThatStays (d := .int .i64) (k := .int .i64 x) (by simp [MapKept.IsKey]), MapKept.run_setObj_map _ h.blk, Result.andThen]
    · exact (MapKept.heap_set h.blk).1
    · have : (L.set j ((x, v, t), p.2)).map (·.1.1) = L.map (·.1.1) := by
        rw [List.map_set]
        apply List.ext_getElem?
        intro i
        rw [List.getElem?_set, List.getElem?_map, List.length_map]
        by_cases hij : j = i
        · subst hij; simp [hj, hjp, h3]
        · simp [hij]
      rw [this]; exact h.nod
    · have : (L.set j ((x, v, t), p.2)).map (·.2) = L.map (·.2) := by
        rw [List.map_set]
        apply List.ext_getElem?
        intro i
        rw [List.getElem?_set, List.getElem?_map, List.length_map]
        by_cases hij : j = i
        · subst hij; simp [hj, hjp]
        · simp [hij]
      rw [this]; exact h.born
    · intro q hq
      rcases List.mem_or_eq_of_mem_set hq with hq | rfl
      · exact h.old q hq
      · exact h.old p (List.mem_of_getElem? h2)
    · have h4 := (set_erase (q := ((x, v, t), p.2)) hj).map (·.1)
      exact h4.trans ((erase_perm h.nod hp h2 h3).cons _)
/-- Deleted from. -/
theorem del_map {w : World} {g : Nat} {M : List Ent} (ty : TypeId) (h : MapAt w g M) (x : Int) :
    ∃ w', (Builtin.delete_ #[T, k] ty #[.map (some g), .int .i64 x]).run P w = .ok (.tuple #[]) w' ∧ MapAt w' g (M.filter fun p => p.1 != x) ∧ w.grownBy w' (some g) ∧ w'.heap.size = w.heap.size := by
  obtain ⟨L, cl, h, hp⟩ := h
  have hgr : ∀ o : Obj, w.grownBy { w with heap := w.heap.setIfInBounds g o } (some g) := fun o => ⟨rfl, rfl, rfl, by simp, fun i _ hi => (MapKept.heap_set h.blk).2 i (fun e => hi (by rw [e]))⟩
  rcases find_ent hk w x L with ⟨h1, h2⟩ | ⟨j, p, h1, h2, h3⟩
  · refine ⟨{ w with heap := w.heap.setIfInBounds g (.map (L.map entOf).toArray cl) }, by simp [Builtin.delete_, run_underlying ht, MapKept.run_getObj_map h.blk, MapKept.run_checkKey hk (k := .int .i64 x) (by simp [MapKept.IsKey]), h1, MapKept.run_setObj_map _ h.blk, Result.andThen], ⟨L, cl, ⟨(MapKept.heap_set h.blk).1, h.nod, h.born, h.old⟩, ?_⟩, hgr _, by simp⟩
    have : M.filter (fun p => p.1 != x) = M := List.filter_eq_self.2 fun p hpm => by
      obtain ⟨q, hq, rfl⟩ := List.mem_map.1 (hp.mem_iff.2 hpm)
      simpa using h2 q hq
    rw [this]
    exact hp
  · have hj : j < L.length := (List.getElem?_eq_some_iff.1 h2).1
    have her : ((L.map entOf).toArray.eraseIdxIfInBounds j) = ((L.eraseIdx j).map entOf).toArray := by
      unfold Array.eraseIdxIfInBounds
      rw [dif_pos (by simpa using hj)]
      simp [map_erase]
    have hsub := List.eraseIdx_sublist L j
    refine ⟨{ w with heap := w.heap.setIfInBounds g (.map ((L.eraseIdx j).map entOf).toArray cl) }, ?_, ⟨L.eraseIdx j, cl, ⟨(MapKept.heap_set h.blk).1, (hsub.map _).nodup h.nod, (hsub.map _).nodup h.born, fun q hq => h.old q (hsub.subset hq)⟩, erase_perm h.nod hp h2 h3⟩, hgr _, by simp⟩
    rw [← her]
    simp [Builtin.delete_, run_underlying ht, MapKept.run_getObj_map h.blk, MapKept.run_checkKey hk (k := .int .i64 x) (by simp [MapKept.IsKey]), h1, MapKept.run_setObj_map _ h.blk, Result.andThen]
omit hk in
theorem len_map {w : World} {g : Nat} {M : List Ent} (ty : TypeId) (h : MapAt w g M) : (Builtin.len_ #[T] ty #[.map (some g)]).run P w = .ok (.int .i64 M.length) w := by
  obtain ⟨L, cl, h, hp⟩ := h
  have := hp.length_eq
  simp at this
  simp [Builtin.len_, run_underlying ht, MapKept.run_getObj_map h.blk, Result.andThen, goInt, this]
end
end Go.Proofs.YticckfioggeaeaaGreatDoor

/-
  A map of entries ranged over; its operations where the walk stands.
-/
namespace Go.Proofs.YticckfioggeaeaaGreatDoor
open Go.RowKit
open Go.ChangeMaps (setBlock)

theorem pick_perm {α β : Type} [BEq β] [LawfulBEq β] (f : α → β) {A : List α} {p : α} (hn : (A.map f).Nodup) (hp : p ∈ A) : A.Perm (p :: A.filter fun q => f q != f p) := by
  obtain ⟨j, hj, hjp⟩ := List.getElem_of_mem hp
  have h4 : (p :: A.eraseIdx j).Perm A := cons_erase (by rw [List.getElem?_eq_getElem hj, hjp])
  have h6 := h4.filter (fun q : α => f q != f p)
  rw [List.filter_cons, if_neg (by simp)] at h6
  have h7 := (h4.map f).nodup_iff.2 hn
  rw [List.map_cons, List.nodup_cons] at h7
  have h8 : (A.eraseIdx j).filter (fun q : α => f q != f p) = A.eraseIdx j := List.filter_eq_self.2 fun q hq => by
    have : f q ≠ f p := fun e => h7.1 (by rw [← e]; exact List.mem_map.2 ⟨q, hq, rfl⟩)
    simpa using this
  rw [h8] at h6
  exact h4.symm.trans (h6.cons p)
def notSeen (seen : Array Nat) (p : Ent × Nat) : Bool := !seen.contains p.2
def RangeAt (w : World) (g r : Nat) (M left : List Ent) : Prop :=
  ∃ L clock seen, MapL w g L clock ∧ (L.map (·.1)).Perm M ∧ w.heap[r]? = some (.mapIter (some g) clock seen clock) ∧ ((L.filter (notSeen seen)).map (·.1)).Perm left ∧ r ≠ g
theorem RangeAt.map {w : World} {g r : Nat} {M left : List Ent} (h : RangeAt w g r M left) : MapAt w g M := by
  obtain ⟨L, c, s, h1, h2, _⟩ := h
  exact ⟨L, c, h1, h2⟩
theorem RangeAt.lt {w : World} {g r : Nat} {M left : List Ent} (h : RangeAt w g r M left) : g < w.heap.size ∧ r < w.heap.size := by
  obtain ⟨L, c, s, h1, h2, h3, _⟩ := h
  exact ⟨h1.lt, (Array.getElem?_eq_some_iff.1 h3).1⟩
theorem RangeAt.keep {w w' : World} {g r : Nat} {M left : List Ent} (h : RangeAt w g r M left) (hg : w'.heap[g]? = w.heap[g]?) (hr : w'.heap[r]? = w.heap[r]?) : RangeAt w' g r M left := by
  obtain ⟨L, c, s, h1, h2, h3, h4⟩ := h
  exact ⟨L, c, s, ⟨hg.trans h1.blk, h1.nod, h1.born, h1.old⟩, h2, hr.trans h3, h4⟩
theorem leftOf_ent (L : List (Ent × Nat)) (seen : Array Nat) : leftOf (L.map entOf).toArray seen = ((L.filter (notSeen seen)).map entOf).toArray := by
  unfold leftOf
  simp only [List.filter_toArray, List.filter_map]
  rfl
theorem range_map {P : Program} {T k e : TypeId} (ht : P.underlying T = some (.map k e)) {w : World} {g : Nat} {M : List Ent} (h : MapAt w g M) :
    ∃ w', (Instr.range T (.map (some g))).run P w = .ok (.pointer (some ⟨w.heap.size, 0, none⟩)) w' ∧ RangeAt w' g w.heap.size M M ∧ w.grownBy w' none ∧ w'.heap.size = w.heap.size + 1 := by
  have hlt := h.lt
  obtain ⟨L, c, h1, h2⟩ := h
  refine ⟨_, run_range_map w T k e g _ c ht h1.blk, ⟨L, c, #[], ⟨((MapKept.heap_alloc w _).2 g hlt).trans h1.blk, h1.nod, h1.born, h1.old⟩, h2, (MapKept.heap_alloc w _).1, ?_, by omega⟩, World.grownBy_alloc w _ none, by simp⟩
  have : L.filter (notSeen #[]) = L := List.filter_eq_self.2 fun p _ => by simp [notSeen]
  rw [this]
  exact h2
theorem next_map {P : Program} (ty : TypeId) {w : World} {g r : Nat} {M left : List Ent} (h : RangeAt w g r M left) :
    (left = [] ∧ (Instr.next (.pointer (some ⟨r, 0, none⟩)) false ty).run P w = .ok (.tuple #[.bool false]) w) ∨
    ∃ x left' w', left.Perm (x :: left') ∧ (Instr.next (.pointer (some ⟨r, 0, none⟩)) false ty).run P w = .ok (.tuple #[.bool true, .int .i64 x.1, .agg #[.int .i64 x.2.1, .int .i64 x.2.2]]) w' ∧ RangeAt w' g r M left' ∧ w.grownBy w' (some r) ∧ w'.heap.size = w.heap.size ∧
      (Instr.entry (.pointer (some ⟨r, 0, none⟩))).run P w' = .ok (.tuple #[.int .i64 x.1, .agg #[.int .i64 x.2.1, .int .i64 x.2.2]]) w' := by
  obtain ⟨L, c, s, h1, h2, h3, h4, hne⟩ := h
  rcases run_next_at (P := P) w ty r g c c s _ c h3 h1.blk (by intro y hy; simp only [List.mem_map] at hy; obtain ⟨p, hp, rfl⟩ := hy; exact h1.old p hp) (Nat.le_refl _) with ⟨h0, hrun⟩ | ⟨e, he, w1, hal, hrun⟩
  · left
    rw [leftOf_ent] at h0
    simp only [List.size_toArray, List.length_map] at h0
    have : L.filter (notSeen s) = [] := List.length_eq_zero_iff.1 h0
    rw [this] at h4
    exact ⟨List.Perm.nil_eq h4 |>.symm, hrun⟩
  · right
    rw [leftOf_ent] at he
    simp only [List.mem_map] at he
    obtain ⟨p, hp, rfl⟩ := he
    have hr1 : w1.heap[r]? = some (.mapIter (some g) c s c) := by rcases hal with rfl | rfl <;> exact h3
    have hb1 : w1.heap[g]? = some (.map (L.map entOf).toArray c) := by rcases hal with rfl | rfl <;> exact h1.blk
    have hset := MapKept.heap_set (o' := .mapIter (some g) c (s.push p.2) c) hr1
    have hb' := (hset.2 g (fun e1 => hne e1.symm)).trans hb1
    have hpL : p ∈ L := (List.mem_filter.1 hp).1
    have hf : L.filter (notSeen (s.push p.2)) = (L.filter (notSeen s)).filter fun q => q.2 != p.2 := by
      rw [List.filter_filter]
      apply List.filter_congr
      intro q _
      simp only [notSeen, Array.contains_push]
      cases s.contains q.2 <;> cases hq : (q.2 == p.2) <;> simp_all
    refine ⟨p.1, ((L.filter (notSeen (s.push p.2))).map (·.1)), _, ?_, hrun, ⟨L, c, s.push p.2, ⟨hb', h1.nod, h1.born, h1.old⟩, h2, hset.1, List.Perm.refl _, hne⟩, ?_, ?_, run_entry_at _ r g c s _ c (entOf p) hset.1 hb' (by simp only [List.mem_map]; exact ⟨p, hpL, rfl⟩) (by simp only [List.map_map]; exact h1.born)⟩
    · rw [hf]
      have := (pick_perm (·.2) (A := L.filter (notSeen s)) (((List.filter_sublist).map _).nodup h1.born) hp).map (·.1)
      rw [List.map_cons] at this
      exact h4.symm.trans this
    · rcases hal with rfl | rfl <;> exact ⟨rfl, rfl, rfl, by simp [setBlock], fun i _ hi => hset.2 i (fun e1 => hi (by rw [e1]))⟩
    · rcases hal with rfl | rfl <;> simp [setBlock]
end Go.Proofs.YticckfioggeaeaaGreatDoor

/-
  The map's operations where the walk stands.
-/
namespace Go.Proofs.YticckfioggeaeaaGreatDoor
open Go.RowKit

theorem law_T : Tryz.prog.underlying 67 = some (.map 3 86) := Tryz.underlying67
theorem law_K : Tryz.prog.underlying 3 = some (.int .i64) := Tryz.underlying3
theorem zero_E (w : World) : (zeroValue 86).run Tryz.prog w = .ok (.agg #[.int .i64 0, .int .i64 0]) w := by kernel_rfl
theorem ent_one : ∀ {M : List Ent}, (M.map (·.1)).Nodup → ∀ {p q : Ent}, p ∈ M → q ∈ M → p.1 = q.1 → p = q
  | [], _, _, _, hp, _, _ => by simp at hp
  | m :: M, hn, p, q, hp, hq, h => by
    rw [List.map_cons, List.nodup_cons] at hn
    rw [List.mem_cons] at hp hq
    rcases hp with rfl | hp <;> rcases hq with rfl | hq
    · rfl
    · exact absurd (List.mem_map.2 ⟨q, hq, h.symm⟩) hn.1
    · exact absurd (List.mem_map.2 ⟨p, hp, h⟩) hn.1
    · exact ent_one hn.2 hp hq h
/-- What is told of a key that is there; of one that is not. -/
theorem look_is {w : World} {g : Nat} {M : List Ent} (h : MapAt w g M) {x v t : Int} (hm : (x, v, t) ∈ M) :
    (Instr.lookup 67 (.map (some g)) (.int .i64 x) true).run Tryz.prog w = .ok (.tuple #[.agg #[.int .i64 v, .int .i64 t], .bool true]) w ∧
    (Instr.lookup 67 (.map (some g)) (.int .i64 x) false).run Tryz.prog w = .ok (.agg #[.int .i64 v, .int .i64 t]) w := by
  constructor
  · rcases look_map law_T law_K (zero_E w) true h x with ⟨v', t', h1, h2⟩ | ⟨h1, _⟩
    · have := ent_one h.nodup h1 hm rfl
      simp only [Prod.mk.injEq, true_and] at this
      obtain ⟨rfl, rfl⟩ := this
      simpa using h2
    · exact absurd rfl (h1 _ hm)
  · rcases look_map law_T law_K (zero_E w) false h x with ⟨v', t', h1, h2⟩ | ⟨h1, _⟩
    · have := ent_one h.nodup h1 hm rfl
      simp only [Prod.mk.injEq, true_and] at this
      obtain ⟨rfl, rfl⟩ := this
      simpa using h2
    · exact absurd rfl (h1 _ hm)
theorem look_no {w : World} {g : Nat} {M : List Ent} (h : MapAt w g M) {x : Int} (hx : ∀ p ∈ M, p.1 ≠ x) :
    (Instr.lookup 67 (.map (some g)) (.int .i64 x) true).run Tryz.prog w = .ok (.tuple #[.agg #[.int .i64 0, .int .i64 0], .bool false]) w := by
  rcases look_map law_T law_K (zero_E w) true h x with ⟨v', t', h1, _⟩ | ⟨_, h2⟩
  · exact absurd rfl (hx _ h1)
  · simpa using h2
section
variable {w : World} {ops : Array Oper} {rest : List Oper} {o : Oper} {a : Act} {Q : Exit → Act → World → Prop}
theorem wpList_put_map (hg : o.guard = none) (m x v : Operand) (hop : o.op = Op.mapUpdate 67 m x v) (g : Nat) (M : List Ent) (hm : a.eval m = .map (some g)) (hown : MapAt w g M) (kx vv tt : Int) (hx : a.eval x = .int .i64 kx) (hv : a.eval v = .agg #[.int .i64 vv, .int .i64 tt])
    (hK : ∀ w', MapAt w' g ((kx, vv, tt) :: M.filter fun p => p.1 != kx) → w.grownBy w' (some g) → w'.heap.size = w.heap.size → wpList Tryz.prog ops Q rest (a.put o.dst undef) w') :
    wpList Tryz.prog ops Q (o :: rest) a w := by
  refine wpList_plain hg fun K' hK' => ?_
  obtain ⟨w', hrun, r1, r2, r3⟩ := put_map law_T law_K hown kx vv tt
  unfold Oper.wp
  simp [execOp, hop, hm, hx, hv, hrun, Result.andThen]
  exact hK' _ _ (hK w' r1 r2 r3)
theorem wpList_del_map (hg : o.guard = none) (m x : Operand) (hop : o.op = Op.call { callee := Callee.builtin Builtin.delete, args := #[m, x], argTypes := #[67, 3] }) (g : Nat) (M : List Ent) (hm : a.eval m = .map (some g)) (hown : MapAt w g M) (kx : Int) (hx : a.eval x = .int .i64 kx)
    (hK : ∀ w', MapAt w' g (M.filter fun p => p.1 != kx) → w.grownBy w' (some g) → w'.heap.size = w.heap.size → wpList Tryz.prog ops Q rest (a.put o.dst (.tuple #[])) w') :
    wpList Tryz.prog ops Q (o :: rest) a w := by
  refine wpList_plain hg fun K' hK' => ?_
  obtain ⟨w', hrun, r1, r2, r3⟩ := del_map law_T law_K o.type hown kx
  unfold Oper.wp
  simp [execOp, hop, resolve, invoke, builtin, hm, hx, hrun, Result.andThen]
  exact hK' _ _ (hK w' r1 r2 r3)
theorem wpList_len_map (hg : o.guard = none) (m : Operand) (hop : o.op = Op.call { callee := Callee.builtin Builtin.len, args := #[m], argTypes := #[67] }) (g : Nat) (M : List Ent) (hm : a.eval m = .map (some g)) (hown : MapAt w g M)
    (hK : wpList Tryz.prog ops Q rest (a.put o.dst (.int .i64 M.length)) w) :
    wpList Tryz.prog ops Q (o :: rest) a w := by
  refine wpList_plain hg fun K' hK' => ?_
  unfold Oper.wp
  simp [execOp, hop, resolve, invoke, builtin, hm, len_map law_T o.type hown, Result.andThen]
  exact hK' _ _ hK
theorem wpList_range_map (hg : o.guard = none) (m : Operand) (hop : o.op = Op.range 67 m) (g : Nat) (M : List Ent) (hm : a.eval m = .map (some g)) (hown : MapAt w g M)
    (hK : ∀ w', RangeAt w' g w.heap.size M M → w.grownBy w' none → w'.heap.size = w.heap.size + 1 → wpList Tryz.prog ops Q rest (a.put o.dst (.pointer (some ⟨w.heap.size, 0, none⟩))) w') :
    wpList Tryz.prog ops Q (o :: rest) a w := by
  refine wpList_plain hg fun K' hK' => ?_
  obtain ⟨w', hrun, r1, r2, r3⟩ := range_map law_T hown
  unfold Oper.wp
  simp [execOp, hop, hm, hrun, Result.andThen]
  exact hK' _ _ (hK w' r1 r2 r3)
theorem wpList_next_map (hg : o.guard = none) (it : Operand) (hop : o.op = Op.next it false) (g r : Nat) (M left : List Ent) (hit : a.eval it = .pointer (some ⟨r, 0, none⟩)) (h : RangeAt w g r M left)
    (hDone : left = [] → wpList Tryz.prog ops Q rest (a.put o.dst (.tuple #[.bool false])) w)
    (hMore : ∀ x left' w', left.Perm (x :: left') → RangeAt w' g r M left' → w.grownBy w' (some r) → w'.heap.size = w.heap.size → (Instr.entry (.pointer (some ⟨r, 0, none⟩))).run Tryz.prog w' = .ok (.tuple #[.int .i64 x.1, .agg #[.int .i64 x.2.1, .int .i64 x.2.2]]) w' → wpList Tryz.prog ops Q rest (a.put o.dst (.tuple #[.bool true, .int .i64 x.1, .agg #[.int .i64 x.2.1, .int .i64 x.2.2]])) w') :
    wpList Tryz.prog ops Q (o :: rest) a w := by
  refine wpList_plain hg fun K' hK' => ?_
  unfold Oper.wp
  rcases next_map (P := Tryz.prog) o.type h with ⟨h0, hrun⟩ | ⟨x, left', w', hp, hrun, hr, hgr, hsz, hen⟩
  · simp [execOp, hop, hit, hrun, Result.andThen]
    exact hK' _ _ (hDone h0)
  · simp [execOp, hop, hit, hrun, Result.andThen]
    exact hK' _ _ (hMore x left' w' hp hr hgr hsz hen)
end
end Go.Proofs.YticckfioggeaeaaGreatDoor

/-
  book.keys's comparison, by its contract.
-/
namespace Go.Proofs.YticckfioggeaeaaGreatDoor
open Go.RowKit

/-- The turn of a key. -/
def turnOf (M : List Ent) (x : Int) : Int := match M.find? (fun p => p.1 == x) with | some p => p.2.2 | none => 0
theorem turnOf_mem {M : List Ent} (hn : (M.map (·.1)).Nodup) {p : Ent} (hp : p ∈ M) : turnOf M p.1 = p.2.2 := by
  unfold turnOf
  cases hf : M.find? (fun q => q.1 == p.1) with
  | none =>
    have := List.find?_eq_none.1 hf p hp
    simp at this
  | some q =>
    have h1 := List.mem_of_find?_eq_some hf
    have h2 := List.find?_some hf
    simp at h2
    rw [ent_one hn h1 hp h2]
def cmpO (a b : Int) : Int := if a < b then -1 else if b < a then 1 else 0
theorem compare_any (a b : Int) (w : World) : Calls Tryz.prog 65 #[.int .i64 a, .int .i64 b] w fun e w' => e = .returned (.int .i64 (cmpO a b)) ∧ w = w' := by
  by_cases h1 : a < b
  · have HR : Hid (cmpO a b = -1) := Lib.hid (by unfold cmpO; rw [if_pos h1])
    go_enter Tryz.func65, Tryz.ntmps65
    go_wp2
    go_ret
    exact ⟨ret_int HR.out.symm, rfl⟩
  · by_cases h2 : b < a
    · have HR : Hid (cmpO a b = 1) := Lib.hid (by unfold cmpO; rw [if_neg h1, if_pos h2])
      go_enter Tryz.func65, Tryz.ntmps65
      go_wp2
      go_ret
      exact ⟨ret_int HR.out.symm, rfl⟩
    · have HR : Hid (cmpO a b = 0) := Lib.hid (by unfold cmpO; rw [if_neg h1, if_neg h2])
      go_enter Tryz.func65, Tryz.ntmps65
      go_wp2
      go_ret
      exact ⟨ret_int HR.out.symm, rfl⟩
theorem run_turn (v t : Int) (w : World) : (Instr.field 86 (.agg #[.int .i64 v, .int .i64 t]) 1).run Tryz.prog w = .ok (.int .i64 t) w := by
  unfold Instr.field
  simp [run_underlying Tryz.underlying86, Result.andThen, asAgg, part]
theorem run_value (v t : Int) (w : World) : (Instr.field 86 (.agg #[.int .i64 v, .int .i64 t]) 0).run Tryz.prog w = .ok (.int .i64 v) w := by
  unfold Instr.field
  simp [run_underlying Tryz.underlying86, Result.andThen, asAgg, part]
/-- The store and the box that the comparison sees. -/
structure CmpAt (w : World) (bx b g : Nat) (M : List Ent) : Prop where
  box : w.cell? ⟨bx, 0, none⟩ = some (.pointer (some ⟨b, 0, none⟩))
  at_ : w.cell? ⟨b, 1, none⟩ = some (.map (some g))
  map : MapAt w g M
set_option maxHeartbeats 4000000 in
set_option maxRecDepth 100000 in
theorem keys1_any (bx b g : Nat) (M : List Ent) (x y : Int) (w : World) (h : CmpAt w bx b g M) (hx : x ∈ M.map (·.1)) (hy : y ∈ M.map (·.1)) :
    Calls Tryz.prog 64 #[.int .i64 x, .int .i64 y, .pointer (some ⟨bx, 0, none⟩)] w fun e w' => e = .returned (.int .i64 (cmpO (turnOf M y) (turnOf M x))) ∧ ∃ q, w' = w.drewN q := by
  obtain ⟨p, hp, rfl⟩ := List.mem_map.1 hx
  obtain ⟨p', hp', rfl⟩ := List.mem_map.1 hy
  have hn := h.map.nodup
  rw [turnOf_mem hn hp, turnOf_mem hn hp']
  obtain ⟨x, vx, tx⟩ := p
  obtain ⟨y, vy, ty⟩ := p'
  have hlx := fun q => (look_is (h.map.keep (w' := w.drewN q) rfl) hp).2
  have hly := fun q => (look_is (h.map.keep (w' := w.drewN q) rfl) hp').2
  have hl0 := (look_is h.map hp).2
  have hl1 := (look_is h.map hp').2
  have hfx := fun q => run_turn vx tx (w.drewN q)
  have hfy := fun q => run_turn vy ty (w.drewN q)
  have hgx := run_turn vx tx w
  have hgy := run_turn vy ty w
  have hc1 := h.box
  have hc2 := h.at_
  clear h hx hy hn hp hp'
  go_enter Tryz.func64, Tryz.ntmps64
  go_wp2
  go_quiet ((go_at_call 65; exact quiet_eq (compare_any _ _ _)))
  go_wp2
  go_ret
  exact ⟨rfl, _, rfl⟩
end Go.Proofs.YticckfioggeaeaaGreatDoor

/-
  The order by falling turns; insertion sort's law (printed by wip/gen_booksort.py out of XRank).
-/
namespace Go.Proofs.YticckfioggeaeaaGreatDoor
open Go.RowKit

def leR (k : Int → Int) (a b : Int) : Prop := k b ≤ k a
def ordR (k : Int → Int) (a b : Int) : Int := cmpO (k b) (k a)
theorem ordR_neg (k : Int → Int) (a b : Int) : ordR k a b < 0 ↔ ¬ leR k b a := by
  unfold ordR leR cmpO
  split
  · simp; omega
  · split
    · simp; omega
    · simp; omega
theorem leR_total (k : Int → Int) (a b : Int) : leR k a b ∨ leR k b a := by unfold leR; omega
theorem leR_trans {k : Int → Int} {a b c : Int} (h1 : leR k a b) (h2 : leR k b c) : leR k a c := by unfold leR at *; omega

/-! ### insertion sort -/
def Srt (k : Int → Int) (xs : List Int) (i j : Nat) : Prop :=
  (∀ a b (ha : a < xs.length) (hb : b < xs.length), a < b → b ≤ i → a ≠ j → b ≠ j → leR k xs[a] xs[b]) ∧
  (∀ b (hb : b < xs.length) (hj : j < xs.length), j < b → b ≤ i → leR k xs[j] xs[b])
def SortedTo (k : Int → Int) (xs : List Int) (i : Nat) : Prop := ∀ a b (ha : a < xs.length) (hb : b < xs.length), a < b → b < i → leR k xs[a] xs[b]

theorem srt_start {k : Int → Int} {xs : List Int} {i : Nat} (h : SortedTo k xs i) : Srt k xs i i :=
  ⟨fun a b ha hb hab hbi _ hne => h a b ha hb hab (by omega), fun b hb hj h1 h2 => by omega⟩
theorem srt_end0 {k : Int → Int} {xs : List Int} {i : Nat} (h : Srt k xs i 0) : SortedTo k xs (i + 1) := fun a b ha hb hab hbi => by
  by_cases e : a = 0
  · subst e; exact h.2 b hb ha hab (by omega)
  · exact h.1 a b ha hb hab (by omega) e (by omega)
theorem srt_end {k : Int → Int} {xs : List Int} {i j : Nat} (h : Srt k xs i (j + 1)) (hj : j + 1 < xs.length) (hji : j + 1 ≤ i) (hle : leR k (xs[j]'(by omega)) xs[j + 1]) : SortedTo k xs (i + 1) := fun a b ha hb hab hbi => by
  by_cases e : a = j + 1
  · subst e; exact h.2 b hb ha hab (by omega)
  · by_cases e2 : b = j + 1
    · subst e2
      by_cases e3 : a = j
      · subst e3; exact hle
      · exact leR_trans (h.1 a j ha (by omega) (by omega) (by omega) (by omega) (by omega)) hle
    · exact h.1 a b ha hb hab (by omega) e e2
def swp (xs : List Int) (j : Nat) (hj : j + 1 < xs.length) : List Int := (xs.set (j + 1) (xs[j]'(by omega))).set j xs[j + 1]
theorem swp_len (xs : List Int) (j : Nat) (hj : j + 1 < xs.length) : (swp xs j hj).length = xs.length := by simp [swp]
theorem swp_get (xs : List Int) (j : Nat) (hj : j + 1 < xs.length) (a : Nat) (ha : a < xs.length) (ha' : a < (swp xs j hj).length) : (swp xs j hj)[a] = if a = j then xs[j + 1] else if a = j + 1 then xs[j]'(by omega) else xs[a] := by
  have h : (swp xs j hj)[a]? = some (if a = j then xs[j + 1] else if a = j + 1 then xs[j]'(by omega) else xs[a]) := by
    unfold swp
    rw [List.getElem?_set]
    by_cases e : j = a
    · rw [if_pos e, if_pos (by rw [List.length_set]; omega), if_pos e.symm]
    · rw [if_neg e, if_neg (fun h => e h.symm), List.getElem?_set]
      by_cases e2 : j + 1 = a
      · rw [if_pos e2, if_pos (by omega), if_pos e2.symm]
      · rw [if_neg e2, if_neg (fun h => e2 h.symm), List.getElem?_eq_getElem ha]
  rw [List.getElem?_eq_getElem ha'] at h
  exact Option.some.inj h
theorem swp_perm : ∀ (xs : List Int) (j : Nat) (hj : j + 1 < xs.length), (swp xs j hj).Perm xs
  | [], j, hj => by simp at hj
  | [x], j, hj => by simp at hj
  | x :: y :: r, 0, _ => by simpa [swp] using List.Perm.swap x y r
  | x :: y :: r, j + 1, hj => by
    have := swp_perm (y :: r) j (by simpa using hj)
    have e : swp (x :: y :: r) (j + 1) hj = x :: swp (y :: r) j (by simpa using hj) := by simp [swp]
    rw [e]
    exact this.cons x
theorem srt_swap {k : Int → Int} {xs : List Int} {i j : Nat} (h : Srt k xs i (j + 1)) (hj : j + 1 < xs.length) (hle : leR k xs[j + 1] (xs[j]'(by omega))) : Srt k (swp xs j hj) i j := by
  have hl := swp_len xs j hj
  refine ⟨fun a b ha hb hab hbi hna hnb => ?_, fun b hb hjb h1 h2 => ?_⟩
  · rw [hl] at ha hb
    rw [swp_get xs j hj a ha, swp_get xs j hj b hb, if_neg hna, if_neg hnb]
    by_cases e1 : a = j + 1
    · rw [if_pos e1, if_neg (by omega)]
      exact h.1 j b (by omega) hb (by omega) hbi (by omega) (by omega)
    · rw [if_neg e1]
      by_cases e2 : b = j + 1
      · rw [if_pos e2]
        exact h.1 a j ha (by omega) (by omega) (by omega) e1 (by omega)
      · rw [if_neg e2]
        exact h.1 a b ha hb hab hbi e1 e2
  · rw [hl] at hb
    rw [swp_get xs j hj j (by omega), swp_get xs j hj b hb, if_pos rfl, if_neg (by omega)]
    by_cases e2 : b = j + 1
    · rw [if_pos e2]; exact hle
    · rw [if_neg e2]
      exact h.2 b hb hj (by omega) h2
end Go.Proofs.YticckfioggeaeaaGreatDoor
