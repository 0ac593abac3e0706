/-
  A map of entries (a value, a turn) by keys, as a list: looked up, stored into, deleted from, ranged over.
-/
import Derived.Test.YticckfioggeaeaaGreatDoorCore
import Derived.Maps.RangeWalk
namespace Go.Proofs.YticckfioggeaeaaGreatDoor
open Go.RowKit

abbrev Ent := Int × Int × Int
def entOf (p : Ent × Nat) : MapEntry := ⟨.int .i64 p.1.1, .agg #[.int .i64 p.1.2.1, .int .i64 p.1.2.2], p.2⟩
structure MapL (w : World) (g : Nat) (L : List (Ent × Nat)) (clock : Nat) : Prop where
  blk : w.heap[g]? = some (.map (L.map entOf).toArray clock)
  nod : (L.map (·.1.1)).Nodup
  born : (L.map (·.2)).Nodup
  old : ∀ p ∈ L, p.2 < clock
def MapAt (w : World) (g : Nat) (M : List Ent) : Prop := ∃ L clock, MapL w g L clock ∧ (L.map (·.1)).Perm M
theorem MapL.lt {w : World} {g : Nat} {L : List (Ent × Nat)} {clock : Nat} (h : MapL w g L clock) : g < w.heap.size := (Array.getElem?_eq_some_iff.1 h.blk).1
theorem MapAt.lt {w : World} {g : Nat} {M : List Ent} (h : MapAt w g M) : g < w.heap.size := by
  obtain ⟨L, c, h, _⟩ := h
  exact h.lt
theorem MapAt.keep {w w' : World} {g : Nat} {M : List Ent} (h : MapAt w g M) (hk : w'.heap[g]? = w.heap[g]?) : MapAt w' g M := by
  obtain ⟨L, c, h, hp⟩ := h
  exact ⟨L, c, ⟨hk.trans h.blk, h.nod, h.born, h.old⟩, hp⟩
theorem MapAt.nodup {w : World} {g : Nat} {M : List Ent} (h : MapAt w g M) : (M.map (·.1)).Nodup := by
  obtain ⟨L, c, h, hp⟩ := h
  have := (hp.map (·.1)).nodup_iff.1 (by rw [List.map_map]; exact h.nod)
  exact this
theorem MapAt.perm {w : World} {g : Nat} {M M' : List Ent} (h : MapAt w g M) (hp : M.Perm M') : MapAt w g M' := by
  obtain ⟨L, c, h, h2⟩ := h
  exact ⟨L, c, h, h2.trans hp⟩
theorem mapAt_new (w : World) : MapAt (w.alloc (.map #[] 0)) w.heap.size [] := ⟨[], 0, ⟨by show (w.heap.push _)[w.heap.size]? = _; simp, by simp, by simp, by simp⟩, by simp⟩
theorem find_ent {P : Program} {k : TypeId} (hk : P.underlying k = some (.int .i64)) (w : World) (x : Int) (L : List (Ent × Nat)) :
    ((Instr.findKey k (.int .i64 x) (L.map entOf)).run P w = .ok none w ∧ ∀ p ∈ L, p.1.1 ≠ x) ∨
    ∃ j p, (Instr.findKey k (.int .i64 x) (L.map entOf)).run P w = .ok (some (j, (entOf p).val)) w ∧ L[j]? = some p ∧ p.1.1 = x := by
  rcases MapKept.findNow_spec (d := .int .i64) (k := .int .i64 x) (by simp [MapKept.IsKey]) (L.map entOf) 0 (by intro y hy; obtain ⟨p, _, rfl⟩ := List.mem_map.1 hy; simp [MapKept.IsKey, entOf]) with ⟨h1, h2⟩ | ⟨j, e, h1, h2, h3⟩
  · left
    refine ⟨MapKept.run_findKey hk h1, fun p hp e => h2 (entOf p) (List.mem_map.2 ⟨p, hp, rfl⟩) ?_⟩
    simp [entOf, e]
  · right
    rw [List.getElem?_map] at h2
    obtain ⟨p, hp, rfl⟩ := Option.map_eq_some_iff.1 h2
    refine ⟨0 + j, p, MapKept.run_findKey hk h1, by simpa using hp, by simpa [entOf] using h3⟩
theorem cons_erase {α : Type} : ∀ {L : List α} {j : Nat} {p : α}, L[j]? = some p → (p :: L.eraseIdx j).Perm L
  | [], _, _, h => by simp at h
  | a :: l, 0, p, h => by
    simp at h
    subst h
    exact List.Perm.refl _
  | a :: l, j + 1, p, h => by
    rw [List.getElem?_cons_succ] at h
    rw [List.eraseIdx_cons_succ]
    exact (List.Perm.swap a p _).trans ((cons_erase h).cons a)
theorem set_erase {α : Type} : ∀ {L : List α} {j : Nat} {q : α}, j < L.length → (L.set j q).Perm (q :: L.eraseIdx j)
  | [], _, _, h => by simp at h
  | a :: l, 0, q, h => List.Perm.refl _
  | a :: l, j + 1, q, h => by
    rw [List.set_cons_succ, List.eraseIdx_cons_succ]
    exact ((set_erase (by simpa using h)).cons a).trans (List.Perm.swap q a _)
theorem map_erase {α β : Type} (f : α → β) : ∀ (L : List α) (j : Nat), (L.map f).eraseIdx j = (L.eraseIdx j).map f
  | [], _ => by simp
  | a :: l, 0 => by simp
  | a :: l, j + 1 => by simp [map_erase f l j]
theorem erase_perm {L : List (Ent × Nat)} {M : List Ent} {j : Nat} {p : Ent × Nat} {x : Int} (hn : (L.map (·.1.1)).Nodup) (hp : (L.map (·.1)).Perm M) (h2 : L[j]? = some p) (h3 : p.1.1 = x) : ((L.eraseIdx j).map (·.1)).Perm (M.filter fun q => q.1 != x) := by
  obtain ⟨hj, hjp⟩ := List.getElem?_eq_some_iff.1 h2
  have h4 : (p :: L.eraseIdx j).Perm L := cons_erase h2
  have h5 := (h4.map (·.1)).trans hp
  have h6 := h5.filter (fun q : Ent => q.1 != x)
  rw [List.map_cons, List.filter_cons, if_neg (by simp [h3])] at h6
  have h7 := (h4.map (·.1.1)).nodup_iff.2 hn
  rw [List.map_cons, List.nodup_cons] at h7
  have h8 : ((L.eraseIdx j).map (·.1)).filter (fun q : Ent => q.1 != x) = (L.eraseIdx j).map (·.1) := List.filter_eq_self.2 fun q hq => by
    obtain ⟨r, hr, rfl⟩ := List.mem_map.1 hq
    have : r.1.1 ≠ x := fun e => h7.1 (by rw [h3, ← e]; exact List.mem_map.2 ⟨r, hr, rfl⟩)
    simpa using this
  rw [h8] at h6
  exact h6
section
variable {P : Program} {T k e : TypeId} (ht : P.underlying T = some (.map k e)) (hk : P.underlying k = some (.int .i64))
include ht hk
/-- Looked up. -/
theorem look_map {w : World} {g : Nat} {M : List Ent} (hz : (zeroValue e).run P w = .ok (.agg #[.int .i64 0, .int .i64 0]) w) (c : Bool) (h : MapAt w g M) (x : Int) :
    (∃ v t, (x, v, t) ∈ M ∧ (Instr.lookup T (.map (some g)) (.int .i64 x) c).run P w = .ok (if c then .tuple #[.agg #[.int .i64 v, .int .i64 t], .bool true] else .agg #[.int .i64 v, .int .i64 t]) w) ∨
    ((∀ p ∈ M, p.1 ≠ x) ∧ (Instr.lookup T (.map (some g)) (.int .i64 x) c).run P w = .ok (if c then .tuple #[.agg #[.int .i64 0, .int .i64 0], .bool false] else .agg #[.int .i64 0, .int .i64 0]) w) := by
  obtain ⟨L, cl, h, hp⟩ := h
  rcases find_ent hk w x L with ⟨h1, h2⟩ | ⟨j, p, h1, h2, h3⟩
  · right
    refine ⟨fun p hpm => ?_, by simp [Instr.lookup, run_underlying ht, MapKept.run_getObj_map h.blk, MapKept.run_checkKey hk (k := .int .i64 x) (by simp [MapKept.IsKey]), h1, hz, Result.andThen]⟩
    obtain ⟨q, hq, rfl⟩ := List.mem_map.1 (hp.mem_iff.2 hpm)
    exact h2 q hq
  · left
    refine ⟨p.1.2.1, p.1.2.2, ?_, by simp [Instr.lookup, run_underlying ht, MapKept.run_getObj_map h.blk, MapKept.run_checkKey hk (k := .int .i64 x) (by simp [MapKept.IsKey]), h1, entOf, Result.andThen]⟩
    refine hp.mem_iff.1 (List.mem_map.2 ⟨p, List.mem_of_getElem? h2, ?_⟩)
    obtain ⟨⟨a, b, c'⟩, d⟩ := p
    simp_all
/-- Stored into. -/
theorem put_map {w : World} {g : Nat} {M : List Ent} (h : MapAt w g M) (x v t : Int) :
    ∃ w', (Instr.mapUpdate T (.map (some g)) (.int .i64 x) (.agg #[.int .i64 v, .int .i64 t])).run P w = .ok () w' ∧ MapAt w' g ((x, v, t) :: M.filter fun p => p.1 != x) ∧ w.grownBy w' (some g) ∧ w'.heap.size = w.heap.size := by
  obtain ⟨L, cl, h, hp⟩ := h
  have hgr : ∀ o : Obj, w.grownBy { w with heap := w.heap.setIfInBounds g o } (some g) := fun o => ⟨rfl, rfl, rfl, by simp, fun i _ hi => (MapKept.heap_set h.blk).2 i (fun e => hi (by rw [e]))⟩
  have hM : ∀ q ∈ L, q.1.1 ≠ x → q.1 ∈ M.filter fun p => p.1 != x := fun q hq hne => List.mem_filter.2 ⟨hp.mem_iff.1 (List.mem_map.2 ⟨q, hq, rfl⟩), by simpa using hne⟩
  rcases find_ent hk w x L with ⟨h1, h2⟩ | ⟨j, p, h1, h2, h3⟩
  · refine ⟨{ w with heap := w.heap.setIfInBounds g (.map ((L ++ [((x, v, t), cl)]).map entOf).toArray (cl + 1)) }, by simp [Instr.mapUpdate, run_underlying ht, MapKept.run_getObj_map h.blk, MapKept.run_checkKey hk (k := .int .i64 x) (by simp [MapKept.IsKey]), h1, MapKept.run_setObj_map _ h.blk, Result.andThen, entOf], ⟨L ++ [((x, v, t), cl)], cl + 1, ⟨?_, ?_, ?_, ?_⟩, ?_⟩, hgr _, by simp⟩
    · exact (MapKept.heap_set h.blk).1
    · rw [List.map_append, List.nodup_append]
      refine ⟨h.nod, by simp, fun a ha b hb => ?_⟩
      simp at hb
      subst hb
      obtain ⟨q, hq, rfl⟩ := List.mem_map.1 ha
      exact h2 q hq
    · rw [List.map_append, List.nodup_append]
      refine ⟨h.born, by simp, fun a ha b hb => ?_⟩
      simp at hb
      subst hb
      obtain ⟨q, hq, rfl⟩ := List.mem_map.1 ha
      have := h.old q hq
      omega
    · intro q hq
      rw [List.mem_append, List.mem_singleton] at hq
      rcases hq with hq | rfl
      · have := h.old q hq; omega
      · exact Nat.lt_succ_self _
    · rw [List.map_append]
      refine List.perm_append_comm.trans ?_
      refine List.Perm.cons _ ?_
      have : M.filter (fun p => p.1 != x) = M := List.filter_eq_self.2 fun p hpm => by
        obtain ⟨q, hq, rfl⟩ := List.mem_map.1 (hp.mem_iff.2 hpm)
        simpa using h2 q hq
      rw [this]
      exact hp
  · have hj : j < L.length := (List.getElem?_eq_some_iff.1 h2).1
    have hjp : L[j] = p := by simpa [hj] using h2
    have hmod : (L.map entOf).modify j (fun e => { e with key := .int .i64 x, val := .agg #[.int .i64 v, .int .i64 t] }) = (L.set j ((x, v, t), p.2)).map entOf := by
      apply List.ext_getElem?
      intro i
      rw [List.getElem?_modify, List.getElem?_map, List.getElem?_map, List.getElem?_set]
      by_cases hij : j = i
      · subst hij
        simp [hj, hjp, entOf]
      · simp [hij]
    refine ⟨{ w with heap := w.heap.setIfInBounds g (.map ((L.set j ((x, v, t), p.2)).map entOf).toArray cl) }, ?_, ⟨L.set j ((x, v, t), p.2), cl, ⟨?_, ?_, ?_, ?_⟩, ?_⟩, hgr _, by simp⟩
    · rw [← hmod]
      simp [Instr.mapUpdate, run_underlying ht, MapKept.run_getObj_map h.blk, MapKept.run_checkKey hk (k := .int .i64 x) (by simp [MapKept.IsKey]), h1, hjp, hj, entOf, h3, MapKept.run_keyThatStays (d := .int .i64) (k := .int .i64 x) (by simp [MapKept.IsKey]), MapKept.run_setObj_map _ h.blk, Result.andThen]
    · exact (MapKept.heap_set h.blk).1
    · have : (L.set j ((x, v, t), p.2)).map (·.1.1) = L.map (·.1.1) := by
        rw [List.map_set]
        apply List.ext_getElem?
        intro i
        rw [List.getElem?_set, List.getElem?_map, List.length_map]
        by_cases hij : j = i
        · subst hij; simp [hj, hjp, h3]
        · simp [hij]
      rw [this]; exact h.nod
    · have : (L.set j ((x, v, t), p.2)).map (·.2) = L.map (·.2) := by
        rw [List.map_set]
        apply List.ext_getElem?
        intro i
        rw [List.getElem?_set, List.getElem?_map, List.length_map]
        by_cases hij : j = i
        · subst hij; simp [hj, hjp]
        · simp [hij]
      rw [this]; exact h.born
    · intro q hq
      rcases List.mem_or_eq_of_mem_set hq with hq | rfl
      · exact h.old q hq
      · exact h.old p (List.mem_of_getElem? h2)
    · have h4 := (set_erase (q := ((x, v, t), p.2)) hj).map (·.1)
      exact h4.trans ((erase_perm h.nod hp h2 h3).cons _)
/-- Deleted from. -/
theorem del_map {w : World} {g : Nat} {M : List Ent} (ty : TypeId) (h : MapAt w g M) (x : Int) :
    ∃ w', (Builtin.delete_ #[T, k] ty #[.map (some g), .int .i64 x]).run P w = .ok (.tuple #[]) w' ∧ MapAt w' g (M.filter fun p => p.1 != x) ∧ w.grownBy w' (some g) ∧ w'.heap.size = w.heap.size := by
  obtain ⟨L, cl, h, hp⟩ := h
  have hgr : ∀ o : Obj, w.grownBy { w with heap := w.heap.setIfInBounds g o } (some g) := fun o => ⟨rfl, rfl, rfl, by simp, fun i _ hi => (MapKept.heap_set h.blk).2 i (fun e => hi (by rw [e]))⟩
  rcases find_ent hk w x L with ⟨h1, h2⟩ | ⟨j, p, h1, h2, h3⟩
  · refine ⟨{ w with heap := w.heap.setIfInBounds g (.map (L.map entOf).toArray cl) }, by simp [Builtin.delete_, run_underlying ht, MapKept.run_getObj_map h.blk, MapKept.run_checkKey hk (k := .int .i64 x) (by simp [MapKept.IsKey]), h1, MapKept.run_setObj_map _ h.blk, Result.andThen], ⟨L, cl, ⟨(MapKept.heap_set h.blk).1, h.nod, h.born, h.old⟩, ?_⟩, hgr _, by simp⟩
    have : M.filter (fun p => p.1 != x) = M := List.filter_eq_self.2 fun p hpm => by
      obtain ⟨q, hq, rfl⟩ := List.mem_map.1 (hp.mem_iff.2 hpm)
      simpa using h2 q hq
    rw [this]
    exact hp
  · have hj : j < L.length := (List.getElem?_eq_some_iff.1 h2).1
    have her : ((L.map entOf).toArray.eraseIdxIfInBounds j) = ((L.eraseIdx j).map entOf).toArray := by
      unfold Array.eraseIdxIfInBounds
      rw [dif_pos (by simpa using hj)]
      simp [map_erase]
    have hsub := List.eraseIdx_sublist L j
    refine ⟨{ w with heap := w.heap.setIfInBounds g (.map ((L.eraseIdx j).map entOf).toArray cl) }, ?_, ⟨L.eraseIdx j, cl, ⟨(MapKept.heap_set h.blk).1, (hsub.map _).nodup h.nod, (hsub.map _).nodup h.born, fun q hq => h.old q (hsub.subset hq)⟩, erase_perm h.nod hp h2 h3⟩, hgr _, by simp⟩
    rw [← her]
    simp [Builtin.delete_, run_underlying ht, MapKept.run_getObj_map h.blk, MapKept.run_checkKey hk (k := .int .i64 x) (by simp [MapKept.IsKey]), h1, MapKept.run_setObj_map _ h.blk, Result.andThen]
omit hk in
theorem len_map {w : World} {g : Nat} {M : List Ent} (ty : TypeId) (h : MapAt w g M) : (Builtin.len_ #[T] ty #[.map (some g)]).run P w = .ok (.int .i64 M.length) w := by
  obtain ⟨L, cl, h, hp⟩ := h
  have := hp.length_eq
  simp at this
  simp [Builtin.len_, run_underlying ht, MapKept.run_getObj_map h.blk, Result.andThen, goInt, this]
end
end Go.Proofs.YticckfioggeaeaaGreatDoor
