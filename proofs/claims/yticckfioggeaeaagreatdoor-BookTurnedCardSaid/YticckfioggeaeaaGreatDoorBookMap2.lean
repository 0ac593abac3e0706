/-
  A map of entries ranged over; its operations where the walk stands.
-/
import Derived.Test.YticckfioggeaeaaGreatDoorBookMap
namespace Go.Proofs.YticckfioggeaeaaGreatDoor
open Go.RowKit
open Go.ChangeMaps (setBlock)

theorem pick_perm {α β : Type} [BEq β] [LawfulBEq β] (f : α → β) {A : List α} {p : α} (hn : (A.map f).Nodup) (hp : p ∈ A) : A.Perm (p :: A.filter fun q => f q != f p) := by
  obtain ⟨j, hj, hjp⟩ := List.getElem_of_mem hp
  have h4 : (p :: A.eraseIdx j).Perm A := cons_erase (by rw [List.getElem?_eq_getElem hj, hjp])
  have h6 := h4.filter (fun q : α => f q != f p)
  rw [List.filter_cons, if_neg (by simp)] at h6
  have h7 := (h4.map f).nodup_iff.2 hn
  rw [List.map_cons, List.nodup_cons] at h7
  have h8 : (A.eraseIdx j).filter (fun q : α => f q != f p) = A.eraseIdx j := List.filter_eq_self.2 fun q hq => by
    have : f q ≠ f p := fun e => h7.1 (by rw [← e]; exact List.mem_map.2 ⟨q, hq, rfl⟩)
    simpa using this
  rw [h8] at h6
  exact h4.symm.trans (h6.cons p)
def notSeen (seen : Array Nat) (p : Ent × Nat) : Bool := !seen.contains p.2
def RangeAt (w : World) (g r : Nat) (M left : List Ent) : Prop :=
  ∃ L clock seen, MapL w g L clock ∧ (L.map (·.1)).Perm M ∧ w.heap[r]? = some (.mapIter (some g) clock seen clock) ∧ ((L.filter (notSeen seen)).map (·.1)).Perm left ∧ r ≠ g
theorem RangeAt.map {w : World} {g r : Nat} {M left : List Ent} (h : RangeAt w g r M left) : MapAt w g M := by
  obtain ⟨L, c, s, h1, h2, _⟩ := h
  exact ⟨L, c, h1, h2⟩
theorem RangeAt.lt {w : World} {g r : Nat} {M left : List Ent} (h : RangeAt w g r M left) : g < w.heap.size ∧ r < w.heap.size := by
  obtain ⟨L, c, s, h1, h2, h3, _⟩ := h
  exact ⟨h1.lt, (Array.getElem?_eq_some_iff.1 h3).1⟩
theorem RangeAt.keep {w w' : World} {g r : Nat} {M left : List Ent} (h : RangeAt w g r M left) (hg : w'.heap[g]? = w.heap[g]?) (hr : w'.heap[r]? = w.heap[r]?) : RangeAt w' g r M left := by
  obtain ⟨L, c, s, h1, h2, h3, h4⟩ := h
  exact ⟨L, c, s, ⟨hg.trans h1.blk, h1.nod, h1.born, h1.old⟩, h2, hr.trans h3, h4⟩
theorem leftOf_ent (L : List (Ent × Nat)) (seen : Array Nat) : leftOf (L.map entOf).toArray seen = ((L.filter (notSeen seen)).map entOf).toArray := by
  unfold leftOf
  simp only [List.filter_toArray, List.filter_map]
  rfl
theorem range_map {P : Program} {T k e : TypeId} (ht : P.underlying T = some (.map k e)) {w : World} {g : Nat} {M : List Ent} (h : MapAt w g M) :
    ∃ w', (Instr.range T (.map (some g))).run P w = .ok (.pointer (some ⟨w.heap.size, 0, none⟩)) w' ∧ RangeAt w' g w.heap.size M M ∧ w.grownBy w' none ∧ w'.heap.size = w.heap.size + 1 := by
  have hlt := h.lt
  obtain ⟨L, c, h1, h2⟩ := h
  refine ⟨_, run_range_map w T k e g _ c ht h1.blk, ⟨L, c, #[], ⟨((MapKept.heap_alloc w _).2 g hlt).trans h1.blk, h1.nod, h1.born, h1.old⟩, h2, (MapKept.heap_alloc w _).1, ?_, by omega⟩, World.grownBy_alloc w _ none, by simp⟩
  have : L.filter (notSeen #[]) = L := List.filter_eq_self.2 fun p _ => by simp [notSeen]
  rw [this]
  exact h2
theorem next_map {P : Program} (ty : TypeId) {w : World} {g r : Nat} {M left : List Ent} (h : RangeAt w g r M left) :
    (left = [] ∧ (Instr.next (.pointer (some ⟨r, 0, none⟩)) false ty).run P w = .ok (.tuple #[.bool false]) w) ∨
    ∃ x left' w', left.Perm (x :: left') ∧ (Instr.next (.pointer (some ⟨r, 0, none⟩)) false ty).run P w = .ok (.tuple #[.bool true, .int .i64 x.1, .agg #[.int .i64 x.2.1, .int .i64 x.2.2]]) w' ∧ RangeAt w' g r M left' ∧ w.grownBy w' (some r) ∧ w'.heap.size = w.heap.size ∧
      (Instr.entry (.pointer (some ⟨r, 0, none⟩))).run P w' = .ok (.tuple #[.int .i64 x.1, .agg #[.int .i64 x.2.1, .int .i64 x.2.2]]) w' := by
  obtain ⟨L, c, s, h1, h2, h3, h4, hne⟩ := h
  rcases run_next_at (P := P) w ty r g c c s _ c h3 h1.blk (by intro y hy; simp only [List.mem_map] at hy; obtain ⟨p, hp, rfl⟩ := hy; exact h1.old p hp) (Nat.le_refl _) with ⟨h0, hrun⟩ | ⟨e, he, w1, hal, hrun⟩
  · left
    rw [leftOf_ent] at h0
    simp only [List.size_toArray, List.length_map] at h0
    have : L.filter (notSeen s) = [] := List.length_eq_zero_iff.1 h0
    rw [this] at h4
    exact ⟨List.Perm.nil_eq h4 |>.symm, hrun⟩
  · right
    rw [leftOf_ent] at he
    simp only [List.mem_map] at he
    obtain ⟨p, hp, rfl⟩ := he
    have hr1 : w1.heap[r]? = some (.mapIter (some g) c s c) := by rcases hal with rfl | rfl <;> exact h3
    have hb1 : w1.heap[g]? = some (.map (L.map entOf).toArray c) := by rcases hal with rfl | rfl <;> exact h1.blk
    have hset := MapKept.heap_set (o' := .mapIter (some g) c (s.push p.2) c) hr1
    have hb' := (hset.2 g (fun e1 => hne e1.symm)).trans hb1
    have hpL : p ∈ L := (List.mem_filter.1 hp).1
    have hf : L.filter (notSeen (s.push p.2)) = (L.filter (notSeen s)).filter fun q => q.2 != p.2 := by
      rw [List.filter_filter]
      apply List.filter_congr
      intro q _
      simp only [notSeen, Array.contains_push]
      cases s.contains q.2 <;> cases hq : (q.2 == p.2) <;> simp_all
    refine ⟨p.1, ((L.filter (notSeen (s.push p.2))).map (·.1)), _, ?_, hrun, ⟨L, c, s.push p.2, ⟨hb', h1.nod, h1.born, h1.old⟩, h2, hset.1, List.Perm.refl _, hne⟩, ?_, ?_, run_entry_at _ r g c s _ c (entOf p) hset.1 hb' (by simp only [List.mem_map]; exact ⟨p, hpL, rfl⟩) (by simp only [List.map_map]; exact h1.born)⟩
    · rw [hf]
      have := (pick_perm (·.2) (A := L.filter (notSeen s)) (((List.filter_sublist).map _).nodup h1.born) hp).map (·.1)
      rw [List.map_cons] at this
      exact h4.symm.trans this
    · rcases hal with rfl | rfl <;> exact ⟨rfl, rfl, rfl, by simp [setBlock], fun i _ hi => hset.2 i (fun e1 => hi (by rw [e1]))⟩
    · rcases hal with rfl | rfl <;> simp [setBlock]
end Go.Proofs.YticckfioggeaeaaGreatDoor
