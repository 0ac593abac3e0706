/-
  book.keys: what its loop has collected.
-/
import Derived.Test.YticckfioggeaeaaGreatDoorBookSort
namespace Go.Proofs.YticckfioggeaeaaGreatDoor
open Go.RowKit

theorem taken_step {M left left' taken : List Ent} {x : Ent} (h : (taken ++ left).Perm M) (hx : left.Perm (x :: left')) : (taken ++ [x] ++ left').Perm M := by
  rw [List.append_assoc]
  exact ((List.Perm.refl taken).append hx.symm).trans h
/-- The keys by falling turns are the model's. -/
theorem sorted_keys {M : List Ent} (hn : (M.map (·.1)).Nodup) (hs : M.Pairwise fun p q => q.2.2 < p.2.2) {xs : List Int} (hp : xs.Perm (M.map (·.1))) (ho : SortedTo (turnOf M) xs xs.length) : xs = M.map (·.1) := by
  have h1 : xs.Pairwise fun a b => turnOf M b ≤ turnOf M a := by
    rw [List.pairwise_iff_getElem]
    intro i j hi hj hij
    exact ho i j hi hj hij hj
  have h2 : (M.map (·.1)).Pairwise fun a b => turnOf M b < turnOf M a := by
    rw [List.pairwise_map]
    exact hs.imp_of_mem fun {p q} hp hq h => by rw [turnOf_mem hn hp, turnOf_mem hn hq]; exact h
  have h3 : (M.map (·.1)).Pairwise fun a b => turnOf M b ≤ turnOf M a := h2.imp fun h => Int.le_of_lt h
  have hinj : ∀ a b, a ∈ M.map (·.1) → b ∈ M.map (·.1) → turnOf M a = turnOf M b → a = b := by
    intro a b ha hb he
    obtain ⟨i, hi, rfl⟩ := List.getElem_of_mem ha
    obtain ⟨j, hj, rfl⟩ := List.getElem_of_mem hb
    rcases Nat.lt_trichotomy i j with h | h | h
    · have := List.pairwise_iff_getElem.1 h2 i j hi hj h; omega
    · subst h; rfl
    · have := List.pairwise_iff_getElem.1 h2 j i hj hi h; omega
  exact List.Perm.eq_of_pairwise (fun a b ha hb h4 h5 => hinj a b (hp.mem_iff.1 ha) hb (Int.le_antisymm h5 h4)) h1 h3 hp
end Go.Proofs.YticckfioggeaeaaGreatDoor
