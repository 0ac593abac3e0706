/-
  Counts in memory of the call's own; slices.DeleteFunc of those that are 0, by its contract.
-/
import Derived.Test.YtnpokcjdnlmheaaDoorHeavyIdx
namespace Go.Proofs.YtnpokcjdnlmheaaDoor
open Go.RowKit

/-- A slice value holds the counts L, at the head of a block from base on. -/
structure KAt (w : World) (base : Nat) (v : Value) (L : List (Int × Int)) : Prop where
  row : w.ownsRow base 60 2 v L.length (ints (flat L))

theorem KAt.nil (w : World) (base : Nat) : KAt w base (.slice none 0 0) [] := ⟨World.ownsRow_nil _ _ _ _⟩
/-- What it looks like. -/
theorem KAt.shape {w : World} {base : Nat} {v : Value} {L : List (Int × Int)} (h : KAt w base v L) :
    ∃ a g cap, v = .slice a L.length cap ∧ (0 < L.length → a = some ⟨g, 0, none⟩) ∧ ((a = none ∧ cap = 0 ∧ L = []) ∨ (a = some ⟨g, 0, none⟩ ∧ base ≤ g ∧ L.length ≤ cap ∧ cap ≤ maxLen ∧ ∃ rest, Blk w g 60 (ints (flat L) ++ rest) ∧ (ints (flat L) ++ rest).length = cap * 2)) := by
  obtain ⟨hl, ⟨rfl, hn⟩ | ⟨g, cap, cur, rfl, hb, hh, hc, hm, hs, ht⟩⟩ := h.row
  · have hL : L = [] := List.length_eq_zero_iff.1 hn
    subst hL
    exact ⟨none, 0, 0, rfl, fun h => by simp at h, .inl ⟨rfl, rfl, rfl⟩⟩
  · refine ⟨_, g, cap, rfl, fun _ => rfl, .inr ⟨rfl, hb, hc, hm, cur.toList.drop (L.length * 2), ?_, ?_⟩⟩
    · unfold Blk
      rw [← ht, List.take_append_drop]; simpa using hh
    · rw [← ht, List.take_append_drop]; simpa using hs
theorem KAt.mk_ {w : World} {base g cap : Nat} {L : List (Int × Int)} {rest : List Value} (hb : base ≤ g) (hc : L.length ≤ cap) (hm : cap ≤ maxLen) (h : Blk w g 60 (ints (flat L) ++ rest)) (hs : (ints (flat L) ++ rest).length = cap * 2) :
    KAt w base (.slice (some ⟨g, 0, none⟩) L.length cap) L := by
  refine ⟨by rw [ints_len, flat_len], .inr ⟨g, cap, (ints (flat L) ++ rest).toArray, rfl, hb, h, hc, hm, by simpa using hs, ?_⟩⟩
  rw [List.take_append_of_le_length (by rw [ints_len, flat_len]; exact Nat.le_refl _)]
  exact List.take_of_length_le (by rw [ints_len, flat_len]; exact Nat.le_refl _)
theorem blk_kin {w : World} {g : Nat} {t : TypeId} {L : List (Int × Int)} {rest : List Value} (h : Blk w g t (ints (flat L) ++ rest)) : KIn w g L := fun i x hx => by
  have hi : i < L.length := (List.getElem?_eq_some_iff.1 hx).1
  obtain ⟨h0, h1⟩ := flat_get L i x hx
  refine ⟨h.cell_ ?_, h.cell_ ?_⟩
  · rw [List.getElem?_append_left (by rw [ints_len, flat_len]; omega)]; exact ints_get h0
  · rw [List.getElem?_append_left (by rw [ints_len, flat_len]; omega)]; exact ints_get h1
theorem KAt.keepB {w w' : World} {base : Nat} {v : Value} {L : List (Int × Int)} (h : KAt w base v L) (hk : ∀ g, v.ownBlock = some g → w'.heap[g]? = w.heap[g]?) : KAt w' base v L := by
  obtain ⟨hl, h2⟩ := h.row
  refine ⟨hl, ?_⟩
  rcases h2 with h2 | ⟨g, cap, cur, e, hb, hh, r⟩
  · exact .inl h2
  · exact .inr ⟨g, cap, cur, e, hb, (hk g (by rw [e]; rfl)).trans hh, r⟩
theorem KAt.lt {w : World} {base : Nat} {v : Value} {L : List (Int × Int)} (h : KAt w base v L) (g : Nat) (hg : v.ownBlock = some g) : base ≤ g ∧ g < w.heap.size := World.ownsRow.lt h.row g hg
theorem KAt.keepF {w w' : World} {F : List Nat} {base : Nat} {v : Value} {L : List (Int × Int)} (h : KAt w base v L) (hk : Keep F w w') (hF : ∀ x ∈ F, x < base) : KAt w' base v L :=
  h.keepB fun g hg => hk.block g (h.lt g hg).2 (fun hm => by have := hF g hm; have := (h.lt g hg).1; omega)

/-- What is left of a list when zeros are taken out. -/
def nonz (L : List (Int × Int)) : List (Int × Int) := L.filter fun x => !(x.2 == 0)
theorem nonz_le (L : List (Int × Int)) : (nonz L).length ≤ L.length := List.length_filter_le _ _
theorem nonz_same {L : List (Int × Int)} (h : ∀ x ∈ L, (x.2 == 0) = false) : nonz L = L := by
  unfold nonz
  rw [List.filter_eq_self]
  intro x hx
  rw [h x hx]; rfl
theorem nonz_succ {L : List (Int × Int)} {k : Nat} (hk : k < L.length) : nonz (L.take (k + 1)) = if (L[k].2 == 0) = true then nonz (L.take k) else nonz (L.take k) ++ [L[k]] := by
  unfold nonz
  rw [List.take_succ_eq_append_getElem hk, List.filter_append]
  cases h : (L[k].2 == 0) <;> simp [h]
theorem nonz_head {L : List (Int × Int)} {i : Nat} (hi : i < L.length) (h0 : (L[i].2 == 0) = true) (h1 : ∀ j (hj : j < L.length), j < i → (L[j].2 == 0) = false) : nonz (L.take (i + 1)) = L.take i := by
  rw [nonz_succ hi, if_pos h0]
  refine nonz_same fun x hx => ?_
  obtain ⟨j, hj, rfl⟩ := List.getElem_of_mem hx
  rw [List.length_take] at hj
  rw [List.getElem_take]
  exact h1 j (by omega) (by omega)

/-- The state of the loop: i are kept, j are looked at; the rest is as it was. -/
def DelRel (w1 : World) (g cap : Nat) (L : List (Int × Int)) (i j : Value) (wr : World) : Prop :=
  ∃ (m k : Nat) (cs : List Value), k ≤ L.length ∧ m ≤ k ∧ m = (nonz (L.take k)).length ∧ i = .int .i64 m ∧ j = .int .i64 k ∧ Blk wr g 60 cs ∧ cs.length = cap * 2 ∧
    (∀ p x, (nonz (L.take k))[p]? = some x → cs[p * 2]? = some (.int .i64 x.1) ∧ cs[p * 2 + 1]? = some (.int .i64 x.2)) ∧
    (∀ p x, k ≤ p → L[p]? = some x → cs[p * 2]? = some (.int .i64 x.1) ∧ cs[p * 2 + 1]? = some (.int .i64 x.2)) ∧ Keep [g] w1 wr
end Go.Proofs.YtnpokcjdnlmheaaDoor
