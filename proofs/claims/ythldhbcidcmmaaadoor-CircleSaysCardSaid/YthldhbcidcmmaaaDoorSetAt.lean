/-
  A cell of a row of the call's own, set.
-/
import Derived.Test.YthldhbcidcmmaaaDoorAppend
namespace Go.Proofs.YthldhbcidcmmaaaDoor
open Go.RowKit

theorem OwnInts.setAt {w : World} {base : Nat} {v : Value} {l : List Int} {i : Nat} (h : OwnInts w base v l) (hi : i < l.length) :
    ∃ g cap, v = .slice (some ⟨g, 0, none⟩) l.length cap ∧ base ≤ g ∧ g < w.heap.size ∧ w.cell? ⟨g, i, none⟩ = some (.int .i64 l[i]) ∧ w.frozen? ⟨g, i, none⟩ = false ∧
      ∀ x : Int, OwnInts (w.setCell ⟨g, i, none⟩ (.int .i64 x)) base v (l.set i x) := by
  obtain ⟨hl, ⟨rfl, hn⟩ | ⟨g, cap, cur, rfl, hb, hh, hc, hm, hs, ht⟩⟩ := h
  · omega
  · have hblk : Blk w g 3 cur.toList := by unfold Blk; simpa using hh
    have hci : cur.toList[i]? = some (.int .i64 l[i]) := by
      have h1 : (cur.toList.take (l.length * 1))[i]? = (ints l)[i]? := by rw [ht]
      rw [List.getElem?_take_of_lt (by omega)] at h1
      rw [h1]; exact ints_get (List.getElem?_eq_getElem hi)
    refine ⟨g, cap, rfl, hb, hblk.lt, hblk.cell_ hci, hblk.free i, fun x => ?_⟩
    have h2 := hblk.set i (.int .i64 x)
    unfold OwnInts
    rw [List.length_set]
    refine ⟨by rw [ints_len, List.length_set]; omega, .inr ⟨g, cap, (cur.toList.set i (.int .i64 x)).toArray, rfl, hb, h2, hc, hm, by simpa using hs, ?_⟩⟩
    rw [List.take_set, ht]
    exact ints_set l i x

end Go.Proofs.YthldhbcidcmmaaaDoor
