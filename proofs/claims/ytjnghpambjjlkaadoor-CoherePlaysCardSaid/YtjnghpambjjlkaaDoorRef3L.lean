/-
  A list in a block that is never written again; the reference's set over it.
-/
import Derived.Test.YtjnghpambjjlkaaDoorRef3
import Derived.Test.YtjnghpambjjlkaaDoorRef3In
namespace Go.Proofs.YtjnghpambjjlkaaDoor
open Go.RowKit

/-- Block g holds the numbers l, N of them, at its head. -/
structure LS (w : World) (g N : Nat) (l : List Int) : Prop where
  len : l.length = N
  blk : ∃ cs, Blk w g 3 cs ∧ ∀ (i : Nat) (x : Int), l[i]? = some x → cs[i]? = some (.int .i64 x)
section
variable {w w' : World} {g N h : Nat} {l : List Int} {t : TypeId} {cs : List Value} {F : List Nat}
theorem LS.lt (h : LS w g N l) : g < w.heap.size := by obtain ⟨cs, hb, _⟩ := h.blk; exact hb.lt
theorem LS.cell (h : LS w g N l) {i : Nat} (hi : i < N) : w.cell? ⟨g, i, none⟩ = some (.int .i64 (l.getD i 0)) := by
  obtain ⟨cs, hb, hc⟩ := h.blk
  have hl : i < l.length := by rw [h.len]; exact hi
  refine hb.cell_ (hc i _ ?_)
  rw [List.getElem?_eq_getElem hl, List.getD, List.getElem?_eq_getElem hl]; rfl
theorem LS.toIn (h : LS w g N l) : IntsIn w w.heap.size (some ⟨g, 0, none⟩) l := fun _ => by
  obtain ⟨cs, hb, hc⟩ := h.blk
  exact ⟨g, 0, rfl, hb.lt, fun i x hx => by rw [Nat.zero_add]; exact hb.cell_ (hc i x hx)⟩
theorem LS.keepN (h : LS w g N l) (hk : Keep F w w') (hF : g ∉ F) : LS w' g N l := by
  obtain ⟨cs, hb, hc⟩ := h.blk
  exact ⟨h.len, cs, hb.keep hk hF, hc⟩
theorem LS.ne (h : LS w g N l) {b : Nat} (hb : Blk w b t cs) (ht : 3 ≠ t) : g ≠ b := by
  obtain ⟨ds, hd, _⟩ := h.blk
  exact hd.ne hb ht
theorem LS.keep0 (h : LS w g N l) (hk : Keep [] w w') : LS w' g N l := h.keepN hk (by simp)
theorem LS.keep1 (h : LS w g N l) {b : Nat} (hk : Keep [b] w w') (hb : Blk w b t cs) (ht : 3 ≠ t) : LS w' g N l := h.keepN hk (by simpa using h.ne hb ht)
theorem LS.of_own {base : Nat} {v : Value} (h : OwnInts w base v l) (h0 : 0 < l.length) : ∃ g cap, v = .slice (some ⟨g, 0, none⟩) l.length cap ∧ LS w g l.length l ∧ base ≤ g := by
  obtain ⟨hl, ⟨rfl, hn⟩ | ⟨g, cap, cur, rfl, hb, hh, hc, hm, hs, ht⟩⟩ := h
  · omega
  · refine ⟨g, cap, rfl, ⟨rfl, cur.toList, by unfold Blk; simpa using hh, fun i x hx => ?_⟩, hb⟩
    have hi : i < l.length := (List.getElem?_eq_some_iff.1 hx).1
    have h2 : (cur.toList.take (l.length * 1))[i]? = (ints l)[i]? := by rw [ht]
    rw [List.getElem?_take_of_lt (by omega)] at h2
    rw [h2]; exact ints_get hx
theorem LS.new (w : World) (l : List Int) : LS (w.alloc (.cells (ints l).toArray 3)) w.heap.size l.length l := ⟨rfl, _, Blk.new _ _ _, fun _ _ hx => ints_get hx⟩
end

def SetL (w : World) (N : Nat) (l : List Int) (i : Nat) (x : Int) (e : Ending) (w' : World) : Prop := ∃ g cap, e = .returned (.slice (some ⟨g, 0, none⟩) N cap) ∧ LS w' g N (l.set i x) ∧ w.heap.size ≤ g ∧ Below w.heap.size w w'
theorem kSetL (g N c : Nat) (l : List Int) (i : Nat) (x : Int) (w : World) (h : LS w g N l) (hi : i < N) (hn : N ≤ 1000) :
    Calls Tryd.prog 48 #[.slice (some ⟨g, 0, none⟩) N c, .int .i64 i, .int .i64 x] w (SetL w N l i x) := by
  refine (kSet _ N c _ l i x w h.len h.toIn (by simp) hi hn).mono ?_
  rintro e w' ⟨v, rfl, ho, hb⟩
  obtain ⟨g', cap', rfl, hs, hg⟩ := LS.of_own ho (by rw [List.length_set, h.len]; omega)
  rw [List.length_set, h.len] at hs ⊢
  exact ⟨g', cap', rfl, hs, hg, hb⟩
end Go.Proofs.YtjnghpambjjlkaaDoor
