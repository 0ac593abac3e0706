/-
  The reference's nests: how they lie in memory; InNest, DropNest, by their contracts.
-/
import Derived.Test.YtjnghpambjjlkaaDoorRef3
import Derived.Test.YtjnghpambjjlkaaDoorRef3In
import Derived.Test.YtjnghpambjjlkaaDoorCuckooTwoOps
import Derived.Deep.AppendLies
namespace Go.Proofs.YtjnghpambjjlkaaDoor
open Go.RowKit

def rowV (c : List Int) (r : Nat) : List Int := (rowC c r).map (· - 1)
theorem rowV_get {c : List Int} {r i : Nat} (hl : c.length = 22) (hr : r < 2) (hi : i < 11) : (rowV c r)[i]? = some (c.getD (r * 11 + i) 0 - 1) := by
  unfold rowV; rw [List.getElem?_map, rowC_get hl hr hi]; rfl
theorem rowV_len {c : List Int} {r : Nat} (hl : c.length = 22) (hr : r < 2) : (rowV c r).length = 11 := by
  unfold rowV rowC; simp; omega
theorem rowV_set {c : List Int} {r p : Nat} {x : Int} (hl : c.length = 22) (hr : r < 2) (hp : p < 11) : rowV (c.set (r * 11 + p) x) r = (rowV c r).set p (x - 1) := by
  apply List.ext_getElem?
  intro j
  by_cases hj : j < 11
  · rw [rowV_get (by simpa using hl) hr hj, getD_set (by omega), List.getElem?_set]
    by_cases e : p = j
    · subst e; rw [if_pos rfl, if_pos rfl, if_pos (by rw [rowV_len hl hr]; exact hj)]
    · rw [if_neg (by omega), if_neg e, rowV_get hl hr hj]
  · rw [List.getElem?_eq_none (by rw [rowV_len (by simpa using hl) hr]; omega), List.getElem?_eq_none (by rw [List.length_set, rowV_len hl hr]; omega)]
theorem rowV_other {c : List Int} {r s p : Nat} {x : Int} (hl : c.length = 22) (hr : r < 2) (hs : s < 2) (hp : p < 11) (hne : r ≠ s) : rowV (c.set (r * 11 + p) x) s = rowV c s := by
  apply List.ext_getElem?
  intro j
  by_cases hj : j < 11
  · rw [rowV_get (by simpa using hl) hs hj, rowV_get hl hs hj, getD_set (by omega), if_neg (by omega)]
  · rw [List.getElem?_eq_none (by rw [rowV_len (by simpa using hl) hs]; omega), List.getElem?_eq_none (by rw [rowV_len hl hs]; omega)]

/-- The reference's nests: two rows of the call's own. -/
structure KN (w : World) (base : Nat) (c : List Int) (gA cA gB cB : Nat) : Prop where
  A : OwnInts w base (.slice (some ⟨gA, 0, none⟩) 11 cA) (rowV c 0)
  B : OwnInts w base (.slice (some ⟨gB, 0, none⟩) 11 cB) (rowV c 1)
  len : c.length = 22

theorem OwnInts.keepF {w w' : World} {F : List Nat} {base : Nat} {v : Value} {l : List Int} (h : OwnInts w base v l) (hk : Keep F w w') (hF : ∀ x ∈ F, x < base) : OwnInts w' base v l :=
  h.keep fun g hg => hk.block g (World.ownsRow.lt h g hg).2 (fun hm => by have := hF g hm; have := (World.ownsRow.lt h g hg).1; omega)
theorem OwnInts.cellAt {w : World} {base g n cap : Nat} {l : List Int} (h : OwnInts w base (.slice (some ⟨g, 0, none⟩) n cap) l) {i : Nat} {x : Int} (hx : l[i]? = some x) : g < w.heap.size ∧ base ≤ g ∧ w.cell? ⟨g, i, none⟩ = some (.int .i64 x) := by
  obtain ⟨hi, e⟩ := List.getElem?_eq_some_iff.1 hx
  obtain ⟨g', cap', e', hb, hlt, hc, _⟩ := h.setAt hi
  cases e'
  exact ⟨hlt, hb, by rw [hc, e]⟩
section
variable {w w' : World} {base : Nat} {c : List Int} {gA cA gB cB : Nat}
theorem KN.keepF {F : List Nat} (h : KN w base c gA cA gB cB) (hk : Keep F w w') (hF : ∀ x ∈ F, x < base) : KN w' base c gA cA gB cB := ⟨h.A.keepF hk hF, h.B.keepF hk hF, h.len⟩
theorem KN.atA {i : Nat} (h : KN w base c gA cA gB cB) (hi : i < 11) : w.cell? ⟨gA, i, none⟩ = some (.int .i64 (c.getD i 0 - 1)) := by
  have := (h.A.cellAt (rowV_get h.len (by decide) hi)).2.2
  rwa [show 0 * 11 + i = i by omega] at this
theorem KN.atB {i : Nat} (h : KN w base c gA cA gB cB) (hi : i < 11) : w.cell? ⟨gB, i, none⟩ = some (.int .i64 (c.getD (11 + i) 0 - 1)) := by
  have := (h.B.cellAt (rowV_get h.len (by decide) hi)).2.2
  rwa [show 1 * 11 + i = 11 + i by omega] at this
theorem KN.gA_lt (h : KN w base c gA cA gB cB) : gA < w.heap.size ∧ base ≤ gA := ⟨(h.A.cellAt (rowV_get (i := 0) h.len (by decide) (by decide))).1, (h.A.cellAt (rowV_get (i := 0) h.len (by decide) (by decide))).2.1⟩
theorem KN.gB_lt (h : KN w base c gA cA gB cB) : gB < w.heap.size ∧ base ≤ gB := ⟨(h.B.cellAt (rowV_get (i := 0) h.len (by decide) (by decide))).1, (h.B.cellAt (rowV_get (i := 0) h.len (by decide) (by decide))).2.1⟩
end

/-- set, of a row of the call's own that has 11. -/
def Set11 (w : World) (l : List Int) (i : Nat) (x : Int) (e : Ending) (w' : World) : Prop := ∃ g cap, e = .returned (.slice (some ⟨g, 0, none⟩) 11 cap) ∧ OwnInts w' w.heap.size (.slice (some ⟨g, 0, none⟩) 11 cap) (l.set i x) ∧ g < w'.heap.size ∧ w.heap.size ≤ g ∧ Below w.heap.size w w'
theorem kSet11 (g cap base : Nat) (l : List Int) (i : Nat) (x : Int) (w : World) (hl : l.length = 11) (h : OwnInts w base (.slice (some ⟨g, 0, none⟩) 11 cap) l) (hi : i < 11) :
    Calls Tryd.prog 48 #[.slice (some ⟨g, 0, none⟩) 11 cap, .int .i64 i, .int .i64 x] w (Set11 w l i x) := by
  have hin : IntsIn w w.heap.size (some ⟨g, 0, none⟩) l := fun h0 => ⟨g, 0, rfl, (h.cellAt (List.getElem?_eq_getElem h0)).1, fun j y hy => by rw [Nat.zero_add]; exact (h.cellAt hy).2.2⟩
  refine (kSet _ 11 cap _ l i x w hl hin (by simp) hi (by decide)).mono ?_
  rintro e w' ⟨v, rfl, ho, hb2⟩
  obtain ⟨g', cap', rfl, hg1, hg2, _⟩ := ho.setAt (i := 0) (by rw [List.length_set]; omega)
  rw [List.length_set, hl] at ho ⊢
  exact ⟨g', cap', rfl, ho, hg2, hg1, hb2⟩
theorem OwnInts.keepN {w w' : World} {F : List Nat} {base g n cap : Nat} {l : List Int} (h : OwnInts w base (.slice (some ⟨g, 0, none⟩) n cap) l) (hk : Keep F w w') (hg : g < w.heap.size) (hF : g ∉ F) : OwnInts w' base (.slice (some ⟨g, 0, none⟩) n cap) l :=
  h.keep fun g' hg' => by cases hg'; exact hk.block g hg hF

theorem kInNest (gA cA gB cB base : Nat) (c : List Int) (x : Int) (w : World) (h : KN w base c gA cA gB cB) (hx : -9223372036854775808 ≤ x ∧ x ≤ 9223372036854775807) :
    Calls Tryd.prog 19 #[.agg #[.slice (some ⟨gA, 0, none⟩) 11 cA, .slice (some ⟨gB, 0, none⟩) 11 cB], .int .i64 x] w fun e w' => e = .returned (.bool (hasI c x)) ∧ Below w.heap.size w w' := by
  have hbel : Below w.heap.size w (w.alloc (.cells #[.slice (some ⟨gA, 0, none⟩) 11 cA, .slice (some ⟨gB, 0, none⟩) 11 cB] 35)) := (Below.refl _ _).alloc (Nat.le_refl _) _
  have HBEL := Lib.hid hbel; clear hbel
  by_cases h0 : 0 ≤ x
  · obtain ⟨k, rfl⟩ := Int.eq_ofNat_of_zero_le h0
    obtain ⟨p, hp⟩ : ∃ p, p = k % 11 := ⟨_, rfl⟩
    obtain ⟨q, hq⟩ : ∃ q, q = k / 11 % 11 := ⟨_, rfl⟩
    have hp11 : p < 11 := by omega
    have hq11 : q < 11 := by omega
    have hpi : (k : Int) % 11 = (p : Int) := by omega
    have hqi : (k : Int) / 11 % 11 = (q : Int) := by omega
    have hp1 : (p : Int) < 11 := by omega
    have hp0 : (0 : Int) ≤ (p : Int) := by omega
    have hq1 : (q : Int) < 11 := by omega
    have hq0 : (0 : Int) ≤ (q : Int) := by omega
    have hA := (h.atA hp11)
    have hB := (h.atB hq11)
    have hA2 : (w.alloc (.cells #[.slice (some ⟨gA, 0, none⟩) 11 cA, .slice (some ⟨gB, 0, none⟩) 11 cB] 35)).cell? ⟨gA, p, none⟩ = some (.int .i64 (c.getD p 0 - 1)) := by rw [World.cell?_alloc_lt _ _ ⟨gA, p, none⟩ h.gA_lt.1]; exact hA
    have hB2 : (w.alloc (.cells #[.slice (some ⟨gA, 0, none⟩) 11 cA, .slice (some ⟨gB, 0, none⟩) 11 cB] 35)).cell? ⟨gB, q, none⟩ = some (.int .i64 (c.getD (11 + q) 0 - 1)) := by rw [World.cell?_alloc_lt _ _ ⟨gB, q, none⟩ h.gB_lt.1]; exact hB
    have hs0 : spot k 0 = p := by rw [hp]; unfold spot nst; simp
    have hs1 : spot k 1 = 11 + q := by rw [hq]; unfold spot nst; simp
    have hh : hasI c (k : Int) = (decide (c.getD p 0 - 1 = (k : Int)) || decide (c.getD (11 + q) 0 - 1 = (k : Int))) := by
      unfold hasI
      rw [show ((k : Int)).toNat = k by omega, hs0, hs1, show decide ((0 : Int) ≤ (k : Int)) = true by simp, Bool.true_and]
      congr 1
      · rw [decide_eq_decide]; omega
      · rw [decide_eq_decide]; omega
    obtain ⟨y, hy⟩ : ∃ y, y = c.getD p 0 - 1 := ⟨_, rfl⟩
    obtain ⟨z, hz⟩ : ∃ z, z = c.getD (11 + q) 0 - 1 := ⟨_, rfl⟩
    rw [← hy] at hA2 hh
    rw [← hz] at hB2 hh
    have HH := Lib.hid hh
    clear hA hB hh hs0 hs1 hp hq hy hz h
    by_cases e1 : y = (k : Int)
    · subst e1
      go_enter Tryd.func19, Tryd.ntmps19
      go_wp2
      go_ret
      exact ⟨ret_bool (by rw [HH.out]; simp), HBEL.out⟩
    · go_enter Tryd.func19, Tryd.ntmps19
      go_wp2
      go_ret
      exact ⟨ret_bool (by rw [HH.out]; by_cases h5 : z = (k : Int) <;> simp [e1, h5]), HBEL.out⟩
  · have hh : hasI c x = false := by unfold hasI; rw [show decide ((0 : Int) ≤ x) = false by simpa using h0]; rfl
    have HH := Lib.hid hh; clear hh
    have h0' : x < 0 := by omega
    go_enter Tryd.func19, Tryd.ntmps19
    go_wp2
    go_ret
    exact ⟨ret_bool HH.out.symm, HBEL.out⟩

end Go.Proofs.YtjnghpambjjlkaaDoor
