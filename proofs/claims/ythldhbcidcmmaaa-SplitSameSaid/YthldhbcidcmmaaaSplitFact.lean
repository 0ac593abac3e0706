/-
  The law's closed fact on split.
-/
import Derived.Test.YthldhbcidcmmaaaSplit8
import Derived.Test.YthldhbcidcmmaaaSameInts
namespace Go.Proofs.Ythldhbcidcmmaaa
open Go.RowKit

theorem fact_dir : Dir [1, 2, 3, 4] [1, 2, 3, 4] 1 (fun _ => 1) where
  up := by unfold Up; decide
  pos := by decide
  le := fun _ => Nat.le_refl _
  top := ⟨0, rfl⟩
  same := fun _ _ _ => rfl
  few := fun i => by
    have h : (i : Int) % 2 ^ 1 = 0 ∨ (i : Int) % 2 ^ 1 = 1 := by simp; omega
    unfold cls
    rcases h with h | h <;> rw [h] <;> decide
  need := fun i _ => by
    have h : (i : Int) % 2 ^ (1 - 1) = 0 := by simp
    unfold cls
    rw [h]; decide
theorem fact_open {O : Nat → Prop} {w : World} {t : Nat} (h : Tab O w t [1, 2, 3, 4]) : ∃ deep, TabD O w t [1, 2, 3, 4] 1 deep ∧ deep 1 = 1 := by
  obtain ⟨D, deep, h1, h2, _⟩ := h.open_
  obtain rfl := h2.depth_eq fact_dir
  exact ⟨deep, h1, h2.deep_eq fact_dir 1⟩

set_option maxHeartbeats 1000000 in
set_option maxRecDepth 100000 in
theorem splitFact_any (w : World) : Calls Try.prog 19 #[] w fun e w' => e = .returned (.bool true) ∧ Below w.heap.size w w' := by
  have hin : ∀ (wx : World) (x y : Int), IntsIn (wx.alloc (.cells #[.int .i64 x, .int .i64 y] 3)) (wx.alloc (.cells #[.int .i64 x, .int .i64 y] 3)).heap.size (some ⟨wx.heap.size, 0, none⟩) [x, y] := fun wx x y _ =>
    ⟨wx.heap.size, 0, rfl, by simp, fun i z hx => by
      have := (Blk.new wx 3 (ints [x, y])).cell i
      rw [Nat.zero_add]
      exact this.trans (ints_get hx)⟩
  have HIN := Lib.hid hin; clear hin
  go_enter Try.func19, Try.ntmps19
  go_wp2_with fail
  refine (tNew_any _).mono ?_
  rintro e w1 ⟨t, rfl, h1, hb1⟩
  have H1 := Lib.hid h1; have HB1 := Lib.hid hb1
  clear h1 hb1
  go_wp2_with fail
  refine (tAdd_yes 1 H1.out (by decide)).mono ?_
  rintro e w2 ⟨rfl, h2, k2⟩
  have H2 := Lib.hid h2; have K2 := Lib.hid k2
  clear h2 k2
  go_wp2_with fail
  refine (tAdd_yes 2 H2.out (by decide)).mono ?_
  rintro e w3 ⟨rfl, h3, k3⟩
  have H3 := Lib.hid h3; have K3 := Lib.hid (K2.out.trans k3)
  clear h3 k3
  go_wp2_with fail
  refine (tAdd_yes 3 H3.out (by decide)).mono ?_
  rintro e w4 ⟨rfl, h4, k4⟩
  have H4 := Lib.hid h4; have K4 := Lib.hid (K3.out.trans k4)
  clear h4 k4
  go_wp2_with fail
  refine (tAdd_yes 4 H4.out (by decide)).mono ?_
  rintro e w5 ⟨rfl, h5, k5⟩
  obtain ⟨deep, h6, h7⟩ := fact_open h5
  have H5 := Lib.hid h6; have HD := Lib.hid h7
  have HB5 : Hid (Below w.heap.size w w5) := Lib.hid (HB1.out.trans ((K4.out.trans k5).toBelow HB1.out.size (fun x hx h => by omega)))
  clear h5 h6 h7 k5
  go_wp2_with fail
  refine (H5.out.page 1 (by decide)).mono ?_
  rintro e w6 ⟨a6, c6, rfl, hown6, hb6⟩
  rw [HD.out, show cls [1, 2, 3, 4] ((1 : Nat) : Int) 1 = [1, 3] by decide] at hown6 ⊢
  have H6 := Lib.hid (H5.out.bel hb6)
  have HB6 : Hid (Below w.heap.size w w6) := Lib.hid (HB5.out.trans (hb6.mono HB5.out.size))
  obtain ⟨a7, c7, e7, hin7⟩ := hown6.shape
  have hin8 : IntsIn w6 w6.heap.size a6 [1, 3] := by
    simp only [Value.slice.injEq] at e7
    rw [e7.1]; exact hin7
  have HI8 := Lib.hid hin8
  clear hown6 hb6 e7 hin7 hin8
  go_wp2_with fail
  refine H6.out.depth.mono ?_
  rintro e w7 ⟨rfl, rfl⟩
  go_wp2_with fail
  refine (ints_same _ _ 2 _ _ _ _ [1, 3] _ rfl (HI8.out.below ((Below.refl _ _).alloc (Nat.le_refl _) _)) (HIN.out _ 1 3) (by decide)).mono ?_
  rintro e w8 ⟨rfl, q, rfl⟩
  go_wp2
  go_ret
  exact ⟨rfl, HB6.out.trans ((((Keep.refl [] _).alloc _).drewN q).below HB6.out.size (by simp))⟩
end Go.Proofs.Ythldhbcidcmmaaa
