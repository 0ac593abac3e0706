/-
  The circle's closed fact, by its contract.
-/
import Derived.Test.YthldhbcidcmmaaaCircle4
namespace Go.Proofs.Ythldhbcidcmmaaa
open Go.RowKit

theorem good2 : Good [10, 20] := ⟨by decide, fun x hx => by simp at hx; omega, by decide⟩
theorem own12 : ownO (plc 12) [10, 20] = 20 := by decide
theorem own25 : ownO (plc 25) [10, 20] = 10 := by decide
theorem shares2 : shares [10, 20] 1000 = [930, 70] := by decide +kernel

set_option maxHeartbeats 1000000 in
set_option maxRecDepth 100000 in
theorem circleFact_any (w : World) : Calls Try.prog 11 #[] w fun e w' => e = .returned (.bool true) ∧ Below w.heap.size w w' := by
  have hin : ∀ (wx : World) (x y : Int), IntsIn (wx.alloc (.cells #[.int .i64 x, .int .i64 y] 3)) (wx.alloc (.cells #[.int .i64 x, .int .i64 y] 3)).heap.size (some ⟨wx.heap.size, 0, none⟩) [x, y] := fun wx x y _ =>
    ⟨wx.heap.size, 0, rfl, by simp, fun i z hx => by
      have := (Blk.new wx 3 (ints [x, y])).cell i
      rw [Nat.zero_add]
      exact this.trans (ints_get hx)⟩
  have HIN := Lib.hid hin; clear hin
  have HG := Lib.hid good2; have H12 := Lib.hid own12; have H25 := Lib.hid own25; have HS := Lib.hid shares2
  go_enter Try.func11, Try.ntmps11
  go_wp2_with fail
  refine (cOwner_any _ 2 2 [10, 20] 12 _ rfl (HIN.out _ _ _) (Nat.le_refl _)).mono ?_
  rintro e w1 ⟨hb1, ⟨_, _, _, _, rfl⟩ | ⟨hno, _⟩⟩
  focus
    rw [H12.out]
    have HB1 := Lib.hid (((Below.refl _ w).alloc (Nat.le_refl _) _).trans (hb1.mono (by simp)))
    clear hb1
    go_wp2_with fail
    refine (cOwner_any _ 2 2 [10, 20] 25 _ rfl (HIN.out _ _ _) (Nat.le_refl _)).mono ?_
    rintro e w2 ⟨hb2, ⟨_, _, _, _, rfl⟩ | ⟨hno, _⟩⟩
    focus
      rw [H25.out]
      have HB2 : Hid (Below w.heap.size w w2) := Lib.hid ((HB1.out.alloc HB1.out.size _).trans (hb2.mono (by have := HB1.out.size; simp; omega)))
      clear hb2
      go_wp2_with fail
      refine (shares_any _ 2 2 [10, 20] _ rfl (HIN.out _ _ _) (Nat.le_refl _)).mono ?_
      rintro e w3 ⟨hb3, ⟨_, rfl, hblk⟩ | ⟨hno, _⟩⟩
      focus
        rw [if_neg (by decide), HS.out] at hblk
        have HB3 : Hid (Below w.heap.size w w3) := Lib.hid ((HB2.out.alloc HB2.out.size _).trans (hb3.mono (by have := HB2.out.size; simp; omega)))
        have h3 : IntsIn w3 w3.heap.size (some ⟨(w2.alloc (.cells #[.int .i64 10, .int .i64 20] 3)).heap.size, 0, none⟩) [930, 70] := fun _ => ⟨_, 0, rfl, hblk.lt, fun i x hx => by rw [Nat.zero_add]; exact hblk.cell_ (ints_get hx)⟩
        rw [World.size_alloc] at h3
        have H3 := Lib.hid h3
        clear hb3 hblk h3
        go_wp2_with fail
        refine (ints_same _ _ 2 _ _ _ _ [930, 70] _ rfl ((H3.out.below ((Below.refl _ w3).alloc (Nat.le_refl _) _))) (HIN.out w3 930 70) (by decide)).mono ?_
        rintro e w4 ⟨rfl, q, rfl⟩
        go_wp2
        go_ret
        exact ⟨rfl, HB3.out.trans ((((Keep.refl [] w3).alloc _).drewN q).below HB3.out.size (by simp))⟩
      exact absurd HG.out hno
    exact absurd ⟨HG.out, by decide, by decide, by decide⟩ hno
  exact absurd ⟨HG.out, by decide, by decide, by decide⟩ hno
end Go.Proofs.Ythldhbcidcmmaaa
