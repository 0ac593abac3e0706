/-
  bookFact, by its contract.
-/
import Derived.Test.YticckfioggeaeaaGreatDoorBookRows
namespace Go.Proofs.YticckfioggeaeaaGreatDoor
open Go.RowKit

def fs1 : Bk := ⟨[(1, 2)], [112, 32, 49, 32, 50, 32, 55, 48, 49, 10], 1⟩
def fs2 : Bk := ⟨[(3, 4)], [112, 32, 49, 32, 50, 32, 55, 48, 49, 10, 112, 32, 51, 32, 52, 32, 55, 49, 55, 10], 2⟩
theorem dec_dig1 (n : Nat) (h : n < 10) : Lib.itoa (n : Int) = [UInt8.ofNat (48 + n)] := by rw [itoa_nat, dec_small h]
theorem itoa_701 : Lib.itoa ((701 : Nat) : Int) = [55, 48, 49] := by
  rw [itoa_nat, dec_big (by decide), dec_big (by decide), dec_small (by decide)]
  decide
theorem itoa_717 : Lib.itoa ((717 : Nat) : Int) = [55, 49, 55] := by
  rw [itoa_nat, dec_big (by decide), dec_big (by decide), dec_small (by decide)]
  decide
theorem fact_line1 : lineOf (wordP 1 2) = [112, 32, 49, 32, 50, 32, 55, 48, 49, 10] := by
  have h1 : wordP 1 2 = [112, 32, 49, 32, 50] := by
    unfold wordP
    rw [show (1 : Int) = ((1 : Nat) : Int) from rfl, show (2 : Int) = ((2 : Nat) : Int) from rfl, dec_dig1 1 (by decide), dec_dig1 2 (by decide)]
    decide
  unfold lineOf
  rw [h1, show sumB [112, 32, 49, 32, 50] = 701 by decide, itoa_701]
  decide
theorem fact_line2 : lineOf (wordP 3 4) = [112, 32, 51, 32, 52, 32, 55, 49, 55, 10] := by
  have h1 : wordP 3 4 = [112, 32, 51, 32, 52] := by
    unfold wordP
    rw [show (3 : Int) = ((3 : Nat) : Int) from rfl, show (4 : Int) = ((4 : Nat) : Int) from rfl, dec_dig1 3 (by decide), dec_dig1 4 (by decide)]
    decide
  unfold lineOf
  rw [h1, show sumB [112, 32, 51, 32, 52] = 717 by decide, itoa_717]
  decide
theorem fact_put1 : putE bk0 1 2 = 0 ∧ putS 1 bk0 1 2 = fs1 ∧ putV 1 bk0 1 2 = -1 := by
  have he : putE bk0 1 2 = 0 := by decide
  refine ⟨he, ?_, ?_⟩
  · unfold putS
    rw [if_pos he]
    unfold putB
    rw [fact_line1, show ((1, 2) :: (outM 1 bk0 1).filter fun p => p.1 != 1) = [((1 : Int), (2 : Int))] by decide]
    rfl
  · decide
theorem fact_put2 : putE fs1 3 4 = 0 ∧ putS 1 fs1 3 4 = fs2 ∧ putV 1 fs1 3 4 = 1 := by
  have he : putE fs1 3 4 = 0 := by decide
  refine ⟨he, ?_, ?_⟩
  · unfold putS
    rw [if_pos he]
    unfold putB
    rw [fact_line2, show ((3, 4) :: (outM 1 fs1 3).filter fun p => p.1 != 3) = [((3 : Int), (4 : Int))] by decide]
    rfl
  · decide
set_option maxHeartbeats 4000000 in
set_option maxRecDepth 100000 in
theorem fact_any (w : World) (ht : Tab w) : Calls Tryz.prog 17 #[] w fun e w' => e = .returned (.bool true) ∧ Below w.heap.size w w' := by
  have HT := Lib.hid ht
  clear ht
  go_enter Tryz.func17, Tryz.ntmps17
  go_wp2_with fail
  refine (new_yes 1 _ (by omega) (by omega)).mono ?_
  rintro e w1 ⟨b, rfl, hb1, _, hbel1⟩
  have HK1 := Lib.hid (KS.start hb1 hbel1)
  clear hb1 hbel1
  go_wp2_with fail
  refine (put_any b 1 bk0 1 2 _ HK1.out.bk (HK1.out.tab HT.out)).mono ?_
  rintro e w2 ⟨rfl, hb2, hk2⟩
  rw [fact_put1.1, fact_put1.2.2]
  rw [fact_put1.2.1] at hb2
  have HK2 := Lib.hid (HK1.out.book hb2 hk2)
  clear hb2 hk2
  go_wp2_with fail
  refine (put_any b 1 fs1 3 4 _ HK2.out.bk (HK2.out.tab HT.out)).mono ?_
  rintro e w3 ⟨rfl, hb3, hk3⟩
  rw [fact_put2.1, fact_put2.2.2]
  rw [fact_put2.2.1] at hb3
  have HK3 := Lib.hid (HK2.out.book hb3 hk3)
  clear hb3 hk3
  simp only [errw_zero]
  go_wp2_with fail
  refine (keysB_any _ HK3.out.bk).mono ?_
  rintro e w4 ⟨v, rfl, ho4, hb4⟩
  have HK4 := Lib.hid (HK3.out.row hb4 ho4)
  obtain ⟨a, c, hv, hin⟩ := ho4.shape
  subst hv
  have HIN := Lib.hid hin
  clear ho4 hb4 hin
  have hal : Below w4.heap.size w4 (w4.alloc (.cells #[.int .i64 3] 3)) := (Below.refl _ _).alloc (Nat.le_refl _) _
  have HK5 := Lib.hid (HK4.out.away hal)
  have HI5 : Hid (IntsIn (w4.alloc (.cells #[.int .i64 3] 3)) w4.heap.size a [3]) := Lib.hid ((HIN.out.below hal))
  clear hal
  go_wp2_with fail
  refine (ints_same_keep a _ 1 c 1 _ _ [3] _ rfl HI5.out (one_in w4 3) (by unfold maxLen; omega)).mono ?_
  rintro e w6 ⟨rfl, hk6⟩
  have HK6 := Lib.hid (HK5.out.below (hk6.below (Nat.le_refl _) (by simp)))
  clear hk6
  go_wp2_with fail
  refine (text_any _ HK6.out.bk).mono ?_
  rintro e w7 ⟨rfl, hb7, hk7⟩
  have HK7 := Lib.hid (HK6.out.book hb7 hk7)
  clear hb7 hk7
  go_wp2_with fail
  refine (text_any _ HK7.out.bk).mono ?_
  rintro e w8 ⟨rfl, hb8, hk8⟩
  have HK8 := Lib.hid (HK7.out.book hb8 hk8)
  clear hb8 hk8
  unfold fs2
  go_wp2
  go_ret
  exact ⟨by simp; rw [Lib.extract_toList]; rfl, HK8.out.bel⟩
end Go.Proofs.YticckfioggeaeaaGreatDoor
