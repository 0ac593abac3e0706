/-
  What is done to a lender, and the lenders' closed fact, by their contracts.
-/
import Derived.Test.YtjnghpambjjlkaaLeaseLaw
import Derived.Test.YtjnghpambjjlkaaIn
namespace Go.Proofs.Ytjnghpambjjlkaa
open Go.RowKit

def SomePost (w : World) (b g n : Nat) (s : Ls) (e : Ending) (w' : World) : Prop := ∃ v, e = .returned v ∧ LAt w' b g n s ∧ Keep [b, g] w w'

section
variable (b g n : Nat) (s : Ls) (x : Int) (w : World)
theorem wait_some (hs : LAt w b g n s) (hi : LInv n s) : Calls Try.prog 24 #[.pointer (some ⟨b, 0, none⟩), .int .i64 x] w (SomePost w b g n (lStep n s 0 x)) := by
  by_cases h : 0 ≤ x ∧ x ≤ 20
  · by_cases h2 : s.now + x ≤ 1000
    · have e : lStep n s 0 x = s.wait x := by unfold lStep; rw [if_pos rfl, if_pos ⟨h.1, h.2, h2⟩]
      refine (wait_ok b g n s x w hs h.1 h.2 hi.now.1 h2).mono ?_
      rintro _ w' ⟨rfl, hl, hk⟩
      exact ⟨_, rfl, by rw [e]; exact hl, hk.mono (by simp)⟩
    · have e : lStep n s 0 x = s := by unfold lStep; rw [if_pos rfl, if_neg (fun hh => h2 hh.2.2)]
      refine (wait_full b g n s x w hs h.1 h.2 hi.now.1 hi.now.2 (by omega)).mono ?_
      rintro _ w' ⟨rfl, rfl⟩
      exact ⟨_, rfl, by rw [e]; exact hs, Keep.refl _ _⟩
  · have e : lStep n s 0 x = s := by unfold lStep; rw [if_pos rfl, if_neg (fun hh => h ⟨hh.1, hh.2.1⟩)]
    refine (wait_range b x w (by omega)).mono ?_
    rintro _ w' ⟨rfl, rfl⟩
    exact ⟨_, rfl, by rw [e]; exact hs, Keep.refl _ _⟩
theorem read_some (hs : LAt w b g n s) (hi : LInv n s) (hn : (n : Int) ≤ 4) : Calls Try.prog 23 #[.pointer (some ⟨b, 0, none⟩), .int .i64 x] w (SomePost w b g n (lStep n s 1 x)) := by
  have e1 : ¬ ((1 : Int) = 0) := by decide
  by_cases h : 0 ≤ x ∧ x < n
  · obtain ⟨p, rfl⟩ := Int.eq_ofNat_of_zero_le h.1
    have et : ((p : Int)).toNat = p := by omega
    by_cases hu : s.until_ p ≤ s.now
    · by_cases hw : s.want < 0
      · have e : lStep n s 1 p = s.put p s.value (s.now + s.term) := by unfold lStep; rw [if_neg e1, if_pos rfl, et, if_pos ⟨h.1, h.2, hu, hw⟩]
        refine (lRead_lend b g n p s w hs hn h.2 hu hw hi.now.1 hi.now.2 (by have := hi.term; omega) hi.term.2).mono ?_
        rintro _ w' ⟨rfl, hl, hk⟩
        exact ⟨_, rfl, by rw [e]; exact hl, hk.mono (by simp)⟩
      · have e : lStep n s 1 p = s := by unfold lStep; rw [if_neg e1, if_pos rfl, et, if_neg (fun hh => hw hh.2.2.2)]
        refine (lRead_state b g n p s w hs hn h.2 hu (by omega)).mono ?_
        rintro _ w' ⟨rfl, hk⟩
        exact ⟨_, rfl, by rw [e]; exact hs.keep hk (by simp), hk.mono (by simp)⟩
    · have e : lStep n s 1 p = s := by unfold lStep; rw [if_neg e1, if_pos rfl, et, if_neg (fun hh => hu hh.2.2.1)]
      refine (lRead_had b g n p s w hs hn h.2 (by omega)).mono ?_
      rintro _ w' ⟨rfl, hk⟩
      exact ⟨_, rfl, by rw [e]; exact hs.keep hk (by simp), hk.mono (by simp)⟩
  · have e : lStep n s 1 x = s := by unfold lStep; rw [if_neg e1, if_pos rfl, if_neg (fun hh => h ⟨hh.1, hh.2.1⟩)]
    refine (lRead_range b g n s x w hs hn (by omega)).mono ?_
    rintro _ w' ⟨rfl, rfl⟩
    exact ⟨_, rfl, by rw [e]; exact hs, Keep.refl _ _⟩
theorem write_some (hs : LAt w b g n s) (hn : (n : Int) ≤ 4) : Calls Try.prog 33 #[.pointer (some ⟨b, 0, none⟩), .int .i64 x] w (SomePost w b g n (lStep n s 2 x)) := by
  have e1 : ¬ ((2 : Int) = 0) := by decide
  have e2 : ¬ ((2 : Int) = 1) := by decide
  by_cases h : 0 ≤ x ∧ x ≤ 1000
  · by_cases hw : s.want < 0
    · have e : lStep n s 2 x = s.write n x := by unfold lStep; rw [if_neg e1, if_neg e2, if_pos rfl, if_pos ⟨h.1, h.2, hw⟩]
      refine (lWrite_ok b g n s x w hs hn h.1 h.2 hw).mono ?_
      rintro _ w' ⟨rfl, hl, hk⟩
      exact ⟨_, rfl, by rw [e]; exact hl, hk.mono (by simp)⟩
    · have e : lStep n s 2 x = s := by unfold lStep; rw [if_neg e1, if_neg e2, if_pos rfl, if_neg (fun hh => hw hh.2.2)]
      refine (lWrite_state b g n s x w hs h.1 h.2 (by omega)).mono ?_
      rintro _ w' ⟨rfl, rfl⟩
      exact ⟨_, rfl, by rw [e]; exact hs, Keep.refl _ _⟩
  · have e : lStep n s 2 x = s := by unfold lStep; rw [if_neg e1, if_neg e2, if_pos rfl, if_neg (fun hh => h ⟨hh.1, hh.2.1⟩)]
    refine (lWrite_range b x w (by omega)).mono ?_
    rintro _ w' ⟨rfl, rfl⟩
    exact ⟨_, rfl, by rw [e]; exact hs, Keep.refl _ _⟩
theorem back_some (hs : LAt w b g n s) (hn : (n : Int) ≤ 4) : Calls Try.prog 32 #[.pointer (some ⟨b, 0, none⟩), .int .i64 x] w (SomePost w b g n (lStep n s 3 x)) := by
  have e1 : ¬ ((3 : Int) = 0) := by decide
  have e2 : ¬ ((3 : Int) = 1) := by decide
  have e3 : ¬ ((3 : Int) = 2) := by decide
  by_cases h : 0 ≤ x ∧ x < n
  · obtain ⟨p, rfl⟩ := Int.eq_ofNat_of_zero_le h.1
    have et : ((p : Int)).toNat = p := by omega
    by_cases hu : s.now < s.until_ p
    · have e : lStep n s 3 p = s.back n p := by unfold lStep; rw [if_neg e1, if_neg e2, if_neg e3, if_pos rfl, et, if_pos ⟨h.1, h.2, hu⟩]
      refine (back_ok b g n p s w hs hn h.2 hu).mono ?_
      rintro _ w' ⟨rfl, hl, hk⟩
      exact ⟨_, rfl, by rw [e]; exact hl, hk⟩
    · have e : lStep n s 3 p = s := by unfold lStep; rw [if_neg e1, if_neg e2, if_neg e3, if_pos rfl, et, if_neg (fun hh => hu hh.2.2)]
      refine (back_none b g n p s w hs hn h.2 (by omega)).mono ?_
      rintro _ w' ⟨rfl, hk⟩
      exact ⟨_, rfl, by rw [e]; exact hs.keep hk (by simp), hk.mono (by simp)⟩
  · have e : lStep n s 3 x = s := by unfold lStep; rw [if_neg e1, if_neg e2, if_neg e3, if_pos rfl, if_neg (fun hh => h ⟨hh.1, hh.2.1⟩)]
    refine (back_range b g n s x w hs hn (by omega)).mono ?_
    rintro _ w' ⟨rfl, rfl⟩
    exact ⟨_, rfl, by rw [e]; exact hs, Keep.refl _ _⟩
end

/-- A row of two numbers, read. -/
theorem IntsIn.pair {w : World} {B : Nat} {a : Option Addr} {x y : Int} (h : IntsIn w B a [x, y]) : ∃ b off, a = some ⟨b, off, none⟩ ∧ b < B ∧ w.cell? ⟨b, off, none⟩ = some (.int .i64 x) ∧ w.cell? ⟨b, off + 1, none⟩ = some (.int .i64 y) := by
  obtain ⟨b, off, e, hb, hc⟩ := h (by simp)
  exact ⟨b, off, e, hb, hc 0 x rfl, hc 1 y rfl⟩

def LendsPost (w : World) (b g n : Nat) (t : Int) (e : Ending) (w' : World) : Prop := e = .returned (.tuple #[]) ∧ ∃ s, LAt w' b g n s ∧ LInv n s ∧ s.term = t ∧ Keep [b, g] w w'
def LendsRel (w : World) (b g n m : Nat) (t : Int) (i : Value) (wr : World) : Prop := ∃ (k : Nat) (s : Ls), k ≤ m ∧ k ≤ 80 ∧ i = .int .i64 k ∧ LAt wr b g n s ∧ LInv n s ∧ s.term = t ∧ Keep [b, g] w wr

set_option maxHeartbeats 1000000 in
set_option maxRecDepth 100000 in
theorem lends_any (b g n m B : Nat) (s : Ls) (a : Option Addr) (c : Nat) (xss : List (List Int)) (w : World) (hl : xss.length = m) (hx : RowsIn w B a xss) (hB : b ∉ List.range B ∧ g ∉ List.range B) (hBs : B ≤ w.heap.size) (hs : LAt w b g n s) (hi : LInv n s) (hn : (n : Int) ≤ 4) (hm : m ≤ maxLen) :
    Calls Try.prog 21 #[.pointer (some ⟨b, 0, none⟩), .slice a m c] w (LendsPost w b g n s.term) := by
  have HM := Lib.hid hm; have HL := Lib.hid hl; clear hm hl
  have hBb : B ≤ b ∧ B ≤ g := by simpa using hB
  obtain ⟨hB1, hB2⟩ := hBb
  clear hB
  go_enter Try.func21, Try.ntmps21
  go_wp2
  go_loopw [4, 5] (fun i _ wr => LendsRel w b g n m s.term i wr) (fun i _ _ => m - (intOf i).toNat)
  case atStart => exact ⟨0, s, by omega, by omega, rfl, hs, hi, rfl, Keep.refl _ _⟩
  case round =>
    obtain ⟨k, t, hk, hk8, rfl, ht, hti, htt, hkk⟩ := hrel
    have HT := Lib.hid ht; have HTI := Lib.hid hti; have HTT := Lib.hid htt; clear ht hti htt
    have hsz := hkk.size
    by_cases hlt : k < m ∧ k < 80
    · obtain ⟨hlt, hlt8⟩ := hlt
      obtain ⟨bx, off, a', c', rfl, hbB, hcell, hrow⟩ := hx.at_ (show k < xss.length by rw [HL.out]; exact hlt)
      have hcell2 := (hkk.cell (p := ⟨bx, off + k, none⟩) (by show bx < _; omega) (by simp; omega)).trans hcell
      obtain ⟨l, hll⟩ : ∃ l, l = xss[k]'(by rw [HL.out]; exact hlt) := ⟨_, rfl⟩
      rw [← hll] at hcell2 hrow
      clear hll hcell
      have hk80 : (k : Int) < 80 := by omega
      have hkm : (k : Int) < (m : Int) := by omega
      by_cases hl2 : l.length = 2
      · obtain ⟨x, y, rfl⟩ : ∃ x y, l = [x, y] := by
          match l, hl2 with
          | [x, y], _ => exact ⟨x, y, rfl⟩
        clear hl2
        obtain ⟨b3, off3, rfl, hb3, hx0', hx1'⟩ := hrow.pair
        have hx0 := (hkk.cell (p := ⟨b3, off3, none⟩) (by show b3 < _; omega) (by simp; omega)).trans hx0'
        have hx1 := (hkk.cell (p := ⟨b3, off3 + 1, none⟩) (by show b3 < _; omega) (by simp; omega)).trans hx1'
        clear hx0' hx1' hrow
        have HST := Lib.hid (lStep_inv x y HTI.out)
        have HSM := Lib.hid (lStep_term n t x y)
        have hend : ∀ w2 : World, LAt w2 b g n (lStep n t x y) → Keep [b, g] wr w2 → LendsRel w b g n m s.term (.int .i64 ((k : Int) + 1)) w2 := fun w2 h1 h2 =>
          ⟨k + 1, _, hlt, hlt8, by simp, h1, HST.out, by rw [HSM.out, HTT.out], hkk.trans h2⟩
        have HE := Lib.hid hend; clear hend HST HSM
        by_cases x0 : x = 0
        · subst x0
          go_wp2_with fail
          refine (wait_some b g n t y _ HT.out HTI.out).mono ?_
          rintro e w2 ⟨v, rfl, h1, h2⟩
          go_wp2
          go_roundw
          case rel => exact HE.out _ h1 h2
          case measure => simp [intOf]; omega
        by_cases x1 : x = 1
        · subst x1
          clear x0
          go_wp2_with fail
          refine (read_some b g n t y _ HT.out HTI.out hn).mono ?_
          rintro e w2 ⟨v, rfl, h1, h2⟩
          go_wp2
          go_roundw
          case rel => exact HE.out _ h1 h2
          case measure => simp [intOf]; omega
        by_cases x2 : x = 2
        · subst x2
          clear x0 x1
          go_wp2_with fail
          refine (write_some b g n t y _ HT.out hn).mono ?_
          rintro e w2 ⟨v, rfl, h1, h2⟩
          go_wp2
          go_roundw
          case rel => exact HE.out _ h1 h2
          case measure => simp [intOf]; omega
        by_cases x3 : x = 3
        · subst x3
          clear x0 x1 x2
          go_wp2_with fail
          refine (back_some b g n t y _ HT.out hn).mono ?_
          rintro e w2 ⟨v, rfl, h1, h2⟩
          go_wp2
          go_roundw
          case rel => exact HE.out _ h1 h2
          case measure => simp [intOf]; omega
        · have HL0 : Hid (lStep n t x y = t) := Lib.hid (by unfold lStep; rw [if_neg x0, if_neg x1, if_neg x2, if_neg x3])
          have y0 : (x == 0) = false := beq_eq_false_iff_ne.2 x0
          have y1 : (x == 1) = false := beq_eq_false_iff_ne.2 x1
          have y2 : (x == 2) = false := beq_eq_false_iff_ne.2 x2
          have y3 : (x == 3) = false := beq_eq_false_iff_ne.2 x3
          clear x0 x1 x2 x3
          go_wp2
          go_roundw
          case rel => exact HE.out _ (by rw [HL0.out]; exact HT.out) (Keep.refl _ _)
          case measure => simp [intOf]; omega
      · have hl3 : ((l.length : Int) != 2) = true := by rw [bne_iff_ne]; omega
        go_wp2
        go_roundw
        case rel => exact ⟨k + 1, t, hlt, hlt8, by go_num, HT.out, HTI.out, HTT.out, hkk⟩
        case measure => simp [intOf]; omega
    · have hx : ¬ (k : Int) < (m : Int) ∨ ((k : Int) < (m : Int) ∧ ¬ (k : Int) < 80) := by omega
      clear hlt
      rcases hx with hx | ⟨hx, hx2⟩
      all_goals
        go_wp2
        go_end0
        exact ⟨rfl, t, HT.out, HTI.out, HTT.out, hkk⟩
end Go.Proofs.Ytjnghpambjjlkaa
