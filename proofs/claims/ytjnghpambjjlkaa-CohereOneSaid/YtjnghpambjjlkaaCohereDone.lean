/-
  'done', and the caches' closed fact, by their contracts.
-/
import Derived.Test.YtjnghpambjjlkaaCohereLaw
import Derived.Test.YtjnghpambjjlkaaIn
namespace Go.Proofs.Ytjnghpambjjlkaa
open Go.RowKit

def DonePost (w : World) (b g n : Nat) (s : Cs) (l : List Int) (e : Ending) (w' : World) : Prop :=
  e = .returned (.tuple #[]) ∧ CAt w' b g n (cStep n s l) ∧ Keep [b, g] w w'

theorem IntsIn.nth {w : World} {B : Nat} {a : Option Addr} {l : List Int} (h : IntsIn w B a l) (h0 : 0 < l.length) : ∃ b off, a = some ⟨b, off, none⟩ ∧ b < B ∧ ∀ (i : Nat) (x : Int), l[i]? = some x → w.cell? ⟨b, off + i, none⟩ = some (.int .i64 x) := h h0

/-- Read, whatever is told. -/
theorem cRead_some (b g n : Nat) (s : Cs) (p k : Int) (w : World) (hs : CAt w b g n s) (hn : (n : Int) ≤ 4) (hm0 : 0 ≤ s.mv) (hm1 : s.mv ≤ 1000) :
    Calls Try.prog 30 #[.pointer (some ⟨b, 0, none⟩), .int .i64 p, .int .i64 k] w fun e w' => ∃ v, e = .returned v ∧ CAt w' b g n (cStep n s [p, k]) ∧ Keep [b, g] w w' := by
  by_cases h : 0 ≤ p ∧ p < n ∧ 0 ≤ k ∧ k ≤ 3
  · obtain ⟨i, rfl⟩ := Int.eq_ofNat_of_zero_le h.1
    obtain ⟨j, rfl⟩ := Int.eq_ofNat_of_zero_le h.2.2.1
    refine (cRead_yes b g n i j s w hs hn h.2.1 h.2.2.2 hm0 hm1).mono ?_
    rintro e w' ⟨rfl, hc, hk⟩
    exact ⟨_, rfl, by simp only [cStep]; rw [if_pos h]; exact hc, hk⟩
  · refine (cRead_no b g n s p k w hs hn h).mono ?_
    rintro e w' ⟨rfl, rfl⟩
    exact ⟨_, rfl, by simp only [cStep]; rw [if_neg h]; exact hs, Keep.refl _ _⟩
theorem cWrite_some (b g n : Nat) (s : Cs) (p k v : Int) (w : World) (hs : CAt w b g n s) (hn : (n : Int) ≤ 4) (hm0 : 0 ≤ s.mv) (hm1 : s.mv ≤ 1000) :
    Calls Try.prog 35 #[.pointer (some ⟨b, 0, none⟩), .int .i64 p, .int .i64 k, .int .i64 v] w fun e w' => ∃ u, e = .returned u ∧ CAt w' b g n (cStep n s [p, k, v]) ∧ Keep [b, g] w w' := by
  by_cases h : 0 ≤ p ∧ p < n ∧ 0 ≤ k ∧ k ≤ 3 ∧ 0 ≤ v ∧ v ≤ 1000
  · obtain ⟨i, rfl⟩ := Int.eq_ofNat_of_zero_le h.1
    obtain ⟨j, rfl⟩ := Int.eq_ofNat_of_zero_le h.2.2.1
    refine (cWrite_yes b g n i j v s w hs hn h.2.1 h.2.2.2.1 h.2.2.2.2.1 h.2.2.2.2.2 hm0 hm1).mono ?_
    rintro e w' ⟨rfl, hc, hk⟩
    exact ⟨_, rfl, by simp only [cStep]; rw [if_pos h]; exact hc, hk⟩
  · refine (cWrite_no b g n s p k v w hs hn h).mono ?_
    rintro e w' ⟨rfl, rfl⟩
    exact ⟨_, rfl, by simp only [cStep]; rw [if_neg h]; exact hs, Keep.refl _ _⟩
theorem cLeave_some (b g n : Nat) (s : Cs) (p k x y : Int) (w : World) (hs : CAt w b g n s) (hn : (n : Int) ≤ 4) (hm0 : 0 ≤ s.mv) (hm1 : s.mv ≤ 1000) :
    Calls Try.prog 39 #[.pointer (some ⟨b, 0, none⟩), .int .i64 p, .int .i64 k] w fun e w' => ∃ u, e = .returned u ∧ CAt w' b g n (cStep n s [p, k, x, y]) ∧ Keep [b, g] w w' := by
  by_cases h : 0 ≤ p ∧ p < n ∧ 0 ≤ k ∧ k ≤ 3
  · obtain ⟨i, rfl⟩ := Int.eq_ofNat_of_zero_le h.1
    obtain ⟨j, rfl⟩ := Int.eq_ofNat_of_zero_le h.2.2.1
    refine (cLeave_yes b g n i j s w hs hn h.2.1 h.2.2.2 hm0 hm1).mono ?_
    rintro e w' ⟨rfl, hc, hk⟩
    exact ⟨_, rfl, by simp only [cStep]; rw [if_pos h]; exact hc, hk⟩
  · refine (cLeave_no b g n s p k w hs hn h).mono ?_
    rintro e w' ⟨rfl, rfl⟩
    exact ⟨_, rfl, by simp only [cStep]; rw [if_neg h]; exact hs, Keep.refl _ _⟩

set_option maxHeartbeats 1000000 in
set_option maxRecDepth 100000 in
theorem done_any (b g n : Nat) (s : Cs) (a : Option Addr) (m c B : Nat) (l : List Int) (w : World) (hl : l.length = m) (hx : IntsIn w B a l) (hs : CAt w b g n s) (hn : (n : Int) ≤ 4) (hm0 : 0 ≤ s.mv) (hm1 : s.mv ≤ 1000) :
    Calls Try.prog 27 #[.pointer (some ⟨b, 0, none⟩), .slice a m c] w (DonePost w b g n s l) := by
  have hd : CAt w.drew b g n s := hs.keep (Keep.refl [] w).drew (by simp)
  have HS := Lib.hid hd; clear hd
  by_cases h2 : m = 2
  · subst h2
    obtain ⟨x, y, rfl⟩ : ∃ x y, l = [x, y] := by
      match l, hl with
      | [x, y], _ => exact ⟨x, y, rfl⟩
    obtain ⟨b3, off3, rfl, hb3, hc⟩ := hx.nth (by simp)
    have hx0 : w.cell? ⟨b3, off3, none⟩ = some (.int .i64 x) := hc 0 x rfl
    have hx1 : w.cell? ⟨b3, off3 + 1, none⟩ = some (.int .i64 y) := hc 1 y rfl
    clear hc hl hs
    go_enter Try.func27, Try.ntmps27
    go_wp2
    go_still_tail 7, (by kernel_rfl)
    go_wp2_with fail
    refine (cRead_some b g n s x y _ HS.out hn hm0 hm1).mono ?_
    rintro e w1 ⟨v, rfl, hc1, hk1⟩
    go_wp2
    go_end0
    exact ⟨rfl, hc1, ((Keep.refl _ w).drew).trans hk1⟩
  by_cases h3 : m = 3
  · subst h3
    obtain ⟨x, y, z, rfl⟩ : ∃ x y z, l = [x, y, z] := by
      match l, hl with
      | [x, y, z], _ => exact ⟨x, y, z, rfl⟩
    obtain ⟨b3, off3, rfl, hb3, hc⟩ := hx.nth (by simp)
    have hx0 : w.cell? ⟨b3, off3, none⟩ = some (.int .i64 x) := hc 0 x rfl
    have hx1 : w.cell? ⟨b3, off3 + 1, none⟩ = some (.int .i64 y) := hc 1 y rfl
    have hx2 : w.cell? ⟨b3, off3 + 2, none⟩ = some (.int .i64 z) := hc 2 z rfl
    clear hc hl hs h2
    go_enter Try.func27, Try.ntmps27
    go_wp2
    go_still_tail 10, (by kernel_rfl)
    go_wp2_with fail
    refine (cWrite_some b g n s x y z _ HS.out hn hm0 hm1).mono ?_
    rintro e w1 ⟨v, rfl, hc1, hk1⟩
    go_wp2
    go_end0
    exact ⟨rfl, hc1, ((Keep.refl _ w).drew).trans hk1⟩
  by_cases h4 : m = 4
  · subst h4
    obtain ⟨x, y, z, u, rfl⟩ : ∃ x y z u, l = [x, y, z, u] := by
      match l, hl with
      | [x, y, z, u], _ => exact ⟨x, y, z, u, rfl⟩
    obtain ⟨b3, off3, rfl, hb3, hc⟩ := hx.nth (by simp)
    have hx0 : w.cell? ⟨b3, off3, none⟩ = some (.int .i64 x) := hc 0 x rfl
    have hx1 : w.cell? ⟨b3, off3 + 1, none⟩ = some (.int .i64 y) := hc 1 y rfl
    clear hc hl hs h2 h3
    go_enter Try.func27, Try.ntmps27
    go_wp2
    go_still_tail 7, (by kernel_rfl)
    go_wp2_with fail
    refine (cLeave_some b g n s x y z u _ HS.out hn hm0 hm1).mono ?_
    rintro e w1 ⟨v, rfl, hc1, hk1⟩
    go_wp2
    go_end0
    exact ⟨rfl, hc1, ((Keep.refl _ w).drew).trans hk1⟩
  · have HST : Hid (cStep n s l = s) := Lib.hid (by
      unfold cStep
      split
      · simp at hl; omega
      · simp at hl; omega
      · simp at hl; omega
      · rfl)
    have g2 : ((m : Int) == 2) = false := beq_eq_false_iff_ne.2 (by omega)
    have g3 : ((m : Int) == 3) = false := beq_eq_false_iff_ne.2 (by omega)
    have g4 : ((m : Int) == 4) = false := beq_eq_false_iff_ne.2 (by omega)
    have HS2 := Lib.hid hs
    clear hl hs h2 h3 h4 hx
    go_enter Try.func27, Try.ntmps27
    go_wp2
    go_end0
    exact ⟨rfl, by rw [HST.out]; exact HS2.out, Keep.refl _ _⟩

def cf1 : Cs := (c0 2).write 2 0 1 7
def cf2 : Cs := cf1.read 2 1 1
theorem cf_a : cf2.va 1 1 = 7 := by decide
theorem cf_b : cf2.st 0 1 = 1 := by decide
theorem cf_c : cf2.me 1 = 7 := by decide
theorem cf_d : 0 ≤ cf1.mv ∧ cf1.mv ≤ 1000 := by decide

theorem cohereFact_any (w : World) :
    Calls Try.prog 25 #[] w fun e w' => e = .returned (.bool true) ∧ Below w.heap.size w w' := by
  go_enter Try.func25, Try.ntmps25
  go_wp2_with fail
  refine (cohereNew_yes 2 _ (by decide) (by decide)).mono ?_
  rintro e w1 ⟨rfl, hc, hb1⟩
  have HC : Hid (CAt w1 (w.heap.size + 1) w.heap.size 2 (c0 2)) := Lib.hid hc
  clear hc
  go_wp2_with fail
  refine (cWrite_yes _ _ 2 0 1 7 (c0 2) _ HC.out (by decide) (by decide) (by decide) (by decide) (by decide) (by decide) (by decide)).mono ?_
  rintro e w2 ⟨rfl, hc2, hk2⟩
  have HC2 : Hid (CAt w2 (w.heap.size + 1) w.heap.size 2 cf1) := Lib.hid hc2
  clear hc2
  go_wp2_with fail
  refine (cRead_yes _ _ 2 1 1 cf1 _ HC2.out (by decide) (by decide) (by decide) cf_d.1 cf_d.2).mono ?_
  rintro e w3 ⟨he, hc3, hk3⟩
  rw [show (cf1.read 2 1 1).va 1 1 = 7 from cf_a] at he
  subst he
  have HC3 : Hid (CAt w3 (w.heap.size + 1) w.heap.size 2 cf2) := Lib.hid hc3
  clear hc3
  go_wp2_with fail
  refine (state_any _ _ 2 0 1 cf2 _ HC3.out (by decide) (by decide) (by decide)).mono ?_
  rintro e w4 ⟨he, hk4⟩
  rw [cf_b] at he
  subst he
  go_wp2_with fail
  refine (memory_any _ _ 2 1 cf2 _ (HC3.out.keep hk4 (by simp)) (by decide)).mono ?_
  rintro e w5 ⟨he, rfl⟩
  rw [cf_c] at he
  subst he
  go_wp2
  go_ret
  exact ⟨rfl, hb1.trans ((hk2.trans (hk3.trans (hk4.mono (by simp)))).below hb1.size (by simp))⟩
end Go.Proofs.Ytjnghpambjjlkaa
