/-
  A lender: Until, Write, Back, by their contracts.
-/
import Derived.Test.YtjnghpambjjlkaaDoorLease
namespace Go.Proofs.YtjnghpambjjlkaaDoor
open Go.RowKit

def UntilPost (w : World) (s : Ls) (p : Nat) (e : Ending) (w' : World) : Prop :=
  e = .returned (.int .i64 (if s.now < s.until_ p then s.until_ p else 0)) ∧ Keep [] w w'

set_option maxRecDepth 100000 in
theorem until_in (b g n p : Nat) (s : Ls) (w : World) (hs : LAt w b g n s) (hn : (n : Int) ≤ 4) (hp : (p : Int) < (n : Int)) :
    Calls Tryd.prog 31 #[.pointer (some ⟨b, 0, none⟩), .int .i64 p] w (UntilPost w s p) := by
  have hp0 : (0 : Int) ≤ (p : Int) := by omega
  have hc0 := hs.top.cell_ (i := 0) rfl
  have hc3 := hs.top.cell_ (i := 3) rfl
  obtain ⟨_, hl1⟩ := hs.loan_ (p := p) (by omega)
  have HS := Lib.hid hs; clear hs
  obtain ⟨u, hu⟩ : ∃ u, u = s.until_ p := ⟨_, rfl⟩
  rw [← hu] at hl1
  have HU := Lib.hid hu; clear hu
  have hq : IntKind.i64.wrap ((n : Int) - 1) = (n : Int) - 1 := IntWalk.i64_in _ (by omega)
  have HQ := Lib.hid hq; clear hq
  by_cases hcu : u ≤ s.now
  · have hd : decide (u ≤ s.now) = true := decide_eq_true hcu
    have hq := HQ.out
    go_enter Tryd.func31, Tryd.ntmps31
    go_wp2
    go_quiet ((go_at_call 43; exact quiet_eq (within_yes _ _ _ _ (by omega) (by omega))))
    go_wp2
    go_ret
    exact ⟨ret_int (by rw [if_neg (by rw [← HU.out]; omega)]), (Keep.refl _ _).drewN _⟩
  · have hcu' : s.now < u := by omega
    have hq := HQ.out
    go_enter Tryd.func31, Tryd.ntmps31
    go_wp2
    go_quiet ((go_at_call 43; exact quiet_eq (within_yes _ _ _ _ (by omega) (by omega))))
    go_wp2
    go_ret
    exact ⟨ret_int (by rw [if_pos (by rw [← HU.out]; omega)]; exact HU.out), (Keep.refl _ _).drewN _⟩

/-- The latest end of the first loans, from now on. -/
def maxU (s : Ls) : Nat → Int
  | 0 => s.now
  | p + 1 => if maxU s p < s.until_ p then s.until_ p else maxU s p
theorem maxU_ge (s : Ls) (p : Nat) : s.now ≤ maxU s p := by
  induction p with
  | zero => exact Int.le_refl _
  | succ p ih => simp only [maxU]; split <;> omega
theorem maxU_until (s : Ls) (p : Nat) : ∀ q, q < p → s.until_ q ≤ maxU s p := by
  induction p with
  | zero => intro q hq; omega
  | succ p ih =>
    intro q hq
    simp only [maxU]
    rcases Nat.lt_or_ge q p with h | h
    · have := ih q h; split <;> omega
    · obtain rfl : q = p := by omega
      split <;> omega
theorem maxU_some (s : Ls) (p : Nat) : maxU s p = s.now ∨ ∃ q, q < p ∧ s.until_ q = maxU s p := by
  induction p with
  | zero => exact .inl rfl
  | succ p ih =>
    simp only [maxU]
    split
    · exact .inr ⟨p, by omega, rfl⟩
    · rcases ih with h | ⟨q, hq, h⟩
      · exact .inl h
      · exact .inr ⟨q, by omega, h⟩

theorem lWrite_range (b : Nat) (v : Int) (w : World) (h : v < 0 ∨ 1000 < v) :
    Calls Tryd.prog 27 #[.pointer (some ⟨b, 0, none⟩), .int .i64 v] w fun e w' => e = .returned (.tuple #[.bool false, errv 1]) ∧ w = w' := by
  go_enter Tryd.func27, Tryd.ntmps27
  go_wp2_with (go_at_call 43; refine (within_no _ _ _ _ h).mono ?_; rintro e w' ⟨rfl, rfl⟩)
  go_ret2
  exact ⟨rfl, rfl⟩
theorem lWrite_state (b g n : Nat) (s : Ls) (v : Int) (w : World) (hs : LAt w b g n s) (h1 : 0 ≤ v) (h2 : v ≤ 1000) (h3 : 0 ≤ s.want) :
    Calls Tryd.prog 27 #[.pointer (some ⟨b, 0, none⟩), .int .i64 v] w fun e w' => e = .returned (.tuple #[.bool false, errv 7]) ∧ w = w' := by
  have hc4 := hs.top.cell_ (i := 4) rfl
  go_enter Tryd.func27, Tryd.ntmps27
  go_wp2_with (go_at_call 43; refine (within_yes _ _ _ _ (by omega) (by omega)).mono ?_; rintro e w' ⟨rfl, rfl⟩)
  go_ret2
  exact ⟨rfl, rfl⟩

def Ls.write (s : Ls) (n : Nat) (v : Int) : Ls := if maxU s n = s.now then { s with value := v } else { s with want := v, ready := maxU s n }
def LWritePost (w : World) (b g n : Nat) (s : Ls) (v : Int) (e : Ending) (w' : World) : Prop :=
  e = .returned (.tuple #[.bool (decide (maxU s n = s.now)), .nilIface]) ∧ LAt w' b g n (s.write n v) ∧ Keep [b] w w'

set_option maxHeartbeats 400000 in
set_option maxRecDepth 100000 in
theorem lWrite_ok (b g n : Nat) (s : Ls) (v : Int) (w : World) (hs : LAt w b g n s) (hn : (n : Int) ≤ 4) (h1 : 0 ≤ v) (h2 : v ≤ 1000) (h3 : s.want < 0) :
    Calls Tryd.prog 27 #[.pointer (some ⟨b, 0, none⟩), .int .i64 v] w (LWritePost w b g n s v) := by
  have hc0 := hs.top.cell_ (i := 0) rfl
  have hc3 := hs.top.cell_ (i := 3) rfl
  have hc4 := hs.top.cell_ (i := 4) rfl
  have HS := Lib.hid hs; clear hs
  go_enter Tryd.func27, Tryd.ntmps27
  go_wp2_with (go_at_call 43; refine (within_yes _ _ _ _ (by omega) (by omega)).mono ?_; rintro e w' ⟨rfl, rfl⟩)
  go_loopw [6, 8, 28] (fun t _ i wr => ∃ p : Nat, p ≤ n ∧ i = .int .i64 p ∧ t = .int .i64 (maxU s p) ∧ LAt wr b g n s ∧ Keep [] w wr) (fun _ _ i _ => n - (intOf i).toNat)
  case atStart => exact ⟨0, Nat.zero_le _, rfl, rfl, HS.out, Keep.refl _ _⟩
  case round =>
    obtain ⟨p, hp, rfl, rfl, hw, hk⟩ := hrel
    by_cases hlt : p < n
    · obtain ⟨hl0, hl1⟩ := hw.loan_ hlt
      have hp0 : (0 : Int) ≤ (p : Int) := by omega
      have hpn : (p : Int) < (n : Int) := by omega
      have HM : Hid (maxU s (p + 1) = if maxU s p < s.until_ p then s.until_ p else maxU s p) := Lib.hid rfl
      obtain ⟨m, hm⟩ : ∃ m, m = maxU s p := ⟨_, rfl⟩
      obtain ⟨x, hx⟩ : ∃ x, x = s.had p := ⟨_, rfl⟩
      obtain ⟨u, hu⟩ : ∃ u, u = s.until_ p := ⟨_, rfl⟩
      rw [← hm] at HM ⊢
      rw [← hx] at hl0
      rw [← hu] at hl1 HM
      clear hm hx hu
      have hwl := hw.top.lt
      have HW := Lib.hid hw; clear hw
      go_wp2
      all_goals go_roundw
      all_goals first | exact ⟨p + 1, hlt, by go_num, congrArg (Value.int .i64) HM.out.symm, (HW.out.keep ((Keep.refl [] wr).alloc _) (by simp)), hk.alloc _⟩ | (simp [intOf]; omega)
    · obtain rfl : p = n := by omega
      have hc0 := hw.top.cell_ (i := 0) rfl
      have hc2 := hw.top.cell_ (i := 2) rfl
      have hc4 := hw.top.cell_ (i := 4) rfl
      have hc5 := hw.top.cell_ (i := 5) rfl
      have hf2 := hw.top.free 2
      have hf4 := hw.top.free 4
      have hf5 := hw.top.free 5
      have HW := Lib.hid hw; clear hw
      by_cases hm : maxU s p = s.now
      · have hme : (maxU s p == s.now) = true := beq_iff_eq.2 hm
        have HR : Hid (s.write p v = { s with value := v }) := Lib.hid (by unfold Ls.write; rw [if_pos hm])
        have HM := Lib.hid hm; clear hm
        go_wp2
        go_ret2
        exact ⟨ret2_bool (decide_eq_true HM.out).symm, by rw [HR.out]; exact HW.out.set 2 _ _ rfl rfl, (hk.mono (by simp)).set (fun _ => by simp) _⟩
      · have hme : (maxU s p == s.now) = false := beq_eq_false_iff_ne.2 hm
        have HR : Hid (s.write p v = { s with want := v, ready := maxU s p }) := Lib.hid (by unfold Ls.write; rw [if_neg hm])
        have HM := Lib.hid hm; clear hm
        go_wp2
        go_ret2
        refine ⟨ret2_bool (decide_eq_false HM.out).symm, ?_, ((hk.mono (by simp)).set (fun _ => by simp) _).set (fun _ => by simp) _⟩
        rw [HR.out]
        exact (HW.out.set 4 (.int .i64 v) { s with want := v } rfl rfl).set 5 (.int .i64 (maxU s p)) { s with want := v, ready := maxU s p } rfl rfl
end Go.Proofs.YtjnghpambjjlkaaDoor
