/-
  What is done to a lender, and to the reference's, as one: by their contracts.
-/
import Derived.Test.YtjnghpambjjlkaaDoorLeaseRef2
import Derived.Test.YtjnghpambjjlkaaDoorLeaseNew
import Derived.Test.YtjnghpambjjlkaaDoorLeaseLaw
import Derived.Test.YtjnghpambjjlkaaDoorErrIs
import Derived.Test.YtjnghpambjjlkaaDoorIn
namespace Go.Proofs.YtjnghpambjjlkaaDoor
open Go.RowKit

def wE (s : Ls) (x : Int) : Int := if 0 ≤ x ∧ x ≤ 20 then (if s.now + x ≤ 1000 then 0 else 4) else 1
def rE (n : Nat) (s : Ls) (x : Int) : Int := if 0 ≤ x ∧ x < n then (if s.until_ x.toNat ≤ s.now then (if s.want < 0 then 0 else 7) else 0) else 1
def rV (n : Nat) (s : Ls) (x : Int) : Int := if 0 ≤ x ∧ x < n then (if s.until_ x.toNat ≤ s.now then (if s.want < 0 then s.value else 0) else s.had x.toNat) else 0
def cE (s : Ls) (x : Int) : Int := if 0 ≤ x ∧ x ≤ 1000 then (if s.want < 0 then 0 else 7) else 1
def cB (n : Nat) (s : Ls) (x : Int) : Bool := if 0 ≤ x ∧ x ≤ 1000 then (if s.want < 0 then decide (maxU s n = s.now) else false) else false
def bE (n : Nat) (s : Ls) (x : Int) : Int := if 0 ≤ x ∧ x < n then (if s.now < s.until_ x.toNat then 0 else 5) else 1

theorem lStep0 (n : Nat) (s : Ls) (x : Int) : lStep n s 0 x = if 0 ≤ x ∧ x ≤ 20 ∧ s.now + x ≤ 1000 then s.wait x else s := by unfold lStep; rw [if_pos rfl]
theorem lStep1 (n : Nat) (s : Ls) (x : Int) : lStep n s 1 x = if 0 ≤ x ∧ x < n ∧ s.until_ x.toNat ≤ s.now ∧ s.want < 0 then s.put x.toNat s.value (s.now + s.term) else s := by unfold lStep; rw [if_neg (by decide), if_pos rfl]
theorem lStep2 (n : Nat) (s : Ls) (x : Int) : lStep n s 2 x = if 0 ≤ x ∧ x ≤ 1000 ∧ s.want < 0 then s.write n x else s := by unfold lStep; rw [if_neg (by decide), if_neg (by decide), if_pos rfl]
theorem lStep3 (n : Nat) (s : Ls) (x : Int) : lStep n s 3 x = if 0 ≤ x ∧ x < n ∧ s.now < s.until_ x.toNat then s.back n x.toNat else s := by unfold lStep; rw [if_neg (by decide), if_neg (by decide), if_neg (by decide), if_pos rfl]

section
variable (b g n : Nat) (s : Ls) (x : Int) (w : World)
def PW (e0 : Value → Value) (en : Int) (t : Ls) (e : Ending) (w' : World) : Prop := ∃ er, e = .returned (e0 er) ∧ ErrN er en ∧ LAt w' b g n t ∧ Keep [b, g] w w'
theorem pWait (hs : LAt w b g n s) (hi : LInv n s) : Calls Tryd.prog 23 #[.pointer (some ⟨b, 0, none⟩), .int .i64 x] w (PW b g n w (fun v => v) (wE s x) (lStep n s 0 x)) := by
  rw [lStep0]
  by_cases h : 0 ≤ x ∧ x ≤ 20
  · by_cases h2 : s.now + x ≤ 1000
    · refine (wait_ok b g n s x w hs h.1 h.2 hi.now.1 h2).mono ?_
      rintro _ w' ⟨rfl, hl, hk⟩
      exact ⟨_, rfl, .inl ⟨by unfold wE; rw [if_pos h, if_pos h2], rfl⟩, by rw [if_pos ⟨h.1, h.2, h2⟩]; exact hl, hk.mono (by simp)⟩
    · refine (wait_full b g n s x w hs h.1 h.2 hi.now.1 hi.now.2 (by omega)).mono ?_
      rintro _ w' ⟨rfl, rfl⟩
      exact ⟨_, rfl, .inr (by unfold wE; rw [if_pos h, if_neg h2]), by rw [if_neg (fun hh => h2 hh.2.2)]; exact hs, Keep.refl _ _⟩
  · refine (wait_range b x w (by omega)).mono ?_
    rintro _ w' ⟨rfl, rfl⟩
    exact ⟨_, rfl, .inr (by unfold wE; rw [if_neg h]), by rw [if_neg (fun hh => h ⟨hh.1, hh.2.1⟩)]; exact hs, Keep.refl _ _⟩
theorem pRead (hs : LAt w b g n s) (hi : LInv n s) (hn : (n : Int) ≤ 4) : Calls Tryd.prog 25 #[.pointer (some ⟨b, 0, none⟩), .int .i64 x] w (PW b g n w (fun v => .tuple #[.int .i64 (rV n s x), v]) (rE n s x) (lStep n s 1 x)) := by
  rw [lStep1]
  by_cases h : 0 ≤ x ∧ x < n
  · obtain ⟨p, rfl⟩ := Int.eq_ofNat_of_zero_le h.1
    have et : ((p : Int)).toNat = p := by omega
    by_cases hu : s.until_ p ≤ s.now
    · by_cases hw : s.want < 0
      · refine (lRead_lend b g n p s w hs hn h.2 hu hw hi.now.1 hi.now.2 (by have := hi.term; omega) hi.term.2).mono ?_
        rintro _ w' ⟨rfl, hl, hk⟩
        have e1 : rV n s p = s.value := by unfold rV; rw [if_pos h, et, if_pos hu, if_pos hw]
        rw [e1]
        exact ⟨_, rfl, .inl ⟨by unfold rE; rw [if_pos h, et, if_pos hu, if_pos hw], rfl⟩, by rw [et, if_pos ⟨h.1, h.2, hu, hw⟩]; exact hl, hk.mono (by simp)⟩
      · refine (lRead_state b g n p s w hs hn h.2 hu (by omega)).mono ?_
        rintro _ w' ⟨rfl, hk⟩
        have e1 : rV n s p = 0 := by unfold rV; rw [if_pos h, et, if_pos hu, if_neg hw]
        rw [e1]
        exact ⟨_, rfl, .inr (by unfold rE; rw [if_pos h, et, if_pos hu, if_neg hw]), by rw [et, if_neg (fun hh => hw hh.2.2.2)]; exact hs.keep hk (by simp), hk.mono (by simp)⟩
    · refine (lRead_had b g n p s w hs hn h.2 (by omega)).mono ?_
      rintro _ w' ⟨rfl, hk⟩
      have e1 : rV n s p = s.had p := by unfold rV; rw [if_pos h, et, if_neg hu]
      rw [e1]
      exact ⟨_, rfl, .inl ⟨by unfold rE; rw [if_pos h, et, if_neg hu], rfl⟩, by rw [et, if_neg (fun hh => hu hh.2.2.1)]; exact hs.keep hk (by simp), hk.mono (by simp)⟩
  · refine (lRead_range b g n s x w hs hn (by omega)).mono ?_
    rintro _ w' ⟨rfl, rfl⟩
    have e1 : rV n s x = 0 := by unfold rV; rw [if_neg h]
    rw [e1]
    exact ⟨_, rfl, .inr (by unfold rE; rw [if_neg h]), by rw [if_neg (fun hh => h ⟨hh.1, hh.2.1⟩)]; exact hs, Keep.refl _ _⟩
theorem pWrite (hs : LAt w b g n s) (hn : (n : Int) ≤ 4) : Calls Tryd.prog 27 #[.pointer (some ⟨b, 0, none⟩), .int .i64 x] w (PW b g n w (fun v => .tuple #[.bool (cB n s x), v]) (cE s x) (lStep n s 2 x)) := by
  rw [lStep2]
  by_cases h : 0 ≤ x ∧ x ≤ 1000
  · by_cases hw : s.want < 0
    · refine (lWrite_ok b g n s x w hs hn h.1 h.2 hw).mono ?_
      rintro _ w' ⟨rfl, hl, hk⟩
      have e1 : cB n s x = decide (maxU s n = s.now) := by unfold cB; rw [if_pos h, if_pos hw]
      rw [e1]
      exact ⟨_, rfl, .inl ⟨by unfold cE; rw [if_pos h, if_pos hw], rfl⟩, by rw [if_pos ⟨h.1, h.2, hw⟩]; exact hl, hk.mono (by simp)⟩
    · refine (lWrite_state b g n s x w hs h.1 h.2 (by omega)).mono ?_
      rintro _ w' ⟨rfl, rfl⟩
      have e1 : cB n s x = false := by unfold cB; rw [if_pos h, if_neg hw]
      rw [e1]
      exact ⟨_, rfl, .inr (by unfold cE; rw [if_pos h, if_neg hw]), by rw [if_neg (fun hh => hw hh.2.2)]; exact hs, Keep.refl _ _⟩
  · refine (lWrite_range b x w (by omega)).mono ?_
    rintro _ w' ⟨rfl, rfl⟩
    have e1 : cB n s x = false := by unfold cB; rw [if_neg h]
    rw [e1]
    exact ⟨_, rfl, .inr (by unfold cE; rw [if_neg h]), by rw [if_neg (fun hh => h ⟨hh.1, hh.2.1⟩)]; exact hs, Keep.refl _ _⟩
theorem pBack (hs : LAt w b g n s) (hn : (n : Int) ≤ 4) : Calls Tryd.prog 29 #[.pointer (some ⟨b, 0, none⟩), .int .i64 x] w (PW b g n w (fun v => v) (bE n s x) (lStep n s 3 x)) := by
  rw [lStep3]
  by_cases h : 0 ≤ x ∧ x < n
  · obtain ⟨p, rfl⟩ := Int.eq_ofNat_of_zero_le h.1
    have et : ((p : Int)).toNat = p := by omega
    by_cases hu : s.now < s.until_ p
    · refine (back_ok b g n p s w hs hn h.2 hu).mono ?_
      rintro _ w' ⟨rfl, hl, hk⟩
      exact ⟨_, rfl, .inl ⟨by unfold bE; rw [if_pos h, et, if_pos hu], rfl⟩, by rw [et, if_pos ⟨h.1, h.2, hu⟩]; exact hl, hk⟩
    · refine (back_none b g n p s w hs hn h.2 (by omega)).mono ?_
      rintro _ w' ⟨rfl, hk⟩
      exact ⟨_, rfl, .inr (by unfold bE; rw [if_pos h, et, if_neg hu]), by rw [et, if_neg (fun hh => hu hh.2.2)]; exact hs.keep hk (by simp), hk.mono (by simp)⟩
  · refine (back_range b g n s x w hs hn (by omega)).mono ?_
    rintro _ w' ⟨rfl, rfl⟩
    exact ⟨_, rfl, .inr (by unfold bE; rw [if_neg h]), by rw [if_neg (fun hh => h ⟨hh.1, hh.2.1⟩)]; exact hs, Keep.refl _ _⟩
end

/-! ### The reference's -/
def KW2 (w : World) (n : Nat) (t : Ls) (x : Int) (e : Ending) (w' : World) : Prop := ∃ k', LK n t k' ∧ LPost2 w n k' x e w'
def KW3 (w : World) (n : Nat) (t : Ls) (y : Value) (x : Int) (e : Ending) (w' : World) : Prop := ∃ k', LK n t k' ∧ LPost3 w n k' y x e w'
section
variable (n gh ch gu cu : Nat) (k : Kl) (s : Ls) (x : Int) (w : World)
theorem rWait (h : KL w n k gh gu) (hk : LK n s k) (hi : LInv n s) (hn : n ≤ 4) :
    Calls Tryd.prog 22 #[.agg #[.int .i64 k.now, .int .i64 k.term, .int .i64 k.value, .int .i64 k.want, .slice (some ⟨gh, 0, none⟩) n ch, .slice (some ⟨gu, 0, none⟩) n cu], .int .i64 x] w (KW2 w n (lStep n s 0 x) (wE s x)) := by
  rw [lStep0]
  have e := hk.now
  have i := hi.now
  by_cases h1 : 0 ≤ x ∧ x ≤ 20
  · by_cases h2 : s.now + x ≤ 1000
    · rw [if_pos ⟨h1.1, h1.2, h2⟩, show wE s x = 0 by unfold wE; rw [if_pos h1, if_pos h2]]
      exact (kWait_ok n gh ch gu cu k x h1.1 h1.2 (by omega) (by omega) w h hn).mono fun e w' hp => ⟨_, hk.wait hi h1.1, hp⟩
    · rw [if_neg (fun hh => h2 hh.2.2), show wE s x = 4 by unfold wE; rw [if_pos h1, if_neg h2]]
      exact (kWait_full n gh ch gu cu k x h1.1 h1.2 (by omega) (by omega) (by omega) w h hn).mono fun e w' hp => ⟨_, hk, hp⟩
  · rw [if_neg (fun hh => h1 ⟨hh.1, hh.2.1⟩), show wE s x = 1 by unfold wE; rw [if_neg h1]]
    exact (kWait_range n gh ch gu cu k x (by omega) w h hn).mono fun e w' hp => ⟨_, hk, hp⟩
theorem rRead (h : KL w n k gh gu) (hk : LK n s k) (hi : LInv n s) (hn : n ≤ 4) :
    Calls Tryd.prog 24 #[.agg #[.int .i64 k.now, .int .i64 k.term, .int .i64 k.value, .int .i64 k.want, .slice (some ⟨gh, 0, none⟩) n ch, .slice (some ⟨gu, 0, none⟩) n cu], .int .i64 x] w (KW3 w n (lStep n s 1 x) (.int .i64 (rV n s x)) (rE n s x)) := by
  rw [lStep1]
  have e0 := hk.now
  have e2 := hk.want
  have e3 := hk.value
  have e4 := hk.term
  have i := hi.now
  have i2 := hi.term
  by_cases h1 : 0 ≤ x ∧ x < n
  · obtain ⟨p, rfl⟩ := Int.eq_ofNat_of_zero_le h1.1
    have et : ((p : Int)).toNat = p := by omega
    have hp : p < n := by omega
    have eu := hk.unt p hp
    rw [et]
    by_cases hu : s.until_ p ≤ s.now
    · by_cases hw : s.want < 0
      · rw [if_pos ⟨h1.1, h1.2, hu, hw⟩, show rE n s p = 0 by unfold rE; rw [if_pos h1, et, if_pos hu, if_pos hw], show rV n s p = s.value by unfold rV; rw [if_pos h1, et, if_pos hu, if_pos hw], ← e3]
        exact (kBorrow_lend n gh ch gu cu k p hp (by omega) (by omega) (by omega) (by omega) (by omega) (by omega) w h hn).mono fun e w' hq => ⟨_, by rw [e3]; exact hk.lend hi hp, hq⟩
      · rw [if_neg (fun hh => hw hh.2.2.2), show rE n s p = 7 by unfold rE; rw [if_pos h1, et, if_pos hu, if_neg hw], show rV n s p = 0 by unfold rV; rw [if_pos h1, et, if_pos hu, if_neg hw]]
        exact (kBorrow_state n gh ch gu cu k p hp (by omega) (by omega) w h hn).mono fun e w' hq => ⟨_, hk, hq⟩
    · rw [if_neg (fun hh => hu hh.2.2.1), show rE n s p = 0 by unfold rE; rw [if_pos h1, et, if_neg hu], show rV n s p = k.had.getD p 0 by unfold rV; rw [if_pos h1, et, if_neg hu, hk.had p hp (by omega)]]
      exact (kBorrow_had n gh ch gu cu k p hp (by omega) w h hn).mono fun e w' hq => ⟨_, hk, hq⟩
  · rw [if_neg (fun hh => h1 ⟨hh.1, hh.2.1⟩), show rE n s x = 1 by unfold rE; rw [if_neg h1], show rV n s x = 0 by unfold rV; rw [if_neg h1]]
    exact (kBorrow_range n gh ch gu cu k x (by omega) w h hn).mono fun e w' hp => ⟨_, hk, hp⟩
theorem rWrite (h : KL w n k gh gu) (hk : LK n s k) (hi : LInv n s) (hn : n ≤ 4) :
    Calls Tryd.prog 26 #[.agg #[.int .i64 k.now, .int .i64 k.term, .int .i64 k.value, .int .i64 k.want, .slice (some ⟨gh, 0, none⟩) n ch, .slice (some ⟨gu, 0, none⟩) n cu], .int .i64 x] w (KW3 w n (lStep n s 2 x) (.bool (cB n s x)) (cE s x)) := by
  rw [lStep2]
  have e2 := hk.want
  by_cases h1 : 0 ≤ x ∧ x ≤ 1000
  · by_cases hw : s.want < 0
    · obtain ⟨q1, q2⟩ := hk.change hi hw h1.1
      rw [if_pos ⟨h1.1, h1.2, hw⟩, show cE s x = 0 by unfold cE; rw [if_pos h1, if_pos hw], show cB n s x = decide ((k.wants x).settled.want < 0) by unfold cB; rw [if_pos h1, if_pos hw, q2]]
      exact (kChange_ok n gh ch gu cu k x h1.1 h1.2 (by omega) w h hn).mono fun e w' hp => ⟨_, q1, hp⟩
    · rw [if_neg (fun hh => hw hh.2.2), show cE s x = 7 by unfold cE; rw [if_pos h1, if_neg hw], show cB n s x = false by unfold cB; rw [if_pos h1, if_neg hw]]
      exact (kChange_state n gh ch gu cu k x h1.1 h1.2 (by omega) w h hn).mono fun e w' hp => ⟨_, hk, hp⟩
  · rw [if_neg (fun hh => h1 ⟨hh.1, hh.2.1⟩), show cE s x = 1 by unfold cE; rw [if_neg h1], show cB n s x = false by unfold cB; rw [if_neg h1]]
    exact (kChange_range n gh ch gu cu k x (by omega) w h hn).mono fun e w' hp => ⟨_, hk, hp⟩
theorem rBack (h : KL w n k gh gu) (hk : LK n s k) (hi : LInv n s) (hn : n ≤ 4) :
    Calls Tryd.prog 28 #[.agg #[.int .i64 k.now, .int .i64 k.term, .int .i64 k.value, .int .i64 k.want, .slice (some ⟨gh, 0, none⟩) n ch, .slice (some ⟨gu, 0, none⟩) n cu], .int .i64 x] w (KW2 w n (lStep n s 3 x) (bE n s x)) := by
  rw [lStep3]
  have e0 := hk.now
  by_cases h1 : 0 ≤ x ∧ x < n
  · obtain ⟨p, rfl⟩ := Int.eq_ofNat_of_zero_le h1.1
    have et : ((p : Int)).toNat = p := by omega
    have hp : p < n := by omega
    have eu := hk.unt p hp
    rw [et]
    by_cases hu : s.now < s.until_ p
    · rw [if_pos ⟨h1.1, h1.2, hu⟩, show bE n s p = 0 by unfold bE; rw [if_pos h1, et, if_pos hu]]
      exact (kGive_ok n gh ch gu cu k p hp (by omega) w h hn).mono fun e w' hq => ⟨_, hk.back hi hp, hq⟩
    · rw [if_neg (fun hh => hu hh.2.2), show bE n s p = 5 by unfold bE; rw [if_pos h1, et, if_neg hu]]
      exact (kGive_none n gh ch gu cu k p hp (by omega) w h hn).mono fun e w' hq => ⟨_, hk, hq⟩
  · rw [if_neg (fun hh => h1 ⟨hh.1, hh.2.1⟩), show bE n s x = 1 by unfold bE; rw [if_neg h1]]
    exact (kGive_range n gh ch gu cu k x (by omega) w h hn).mono fun e w' hp => ⟨_, hk, hp⟩
end

theorem until_out (b g n : Nat) (p : Int) (s : Ls) (w : World) (hs : LAt w b g n s) (hn : (n : Int) ≤ 4) (hp : p < 0 ∨ (n : Int) - 1 < p) :
    Calls Tryd.prog 31 #[.pointer (some ⟨b, 0, none⟩), .int .i64 p] w fun e w' => e = .returned (.int .i64 0) ∧ Keep [] w w' := by
  have hc0 := hs.top.cell_ (i := 0) rfl
  have hc3 := hs.top.cell_ (i := 3) rfl
  have hq : IntKind.i64.wrap ((n : Int) - 1) = (n : Int) - 1 := IntWalk.i64_in _ (by omega)
  go_enter Tryd.func31, Tryd.ntmps31
  go_wp2
  go_quiet ((go_at_call 43; exact quiet_eq (within_no _ _ _ _ (by omega))))
  go_wp2
  go_ret
  exact ⟨rfl, (Keep.refl _ _).drewN _⟩
end Go.Proofs.YtjnghpambjjlkaaDoor
