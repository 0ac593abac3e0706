/-
  LeaseBack: the walk.
-/
import Derived.Test.YtjnghpambjjlkaaLeaseFact
import Derived.Test.YtjnghpambjjlkaaLift
namespace Go.Proofs.Ytjnghpambjjlkaa
open Go.RowKit

structure BackOne (t s : Ls) (p : Nat) : Prop where
  now : s.now = t.now
  now0 : 0 ≤ t.now
  here : s.until_ p ≤ t.now
  there : ∀ q, q ≠ p → s.until_ q = t.until_ q
  val : (s.want = t.want ∧ s.value = t.value) ∨ (0 ≤ t.want ∧ s.want = -1 ∧ s.value = t.want)

theorem backOne {n p : Nat} {t : Ls} (h : LInv n t) (hp : p < n) : BackOne t (lStep n t 3 p) p := by
  have et : ((p : Int)).toNat = p := by omega
  have e1 : ¬ ((3 : Int) = 0) := by decide
  have e2 : ¬ ((3 : Int) = 1) := by decide
  have e3 : ¬ ((3 : Int) = 2) := by decide
  have hpu : ∀ q, (t.put p 0 0).until_ q = if q = p then 0 else t.until_ q := put_until h.size hp 0 0
  have hn := h.now.1
  by_cases hu : t.now < t.until_ p
  · have e : lStep n t 3 p = t.back n p := by unfold lStep; rw [if_neg e1, if_neg e2, if_neg e3, if_pos rfl, et, if_pos ⟨by omega, by omega, hu⟩]
    rw [e]
    unfold Ls.back
    split
    · refine ⟨rfl, hn, ?_, fun q hq => ?_, .inl ⟨rfl, rfl⟩⟩
      · rw [hpu, if_pos rfl]; exact hn
      · rw [hpu, if_neg hq]
    · split
      · refine ⟨rfl, hn, ?_, fun q hq => ?_, .inr ⟨by omega, rfl, rfl⟩⟩
        · show (t.put p 0 0).until_ p ≤ _; rw [hpu, if_pos rfl]; exact hn
        · show (t.put p 0 0).until_ q = _; rw [hpu, if_neg hq]
      · refine ⟨rfl, hn, ?_, fun q hq => ?_, .inl ⟨rfl, rfl⟩⟩
        · show (t.put p 0 0).until_ p ≤ _; rw [hpu, if_pos rfl]; exact hn
        · show (t.put p 0 0).until_ q = _; rw [hpu, if_neg hq]
  · have e : lStep n t 3 p = t := by unfold lStep; rw [if_neg e1, if_neg e2, if_neg e3, if_pos rfl, et, if_neg (fun hh => hu hh.2.2)]
    rw [e]
    exact ⟨rfl, hn, by omega, fun q _ => rfl, .inl ⟨rfl, rfl⟩⟩

structure LBk (n : Nat) (s0 t : Ls) (p : Nat) : Prop where
  inv : LInv n t
  le : ∀ q, q < p → t.until_ q ≤ t.now
  val : (t.want = s0.want ∧ t.value = s0.value) ∨ (0 ≤ s0.want ∧ t.want = -1 ∧ t.value = s0.want)
theorem LBk.step {n p : Nat} {s0 t : Ls} (h : LBk n s0 t p) (hp : p < n) : LBk n s0 (lStep n t 3 p) (p + 1) := by
  have b := backOne h.inv hp
  refine ⟨lStep_inv 3 p h.inv, fun q hq => ?_, ?_⟩
  · rw [b.now]
    by_cases e : q = p
    · subst e; exact b.here
    · rw [b.there q e]; exact h.le q (by omega)
  · rcases h.val with ⟨h1, h2⟩ | ⟨h1, h2, h3⟩
    · rcases b.val with ⟨g1, g2⟩ | ⟨g1, g2, g3⟩
      · exact .inl ⟨by omega, by omega⟩
      · exact .inr ⟨by omega, g2, by omega⟩
    · rcases b.val with ⟨g1, g2⟩ | ⟨g1, g2, g3⟩
      · exact .inr ⟨by omega, by omega, by omega⟩
      · omega
theorem LBk.zero {n p : Nat} {s0 t : Ls} (h : LBk n s0 t p) (hp : p < n) : (if (lStep n t 3 p).now < (lStep n t 3 p).until_ p then (lStep n t 3 p).until_ p else 0) = 0 := by
  have b := backOne h.inv hp
  rw [if_neg]
  rw [b.now]
  have := b.here
  omega
structure LBkEnd (n : Nat) (s0 t : Ls) : Prop where
  want : t.want = -1
  val : (0 ≤ s0.want ∧ t.value = s0.want) ∨ (s0.want < 0 ∧ t.value = s0.value)
  max : maxU t n = t.now
theorem LBk.end {n : Nat} {s0 t : Ls} (h : LBk n s0 t n) : LBkEnd n s0 t := by
  have hw : t.want = -1 := by
    rcases h.inv.want with a | ⟨_, a, ⟨p, hp, e⟩, _⟩
    · exact a
    · have := h.le p hp; omega
  refine ⟨hw, ?_, ?_⟩
  · rcases h.val with ⟨h1, h2⟩ | ⟨h1, h2, h3⟩
    · exact .inr ⟨by omega, h2⟩
    · exact .inl ⟨h1, h3⟩
  · rcases maxU_some t n with a | ⟨q, hq, a⟩
    · exact a
    · have := h.le q hq
      have := maxU_ge t n
      omega

def LBRel (w : World) (b g n : Nat) (s0 : Ls) (i : Value) (wr : World) : Prop :=
  ∃ (p : Nat) (t : Ls), p ≤ n ∧ i = .int .i64 p ∧ LAt wr b g n t ∧ LBk n s0 t p ∧ Below w.heap.size w wr

theorem leaseBack_no (n t : Int) (a : Option Addr) (m c : Nat) (v : Int) (w : World) (h : ¬ (1 ≤ n ∧ n ≤ 4 ∧ 1 ≤ t ∧ t ≤ 20)) :
    Calls Try.prog 8 #[.int .i64 n, .int .i64 t, .slice a m c, .int .i64 v] w fun e w' => e = .returned (.bool true) ∧ Below w.heap.size w w' := by
  by_cases hn : 1 ≤ n ∧ n ≤ 4
  · have ht : t < 1 ∨ 20 < t := by omega
    go_enter Try.func8, Try.ntmps8
    go_wp2_with (first
      | (go_at_call 18; refine (leaseFact_any _).mono ?_; rintro e w1 ⟨rfl, hb1⟩)
      | (go_at_call 19; refine (leaseNew_no _ _ _ h).mono ?_; rintro e w2 ⟨rfl, rfl⟩)
      | (go_at_call 20; refine (in_yes _ _ _ _ (by omega) (by omega)).mono ?_; rintro e w' ⟨rfl, rfl⟩)
      | (go_at_call 20; refine (in_no _ _ _ _ (by omega)).mono ?_; rintro e w' ⟨rfl, rfl⟩))
    go_ret
    exact ⟨rfl, hb1⟩
  · have ht : n < 1 ∨ 4 < n := by omega
    go_enter Try.func8, Try.ntmps8
    go_wp2_with (first
      | (go_at_call 18; refine (leaseFact_any _).mono ?_; rintro e w1 ⟨rfl, hb1⟩)
      | (go_at_call 19; refine (leaseNew_no _ _ _ h).mono ?_; rintro e w2 ⟨rfl, rfl⟩)
      | (go_at_call 20; refine (in_no _ _ _ _ (by omega)).mono ?_; rintro e w' ⟨rfl, rfl⟩))
    go_ret
    exact ⟨rfl, hb1⟩

set_option maxHeartbeats 1000000 in
set_option maxRecDepth 100000 in
theorem leaseBack_yes (n : Nat) (t : Int) (h1 : 1 ≤ (n : Int)) (h2 : (n : Int) ≤ 4) (h3 : 1 ≤ t) (h4 : t ≤ 20) (a : Option Addr) (c : Nat) (xss : List (List Int)) (v : Int) (w : World) (hx : RowsIn w w.heap.size a xss) (hn : xss.length ≤ maxLen) :
    Calls Try.prog 8 #[.int .i64 n, .int .i64 t, .slice a xss.length c, .int .i64 v] w fun e w' => e = .returned (.bool true) ∧ Below w.heap.size w w' := by
  have HN := Lib.hid hn; clear hn
  have HX := Lib.hid hx; clear hx
  go_enter Try.func8, Try.ntmps8
  go_wp2_with fail
  refine (leaseFact_any _).mono ?_
  rintro e w1 ⟨rfl, hb1⟩
  go_wp2_with fail
  refine (leaseNew_yes n t _ h1 h2 h3 h4).mono ?_
  rintro e w2 ⟨rfl, hs, hb2⟩
  have hsz1 := hb1.size
  have HS : Hid (LAt w2 (w1.heap.size + 1) w1.heap.size n (l0 n t)) := Lib.hid hs
  clear hs
  have hsz2 := hb2.size
  have hbw : Below w.heap.size w w2 := hb1.trans (hb2.mono hsz1)
  go_wp2_with fail
  refine (lends_any _ _ n _ w.heap.size (l0 n t) a c xss _ rfl (HX.out.below hbw) (by simp; omega) (by omega) HS.out (l0_inv n t h3 h4) h2 HN.out).mono ?_
  rintro e w3 ⟨rfl, s, hs, hi, ht, hk3⟩
  have hbw3 : Below w.heap.size w w3 := hbw.trans (hk3.below hbw.size (by simp; omega))
  clear hk3 hbw ht
  have HS := Lib.hid hs; have HI := Lib.hid hi; clear hs hi
  go_wp2_with fail
  refine (value_any _ _ n s _ HS.out).mono ?_
  rintro e w4 ⟨rfl, q, rfl⟩
  go_wp2_with fail
  go_loopw [15] (fun i wr => LBRel w (w1.heap.size + 1) w1.heap.size n s i wr) (fun i _ => n - (intOf i).toNat)
  case atStart => exact ⟨0, s, by omega, rfl, HS.out.keep ((Keep.refl [] _).drewN q) (by simp), ⟨HI.out, fun q hq => by omega, .inl ⟨rfl, rfl⟩⟩, hbw3.trans (((Keep.refl [] _).drewN q).below hbw3.size (by simp))⟩
  case round =>
    obtain ⟨p, u, hp, rfl, hu, hk, hbel⟩ := hrel
    have HU := Lib.hid hu; have HK := Lib.hid hk; clear hu hk
    by_cases hlt : p < n
    · have hpn : (p : Int) < (n : Int) := by omega
      have hz := HK.out.zero hlt
      have HZ := Lib.hid hz; clear hz
      go_wp2_with fail
      refine (back_some _ _ n u p _ HU.out h2).mono ?_
      rintro e w5 ⟨y, rfl, h5, hk5⟩
      have HU5 := Lib.hid h5; clear h5
      go_wp2_with fail
      refine (until_in _ _ n p (lStep n u 3 p) _ HU5.out h2 hpn).mono ?_
      rintro e w6 ⟨he, hk6⟩
      rw [HZ.out] at he
      subst he
      have hke : LBRel w (w1.heap.size + 1) w1.heap.size n s (.int .i64 ((p : Int) + 1)) w6 :=
        ⟨p + 1, _, hlt, by simp, HU5.out.keep hk6 (by simp), HK.out.step hlt, hbel.trans ((hk5.trans (hk6.mono (by simp))).below hbel.size (by simp; omega))⟩
      have HKE := Lib.hid hke; clear hke
      go_wp2
      go_roundw
      case rel => exact HKE.out
      case measure => simp [intOf]; omega
    · obtain rfl : p = n := by omega
      have hend := HK.out.end
      obtain ⟨ew, ev, em⟩ := hend
      have HW := Lib.hid ew; have HV := Lib.hid ev; have HM := Lib.hid em; clear ew ev em
      have hpn : ¬ (p : Int) < (p : Int) := by omega
      have hE : ∀ w', Keep [w1.heap.size + 1, w1.heap.size] wr w' → Below w.heap.size w w' := fun w' hk => hbel.trans (hk.below hbel.size (by simp; omega))
      have HE := Lib.hid hE; clear hE
      have hlw : u.want < 0 := by rw [HW.out]; decide
      have HLW := Lib.hid hlw; clear hlw
      go_wp2_with fail
      refine (value_any _ _ p u _ HU.out).mono ?_
      rintro e w5 ⟨he, q5, rfl⟩
      rw [HW.out] at he
      subst he
      have hU5 : LAt (wr.drewN q5) (w1.heap.size + 1) w1.heap.size p u := HU.out.keep ((Keep.refl [] _).drewN q5) (by simp)
      have HU5 := Lib.hid hU5; clear hU5
      by_cases hv : 0 ≤ v ∧ v ≤ 1000
      · obtain ⟨v1, v2⟩ := hv
        have hwv : (u.write p v).value = v := by unfold Ls.write; rw [if_pos HM.out]
        have HWV := Lib.hid hwv; clear hwv
        rcases HV.out with ⟨z1, z2⟩ | ⟨z1, z2⟩
        all_goals
          have z3 : ¬ (s.want < 0 ∧ 0 ≤ s.want) := by omega
          go_wp2_with fail
          refine (lWrite_ok _ _ p u v _ HU5.out h2 v1 v2 HLW.out).mono ?_
          rintro e w6 ⟨he, h6, hk6⟩
          rw [HM.out] at he
          subst he
          have HU6 := Lib.hid h6; clear h6
          go_wp2_with fail
          refine (value_any _ _ p (u.write p v) _ HU6.out).mono ?_
          rintro e w7 ⟨he, q7, rfl⟩
          rw [HWV.out] at he
          subst he
          go_wp2
          go_ret
          exact ⟨by simp, HE.out _ ((((Keep.refl _ _).drewN q5).trans (hk6.mono (by simp))).drewN q7)⟩
      · have hv' : v < 0 ∨ 1000 < v := by omega
        clear hv
        rcases HV.out with ⟨z1, z2⟩ | ⟨z1, z2⟩
        all_goals
          go_wp2_with fail
          refine (lWrite_range _ v _ hv').mono ?_
          rintro e w6 ⟨rfl, rfl⟩
          go_wp2_with (go_at_call 20; refine (in_no v 0 1000 _ hv').mono ?_; rintro e w' ⟨rfl, rfl⟩)
          go_ret
          exact ⟨rfl, HE.out _ ((Keep.refl _ _).drewN q5)⟩

theorem leaseBack_walk (x0 x1 : Int) (a1 : Option Addr) (c1 : Nat) (l1 : List (List Int)) (x2 : Int) (w : World) (_ : I64 x0) (_ : I64 x1) (h2 : RowsIn w w.heap.size a1 l1) (_ : ∀ r ∈ l1, r.length ≤ maxLen ∧ ∀ y ∈ r, I64 y) (m2 : l1.length ≤ maxLen) (_ : I64 x2) :
    Calls Try.prog 8 #[.int .i64 x0, .int .i64 x1, .slice a1 l1.length c1, .int .i64 x2] w fun e w' => e = .returned (.bool true) ∧ Below w.heap.size w w' := by
  by_cases h : 1 ≤ x0 ∧ x0 ≤ 4 ∧ 1 ≤ x1 ∧ x1 ≤ 20
  · obtain ⟨h1, h2', h3, h4⟩ := h
    obtain ⟨d, rfl⟩ := Int.eq_ofNat_of_zero_le (show 0 ≤ x0 by omega)
    exact leaseBack_yes d x1 h1 h2' h3 h4 a1 c1 l1 x2 w h2 m2
  · exact leaseBack_no x0 x1 a1 _ c1 x2 w h
end Go.Proofs.Ytjnghpambjjlkaa
