/-
  LeaseWrites: the walk.
-/
import Derived.Test.YtjnghpambjjlkaaLeaseFact
import Derived.Test.YtjnghpambjjlkaaLift
namespace Go.Proofs.Ytjnghpambjjlkaa
open Go.RowKit

/-- A write waits; so many units have passed since. -/
structure LWt (n : Nat) (s u : Ls) (k : Nat) : Prop where
  now : u.now = s.now + k
  inv : LInv n u
  term : u.term = s.term
  le : s.now ≤ 900 ∧ 0 ≤ s.now ∧ 1 ≤ s.term ∧ s.term ≤ 20
  soon : s.ready ≤ s.now + s.term ∧ 0 ≤ s.want
  val : (u.want = s.want ∧ u.ready = s.ready ∧ u.now < s.ready) ∨ (u.want = -1 ∧ u.value = s.want)
theorem LWt.start {n : Nat} {s : Ls} (h : LInv n s) (hw : 0 ≤ s.want) (hn : s.now ≤ 900) : LWt n s s 0 := by
  have h1 := h.now; have h2 := h.term
  rcases h.want with a | ⟨_, a, ⟨p, hp, e⟩, _⟩
  · omega
  · have := h.bound p hp
    exact ⟨by simp, h, rfl, ⟨hn, h1.1, h2.1, h2.2⟩, ⟨by omega, hw⟩, .inl ⟨rfl, rfl, a⟩⟩
theorem lStep_read (n : Nat) (u : Ls) (x : Int) : (lStep n u 1 x).now = u.now ∧ (lStep n u 1 x).want = u.want ∧ (lStep n u 1 x).ready = u.ready ∧ (lStep n u 1 x).value = u.value := by
  have e1 : ¬ ((1 : Int) = 0) := by decide
  unfold lStep
  rw [if_neg e1, if_pos rfl]
  split <;> exact ⟨rfl, rfl, rfl, rfl⟩
theorem LWt.read {n : Nat} {s u : Ls} {k : Nat} (h : LWt n s u k) (x : Int) : LWt n s (lStep n u 1 x) k := by
  obtain ⟨a, b, c, d⟩ := lStep_read n u x
  refine ⟨by rw [a]; exact h.now, lStep_inv 1 x h.inv, by rw [lStep_term]; exact h.term, h.le, h.soon, ?_⟩
  rw [a, b, c, d]
  exact h.val
theorem LWt.wait {n : Nat} {s u : Ls} {k : Nat} (h : LWt n s u k) (hk : (k : Int) < s.term) : LWt n s (u.wait 1) (k + 1) := by
  have h0 := h.now; have h1 := h.le; have h2 := h.soon
  have hi : LInv n (u.wait 1) := wait_inv h.inv (by decide) (by omega)
  have ht : (u.wait 1).term = u.term := by unfold Ls.wait; split <;> rfl
  have hn : (u.wait 1).now = u.now + 1 := by unfold Ls.wait; split <;> rfl
  refine ⟨by rw [hn]; omega, hi, by rw [ht]; exact h.term, h1, h2, ?_⟩
  rw [hn]
  unfold Ls.wait
  rcases h.val with ⟨a, b, c⟩ | ⟨a, b⟩
  · split
    · exact .inr ⟨rfl, a⟩
    · exact .inl ⟨a, b, by omega⟩
  · rw [if_neg (by omega)]
    exact .inr ⟨a, b⟩
theorem LWt.end {n : Nat} {s u : Ls} {k : Nat} (h : LWt n s u k) (hk : s.term ≤ k) (hk2 : (k : Int) ≤ s.term) : u.value = s.want ∧ u.want = -1 ∧ u.now = s.now + s.term := by
  have h0 := h.now; have h1 := h.le; have h2 := h.soon
  rcases h.val with ⟨a, b, c⟩ | ⟨a, b⟩
  · omega
  · exact ⟨b, a, by omega⟩

def LWRel (w : World) (b g n : Nat) (s : Ls) (i : Value) (wr : World) : Prop :=
  ∃ (k : Nat) (u : Ls), i = .int .i64 k ∧ (k : Int) ≤ s.term ∧ LAt wr b g n u ∧ LWt n s u k ∧ Below w.heap.size w wr

theorem leaseWrites_no (n t : Int) (a : Option Addr) (m c : Nat) (a2 : Option Addr) (m2 c2 : Nat) (w : World) (h : ¬ (1 ≤ n ∧ n ≤ 4 ∧ 1 ≤ t ∧ t ≤ 20)) :
    Calls Try.prog 4 #[.int .i64 n, .int .i64 t, .slice a m c, .slice a2 m2 c2] w fun e w' => e = .returned (.bool true) ∧ Below w.heap.size w w' := by
  by_cases hn : 1 ≤ n ∧ n ≤ 4
  · have ht : t < 1 ∨ 20 < t := by omega
    go_enter Try.func4, Try.ntmps4
    go_wp2_with (first
      | (go_at_call 18; refine (leaseFact_any _).mono ?_; rintro e w1 ⟨rfl, hb1⟩)
      | (go_at_call 19; refine (leaseNew_no _ _ _ h).mono ?_; rintro e w2 ⟨rfl, rfl⟩)
      | (go_at_call 20; refine (in_yes _ _ _ _ (by omega) (by omega)).mono ?_; rintro e w' ⟨rfl, rfl⟩)
      | (go_at_call 20; refine (in_no _ _ _ _ (by omega)).mono ?_; rintro e w' ⟨rfl, rfl⟩))
    go_ret
    exact ⟨rfl, hb1⟩
  · have ht : n < 1 ∨ 4 < n := by omega
    go_enter Try.func4, Try.ntmps4
    go_wp2_with (first
      | (go_at_call 18; refine (leaseFact_any _).mono ?_; rintro e w1 ⟨rfl, hb1⟩)
      | (go_at_call 19; refine (leaseNew_no _ _ _ h).mono ?_; rintro e w2 ⟨rfl, rfl⟩)
      | (go_at_call 20; refine (in_no _ _ _ _ (by omega)).mono ?_; rintro e w' ⟨rfl, rfl⟩))
    go_ret
    exact ⟨rfl, hb1⟩

set_option maxHeartbeats 1000000 in
set_option maxRecDepth 100000 in
theorem leaseWrites_yes (n : Nat) (t : Int) (h1 : 1 ≤ (n : Int)) (h2 : (n : Int) ≤ 4) (h3 : 1 ≤ t) (h4 : t ≤ 20) (a : Option Addr) (c : Nat) (xss : List (List Int)) (a2 : Option Addr) (c2 : Nat) (l : List Int) (w : World) (hx : RowsIn w w.heap.size a xss) (hn : xss.length ≤ maxLen) (hy : IntsIn w w.heap.size a2 l) :
    Calls Try.prog 4 #[.int .i64 n, .int .i64 t, .slice a xss.length c, .slice a2 l.length c2] w fun e w' => e = .returned (.bool true) ∧ Below w.heap.size w w' := by
  have HN := Lib.hid hn; clear hn
  have HY := Lib.hid hy; clear hy
  have HX := Lib.hid hx; clear hx
  go_enter Try.func4, Try.ntmps4
  go_wp2_with fail
  refine (leaseFact_any _).mono ?_
  rintro e w1 ⟨rfl, hb1⟩
  go_wp2_with fail
  refine (leaseNew_yes n t _ h1 h2 h3 h4).mono ?_
  rintro e w2 ⟨rfl, hs, hb2⟩
  have hsz1 := hb1.size
  have HS : Hid (LAt w2 (w1.heap.size + 1) w1.heap.size n (l0 n t)) := Lib.hid hs
  clear hs
  have hsz2 := hb2.size
  have hbw : Below w.heap.size w w2 := hb1.trans (hb2.mono hsz1)
  go_wp2_with fail
  refine (lends_any _ _ n _ w.heap.size (l0 n t) a c xss _ rfl (HX.out.below hbw) (by simp; omega) (by omega) HS.out (l0_inv n t h3 h4) h2 HN.out).mono ?_
  rintro e w3 ⟨rfl, s, hs, hi, ht, hk3⟩
  have hbw3 : Below w.heap.size w w3 := hbw.trans (hk3.below hbw.size (by simp; omega))
  clear hk3 hbw HS
  have HS := Lib.hid hs; have HI := Lib.hid hi; clear hs hi
  obtain rfl : s.term = t := ht
  have hi := HI.out
  by_cases hg : s.want < 0 ∨ 900 < s.now
  · rcases hg with hg | hg
    · go_wp2_with fail
      refine (value_any _ _ n s _ HS.out).mono ?_
      rintro e w4 ⟨rfl, q, rfl⟩
      go_wp2
      go_ret
      exact ⟨rfl, hbw3.trans (((Keep.refl [] _).drewN q).below hbw3.size (by simp))⟩
    · by_cases hg2 : s.want < 0
      · go_wp2_with fail
        refine (value_any _ _ n s _ HS.out).mono ?_
        rintro e w4 ⟨rfl, q, rfl⟩
        go_wp2
        go_ret
        exact ⟨rfl, hbw3.trans (((Keep.refl [] _).drewN q).below hbw3.size (by simp))⟩
      · go_wp2_with fail
        refine (value_any _ _ n s _ HS.out).mono ?_
        rintro e w4 ⟨rfl, q, rfl⟩
        go_wp2
        go_ret
        exact ⟨rfl, hbw3.trans (((Keep.refl [] _).drewN q).below hbw3.size (by simp))⟩
  have hg1 : ¬ s.want < 0 := fun h => hg (.inl h)
  have hg2 : ¬ 900 < s.now := fun h => hg (.inr h)
  clear hg
  have HG := Lib.hid (LWt.start hi (by omega) (by omega)); clear hi
  go_wp2_with fail
  refine (value_any _ _ n s _ HS.out).mono ?_
  rintro e w4 ⟨rfl, q, rfl⟩
  go_wp2_with fail
  go_loopw [15] (fun i wr => LWRel w (w1.heap.size + 1) w1.heap.size n s i wr) (fun i _ => s.term.toNat - (intOf i).toNat)
  case atStart => exact ⟨0, s, rfl, by have := HI.out.term; show (0 : Int) ≤ _; omega, HS.out.keep ((Keep.refl [] _).drewN q) (by simp), HG.out, hbw3.trans (((Keep.refl [] _).drewN q).below hbw3.size (by simp))⟩
  case round =>
    obtain ⟨k, u, rfl, hks, hu, hk, hbel⟩ := hrel
    have HU := Lib.hid hu; have HK := Lib.hid hk
    obtain ⟨k1, k2, k3, k4, k5, k6⟩ := hk
    clear hu k5 k6
    have hE : ∀ w', Keep [w1.heap.size + 1, w1.heap.size] wr w' → Below w.heap.size w w' := fun w' hk => hbel.trans (hk.below hbel.size (by simp; omega))
    have HE := Lib.hid hE; clear hE
    by_cases hlt : (k : Int) < s.term
    · by_cases hm : k < l.length
      · have hml : (k : Int) < (l.length : Int) := by omega
        obtain ⟨b3, off3, rfl, hb3, hc3⟩ := HY.out (show 0 < l.length by omega)
        obtain ⟨x, hx⟩ : ∃ x, l[k]? = some x := ⟨_, List.getElem?_eq_getElem hm⟩
        have hcell := (hbel.cell (p := ⟨b3, off3 + k, none⟩) hb3).trans (hc3 k x hx)
        clear hc3 hx
        go_wp2_with fail
        refine (read_some _ _ n u x _ HU.out k2 h2).mono ?_
        rintro e w5 ⟨y, rfl, h5, hk5⟩
        have HU5 := Lib.hid h5; clear h5
        have hr := HK.out.read x
        have HR := Lib.hid hr
        obtain ⟨r1, r2, r3, r4, r5, r6⟩ := hr
        clear r5 r6
        go_wp2_with fail
        refine (wait_ok _ _ n (lStep n u 1 x) 1 _ HU5.out (by omega) (by omega) r2.now.1 (by omega)).mono ?_
        rintro e w6 ⟨rfl, h6, hk6⟩
        have hke : LWRel w (w1.heap.size + 1) w1.heap.size n s (.int .i64 ((k : Int) + 1)) w6 :=
          ⟨k + 1, _, by simp, by omega, h6, HR.out.wait hlt, HE.out _ (hk5.trans (hk6.mono (by simp)))⟩
        have HKE := Lib.hid hke; clear hke
        go_wp2
        go_roundw
        case rel => exact HKE.out
        case measure => simp [intOf]; omega
      · have hml : ¬ (k : Int) < (l.length : Int) := by omega
        go_wp2_with fail
        refine (wait_ok _ _ n u 1 _ HU.out (by omega) (by omega) k2.now.1 (by omega)).mono ?_
        rintro e w6 ⟨rfl, h6, hk6⟩
        have hke : LWRel w (w1.heap.size + 1) w1.heap.size n s (.int .i64 ((k : Int) + 1)) w6 :=
          ⟨k + 1, _, by simp, by omega, h6, HK.out.wait hlt, HE.out _ (hk6.mono (by simp))⟩
        have HKE := Lib.hid hke; clear hke
        go_wp2
        go_roundw
        case rel => exact HKE.out
        case measure => simp [intOf]; omega
    · obtain ⟨f1, f2, f3⟩ := HK.out.end (by omega) hks
      go_wp2_with fail
      refine (value_any _ _ n u _ HU.out).mono ?_
      rintro e w5 ⟨he, q5, rfl⟩
      rw [f1, f2, f3] at he
      subst he
      have hsum : IntKind.i64.wrap (s.now + s.term) = s.now + s.term := IntWalk.i64_in _ (by omega)
      go_wp2
      go_ret
      exact ⟨by simp, HE.out _ ((Keep.refl _ _).drewN q5)⟩

theorem leaseWrites_walk (x0 x1 : Int) (a1 : Option Addr) (c1 : Nat) (l1 : List (List Int)) (a2 : Option Addr) (c2 : Nat) (l2 : List Int) (w : World) (_ : I64 x0) (_ : I64 x1) (h2 : RowsIn w w.heap.size a1 l1) (_ : ∀ r ∈ l1, r.length ≤ maxLen ∧ ∀ y ∈ r, I64 y) (m2 : l1.length ≤ maxLen) (h3 : IntsIn w w.heap.size a2 l2) (_ : ∀ y ∈ l2, I64 y) (_ : Reached l2) :
    Calls Try.prog 4 #[.int .i64 x0, .int .i64 x1, .slice a1 l1.length c1, .slice a2 l2.length c2] w fun e w' => e = .returned (.bool true) ∧ Below w.heap.size w w' := by
  by_cases h : 1 ≤ x0 ∧ x0 ≤ 4 ∧ 1 ≤ x1 ∧ x1 ≤ 20
  · obtain ⟨h1, h2', h3', h4⟩ := h
    obtain ⟨d, rfl⟩ := Int.eq_ofNat_of_zero_le (show 0 ≤ x0 by omega)
    exact leaseWrites_yes d x1 h1 h2' h3' h4 a1 c1 l1 a2 c2 l2 w h2 m2 h3
  · exact leaseWrites_no x0 x1 a1 _ c1 a2 _ c2 w h
end Go.Proofs.Ytjnghpambjjlkaa
