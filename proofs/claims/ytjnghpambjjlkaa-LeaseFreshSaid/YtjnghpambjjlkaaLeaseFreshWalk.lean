/-
  LeaseFresh: the walk.
-/
import Derived.Test.YtjnghpambjjlkaaLeaseFact
import Derived.Test.YtjnghpambjjlkaaLift2
namespace Go.Proofs.Ytjnghpambjjlkaa
open Go.RowKit

def LFRel (w : World) (b g n m : Nat) (t : Int) (i : Value) (wr : World) : Prop :=
  ∃ (k : Nat) (s : Ls), k ≤ m + 1 ∧ i = .int .i64 k ∧ LAt wr b g n s ∧ LInv n s ∧ s.term = t ∧ Below w.heap.size w wr

theorem le_step {r : Nat} {s : Ls} (h : ∀ x, x < r → s.until_ x ≤ s.now) (hu : ¬ s.now < s.until_ r) : ∀ x, x < r + 1 → s.until_ x ≤ s.now := fun x hx => by
  rcases Nat.lt_or_ge x r with g | g
  · exact h x g
  · obtain rfl : x = r := by omega
    omega

theorem leaseFresh_no (n t : Int) (a : Option Addr) (m c : Nat) (w : World) (h : ¬ (1 ≤ n ∧ n ≤ 4 ∧ 1 ≤ t ∧ t ≤ 20)) :
    Calls Try.prog 7 #[.int .i64 n, .int .i64 t, .slice a m c] w fun e w' => e = .returned (.bool true) ∧ Below w.heap.size w w' := by
  by_cases hn : 1 ≤ n ∧ n ≤ 4
  · have ht : t < 1 ∨ 20 < t := by omega
    go_enter Try.func7, Try.ntmps7
    go_wp2_with (first
      | (go_at_call 18; refine (leaseFact_any _).mono ?_; rintro e w1 ⟨rfl, hb1⟩)
      | (go_at_call 19; refine (leaseNew_no _ _ _ h).mono ?_; rintro e w2 ⟨rfl, rfl⟩)
      | (go_at_call 20; refine (in_yes _ _ _ _ (by omega) (by omega)).mono ?_; rintro e w' ⟨rfl, rfl⟩)
      | (go_at_call 20; refine (in_no _ _ _ _ (by omega)).mono ?_; rintro e w' ⟨rfl, rfl⟩))
    go_ret
    exact ⟨rfl, hb1⟩
  · have ht : n < 1 ∨ 4 < n := by omega
    go_enter Try.func7, Try.ntmps7
    go_wp2_with (first
      | (go_at_call 18; refine (leaseFact_any _).mono ?_; rintro e w1 ⟨rfl, hb1⟩)
      | (go_at_call 19; refine (leaseNew_no _ _ _ h).mono ?_; rintro e w2 ⟨rfl, rfl⟩)
      | (go_at_call 20; refine (in_no _ _ _ _ (by omega)).mono ?_; rintro e w' ⟨rfl, rfl⟩))
    go_ret
    exact ⟨rfl, hb1⟩

set_option maxHeartbeats 1000000 in
set_option maxRecDepth 100000 in
theorem leaseFresh_yes (n : Nat) (t : Int) (h1 : 1 ≤ (n : Int)) (h2 : (n : Int) ≤ 4) (h3 : 1 ≤ t) (h4 : t ≤ 20) (a : Option Addr) (c : Nat) (xss : List (List Int)) (w : World) (hx : RowsIn w w.heap.size a xss) (hn : xss.length ≤ maxLen) (hc : xss.length ≤ c) :
    Calls Try.prog 7 #[.int .i64 n, .int .i64 t, .slice a xss.length c] w fun e w' => e = .returned (.bool true) ∧ Below w.heap.size w w' := by
  have HN := Lib.hid hn; clear hn
  have HCC := Lib.hid hc; clear hc
  have HX := Lib.hid hx; clear hx
  go_enter Try.func7, Try.ntmps7
  go_wp2_with fail
  refine (leaseFact_any _).mono ?_
  rintro e w1 ⟨rfl, hb1⟩
  go_wp2_with fail
  refine (leaseNew_yes n t _ h1 h2 h3 h4).mono ?_
  rintro e w2 ⟨rfl, hs, hb2⟩
  have hsz1 := hb1.size
  have HS : Hid (LAt w2 (w1.heap.size + 1) w1.heap.size n (l0 n t)) := Lib.hid hs
  clear hs
  have hsz2 := hb2.size
  have hbw : Below w.heap.size w w2 := hb1.trans (hb2.mono hsz1)
  have HI : Hid (LInv n (l0 n t)) := Lib.hid (l0_inv n t h3 h4)
  go_wp2_with fail
  go_loopw [10, 11, 12, 13, 14, 15, 16, 17, 18, 19] (fun i _ _ _ _ _ _ _ _ _ wr => LFRel w (w1.heap.size + 1) w1.heap.size n xss.length t i wr) (fun i _ _ _ _ _ _ _ _ _ _ => xss.length + 1 - (intOf i).toNat)
  case atStart => exact ⟨0, l0 n t, by omega, rfl, HS.out, HI.out, rfl, hbw⟩
  case round =>
    obtain ⟨k, s0, hk, rfl, hs0, hi0, ht0, hbel0⟩ := hrel
    have HS0 := Lib.hid hs0; have HI0 := Lib.hid hi0; clear hs0 hi0 HS HI
    by_cases hlt : k ≤ xss.length ∧ k < 80
    · obtain ⟨hlt, hlt8⟩ := hlt
      have hk80 : (k : Int) < 80 := by omega
      have hkm : (k : Int) ≤ (xss.length : Int) := by omega
      rcases (show ¬ (0 : Int) < (k : Int) ∨ ∃ j, j < k ∧ k ≤ j + 1 from by cases k with | zero => exact .inl (by simp) | succ j => exact .inr ⟨j, by omega, by omega⟩) with hk1 | ⟨j, hja, hjb⟩
      focus
        go_wp2_with fail
        obtain ⟨s, rfl⟩ : ∃ s, s = s0 := ⟨_, rfl⟩
        obtain ⟨wx, rfl⟩ : ∃ wx : World, wx = wr := ⟨_, rfl⟩
        have HS := HS0; have HI := HI0; have hbel := hbel0; have ht := ht0
        clear HS0 HI0 ht0
      rotate_left 1
      focus
        have hk1 : (0 : Int) < (k : Int) := by omega
        obtain ⟨bx, off, a', c', rfl, hbB, hcell, hrow⟩ := HX.out.at_ (show j < xss.length by omega)
        have hone := (RowsIn.one hbB hcell hrow).below hbel0
        have HO := Lib.hid hone; clear hone hcell hrow
        have hq : IntKind.i64.wrap ((k : Int) - 1) = (j : Int) := by rw [show (k : Int) - 1 = (j : Int) by omega]; exact IntWalk.i64_in _ (by omega)
        have hcc := HCC.out
        have hj0 : (0 : Int) ≤ (j : Int) := by omega
        have hjk : (j : Int) ≤ (k : Int) := by omega
        have hkc : (k : Int) ≤ (c : Int) := by omega
        go_wp2_with fail
        rw [show k - j = 1 by omega]
        refine (lends_any _ _ n 1 w.heap.size s0 _ _ [xss[j]] _ rfl HO.out (by simp; omega) hbel0.size HS0.out HI0.out h2 (by decide)).mono ?_
        rintro e wx ⟨rfl, s, hs, hi, ht', hk3⟩
        have ht : s.term = t := by rw [ht', ht0]
        have hbel : Below w.heap.size w wx := hbel0.trans (hk3.below hbel0.size (by simp; omega))
        clear hk3 ht' ht0 HS0 HI0 HO
        have HS := Lib.hid hs; have HI := Lib.hid hi; clear hs hi
        go_wp2_with fail
      all_goals
        have hti := HI.out.term
        have hni := HI.out.now
        rw [ht] at hti
        have hsum : IntKind.i64.wrap (s.now + t) = s.now + t := IntWalk.i64_in _ (by omega)
        have hsum1 : IntKind.i64.wrap ((k : Int) + 1) = ((k + 1 : Nat) : Int) := by rw [show (k : Int) + 1 = ((k + 1 : Nat) : Int) by omega]; exact IntWalk.i64_in _ (by omega)
        refine (value_any _ _ n s _ HS.out).mono ?_
        rintro e w4 ⟨rfl, q, rfl⟩
        have hs5 : LAt (wx.drewN q) (w1.heap.size + 1) w1.heap.size n s := HS.out.keep ((Keep.refl [] _).drewN q) (by simp)
        have hb5 : Below w.heap.size w (wx.drewN q) := hbel.trans (((Keep.refl [] _).drewN q).below hbel.size (by simp))
        obtain ⟨wo, hwo⟩ : ∃ wo : World, wo = wx.drewN q := ⟨_, rfl⟩
        rw [← hwo] at hs5 hb5 ⊢
        clear hwo
        have HS5 := Lib.hid hs5; clear hs5
        have hnext : ∀ wy, Keep [] wo wy → LFRel w (w1.heap.size + 1) w1.heap.size n xss.length t (.int .i64 ((k + 1 : Nat) : Int)) wy := fun wy hy =>
          ⟨k + 1, s, by omega, rfl, HS5.out.keep hy (by simp), HI.out, ht, hb5.trans (hy.below hb5.size (by simp))⟩
        have HX5 := Lib.hid hnext; clear hnext
        go_wp2_with fail
        go_loopw [14, 15, 16, 17] (fun p _ _ _ wy => ∃ pp : Nat, pp ≤ n ∧ p = .int .i64 pp ∧ Keep [] wo wy) (fun p _ _ _ _ => n - (intOf p).toNat)
        case atStart => exact ⟨0, by omega, rfl, Keep.refl _ _⟩
        case round =>
          obtain ⟨pp, hpp, rfl, hky⟩ := hrel
          have HSY := Lib.hid (HS5.out.keep hky (by simp))
          by_cases hpn : pp < n
          · have hpn' : (pp : Int) < (n : Int) := by omega
            by_cases hu : s.now < s.until_ pp
            · have hb := HI.out.bound pp hpn
              have hh := HI.out.had pp hpn hu
              rw [ht] at hb
              have u1 : ¬ s.until_ pp = 0 := by omega
              have u2 : ¬ s.until_ pp ≤ s.now := by omega
              have u3 : ¬ s.now + t < s.until_ pp := by omega
              go_wp2_with fail
              refine (until_in _ _ n pp s _ HSY.out h2 hpn').mono ?_
              rintro e w5 ⟨he, hk5⟩
              rw [if_pos hu] at he
              subst he
              have HSZ := Lib.hid (HSY.out.keep hk5 (by simp))
              go_wp2_with fail
              refine (lRead_had _ _ n pp s _ HSZ.out h2 hpn' hu).mono ?_
              rintro e w6 ⟨he, hk6⟩
              rw [hh] at he
              subst he
              go_wp2
              go_roundw
              case rel => exact ⟨pp + 1, hpn, by simp, hky.trans (hk5.trans hk6)⟩
              case measure => simp [intOf]; omega
            · go_wp2_with fail
              refine (until_in _ _ n pp s _ HSY.out h2 hpn').mono ?_
              rintro e w5 ⟨he, hk5⟩
              rw [if_neg (by omega)] at he
              subst he
              go_wp2
              go_roundw
              case rel => exact ⟨pp + 1, hpn, by simp, hky.trans hk5⟩
              case measure => simp [intOf]; omega
          · have hpn' : ¬ (pp : Int) < (n : Int) := by omega
            by_cases hw : 0 ≤ s.want
            · go_wp2_with fail
              go_loopw [18, 19] (fun b p wz => ∃ (bv : Bool) (r : Nat), r ≤ n ∧ b = .bool bv ∧ p = .int .i64 r ∧ (bv = false → ∀ x, x < r → s.until_ x ≤ s.now) ∧ Keep [] wo wz) (fun _ p _ => n - (intOf p).toNat)
              case atStart => exact ⟨false, 0, by omega, rfl, rfl, fun _ x hx => by omega, hky⟩
              case round =>
                obtain ⟨bv, r, hr, rfl, rfl, hbv, hkz⟩ := hrel
                have HBV := Lib.hid hbv; clear hbv
                have HSZ := Lib.hid (HS5.out.keep hkz (by simp))
                by_cases hrn : r < n
                · have hrn' : (r : Int) < (n : Int) := by omega
                  cases bv
                  · by_cases hu : s.now < s.until_ r
                    · go_wp2_with fail
                      refine (until_in _ _ n r s _ HSZ.out h2 hrn').mono ?_
                      rintro e w5 ⟨he, hk5⟩
                      rw [if_pos hu] at he
                      subst he
                      go_wp2
                      go_roundw
                      case rel => exact ⟨true, r + 1, hrn, by simp [hu], by simp, fun h => (by cases h), hkz.trans hk5⟩
                      case measure => simp [intOf]; omega
                    · have hn0 : ¬ s.now < 0 := by omega
                      go_wp2_with fail
                      refine (until_in _ _ n r s _ HSZ.out h2 hrn').mono ?_
                      rintro e w5 ⟨he, hk5⟩
                      rw [if_neg (by omega)] at he
                      subst he
                      go_wp2
                      go_roundw
                      case rel => exact ⟨false, r + 1, hrn, by simp [hn0], by simp, fun _ => le_step (HBV.out (by trivial)) (by omega), hkz.trans hk5⟩
                      case measure => simp [intOf]; omega
                  · go_wp2
                    go_roundw
                    case rel => exact ⟨true, r + 1, hrn, by simp, by simp, fun h => (by cases h), hkz⟩
                    case measure => simp [intOf]; omega
                · have hrn' : ¬ (r : Int) < (n : Int) := by omega
                  have hbt : bv = true := by
                    rcases HI.out.want with a | ⟨_, a, ⟨y, hy, e⟩, _⟩
                    · omega
                    · cases bv with
                      | true => rfl
                      | false => have := HBV.out rfl y (by omega); omega
                  subst hbt
                  go_wp2
                  go_roundw
                  case rel => first | exact HX5.out _ hkz | (have := HX5.out _ hkz; simpa using this)
                  case measure => simp [intOf]; omega
            · go_wp2
              go_roundw
              case rel => first | exact HX5.out _ hky | (have := HX5.out _ hky; simpa using this)
              case measure => simp [intOf]; omega
    · have hex : ¬ (k : Int) ≤ (xss.length : Int) ∨ ((k : Int) ≤ (xss.length : Int) ∧ ¬ (k : Int) < 80) := by omega
      clear hlt
      rcases hex with hex | ⟨hex, hex2⟩
      all_goals
        go_wp2
        go_ret
        exact ⟨rfl, hbel0⟩

theorem leaseFresh_walk (x0 x1 : Int) (a1 : Option Addr) (c1 : Nat) (l1 : List (List Int)) (w : World) (_ : I64 x0) (_ : I64 x1) (h2 : RowsIn w w.heap.size a1 l1) (_ : ∀ r ∈ l1, r.length ≤ maxLen ∧ ∀ y ∈ r, I64 y) (m2 : l1.length ≤ maxLen) (z2 : l1.length ≤ c1) :
    Calls Try.prog 7 #[.int .i64 x0, .int .i64 x1, .slice a1 l1.length c1] w fun e w' => e = .returned (.bool true) ∧ Below w.heap.size w w' := by
  by_cases h : 1 ≤ x0 ∧ x0 ≤ 4 ∧ 1 ≤ x1 ∧ x1 ≤ 20
  · obtain ⟨h1, h2', h3', h4⟩ := h
    obtain ⟨d, rfl⟩ := Int.eq_ofNat_of_zero_le (show 0 ≤ x0 by omega)
    exact leaseFresh_yes d x1 h1 h2' h3' h4 a1 c1 l1 w h2 m2 z2
  · exact leaseFresh_no x0 x1 a1 _ c1 w h
end Go.Proofs.Ytjnghpambjjlkaa
