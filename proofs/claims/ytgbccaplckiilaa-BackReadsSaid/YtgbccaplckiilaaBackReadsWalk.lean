/-
  BackReads: the walk.
-/
import Derived.Test.YtgbccaplckiilaaBackFact
import Derived.Test.YtgbccaplckiilaaLift
namespace Go.Proofs.Ytgbccaplckiilaa
open Go.RowKit

theorem backReads_no (n : Int) (a : Option Addr) (m c : Nat) (b : Int) (w : World) (h : n < 1 ∨ 8 < n) :
    Calls Try.prog 4 #[.int .i64 n, .slice a m c, .int .i64 b] w fun e w' => e = .returned (.bool true) ∧ Below w.heap.size w w' := by
  go_enter Try.func4, Try.ntmps4
  go_wp2_with (first
    | (go_at_call 17; refine (backFact_any _).mono ?_; rintro e w1 ⟨rfl, hb1⟩)
    | (go_at_call 10; refine (bNew_no _ _ h).mono ?_; rintro e w2 ⟨rfl, rfl⟩)
    | (go_at_call 18; refine (in_no _ _ _ _ h).mono ?_; rintro e w' ⟨rfl, rfl⟩))
  go_ret
  exact ⟨rfl, hb1⟩

theorem backReads_yes (n : Nat) (h1 : 1 ≤ (n : Int)) (h2 : (n : Int) ≤ 8) (a : Option Addr) (c : Nat) (xss : List (List Int)) (b : Int) (w : World) (hx : RowsIn w w.heap.size a xss) (hn : xss.length ≤ maxLen) :
    Calls Try.prog 4 #[.int .i64 n, .slice a xss.length c, .int .i64 b] w fun e w' => e = .returned (.bool true) ∧ Below w.heap.size w w' := by
  have HN := Lib.hid hn; clear hn
  have HX := Lib.hid hx; clear hx
  go_enter Try.func4, Try.ntmps4
  go_wp2_with fail
  refine (backFact_any _).mono ?_
  rintro e w1 ⟨rfl, hb1⟩
  go_wp2_with fail
  refine (bNew_ok n _ h1 h2).mono ?_
  rintro e w2 ⟨rfl, hat, hb2⟩
  have hsz1 := hb1.size
  have hbw : Below w.heap.size w w2 := hb1.trans (hb2.mono hsz1)
  have HAT := Lib.hid hat; clear hat
  go_wp2_with fail
  refine (used_any w1.heap.size n w.heap.size _ bs0 a c xss _ HAT.out (by omega) (by omega) (bs0_inv n) (HX.out.below hbw) HN.out hsz1 (by simp [Value.ownBlock])).mono ?_
  rintro e w3 ⟨u, v, rfl, hus, hinv⟩
  have HUS := Lib.hid hus; have HINV := Lib.hid hinv
  have HB3 : Hid (Below w.heap.size w w3) := Lib.hid (hbw.trans (hus.below hbw.size hsz1 (by simp [Value.ownBlock])))
  have hbl := HAT.out.top.lt
  have hnw : wrs (xss.take 100) ≤ 1000 := by have := (wrs_bd (xss.take 100)).2; simp at this; omega
  clear hus hinv hbw hb1 hb2
  by_cases hk : 0 ≤ b ∧ b ≤ 7
  · obtain ⟨k0, k7⟩ := hk
    obtain ⟨k, rfl⟩ := Int.eq_ofNat_of_zero_le k0
    have hii : BInv n u.s u.last 100 (wrs (xss.take 100)) := HINV.out
    obtain ⟨_, d, r, hd⟩ := hii.read (by omega) k0 k7
    have hle := hii.le; have hrng := hii.rng; have r0 := hii.rd0; have r1 := hii.rd; have g0 := hii.wr0; have g1 := hii.wr; have hll := hii.ll
    have HRNG := Lib.hid hrng; have HD := Lib.hid hd
    clear hrng hd hii
    go_wp2_with fail
    refine (bRead_ok _ k n v u.s _ HUS.out.1 (by omega) (by omega) hle HRNG.out k7 r0 (by omega) g0 (by omega) _ d r HD.out).mono ?_
    rintro e w4 ⟨v', rfl, hb4, hk4, ho4⟩
    have hst := HUS.out.step hbl hb4 hk4 ho4
    have hc := hst.last hll (k := k) (by omega)
    have HB4 : Hid (Below w.heap.size w w4) := Lib.hid (HB3.out.trans (hk4.old HB3.out.size hsz1 (fun g hg => by
      rcases HUS.out.2.2.1 g hg with e | e
      · simp [Value.ownBlock] at e
      · omega)))
    clear hst hb4 hk4 ho4
    go_wp2_with (go_at_call 18; refine (in_yes _ _ _ _ k0 k7).mono ?_; rintro e w' ⟨rfl, rfl⟩)
    go_ret
    exact ⟨by simp, HB4.out⟩
  · have hk' : b < 0 ∨ 7 < b := by omega
    clear hk
    go_wp2_with fail
    refine (bRead_no _ b _ hk').mono ?_
    rintro e w4 ⟨rfl, rfl⟩
    go_wp2_with (go_at_call 18; refine (in_no _ _ _ _ hk').mono ?_; rintro e w' ⟨rfl, rfl⟩)
    go_ret
    exact ⟨by simp, HB3.out⟩

theorem backReads_walk (x0 : Int) (a1 : Option Addr) (c1 : Nat) (l1 : List (List Int)) (x2 : Int) (w : World) (_ : I64 x0) (h2 : RowsIn w w.heap.size a1 l1) (_ : ∀ r ∈ l1, r.length ≤ maxLen ∧ ∀ y ∈ r, I64 y) (m2 : l1.length ≤ maxLen) (_ : I64 x2) :
    Calls Try.prog 4 #[.int .i64 x0, .slice a1 l1.length c1, .int .i64 x2] w fun e w' => e = .returned (.bool true) ∧ Below w.heap.size w w' := by
  by_cases h : 1 ≤ x0 ∧ x0 ≤ 8
  · obtain ⟨h1, h2'⟩ := h
    obtain ⟨d, rfl⟩ := Int.eq_ofNat_of_zero_le (show 0 ≤ x0 by omega)
    exact backReads_yes d h1 h2' a1 c1 l1 x2 w h2 m2
  · exact backReads_no x0 a1 _ c1 x2 w (by omega)
end Go.Proofs.Ytgbccaplckiilaa
