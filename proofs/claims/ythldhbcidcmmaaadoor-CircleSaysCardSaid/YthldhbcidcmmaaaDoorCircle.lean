/-
  The circle: cmp.Compare, cmp.Or, places, the closures, slices.MinFunc, circle.owner, by their contracts.
-/
import Derived.Test.YthldhbcidcmmaaaDoorCore
import Derived.StillTailTactics
import Derived.RegionTactic
import Derived.Outline
namespace Go.Proofs.YthldhbcidcmmaaaDoor
open Go.RowKit

def plc (n : Int) : Int := (n * 7 + n / 1000 * 3) % 1000
def far (p n : Int) : Int := (plc n - p + 1000) % 1000
theorem plc_bd (n : Int) : 0 ≤ plc n ∧ plc n < 1000 := by unfold plc; omega
def cmpI (a b : Int) : Int := if a < b then -1 else if b < a then 1 else 0
def ordI (p a b : Int) : Int := if cmpI (far p a) (far p b) = 0 then cmpI a b else cmpI (far p a) (far p b)
def stepO (p m x : Int) : Int := if ordI p x m < 0 then x else m
def ownO (p : Int) : List Int → Int
  | [] => 0
  | x :: l => l.foldl (stepO p) x

theorem isNaN_any (a : Int) (w : World) : Calls Tryd.prog 67 #[.int .i64 a] w fun e w' => e = .returned (.bool false) ∧ w = w' := by
  go_enter Tryd.func67, Tryd.ntmps67
  go_wp2
  go_ret
  exact ⟨by simp, rfl⟩
theorem compare_any (a b : Int) (w : World) : Calls Tryd.prog 54 #[.int .i64 a, .int .i64 b] w fun e w' => e = .returned (.int .i64 (cmpI a b)) ∧ w = w' := by
  obtain ⟨r, hr⟩ : ∃ r, r = cmpI a b := ⟨_, rfl⟩
  rw [← hr]
  unfold cmpI at hr
  by_cases h1 : a < b
  · rw [if_pos h1] at hr
    have HR := Lib.hid hr; clear hr
    go_enter Tryd.func54, Tryd.ntmps54
    go_wp2_with (go_at_call 67; refine (isNaN_any _ _).mono ?_; rintro e w' ⟨rfl, rfl⟩)
    go_ret
    exact ⟨ret_int HR.out.symm, rfl⟩
  · rw [if_neg h1] at hr
    by_cases h2 : b < a
    · rw [if_pos h2] at hr
      have HR := Lib.hid hr; clear hr
      go_enter Tryd.func54, Tryd.ntmps54
      go_wp2_with (go_at_call 67; refine (isNaN_any _ _).mono ?_; rintro e w' ⟨rfl, rfl⟩)
      go_ret
      exact ⟨ret_int HR.out.symm, rfl⟩
    · rw [if_neg h2] at hr
      have HR := Lib.hid hr; clear hr
      go_enter Tryd.func54, Tryd.ntmps54
      go_wp2_with (go_at_call 67; refine (isNaN_any _ _).mono ?_; rintro e w' ⟨rfl, rfl⟩)
      go_ret
      exact ⟨ret_int HR.out.symm, rfl⟩

def OrRel (x y : Int) (i : Value) : Prop := i = .int .i64 0 ∨ (i = .int .i64 1 ∧ x = 0) ∨ (i = .int .i64 2 ∧ x = 0 ∧ y = 0)
theorem or_any (g c : Nat) (x y : Int) (w : World) (h0 : w.cell? ⟨g, 0, none⟩ = some (.int .i64 x)) (h1 : w.cell? ⟨g, 1, none⟩ = some (.int .i64 y)) :
    Calls Tryd.prog 53 #[.slice (some ⟨g, 0, none⟩) 2 c] w fun e w' => e = .returned (.int .i64 (if x = 0 then y else x)) ∧ w = w' := by
  obtain ⟨r, hr⟩ : ∃ r, r = if x = 0 then y else x := ⟨_, rfl⟩
  rw [← hr]
  have HR := Lib.hid hr; clear hr
  go_enter Tryd.func53, Tryd.ntmps53
  go_wp2
  go_loop [5, 8] (fun _ i => OrRel x y i) (fun _ i => 2 - (intOf i).toNat)
  case atStart => exact .inl rfl
  case round =>
    rcases hrel with rfl | ⟨rfl, hx⟩ | ⟨rfl, hx, hy⟩
    · by_cases e : x = 0
      · go_wp2
        go_round
        case rel => exact .inr (.inl ⟨rfl, e⟩)
        case measure => simp [intOf]
      · go_wp2
        go_ret
        exact ⟨ret_int (by rw [HR.out, if_neg e]), rfl⟩
    · have HX := Lib.hid hx; clear hx
      by_cases e : y = 0
      · go_wp2
        go_round
        case rel => exact .inr (.inr ⟨rfl, HX.out, e⟩)
        case measure => simp [intOf]
      · go_wp2
        go_ret
        exact ⟨ret_int (by rw [HR.out, if_pos HX.out]), rfl⟩
    · have HX := Lib.hid hx; have HY := Lib.hid hy; clear hx hy
      go_wp2
      go_ret
      exact ⟨ret_int (by rw [HR.out, if_pos HX.out, HY.out]), rfl⟩

theorem place_any (n : Int) (w : World) (h0 : 0 ≤ n) (h1 : n ≤ 1000000) : Calls Tryd.prog 46 #[.int .i64 n] w fun e w' => e = .returned (.int .i64 (plc n)) ∧ w = w' := by
  go_enter Tryd.func46, Tryd.ntmps46
  go_wp2
  go_ret
  exact ⟨ret_int rfl, rfl⟩
theorem place_is (n q : Int) (w : World) (hq : plc n = q) (h0 : 0 ≤ n) (h1 : n ≤ 1000000) : Calls Tryd.prog 46 #[.int .i64 n] w fun e w' => e = .returned (.int .i64 q) ∧ w = w' := by
  rw [← hq]; exact place_any n w h0 h1

theorem far_any (p n : Int) (a : Addr) (w : World) (hc : w.cell? a = some (.int .i64 p)) (hp0 : 0 ≤ p) (hp1 : p < 1000) (h0 : 0 ≤ n) (h1 : n ≤ 1000000) :
    Calls Tryd.prog 64 #[.int .i64 n, .pointer (some a)] w fun e w' => e = .returned (.int .i64 (far p n)) ∧ ∃ q, w' = w.drewN q := by
  obtain ⟨q, hq⟩ : ∃ q, plc n = q := ⟨_, rfl⟩
  obtain ⟨r, hr⟩ : ∃ r, r = far p n := ⟨_, rfl⟩
  rw [← hr]
  have hb := plc_bd n
  rw [hq] at hb
  have hr2 : (q - p + 1000) % 1000 = r := by rw [hr, ← hq]; rfl
  have hr3 : (q - p + 1000).tmod 1000 = r := by rw [Int.tmod_eq_emod_of_nonneg (by omega)]; exact hr2
  have hb0 := hb.1; have hb1 := hb.2
  have hs1 : IntKind.i64.wrap (q - p) = q - p := IntWalk.i64_in _ (by omega)
  have hs2 : IntKind.i64.wrap (q - p + 1000) = q - p + 1000 := IntWalk.i64_in _ (by omega)
  have hs3 : 0 ≤ q - p + 1000 := by omega
  have HQ := Lib.hid hq
  clear hq hr hb
  go_enter Tryd.func64, Tryd.ntmps64
  go_wp2
  go_quiet ((go_at_call 46; exact quiet_eq (place_is n q _ HQ.out h0 h1)))
  go_wp2
  go_ret
  exact ⟨rfl, _, rfl⟩

set_option maxHeartbeats 1000000 in
theorem ord_any (p a b : Int) (ad : Addr) (w : World) (hc : w.cell? ad = some (.int .i64 p)) (hp0 : 0 ≤ p) (hp1 : p < 1000) (ha0 : 0 ≤ a) (ha1 : a ≤ 1000000) (hb0 : 0 ≤ b) (hb1 : b ≤ 1000000) :
    Calls Tryd.prog 63 #[.int .i64 a, .int .i64 b, .pointer (some ad)] w fun e w' => e = .returned (.int .i64 (ordI p a b)) ∧ Below w.heap.size w w' := by
  have HC := Lib.hid hc
  go_enter Tryd.func63, Tryd.ntmps63
  go_wp2_with fail
  refine (far_any p a ad _ HC.out hp0 hp1 ha0 ha1).mono ?_
  rintro e w1 ⟨rfl, q1, rfl⟩
  go_wp2_with fail
  refine (far_any p b ad (w.drewN q1) HC.out hp0 hp1 hb0 hb1).mono ?_
  rintro e w2 ⟨rfl, q2, rfl⟩
  go_wp2_with fail
  refine (compare_any _ _ _).mono ?_
  rintro e w3 ⟨rfl, rfl⟩
  go_wp2_with fail
  refine (compare_any _ _ _).mono ?_
  rintro e w4 ⟨rfl, rfl⟩
  go_wp2_with fail
  refine (or_any w.heap.size 2 (cmpI (far p a) (far p b)) (cmpI a b) ((w.drewN (q1 + q2)).alloc (.cells #[.int .i64 (cmpI (far p a) (far p b)), .int .i64 (cmpI a b)] 3)) ((Blk.new (w.drewN (q1 + q2)) 3 [.int .i64 (cmpI (far p a) (far p b)), .int .i64 (cmpI a b)]).cell_ (i := 0) rfl) ((Blk.new (w.drewN (q1 + q2)) 3 [.int .i64 (cmpI (far p a) (far p b)), .int .i64 (cmpI a b)]).cell_ (i := 1) rfl)).mono ?_
  rintro e w5 ⟨rfl, rfl⟩
  rw [show (if cmpI (far p a) (far p b) = 0 then cmpI a b else cmpI (far p a) (far p b)) = ordI p a b from rfl]
  go_wp2
  go_ret
  exact ⟨rfl, (((Keep.refl [] w).drewN _).alloc _).below (Nat.le_refl _) (by simp)⟩
end Go.Proofs.YthldhbcidcmmaaaDoor
