/-
  Nests: Has and Add, by their contracts.
-/
import Derived.Test.YthldhbcidcmmaaaDoorCuckoo
namespace Go.Proofs.YthldhbcidcmmaaaDoor
open Go.RowKit

def Fine (c : List Int) : Prop := ∀ i, i < 22 → 0 ≤ c.getD i 0 ∧ c.getD i 0 ≤ 1000001
def hasI (c : List Int) (x : Int) : Bool := decide (0 ≤ x) && (decide (c.getD (spot x.toNat 0) 0 = x + 1) || decide (c.getD (spot x.toNat 1) 0 = x + 1))

set_option maxHeartbeats 400000 in
set_option maxRecDepth 100000 in
theorem nHas_y (b : Nat) (c : List Int) (m : Int) (k : Nat) (y : Int) (w : World) (hs : NAt w b c m) (hk : (k : Int) ≤ 9223372036854775807) (hy : IntKind.i64.wrap ((k : Int) + 1) = y) :
    Calls Tryd.prog 12 #[.pointer (some ⟨b, 0, none⟩), .int .i64 k] w fun e w' => e = .returned (.bool (decide (c.getD (spot k 0) 0 = y) || decide (c.getD (spot k 1) 0 = y))) ∧ ∃ q, w' = w.drewN q := by
  obtain ⟨p0, hp0⟩ : ∃ p, p = nst k 0 := ⟨_, rfl⟩
  obtain ⟨p1, hp1⟩ : ∃ p, p = nst k 1 := ⟨_, rfl⟩
  have h0 := (hs.cell_ (spot_lt (k := k) (r := 0) (by decide))).1
  have h1 := (hs.cell_ (spot_lt (k := k) (r := 1) (by decide))).1
  have s0 : spot k 0 = p0 := by rw [hp0]; unfold spot; omega
  have s1 : spot k 1 = 11 + p1 := by rw [hp1]; unfold spot; omega
  rw [s0] at h0 ⊢
  rw [s1] at h1 ⊢
  obtain ⟨x0, hx0⟩ : ∃ x, x = c.getD p0 0 := ⟨_, rfl⟩
  obtain ⟨x1, hx1⟩ : ∃ x, x = c.getD (11 + p1) 0 := ⟨_, rfl⟩
  rw [← hx0] at h0 ⊢
  rw [← hx1] at h1 ⊢
  have l0 : p0 < 11 := by rw [hp0]; exact nst_lt _ _
  have l1 : p1 < 11 := by rw [hp1]; exact nst_lt _ _
  have HP0 := Lib.hid hp0; have HP1 := Lib.hid hp1
  clear hp0 hp1 hx0 hx1 s0 s1
  have g0 : (p0 : Int) < 11 := by omega
  have g1 : (p1 : Int) < 11 := by omega
  have k0 : (0 : Int) ≤ (k : Int) := by omega
  have hd : decide ((0 : Int) ≤ (k : Int)) = true := by simp
  have HK := Lib.hid hk; clear hk
  by_cases e0 : x0 = y
  · subst e0
    go_enter Tryd.func12, Tryd.ntmps12
    go_wp2
    go_quiet (first | (go_at_call 33; with_reducible exact quiet_eq (nest0_eq k HP0.out _)) | (go_at_call 33; with_reducible exact quiet_eq (nest1_eq k HK.out HP1.out _)))
    go_wp2
    go_ret
    exact ⟨by simp, _, rfl⟩
  · by_cases e1 : x1 = y
    · subst e1
      go_enter Tryd.func12, Tryd.ntmps12
      go_wp2
      go_quiet (first | (go_at_call 33; with_reducible exact quiet_eq (nest0_eq k HP0.out _)) | (go_at_call 33; with_reducible exact quiet_eq (nest1_eq k HK.out HP1.out _)))
      go_wp2
      go_ret
      exact ⟨by simp, _, rfl⟩
    · go_enter Tryd.func12, Tryd.ntmps12
      go_wp2
      go_quiet (first | (go_at_call 33; with_reducible exact quiet_eq (nest0_eq k HP0.out _)) | (go_at_call 33; with_reducible exact quiet_eq (nest1_eq k HK.out HP1.out _)))
      go_wp2
      go_ret
      exact ⟨by simp [e0, e1], _, rfl⟩

theorem nHas_any (b : Nat) (c : List Int) (m x : Int) (w : World) (hs : NAt w b c m) (hf : Fine c) (hx : -9223372036854775808 ≤ x ∧ x ≤ 9223372036854775807) :
    Calls Tryd.prog 12 #[.pointer (some ⟨b, 0, none⟩), .int .i64 x] w fun e w' => e = .returned (.bool (hasI c x)) ∧ ∃ q, w' = w.drewN q := by
  by_cases h0 : 0 ≤ x
  · obtain ⟨k, rfl⟩ := Int.eq_ofNat_of_zero_le h0
    have f0 := hf _ (spot_lt (k := k) (r := 0) (by decide))
    have f1 := hf _ (spot_lt (k := k) (r := 1) (by decide))
    have ht : ((k : Int)).toNat = k := by omega
    by_cases hm : (k : Int) = 9223372036854775807
    · refine (nHas_y b c m k (-9223372036854775808) w hs (by omega) (by rw [hm]; rfl)).mono ?_
      rintro e w' ⟨rfl, hq⟩
      refine ⟨ret_bool ?_, hq⟩
      unfold hasI
      rw [ht]
      rw [show decide (c.getD (spot k 0) 0 = -9223372036854775808) = false by simp only [decide_eq_false_iff_not]; omega, show decide (c.getD (spot k 1) 0 = -9223372036854775808) = false by simp only [decide_eq_false_iff_not]; omega,
        show decide (c.getD (spot k 0) 0 = (k : Int) + 1) = false by simp only [decide_eq_false_iff_not]; omega, show decide (c.getD (spot k 1) 0 = (k : Int) + 1) = false by simp only [decide_eq_false_iff_not]; omega]
      simp
    · refine (nHas_y b c m k (k + 1) w hs (by omega) (IntWalk.i64_in _ (by omega))).mono ?_
      rintro e w' ⟨rfl, hq⟩
      refine ⟨ret_bool ?_, hq⟩
      unfold hasI
      rw [ht, Bool.eq_iff_iff]
      simp
  · refine (nHas_low b x w (by omega)).mono ?_
    rintro e w' ⟨rfl, hq⟩
    refine ⟨ret_bool ?_, hq⟩
    unfold hasI
    simp [h0]

def drive : Nat → Nat → Nat → List Int → Option (List Int)
  | _, 0, _, _ => none
  | i, f + 1, k, c => if c.getD (spot k (i % 2)) 0 < 1 then some (c.set (spot k (i % 2)) (k + 1)) else drive (i + 1) f (c.getD (spot k (i % 2)) 0 - 1).toNat (c.set (spot k (i % 2)) (k + 1))

theorem nAdd_range (b : Nat) (x : Int) (w : World) (h : x < 0 ∨ 1000000 < x) :
    Calls Tryd.prog 8 #[.pointer (some ⟨b, 0, none⟩), .int .i64 x] w fun e w' => e = .returned (errv 1) ∧ w = w' := by
  go_enter Tryd.func8, Tryd.ntmps8
  go_wp2_with (go_at_call 32; refine (within_no _ _ _ _ h).mono ?_; rintro e w' ⟨rfl, rfl⟩)
  go_ret
  exact ⟨rfl, rfl⟩
theorem nAdd_clash (b : Nat) (c : List Int) (m x : Int) (w : World) (hs : NAt w b c m) (hf : Fine c) (h1 : 0 ≤ x) (h2 : x ≤ 1000000) (h : hasI c x = true) :
    Calls Tryd.prog 8 #[.pointer (some ⟨b, 0, none⟩), .int .i64 x] w fun e w' => e = .returned (errv 6) ∧ ∃ q, w' = w.drewN q := by
  have H := Lib.hid h; clear h
  go_enter Tryd.func8, Tryd.ntmps8
  go_wp2_with (go_at_call 32; refine (within_yes _ _ _ _ h1 h2).mono ?_; rintro e w' ⟨rfl, rfl⟩)
  refine (nHas_any _ c m x _ hs hf (by omega)).mono ?_
  rintro e w' ⟨rfl, q, rfl⟩
  rw [H.out]
  go_wp2
  go_ret
  exact ⟨rfl, _, rfl⟩
theorem nAdd_full (b : Nat) (c : List Int) (m x : Int) (w : World) (hs : NAt w b c m) (hf : Fine c) (h1 : 0 ≤ x) (h2 : x ≤ 1000000) (h : hasI c x = false) (hm : m = 16) :
    Calls Tryd.prog 8 #[.pointer (some ⟨b, 0, none⟩), .int .i64 x] w fun e w' => e = .returned (errv 4) ∧ ∃ q, w' = w.drewN q := by
  have H := Lib.hid h; clear h
  subst hm
  go_enter Tryd.func8, Tryd.ntmps8
  go_wp2_with (go_at_call 32; refine (within_yes _ _ _ _ h1 h2).mono ?_; rintro e w' ⟨rfl, rfl⟩)
  refine (nHas_any _ c 16 x _ hs hf (by omega)).mono ?_
  rintro e w' ⟨rfl, q, rfl⟩
  rw [H.out]
  have hc := (hs.drewN q).many_.1
  go_wp2
  go_ret
  exact ⟨rfl, _, rfl⟩
end Go.Proofs.YthldhbcidcmmaaaDoor
