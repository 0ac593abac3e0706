/-
  Nests: Drop and Row, by their contracts.
-/
import Derived.Test.YthldhbcidcmmaaaDoorCuckoo3
namespace Go.Proofs.YthldhbcidcmmaaaDoor
open Go.RowKit

def dropC (c : List Int) (k : Nat) : Option (List Int) :=
  if c.getD (spot k 0) 0 = (k : Int) + 1 then some (c.set (spot k 0) 0) else if c.getD (spot k 1) 0 = (k : Int) + 1 then some (c.set (spot k 1) 0) else none
theorem dropC_at {c : List Int} {k r : Nat} (hr : r < 2) (h : ∀ s, s < r → c.getD (spot k s) 0 ≠ (k : Int) + 1) (he : c.getD (spot k r) 0 = (k : Int) + 1) : dropC c k = some (c.set (spot k r) 0) := by
  unfold dropC
  rcases (show r = 0 ∨ r = 1 by omega) with rfl | rfl
  · rw [if_pos he]
  · rw [if_neg (h 0 (by omega)), if_pos he]
theorem dropC_none {c : List Int} {k : Nat} (h : ∀ s, s < 2 → c.getD (spot k s) 0 ≠ (k : Int) + 1) : dropC c k = none := by
  unfold dropC
  rw [if_neg (h 0 (by omega)), if_neg (h 1 (by omega))]

theorem nDrop_range (b : Nat) (x : Int) (w : World) (h : x < 0 ∨ 1000000 < x) :
    Calls Tryd.prog 10 #[.pointer (some ⟨b, 0, none⟩), .int .i64 x] w fun e w' => e = .returned (errv 1) ∧ w = w' := by
  go_enter Tryd.func10, Tryd.ntmps10
  go_wp2_with (go_at_call 32; refine (within_no _ _ _ _ h).mono ?_; rintro e w' ⟨rfl, rfl⟩)
  go_ret
  exact ⟨rfl, rfl⟩

def DropPost (w : World) (b : Nat) (c : List Int) (m : Int) (k : Nat) (e : Ending) (w' : World) : Prop :=
  (∃ c', dropC c k = some c' ∧ e = .returned .nilIface ∧ NAt w' b c' (m - 1) ∧ Keep [b] w w') ∨ (dropC c k = none ∧ e = .returned (errv 5) ∧ NAt w' b c m ∧ Keep [b] w w')
def DropRel (w : World) (c : List Int) (k : Nat) (i : Value) (wr : World) : Prop :=
  ∃ r : Nat, r ≤ 2 ∧ i = .int .i64 r ∧ (∀ s, s < r → c.getD (spot k s) 0 ≠ (k : Int) + 1) ∧ Keep [] w wr

set_option maxHeartbeats 1000000 in
set_option maxRecDepth 100000 in
theorem nDrop_go (b : Nat) (c : List Int) (m : Int) (k : Nat) (w : World) (hs : NAt w b c m) (h2 : (k : Int) ≤ 1000000) (hm0 : 0 ≤ m) (hm : m ≤ 16) :
    Calls Tryd.prog 10 #[.pointer (some ⟨b, 0, none⟩), .int .i64 k] w (DropPost w b c m k) := by
  have h1 : (0 : Int) ≤ (k : Int) := by omega
  have HS := Lib.hid hs; clear hs
  go_enter Tryd.func10, Tryd.ntmps10
  go_wp2_with (go_at_call 32; refine (within_yes _ _ _ _ h1 h2).mono ?_; rintro e w' ⟨rfl, rfl⟩)
  go_loopw [5, 6, 11] (fun _ _ i wr => DropRel w c k i wr) (fun _ _ i _ => 2 - (intOf i).toNat)
  case atStart => exact ⟨0, by omega, rfl, by simp, Keep.refl _ _⟩
  case round =>
    obtain ⟨r, hr, rfl, hne, hkr⟩ := hrel
    have HNE := Lib.hid hne; have HKR := Lib.hid hkr; have HS' := Lib.hid (HS.out.keep hkr (by simp))
    clear hne hkr
    by_cases hlt : r < 2
    · have hr2' : (r : Int) < 2 := by omega
      have hr0 : (0 : Int) ≤ (r : Int) := by omega
      obtain ⟨p, hp⟩ : ∃ p, p = nst k r := ⟨_, rfl⟩
      have hp11 : p < 11 := by rw [hp]; exact nst_lt _ _
      have hpi : (p : Int) < 11 := by omega
      have hp0 : (0 : Int) ≤ (p : Int) := by omega
      have hcell := HS'.out.cell_ (i := r * 11 + p) (by omega)
      have hsp : spot k r = r * 11 + p := by rw [hp]; rfl
      obtain ⟨x, hx⟩ : ∃ x, x = c.getD (r * 11 + p) 0 := ⟨_, rfl⟩
      rw [← hx] at hcell
      obtain ⟨hcell, hfree⟩ := hcell
      have HP := Lib.hid hp; have HX := Lib.hid hx; have HSP := Lib.hid hsp
      clear hp hx hsp
      obtain ⟨hmc, hmf⟩ := HS'.out.many_
      have hne22 : ¬ r * 11 + p = 22 := by omega
      have hne23 : ¬ 22 = r * 11 + p := by omega
      go_wp2
      go_quiet ((go_at_call 33; exact quiet_eq (nest_eq k r hlt (by omega) HP.out _)))
      by_cases hx2 : x = (k : Int) + 1
      · have HE : Hid (dropC c k = some (c.set (r * 11 + p) 0)) := Lib.hid (by rw [← HSP.out]; exact dropC_at hlt HNE.out (by rw [HSP.out, ← HX.out, hx2]))
        subst hx2
        go_wp2
        go_ret
        exact .inl ⟨_, HE.out, rfl, (((HS'.out.drewN _).set (by omega) _).setM _), (((HKR.out.mono (by simp)).drewN _).set (fun _ => by simp) _).set (fun _ => by simp) _⟩
      · go_wp2
        go_roundw
        case rel =>
          refine ⟨r + 1, hlt, by simp, fun s hs => ?_, HKR.out.drewN _⟩
          rcases Nat.lt_or_ge s r with g | g
          · exact HNE.out s g
          · obtain rfl : s = r := by omega
            rw [HSP.out, ← HX.out]; exact hx2
        case measure => simp [intOf]; omega
    · have hlt' : ¬ (r : Int) < 2 := by omega
      obtain rfl : r = 2 := by omega
      have HD := Lib.hid (dropC_none HNE.out)
      go_wp2
      go_ret
      exact .inr ⟨HD.out, rfl, HS'.out, HKR.out.mono (by simp)⟩
end Go.Proofs.YthldhbcidcmmaaaDoor
