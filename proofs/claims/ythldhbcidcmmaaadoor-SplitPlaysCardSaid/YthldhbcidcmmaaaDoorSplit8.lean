/-
  A table by what it holds: New, Add, Has, Page, Depth; the law's bits: by their contracts.
-/
import Derived.Test.YthldhbcidcmmaaaDoorSplit7
namespace Go.Proofs.YthldhbcidcmmaaaDoor
open Go.RowKit

theorem Tab.keep0 {O : Nat → Prop} {w w' : World} {t : Nat} {S : List Int} (h : Tab O w t S) (hk : Keep [] w w') : Tab O w' t S := by
  obtain ⟨g, cap, D, pg, deep, kv, h1, h2, h3⟩ := h
  exact ⟨g, cap, D, pg, deep, kv, h1.keep0 hk, h2, h3⟩
theorem Tab.bel {O : Nat → Prop} {w w' : World} {t : Nat} {S : List Int} (h : Tab O w t S) (hb : Below w.heap.size w w') : Tab O w' t S := h.keep0 (Keep.of_below hb (Nat.le_refl _))
theorem Tab.keepP {O O' : Nat → Prop} {w w' : World} {t : Nat} {S : List Int} (h : Tab O w t S) (hk : KeepP O' w w') (hd : ∀ x, x < w.heap.size → O x → ¬ O' x) : Tab O w' t S := by
  obtain ⟨g, cap, D, pg, deep, kv, h1, h2, h3⟩ := h
  exact ⟨g, cap, D, pg, deep, kv, h1.keepP hk hd, h2, h3⟩
theorem Tab.up {O : Nat → Prop} {w : World} {t : Nat} {S : List Int} (h : Tab O w t S) : Up S ∧ ∀ x ∈ S, 0 ≤ x ∧ x ≤ 1000000 := by
  obtain ⟨g, cap, D, pg, deep, kv, h1, h2, h3⟩ := h
  exact ⟨h2.up, fun x hx => ⟨h2.pos x hx, h3 x hx⟩⟩
theorem Tab.on {O : Nat → Prop} {w : World} {t : Nat} {S : List Int} (h : Tab O w t S) : ∀ x, w.heap.size ≤ x → O x := by
  obtain ⟨g, cap, D, pg, deep, kv, h1, h2, h3⟩ := h
  exact h1.on

def NewTab (w : World) (e : Ending) (w' : World) : Prop := ∃ t, e = .returned (.pointer (some ⟨t, 0, none⟩)) ∧ Tab (fun x => w.heap.size ≤ x) w' t [] ∧ Below w.heap.size w w'
theorem tNew_any (w : World) : Calls Tryd.prog 7 #[] w (NewTab w) := by
  refine (sNew_any w).mono ?_
  rintro e w' ⟨rfl, h, hb⟩
  exact ⟨_, rfl, ⟨_, _, _, _, _, _, h, dir_new, by simp⟩, hb⟩

theorem tAdd_any {O : Nat → Prop} {w : World} {t : Nat} {S : List Int} (x : Int) (h : Tab O w t S) : Calls Tryd.prog 9 #[.pointer (some ⟨t, 0, none⟩), .int .i64 x] w (AddTab O w t S x) := by
  have h0 := h
  obtain ⟨g, cap, D, pg, deep, kv, h1, h2, h3⟩ := h
  by_cases hr : 0 ≤ x ∧ x ≤ 1000000
  · by_cases hm : x ∈ S
    · refine (add_was x h1 h2 hr.1 hr.2 hm).mono ?_
      rintro e w' ⟨rfl, hk⟩
      have ha : addE S x = 6 := by unfold addE; rw [if_neg (fun hh => hh hr), if_pos hm]
      have hs : addS S x = S := by unfold addS; rw [if_neg (fun hh => hh.2.2.1 hm)]
      exact ⟨by rw [ha]; rfl, by rw [hs]; exact h0.keep0 hk, hk.toP (by simp)⟩
    · obtain ⟨k, rfl⟩ := Int.eq_ofNat_of_zero_le hr.1
      exact add_new k h1 h2 h3 (by omega) hm
  · refine (add_no t x w (by omega)).mono ?_
    rintro e w' ⟨rfl, rfl⟩
    have ha : addE S x = 1 := by unfold addE; rw [if_pos hr]
    have hs : addS S x = S := by unfold addS; rw [if_neg (fun hh => hr ⟨hh.1, hh.2.1⟩)]
    exact ⟨by rw [ha]; rfl, by rw [hs]; exact h0, KeepP.refl _ _⟩
/-- .. where nothing is wrong, and where something is. -/
theorem tAdd_yes {O : Nat → Prop} {w : World} {t : Nat} {S : List Int} (x : Int) (h : Tab O w t S) (h0 : addE S x = 0) :
    Calls Tryd.prog 9 #[.pointer (some ⟨t, 0, none⟩), .int .i64 x] w fun e w' => e = .returned .nilIface ∧ Tab O w' t (insK x S) ∧ KeepP O w w' := by
  refine (tAdd_any x h).mono ?_
  rintro e w' ⟨rfl, hs, hk⟩
  have := addE_zero.1 h0
  exact ⟨by rw [h0]; rfl, by unfold addS at hs; rwa [if_pos this] at hs, hk⟩
theorem addS_no {S : List Int} {x : Int} (h0 : addE S x ≠ 0) : addS S x = S := by unfold addS; rw [if_neg (fun hh => h0 (addE_zero.2 hh))]
theorem addS_yes {S : List Int} {x : Int} (h0 : addE S x = 0) : addS S x = insK x S := by unfold addS; rw [if_pos (addE_zero.1 h0)]
theorem tAdd_no {O : Nat → Prop} {w : World} {t : Nat} {S : List Int} (x k : Int) (h : Tab O w t S) (hk : addE S x = k) (h0 : k ≠ 0) :
    Calls Tryd.prog 9 #[.pointer (some ⟨t, 0, none⟩), .int .i64 x] w fun e w' => e = .returned (errv k) ∧ Tab O w' t S ∧ KeepP O w w' := by
  refine (tAdd_any x h).mono ?_
  rintro e w' ⟨rfl, hs, hkp⟩
  exact ⟨by rw [hk, errw_of h0], by rwa [addS_no (by rw [hk]; exact h0)] at hs, hkp⟩

/-- The table opened: its depth, and the depths of its places. -/
def TabD (O : Nat → Prop) (w : World) (t : Nat) (S : List Int) (D : Nat) (deep : Nat → Nat) : Prop := ∃ g cap pg kv, TAt O w t g cap D pg deep kv S ∧ Dir S S D deep ∧ ∀ x ∈ S, x ≤ 1000000
theorem Tab.open_ {O : Nat → Prop} {w : World} {t : Nat} {S : List Int} (h : Tab O w t S) : ∃ D deep, TabD O w t S D deep ∧ Dir S S D deep ∧ D ≤ 6 := by
  obtain ⟨g, cap, D, pg, deep, kv, h1, h2, h3⟩ := h
  exact ⟨D, deep, ⟨g, cap, pg, kv, h1, h2, h3⟩, h2, h1.d6⟩
section
variable {O : Nat → Prop} {w w' : World} {t : Nat} {S : List Int} {D : Nat} {deep : Nat → Nat}
theorem TabD.keep0 (h : TabD O w t S D deep) (hk : Keep [] w w') : TabD O w' t S D deep := by
  obtain ⟨g, cap, pg, kv, h1, h2, h3⟩ := h
  exact ⟨g, cap, pg, kv, h1.keep0 hk, h2, h3⟩
theorem TabD.bel (h : TabD O w t S D deep) (hb : Below w.heap.size w w') : TabD O w' t S D deep := h.keep0 (Keep.of_below hb (Nat.le_refl _))
theorem TabD.depth (h : TabD O w t S D deep) : Calls Tryd.prog 17 #[.pointer (some ⟨t, 0, none⟩)] w fun e w' => e = .returned (.int .i64 D) ∧ w = w' := by
  obtain ⟨g, cap, pg, kv, h1, h2, h3⟩ := h
  exact depth_any h1
theorem TabD.has (h : TabD O w t S D deep) (x : Int) (b : Bool) (hx : x < 9223372036854775808) (hb : decide (x ∈ S) = b) :
    Calls Tryd.prog 13 #[.pointer (some ⟨t, 0, none⟩), .int .i64 x] w fun e w' => e = .returned (.bool b) ∧ Keep [] w w' := by
  obtain ⟨g, cap, pg, kv, h1, h2, h3⟩ := h
  exact tHas_is x b h1 h2 hx hb
theorem TabD.page (h : TabD O w t S D deep) (i : Nat) (hi : i < 2 ^ D) : Calls Tryd.prog 18 #[.pointer (some ⟨t, 0, none⟩), .int .i64 i] w (PagePost w S deep i) := by
  obtain ⟨g, cap, pg, kv, h1, h2, h3⟩ := h
  exact tPage_any i h1 (h2.few i) hi
theorem TabD.page_no (h : TabD O w t S D deep) (x : Int) (hx : x < 0 ∨ ((2 ^ D : Nat) : Int) ≤ x) : Calls Tryd.prog 18 #[.pointer (some ⟨t, 0, none⟩), .int .i64 x] w fun e w' => e = .returned (.tuple #[.int .i64 (-1), .slice none 0 0]) ∧ w = w' := by
  obtain ⟨g, cap, pg, kv, h1, h2, h3⟩ := h
  exact tPage_no x h1 hx
end

/-! ### the law's bits -/
theorem mod_nat {x m : Nat} : (x : Int) % (m : Int) = ((x % m : Nat) : Int) := by push_cast; rfl
def BitsRel (m : Nat) (p i : Value) : Prop := ∃ k : Nat, k ≤ m ∧ i = .int .i64 k ∧ p = .int .i64 ((2 ^ k : Nat) : Int)
theorem bits_any (n m : Nat) (w : World) (hn : n ≤ 1000000) (hm : m ≤ 6) : Calls Tryd.prog 20 #[.int .i64 n, .int .i64 m] w fun e w' => e = .returned (.int .i64 ((n % 2 ^ m : Nat) : Int)) ∧ w = w' := by
  go_enter Tryd.func20, Tryd.ntmps20
  go_wp2
  go_loop [5, 6] (fun p i => BitsRel m p i) (fun _ i => m - (intOf i).toNat)
  case atStart => exact ⟨0, by omega, rfl, rfl⟩
  case round =>
    obtain ⟨k, hk, rfl, rfl⟩ := hrel
    have hp : 2 ^ k ≤ 2 ^ 6 := Nat.pow_le_pow_right (by decide) (by omega)
    have hs : 2 ^ (k + 1) = 2 ^ k * 2 := Nat.pow_succ ..
    have hp0 : 0 < 2 ^ k := Nat.pow_pos (by decide)
    obtain ⟨q, hq⟩ : ∃ q, q = 2 ^ k := ⟨_, rfl⟩
    rw [← hq] at hs hp hp0 ⊢
    have HQ := Lib.hid hq; have HS := Lib.hid hs
    clear hq hs
    by_cases hlt : k < m
    · have hki : (k : Int) < (m : Int) := by omega
      go_wp2
      go_round
      case rel => exact ⟨k + 1, hlt, by simp, by rw [HS.out]; go_num⟩
      case measure => simp [intOf]; omega
    · obtain rfl : k = m := by omega
      have HR : Hid ((n : Int) % (q : Int) = ((n % 2 ^ k : Nat) : Int)) := Lib.hid (by rw [mod_nat, HQ.out])
      go_wp2
      go_ret
      exact ⟨ret_int HR.out, rfl⟩
end Go.Proofs.YthldhbcidcmmaaaDoor
