/-
  Nests that hold to their law: Add and Drop at any number; the closed fact.
-/
import Derived.Test.YthldhbcidcmmaaaDoorCuckooLawD
namespace Go.Proofs.YthldhbcidcmmaaaDoor
open Go.RowKit

def AddTwo (w : World) (b : Nat) (c : List Int) (m x : Int) (e : Ending) (w' : World) : Prop :=
  (∃ c' m', e = .returned .nilIface ∧ NAt w' b c' m' ∧ NInv c' m' ∧ (live c').Perm (x :: live c) ∧ Keep [b] w w') ∨ (∃ n, e = .returned (errv n) ∧ NAt w' b c m ∧ Keep [b] w w')
theorem nAdd_two (b : Nat) (c : List Int) (m x : Int) (w : World) (hs : NAt w b c m) (hi : NInv c m) :
    Calls Tryd.prog 8 #[.pointer (some ⟨b, 0, none⟩), .int .i64 x] w (AddTwo w b c m x) := by
  by_cases h : 0 ≤ x ∧ x ≤ 1000000
  · obtain ⟨h1, h2⟩ := h
    obtain ⟨k, rfl⟩ := Int.eq_ofNat_of_zero_le h1
    cases hh : hasI c k with
    | true =>
      refine (nAdd_clash b c m k w hs hi.fine h1 h2 hh).mono ?_
      rintro e w' ⟨rfl, q, rfl⟩
      exact .inr ⟨6, rfl, hs.drewN q, (Keep.refl _ _).drewN q⟩
    | false =>
      by_cases hm : m = 16
      · refine (nAdd_full b c m k w hs hi.fine h1 h2 hh hm).mono ?_
        rintro e w' ⟨rfl, q, rfl⟩
        exact .inr ⟨4, rfl, hs.drewN q, (Keep.refl _ _).drewN q⟩
      · have hle := hi.le
        refine (nAdd_go b c m k w hs hi.fine h2 hh (by have := hi.cnt; omega) (by omega)).mono ?_
        rintro e w' (⟨c', hd, rfl, hn, hk⟩ | ⟨_, rfl, hn, hk⟩)
        · obtain ⟨h3, h4⟩ := hi.add (by omega) hh (by omega) hd
          exact .inl ⟨c', _, rfl, hn, h3, h4, hk⟩
        · exact .inr ⟨7, rfl, hn, hk⟩
  · refine (nAdd_range b x w (by omega)).mono ?_
    rintro e w' ⟨rfl, rfl⟩
    exact .inr ⟨1, rfl, hs, Keep.refl _ _⟩

def DropTwo (w : World) (b : Nat) (c : List Int) (m x : Int) (e : Ending) (w' : World) : Prop :=
  (∃ c' m', e = .returned .nilIface ∧ NAt w' b c' m' ∧ NInv c' m' ∧ (x :: live c').Perm (live c) ∧ Keep [b] w w') ∨ (∃ n, e = .returned (errv n) ∧ NAt w' b c m ∧ Keep [b] w w')
theorem nDrop_two (b : Nat) (c : List Int) (m x : Int) (w : World) (hs : NAt w b c m) (hi : NInv c m) :
    Calls Tryd.prog 10 #[.pointer (some ⟨b, 0, none⟩), .int .i64 x] w (DropTwo w b c m x) := by
  by_cases h : 0 ≤ x ∧ x ≤ 1000000
  · obtain ⟨h1, h2⟩ := h
    obtain ⟨k, rfl⟩ := Int.eq_ofNat_of_zero_le h1
    refine (nDrop_go b c m k w hs h2 (by have := hi.cnt; omega) hi.le).mono ?_
    rintro e w' (⟨c', hd, rfl, hn, hk⟩ | ⟨_, rfl, hn, hk⟩)
    · obtain ⟨h3, h4⟩ := hi.drop hd
      exact .inl ⟨c', _, rfl, hn, h3, h4, hk⟩
    · exact .inr ⟨5, rfl, hn, hk⟩
  · refine (nDrop_range b x w (by omega)).mono ?_
    rintro e w' ⟨rfl, rfl⟩
    exact .inr ⟨1, rfl, hs, Keep.refl _ _⟩

theorem nHas_two (b : Nat) (c : List Int) (m x : Int) (w : World) (hs : NAt w b c m) (hi : NInv c m) (hx : -9223372036854775808 ≤ x ∧ x ≤ 9223372036854775807) :
    Calls Tryd.prog 12 #[.pointer (some ⟨b, 0, none⟩), .int .i64 x] w fun e w' => e = .returned (.bool (decide (x ∈ live c))) ∧ ∃ q, w' = w.drewN q := by
  rw [← hi.hasE]
  exact nHas_any b c m x w hs hi.fine hx
end Go.Proofs.YthldhbcidcmmaaaDoor
