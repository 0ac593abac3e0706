/-
  Nests that hold to their law: Add and Drop at any number; the closed fact.
-/
import Derived.Test.YtjnghpambjjlkaaDoorCuckooLaw
namespace Go.Proofs.YtjnghpambjjlkaaDoor
open Go.RowKit

def AddTwo (w : World) (b : Nat) (c : List Int) (m x : Int) (e : Ending) (w' : World) : Prop :=
  (∃ c' m', e = .returned .nilIface ∧ NAt w' b c' m' ∧ NInv c' m' ∧ (live c').Perm (x :: live c) ∧ Keep [b] w w') ∨ (∃ n, e = .returned (errv n) ∧ NAt w' b c m ∧ Keep [b] w w')
theorem nAdd_two (b : Nat) (c : List Int) (m x : Int) (w : World) (hs : NAt w b c m) (hi : NInv c m) :
    Calls Tryd.prog 9 #[.pointer (some ⟨b, 0, none⟩), .int .i64 x] w (AddTwo w b c m x) := by
  by_cases h : 0 ≤ x ∧ x ≤ 1000000
  · obtain ⟨h1, h2⟩ := h
    obtain ⟨k, rfl⟩ := Int.eq_ofNat_of_zero_le h1
    cases hh : hasI c k with
    | true =>
      refine (nAdd_clash b c m k w hs hi.fine h1 h2 hh).mono ?_
      rintro e w' ⟨rfl, q, rfl⟩
      exact .inr ⟨6, rfl, hs.drewN q, (Keep.refl _ _).drewN q⟩
    | false =>
      by_cases hm : m = 16
      · refine (nAdd_full b c m k w hs hi.fine h1 h2 hh hm).mono ?_
        rintro e w' ⟨rfl, q, rfl⟩
        exact .inr ⟨4, rfl, hs.drewN q, (Keep.refl _ _).drewN q⟩
      · have hle := hi.le
        refine (nAdd_go b c m k w hs hi.fine h2 hh (by have := hi.cnt; omega) (by omega)).mono ?_
        rintro e w' (⟨c', hd, rfl, hn, hk⟩ | ⟨_, rfl, hn, hk⟩)
        · obtain ⟨h3, h4⟩ := hi.add (by omega) hh (by omega) hd
          exact .inl ⟨c', _, rfl, hn, h3, h4, hk⟩
        · exact .inr ⟨7, rfl, hn, hk⟩
  · refine (nAdd_range b x w (by omega)).mono ?_
    rintro e w' ⟨rfl, rfl⟩
    exact .inr ⟨1, rfl, hs, Keep.refl _ _⟩

def DropTwo (w : World) (b : Nat) (c : List Int) (m x : Int) (e : Ending) (w' : World) : Prop :=
  (∃ c' m', e = .returned .nilIface ∧ NAt w' b c' m' ∧ NInv c' m' ∧ (x :: live c').Perm (live c) ∧ Keep [b] w w') ∨ (∃ n, e = .returned (errv n) ∧ NAt w' b c m ∧ Keep [b] w w')
theorem nDrop_two (b : Nat) (c : List Int) (m x : Int) (w : World) (hs : NAt w b c m) (hi : NInv c m) :
    Calls Tryd.prog 10 #[.pointer (some ⟨b, 0, none⟩), .int .i64 x] w (DropTwo w b c m x) := by
  by_cases h : 0 ≤ x ∧ x ≤ 1000000
  · obtain ⟨h1, h2⟩ := h
    obtain ⟨k, rfl⟩ := Int.eq_ofNat_of_zero_le h1
    refine (nDrop_go b c m k w hs h2 (by have := hi.cnt; omega) hi.le).mono ?_
    rintro e w' (⟨c', hd, rfl, hn, hk⟩ | ⟨_, rfl, hn, hk⟩)
    · obtain ⟨h3, h4⟩ := hi.drop hd
      exact .inl ⟨c', _, rfl, hn, h3, h4, hk⟩
    · exact .inr ⟨5, rfl, hn, hk⟩
  · refine (nDrop_range b x w (by omega)).mono ?_
    rintro e w' ⟨rfl, rfl⟩
    exact .inr ⟨1, rfl, hs, Keep.refl _ _⟩

theorem nHas_two (b : Nat) (c : List Int) (m x : Int) (w : World) (hs : NAt w b c m) (hi : NInv c m) (hx : -9223372036854775808 ≤ x ∧ x ≤ 9223372036854775807) :
    Calls Tryd.prog 12 #[.pointer (some ⟨b, 0, none⟩), .int .i64 x] w fun e w' => e = .returned (.bool (decide (x ∈ live c))) ∧ ∃ q, w' = w.drewN q := by
  rw [← hi.hasE]
  exact nHas_any b c m x w hs hi.fine hx

def AddOk (w : World) (b : Nat) (c' : List Int) (m' : Int) (e : Ending) (w' : World) : Prop := e = .returned .nilIface ∧ NAt w' b c' m' ∧ Keep [b] w w'
theorem nAdd_ok (b : Nat) (c c' : List Int) (m : Int) (k : Nat) (w : World) (hs : NAt w b c m) (hf : Fine c) (h2 : (k : Int) ≤ 1000000) (h : hasI c k = false) (hm0 : 0 ≤ m) (hm : m < 16) (hd : drive 0 16 k c = some c') :
    Calls Tryd.prog 9 #[.pointer (some ⟨b, 0, none⟩), .int .i64 k] w (AddOk w b c' (m + 1)) := by
  refine (nAdd_go b c m k w hs hf h2 h hm0 hm).mono ?_
  rintro e w' (⟨c2, hd2, rfl, hn, hk⟩ | ⟨hd2, _⟩)
  · rw [hd] at hd2
    simp only [Option.some.injEq] at hd2
    subst hd2
    exact ⟨rfl, hn, hk⟩
  · rw [hd] at hd2; cases hd2

def c1 : List Int := (List.replicate 22 0).set 0 1
def c2 : List Int := ((List.replicate 22 0).set 0 23).set 11 1
theorem fine_dec {c : List Int} (h : (List.range 22).all (fun i => decide (0 ≤ c.getD i 0 ∧ c.getD i 0 ≤ 1000001)) = true) : Fine c := fun i hi => by
  rw [List.all_eq_true] at h
  simpa using h i (by simpa using hi)
theorem c1_fine : Fine c1 := fine_dec (by decide)
theorem c2_fine : Fine c2 := fine_dec (by decide)

set_option maxHeartbeats 1000000 in
theorem cuckooFact_any (w : World) : Calls Tryd.prog 7 #[] w fun e w' => e = .returned (.bool true) ∧ Below w.heap.size w w' := by
  have H0 : Hid (Fine (List.replicate 22 0)) := Lib.hid n0_inv.fine
  have H1 : Hid (Fine c1) := Lib.hid c1_fine
  have H2 : Hid (Fine c2) := Lib.hid c2_fine
  have D1 : Hid (drive 0 16 0 (List.replicate 22 0) = some c1) := Lib.hid (by decide)
  have D2 : Hid (drive 0 16 22 c1 = some c2) := Lib.hid (by decide)
  go_enter Tryd.func7, Tryd.ntmps7
  go_wp2_with fail
  refine (nestsNew _).mono ?_
  rintro e w1 ⟨rfl, hs1, hb1⟩
  have HS1 := Lib.hid hs1; have HB1 := Lib.hid hb1; clear hs1 hb1
  go_wp2_with fail
  refine (nAdd_ok _ _ c1 0 0 _ HS1.out H0.out (by decide) (by decide) (by decide) (by decide) D1.out).mono ?_
  rintro e w2 ⟨rfl, hs2, hk2⟩
  have HS2 := Lib.hid hs2; have HK2 := Lib.hid hk2; clear hs2 hk2
  go_wp2_with fail
  refine (nAdd_ok _ _ c2 _ 22 _ HS2.out H1.out (by decide) (by decide) (by decide) (by decide) D2.out).mono ?_
  rintro e w3 ⟨rfl, hs3, hk3⟩
  have HS3 := Lib.hid hs3; have HK3 := Lib.hid hk3; clear hs3 hk3
  go_wp2_with fail
  refine (nHas_any _ _ _ 0 _ HS3.out H2.out (by decide)).mono ?_
  rintro e w4 ⟨rfl, q4, rfl⟩
  rw [show hasI c2 0 = true by decide]
  go_wp2_with fail
  refine (nHas_any _ _ _ 22 _ (HS3.out.drewN q4) H2.out (by decide)).mono ?_
  rintro e w5 ⟨rfl, q5, rfl⟩
  rw [show hasI c2 22 = true by decide]
  go_wp2_with fail
  refine (nHas_any _ _ _ 1 _ (HS3.out.drewN _) H2.out (by decide)).mono ?_
  rintro e w6 ⟨rfl, q6, rfl⟩
  rw [show hasI c2 1 = false by decide]
  go_wp2_with fail
  refine (nRow_go _ _ _ 1 _ (HS3.out.drewN _) H2.out (by decide)).mono ?_
  rintro e w7 ⟨g7, cap7, cur7, rfl, hg7, hblk7, hcur7, hb7⟩
  have HS7 := Lib.hid ((HS3.out.drewN _).keep (Keep.of_below (F := []) hb7 (Nat.le_refl _)) (by simp))
  have HB7 := Lib.hid hb7
  clear hcur7 hblk7 hb7
  go_wp2_with fail
  refine (nRow_go _ _ _ 1 _ HS7.out H2.out (by decide)).mono ?_
  rintro e w8 ⟨g8, cap8, cur8, rfl, hg8, hblk8, hcur8, hb8⟩
  have h80 := hblk8.cell_ (hcur8 0 (by decide))
  have HB8 := Lib.hid hb8
  rw [show c2.getD (1 * 11 + 0) 0 - 1 = 0 by decide] at h80
  clear hcur8 hblk8 hb8
  go_wp2
  go_ret
  have hk : Keep [w.heap.size] w1 w8 := ((HK2.out.trans HK3.out).drewN _).trans ((Keep.of_below HB7.out (Nat.le_refl _)).trans (Keep.of_below HB8.out (Nat.le_refl _)))
  exact ⟨rfl, HB1.out.trans (hk.below HB1.out.size (by simp))⟩
end Go.Proofs.YtjnghpambjjlkaaDoor
