/-
  CohereOne: the walk.
-/
import Derived.Test.YtjnghpambjjlkaaCohereRel
import Derived.Test.YtjnghpambjjlkaaLift
namespace Go.Proofs.Ytjnghpambjjlkaa
open Go.RowKit

/-- How many of the first P are in state x. -/
def cnt (S : Nat → Int) (x : Int) : Nat → Nat
  | 0 => 0
  | P + 1 => if S P = x then cnt S x P + 1 else cnt S x P
theorem cnt_le (S : Nat → Int) (x : Int) (P : Nat) : cnt S x P ≤ P := by
  induction P with
  | zero => exact Nat.le_refl _
  | succ P ih => simp only [cnt]; split <;> omega
theorem cnt_zero {S : Nat → Int} {x : Int} {P : Nat} (h : ∀ p, p < P → S p ≠ x) : cnt S x P = 0 := by
  induction P with
  | zero => rfl
  | succ P ih => simp only [cnt]; rw [if_neg (h P (by omega)), ih (fun p hp => h p (by omega))]
theorem cnt_own {n : Nat} {S V : Nat → Int} {m v : Int} (h : LineInv n S V m v) : cnt S 2 n ≤ 1 ∧ (cnt S 2 n = 1 → cnt S 1 n = 0) := by
  by_cases e : ∃ p, p < n ∧ S p = 2
  · obtain ⟨p, hp, h2⟩ := e
    have ho := (h.own p hp h2).2
    have h1 : ∀ q, q < n → S q ≠ 1 := fun q hq h1 => by
      by_cases e : q = p
      · subst e; omega
      · have := ho q hq e; omega
    have hc : ∀ P, P ≤ n → cnt S 2 P ≤ if p < P then 1 else 0 := by
      intro P hP
      induction P with
      | zero => simp [cnt]
      | succ P ih =>
        have := ih (by omega)
        simp only [cnt]
        by_cases e : P = p
        · subst e
          simp only [Nat.lt_irrefl, if_false] at this
          rw [if_pos h2, if_pos (by omega)]; omega
        · rw [if_neg (by have := ho P (by omega) e; omega)]
          split at this
          · rw [if_pos (by omega)]; exact this
          · rw [if_neg (by omega)]; exact this
    have := hc n (Nat.le_refl _)
    rw [if_pos hp] at this
    exact ⟨this, fun _ => cnt_zero h1⟩
  · have h0 : cnt S 2 n = 0 := cnt_zero fun p hp h2 => e ⟨p, hp, h2⟩
    exact ⟨by omega, fun h => by omega⟩

theorem cohereOne_no (n : Int) (a : Option Addr) (m c : Nat) (w : World) (h : n < 1 ∨ 4 < n) :
    Calls Try.prog 5 #[.int .i64 n, .slice a m c] w fun e w' => e = .returned (.bool true) ∧ Below w.heap.size w w' := by
  rcases h with h | h
  · have h' : ¬ 1 ≤ n := by omega
    go_enter Try.func5, Try.ntmps5
    go_wp2_with (first
      | (go_at_call 25; refine (cohereFact_any _).mono ?_; rintro e w1 ⟨rfl, hb1⟩)
      | (go_at_call 26; refine (cohereNew_no _ _ (by omega)).mono ?_; rintro e w2 ⟨rfl, rfl⟩))
    go_ret
    exact ⟨rfl, hb1⟩
  · have h' : 1 ≤ n := by omega
    go_enter Try.func5, Try.ntmps5
    go_wp2_with (first
      | (go_at_call 25; refine (cohereFact_any _).mono ?_; rintro e w1 ⟨rfl, hb1⟩)
      | (go_at_call 26; refine (cohereNew_no _ _ (by omega)).mono ?_; rintro e w2 ⟨rfl, rfl⟩))
    go_ret
    exact ⟨rfl, hb1⟩

set_option maxHeartbeats 2000000 in
set_option maxRecDepth 100000 in
theorem cohereOne_yes (n : Nat) (h1 : 1 ≤ (n : Int)) (h2 : (n : Int) ≤ 4) (a : Option Addr) (c : Nat) (xss : List (List Int)) (w : World) (hx : RowsIn w w.heap.size a xss) (hn : xss.length ≤ maxLen) :
    Calls Try.prog 5 #[.int .i64 n, .slice a xss.length c] w fun e w' => e = .returned (.bool true) ∧ Below w.heap.size w w' := by
  have HN := Lib.hid hn; clear hn
  go_enter Try.func5, Try.ntmps5
  go_wp2_with fail
  refine (cohereFact_any _).mono ?_
  rintro e w1 ⟨rfl, hb1⟩
  go_wp2_with fail
  refine (cohereNew_yes n _ h1 h2).mono ?_
  rintro e w2 ⟨rfl, hs, hb2⟩
  have hsz1 := hb1.size
  have HS : Hid (CAt w2 (w1.heap.size + 1) w1.heap.size n (c0 n)) := Lib.hid hs
  clear hs
  have hbw : Below w.heap.size w w2 := hb1.trans (hb2.mono hsz1)
  go_wp2_with fail
  go_loopw [8, 9, 10, 11, 12, 13, 14] (fun i _ _ _ _ _ _ wr => CRel w (w1.heap.size + 1) w1.heap.size n xss.length i wr) (fun i _ _ _ _ _ _ _ => xss.length - (intOf i).toNat)
  case atStart => exact ⟨0, c0 n, fun _ => 0, by omega, by omega, rfl, HS.out, (c0_inv n).1, (c0_inv n).2, (by show (0 : Int) ≤ 0; omega), (by show (0 : Int) ≤ 5 * ((0 : Nat) : Int); omega), hbw⟩
  case round =>
    obtain ⟨j, s, last, hj, hj8, rfl, hs, hz, hi, hm0, hm1, hbel⟩ := hrel
    have HS := Lib.hid hs; have HZ := Lib.hid hz; have HI := Lib.hid hi; clear hs hz hi
    by_cases hlt : j < xss.length ∧ j < 80
    · obtain ⟨hlt, hlt8⟩ := hlt
      obtain ⟨bx, off, a', c', rfl, hbB, hcell, hrow⟩ := hx.at_ hlt
      have hcell2 := (hbel.cell (p := ⟨bx, off + j, none⟩) hbB).trans hcell
      have HR := Lib.hid (hrow.below hbel)
      obtain ⟨l, hl⟩ : ∃ l, l = xss[j] := ⟨_, rfl⟩
      rw [← hl] at hcell2 HR
      clear hl hcell hrow
      have hj80 : (j : Int) < 80 := by omega
      have hjn : (j : Int) < (xss.length : Int) := by omega
      go_wp2_with fail
      refine (done_any _ _ n s a' _ c' _ l _ rfl HR.out HS.out h2 hm0 (by omega)).mono ?_
      rintro e w3 ⟨rfl, hc3, hk3⟩
      obtain ⟨z3, i3⟩ := cStep_inv l HZ.out HI.out
      obtain ⟨m3, m4⟩ := cStep_mv n s l
      obtain ⟨t, ht⟩ : ∃ t, t = cStep n s l := ⟨_, rfl⟩
      obtain ⟨lt, hlt'⟩ : ∃ lt, lt = cLast n last l := ⟨_, rfl⟩
      rw [← ht] at hc3 z3 i3 m3 m4
      rw [← hlt'] at i3
      clear ht hlt' HR
      have HC3 := Lib.hid hc3; have HZ3 := Lib.hid z3; have HI3 := Lib.hid i3; clear hc3 z3 i3
      have hb3 := hbel.trans (hk3.below hbel.size (by simp; omega))
      clear hk3 hcell2
      go_wp2_with fail
      obtain ⟨wo, hwo⟩ : ∃ wo : World, wo = wr := ⟨_, rfl⟩
      clear hwo HS hbel
      go_loopw [9, 10, 11, 12, 13, 14] (fun k _ _ _ _ _ wx => ∃ kk : Nat, kk ≤ 4 ∧ k = .int .i64 kk ∧ CAt wx (w1.heap.size + 1) w1.heap.size n t ∧ Below w.heap.size w wx) (fun k _ _ _ _ _ _ => 4 - (intOf k).toNat)
      case atStart => exact ⟨0, by omega, rfl, HC3.out, hb3⟩
      case round =>
        obtain ⟨kk, hk4, rfl, hcx, hbx⟩ := hrel
        have HCX := Lib.hid hcx; clear hcx
        by_cases hkk : kk < 4
        · have hkk' : (kk : Int) < 4 := by omega
          have hL := HI3.out kk hkk
          have HL := Lib.hid hL
          have HO := Lib.hid (cnt_own hL); clear hL
          go_wp2_with fail
          go_loopw [10, 11, 12, 13, 14] (fun o sh p _ _ wy => ∃ pp : Nat, pp ≤ n ∧ p = .int .i64 pp ∧ o = .int .i64 (cnt (fun q => t.st q kk) 2 pp : Nat) ∧ sh = .int .i64 (cnt (fun q => t.st q kk) 1 pp : Nat) ∧ CAt wy (w1.heap.size + 1) w1.heap.size n t ∧ Below w.heap.size w wy) (fun _ _ p _ _ _ => n - (intOf p).toNat)
          case atStart => exact ⟨0, by omega, rfl, rfl, rfl, HCX.out, hbx⟩
          case round =>
            obtain ⟨pp, hpp, rfl, rfl, rfl, hcy, hby⟩ := hrel
            have HCY := Lib.hid hcy; clear hcy
            have hc2 := cnt_le (fun q => t.st q kk) 2 pp
            have hc1 := cnt_le (fun q => t.st q kk) 1 pp
            by_cases hpn : pp < n
            · have hpn' : (pp : Int) < (n : Int) := by omega
              have hone : (t.st pp kk = 0 ∧ t.va pp kk = 0) ∨ (t.st pp kk = 1 ∧ t.va pp kk = t.me kk) ∨ t.st pp kk = 2 := HL.out.one pp hpn
              have HC2 : Hid (cnt (fun q => t.st q kk) 2 (pp + 1) = if t.st pp kk = 2 then cnt (fun q => t.st q kk) 2 pp + 1 else cnt (fun q => t.st q kk) 2 pp) := Lib.hid rfl
              have HC1 : Hid (cnt (fun q => t.st q kk) 1 (pp + 1) = if t.st pp kk = 1 then cnt (fun q => t.st q kk) 1 pp + 1 else cnt (fun q => t.st q kk) 1 pp) := Lib.hid rfl
              obtain ⟨c2, hc2'⟩ : ∃ c2, c2 = cnt (fun q => t.st q kk) 2 pp := ⟨_, rfl⟩
              obtain ⟨c1, hc1'⟩ : ∃ c1, c1 = cnt (fun q => t.st q kk) 1 pp := ⟨_, rfl⟩
              rw [← hc2'] at hc2 HC2 ⊢
              rw [← hc1'] at hc1 HC1 ⊢
              clear hc2' hc1'
              obtain ⟨x, hxx⟩ : ∃ x, x = t.st pp kk := ⟨_, rfl⟩
              obtain ⟨y, hyy⟩ : ∃ y, y = t.va pp kk := ⟨_, rfl⟩
              obtain ⟨z, hzz⟩ : ∃ z, z = t.me kk := ⟨_, rfl⟩
              rw [← hxx, ← hyy, ← hzz] at hone
              rw [← hxx] at HC2 HC1
              have HXX := Lib.hid hxx; have HYY := Lib.hid hyy; have HZZ := Lib.hid hzz
              clear hxx hyy hzz
              go_wp2_with fail
              refine (state_any _ _ n pp kk t _ HCY.out h2 hpn' (by omega)).mono ?_
              rintro e wz ⟨he, hkz⟩
              rw [← HXX.out, ← HYY.out] at he
              subst he
              have HCZ := Lib.hid (HCY.out.keep hkz (by simp))
              have hbz := hby.trans (hkz.below hby.size (by simp))
              rcases hone with ⟨e1, e2⟩ | ⟨e1, e2⟩ | e1
              · subst e1; subst e2
                go_wp2_with (go_at_call 20; refine (in_yes _ _ _ _ (by omega) (by omega)).mono ?_; rintro e w' ⟨rfl, rfl⟩)
                go_roundw
                case rel => exact ⟨pp + 1, hpn, by go_num, by rw [HC2.out]; rfl, by rw [HC1.out]; rfl, HCZ.out, hbz⟩
                case measure => simp [intOf]; omega
              · subst e1; subst e2
                go_wp2_with (first
                  | (go_at_call 20; refine (in_yes _ _ _ _ (by omega) (by omega)).mono ?_; rintro e w' ⟨rfl, rfl⟩)
                  | (go_at_call 29; refine (memory_any _ _ n kk t _ HCZ.out (by omega)).mono ?_; rintro e w' ⟨he, rfl⟩; rw [← HZZ.out] at he; subst he))
                go_roundw
                case rel => exact ⟨pp + 1, hpn, by go_num, by rw [HC2.out]; rfl, by rw [HC1.out]; go_num, HCZ.out, hbz⟩
                case measure => simp [intOf]; omega
              · subst e1
                go_wp2_with (go_at_call 20; refine (in_yes _ _ _ _ (by omega) (by omega)).mono ?_; rintro e w' ⟨rfl, rfl⟩)
                go_roundw
                case rel => exact ⟨pp + 1, hpn, by go_num, by rw [HC2.out]; go_num, by rw [HC1.out]; rfl, HCZ.out, hbz⟩
                case measure => simp [intOf]; omega
            · obtain rfl : pp = n := by omega
              obtain ⟨o1, o2⟩ := HO.out
              generalize cnt (fun q => t.st q kk) 2 pp = c2 at *
              generalize cnt (fun q => t.st q kk) 1 pp = c1 at *
              have HO2 := Lib.hid o2; clear o2 HO
              by_cases hc : c2 = 1
              · have hc1 : c1 = 0 := HO2.out hc
                subst hc; subst hc1
                go_wp2
                go_roundw
                case rel => exact ⟨kk + 1, by omega, by go_num, HCY.out, hby⟩
                case measure => simp [intOf]; omega
              · obtain rfl : c2 = 0 := by omega
                go_wp2
                go_roundw
                case rel => exact ⟨kk + 1, by omega, by go_num, HCY.out, hby⟩
                case measure => simp [intOf]; omega
        · go_wp2
          go_roundw
          case rel => exact ⟨j + 1, t, lt, hlt, hlt8, by go_num, HCX.out, HZ3.out, HI3.out, by omega, by omega, hbx⟩
          case measure => simp [intOf]; omega
    · have hx : ¬ (j : Int) < (xss.length : Int) ∨ ((j : Int) < (xss.length : Int) ∧ ¬ (j : Int) < 80) := by omega
      clear hlt
      rcases hx with hx | ⟨hx, hx2⟩
      all_goals
        go_wp2
        go_ret
        exact ⟨rfl, hbel⟩

theorem cohereOne_walk (x0 : Int) (a1 : Option Addr) (c1 : Nat) (l1 : List (List Int)) (w : World) (_ : I64 x0) (h2 : RowsIn w w.heap.size a1 l1) (_ : ∀ r ∈ l1, r.length ≤ maxLen ∧ ∀ y ∈ r, I64 y) (m2 : l1.length ≤ maxLen) :
    Calls Try.prog 5 #[.int .i64 x0, .slice a1 l1.length c1] w fun e w' => e = .returned (.bool true) ∧ Below w.heap.size w w' := by
  by_cases h : 1 ≤ x0 ∧ x0 ≤ 4
  · obtain ⟨h1, h2'⟩ := h
    obtain ⟨d, rfl⟩ := Int.eq_ofNat_of_zero_le (show 0 ≤ x0 by omega)
    exact cohereOne_yes d h1 h2' a1 c1 l1 w h2 m2
  · exact cohereOne_no x0 a1 _ c1 w (by omega)
end Go.Proofs.Ytjnghpambjjlkaa
