/-
  CohereLast: the walk.
-/
import Derived.Test.YtjnghpambjjlkaaCohereRel
import Derived.Test.YtjnghpambjjlkaaLift
namespace Go.Proofs.Ytjnghpambjjlkaa
open Go.RowKit

def lastL (last : Nat → Int) : List Int := [last 0, last 1, last 2, last 3]
theorem lastL_get (last : Nat → Int) {k : Nat} (hk : k < 4) : (lastL last)[k]? = some (last k) := by
  match k, hk with
  | 0, _ => rfl
  | 1, _ => rfl
  | 2, _ => rfl
  | 3, _ => rfl
theorem lastL_set (last : Nat → Int) {k : Nat} (hk : k < 4) (v : Int) : (lastL last).set k v = lastL (upd last k v) := by
  match k, hk with
  | 0, _ => rfl
  | 1, _ => rfl
  | 2, _ => rfl
  | 3, _ => rfl

/-- .. and the last values, in a block of the call's own. -/
def LRel (w : World) (b g h n m : Nat) (i : Value) (wr : World) : Prop :=
  ∃ (k : Nat) (s : Cs) (last : Nat → Int), k ≤ m ∧ k ≤ 80 ∧ i = .int .i64 k ∧ CAt wr b g n s ∧ Sized n s ∧ CInv n s last ∧ 0 ≤ s.mv ∧ s.mv ≤ 5 * k ∧ Blk wr h 3 (ints (lastL last)) ∧ Below w.heap.size w wr

theorem cohereLast_no (n : Int) (a : Option Addr) (m c : Nat) (p k : Int) (w : World) (h : n < 1 ∨ 4 < n) :
    Calls Try.prog 6 #[.int .i64 n, .slice a m c, .int .i64 p, .int .i64 k] w fun e w' => e = .returned (.bool true) ∧ Below w.heap.size w w' := by
  rcases h with h | h
  · have h' : ¬ 1 ≤ n := by omega
    go_enter Try.func6, Try.ntmps6
    go_wp2_with (first
      | (go_at_call 25; refine (cohereFact_any _).mono ?_; rintro e w1 ⟨rfl, hb1⟩)
      | (go_at_call 26; refine (cohereNew_no _ _ (by omega)).mono ?_; rintro e w2 ⟨rfl, rfl⟩))
    go_ret
    exact ⟨rfl, hb1⟩
  · have h' : 1 ≤ n := by omega
    go_enter Try.func6, Try.ntmps6
    go_wp2_with (first
      | (go_at_call 25; refine (cohereFact_any _).mono ?_; rintro e w1 ⟨rfl, hb1⟩)
      | (go_at_call 26; refine (cohereNew_no _ _ (by omega)).mono ?_; rintro e w2 ⟨rfl, rfl⟩))
    go_ret
    exact ⟨rfl, hb1⟩

theorem cLast_none {n : Nat} {last : Nat → Int} {l : List Int} (h : l.length ≠ 3) : cLast n last l = last := by
  unfold cLast
  split
  · simp at h
  · rfl

set_option maxHeartbeats 2000000 in
set_option maxRecDepth 100000 in
theorem cohereLast_yes (n : Nat) (h1 : 1 ≤ (n : Int)) (h2 : (n : Int) ≤ 4) (a : Option Addr) (c : Nat) (xss : List (List Int)) (p k : Int) (w : World) (hx : RowsIn w w.heap.size a xss) (hn : xss.length ≤ maxLen) :
    Calls Try.prog 6 #[.int .i64 n, .slice a xss.length c, .int .i64 p, .int .i64 k] w fun e w' => e = .returned (.bool true) ∧ Below w.heap.size w w' := by
  have HN := Lib.hid hn; clear hn
  go_enter Try.func6, Try.ntmps6
  go_wp2_with fail
  refine (cohereFact_any _).mono ?_
  rintro e w1 ⟨rfl, hb1⟩
  go_wp2_with fail
  refine (cohereNew_yes n _ h1 h2).mono ?_
  rintro e w2 ⟨rfl, hs, hb2⟩
  have hsz1 := hb1.size
  have hsz2 := hb2.size
  have hlt2 := hs.top.lt
  have HS : Hid (CAt w2 (w1.heap.size + 1) w1.heap.size n (c0 n)) := Lib.hid hs
  clear hs
  have hbw : Below w.heap.size w w2 := hb1.trans (hb2.mono hsz1)
  go_wp2_with fail
  go_loopw [13, 14] (fun i _ wr => LRel w (w1.heap.size + 1) w1.heap.size w2.heap.size n xss.length i wr) (fun i _ _ => xss.length - (intOf i).toNat)
  case atStart => exact ⟨0, c0 n, fun _ => 0, by omega, by omega, rfl, HS.out.keep ((Keep.refl [] w2).alloc _) (by simp), (c0_inv n).1, (c0_inv n).2, (by show (0 : Int) ≤ 0; omega), (by show (0 : Int) ≤ 5 * ((0 : Nat) : Int); omega), Blk.new w2 _ (ints (lastL fun _ => 0)), hbw.alloc (by omega) _⟩
  case round =>
    obtain ⟨j, s, last, hj, hj8, rfl, hs, hz, hi, hm0, hm1, hlb, hbel⟩ := hrel
    have HS := Lib.hid hs; have HZ := Lib.hid hz; have HI := Lib.hid hi; have HB := Lib.hid hlb; clear hs hz hi hlb
    by_cases hlt : j < xss.length ∧ j < 80
    · obtain ⟨hlt, hlt8⟩ := hlt
      obtain ⟨bx, off, a', c', rfl, hbB, hcell, hrow⟩ := hx.at_ hlt
      have hcell2 := (hbel.cell (p := ⟨bx, off + j, none⟩) hbB).trans hcell
      obtain ⟨l, hl⟩ : ∃ l, l = xss[j] := ⟨_, rfl⟩
      rw [← hl] at hcell2 hrow
      have HR := Lib.hid (hrow.below hbel); have HR0 := Lib.hid hrow
      clear hl hcell hrow
      have hj80 : (j : Int) < 80 := by omega
      have hjn : (j : Int) < (xss.length : Int) := by omega
      have hnb : w2.heap.size ∉ [w1.heap.size + 1, w1.heap.size] := by simp; omega
      have HNB := Lib.hid hnb; clear hnb
      obtain ⟨a1, a2⟩ := cStep_inv l HZ.out HI.out
      obtain ⟨m1, m2⟩ := cStep_mv n s l
      have HA1 := Lib.hid a1; have HA2 := Lib.hid a2; clear a1 a2
      by_cases hl3 : l.length = 3
      · obtain ⟨x, y, z, rfl⟩ : ∃ x y z, l = [x, y, z] := by
          match l, hl3 with
          | [x, y, z], _ => exact ⟨x, y, z, rfl⟩
        clear hl3
        obtain ⟨b3, off3, rfl, hb3, hc⟩ := HR0.out.nth (by simp)
        have HX0 : Hid (w.cell? ⟨b3, off3, none⟩ = some (.int .i64 x)) := Lib.hid (hc 0 x rfl)
        have HX1 : Hid (w.cell? ⟨b3, off3 + 1, none⟩ = some (.int .i64 y)) := Lib.hid (hc 1 y rfl)
        have HX2 : Hid (w.cell? ⟨b3, off3 + 2, none⟩ = some (.int .i64 z)) := Lib.hid (hc 2 z rfl)
        clear hc
        go_wp2_with fail
        refine (done_any _ _ n s _ _ c' _ [x, y, z] _ rfl HR.out HS.out h2 hm0 (by omega)).mono ?_
        rintro e w3 ⟨rfl, hc3, hk3⟩
        have hb4 := hbel.trans (hk3.below hbel.size (by simp; omega))
        have hx0 := (hb4.cell (p := ⟨b3, off3, none⟩) hb3).trans HX0.out
        have hx1 := (hb4.cell (p := ⟨b3, off3 + 1, none⟩) hb3).trans HX1.out
        have hx2 := (hb4.cell (p := ⟨b3, off3 + 2, none⟩) hb3).trans HX2.out
        have HB3 := Lib.hid (HB.out.keep hk3 HNB.out)
        have HC3 := Lib.hid hc3; clear hc3
        by_cases hr : 0 ≤ x ∧ x < n ∧ 0 ≤ y ∧ y ≤ 3 ∧ 0 ≤ z ∧ z ≤ 1000
        · have HL : Hid (cLast n last [x, y, z] = upd last y.toNat z) := Lib.hid (by simp only [cLast]; rw [if_pos hr])
          obtain ⟨r1, r2, r3, r4, r5, r6⟩ := hr
          obtain ⟨yy, rfl⟩ := Int.eq_ofNat_of_zero_le r3
          have hyy : yy < 4 := by omega
          have hcy := HB3.out.cell_ (ints_get (lastL_get last hyy))
          have hfy := HB3.out.free yy
          have hy4 : (yy : Int) < 4 := by omega
          have hxn : x ≤ (n : Int) - 1 := by omega
          go_wp2_with (go_at_call 20; refine (in_yes _ _ _ _ (by omega) (by omega)).mono ?_; rintro e w' ⟨rfl, rfl⟩)
          go_still_tail 8, (by kernel_rfl)
          go_wp2
          go_roundw
          case rel =>
            have hA2 := HA2.out
            rw [HL.out, Int.toNat_natCast] at hA2
            have hset := (HB3.out.drew).set yy (.int .i64 z)
            rw [ints_set, lastL_set last hyy] at hset
            exact ⟨j + 1, _, _, hlt, hlt8, by go_num, HC3.out.keep ((Keep.refl [w2.heap.size] w3).drew.set (fun _ => by simp) _) (by have := HNB.out; simp at this ⊢; omega), HA1.out, hA2, by omega, by omega, hset, hb4.drew.setCell (by show w.heap.size ≤ w2.heap.size; omega) _⟩
          case measure => simp [intOf]; omega
        · have HL : Hid (cLast n last [x, y, z] = last) := Lib.hid (by simp only [cLast]; rw [if_neg hr])
          have hA2 := HA2.out
          rw [HL.out] at hA2
          have HA2 := Lib.hid hA2; clear hA2
          have hcase : (x < 0 ∨ (n : Int) - 1 < x) ∨ ((0 ≤ x ∧ x ≤ (n : Int) - 1) ∧ (y < 0 ∨ 3 < y)) ∨ ((0 ≤ x ∧ x ≤ (n : Int) - 1) ∧ (0 ≤ y ∧ y ≤ 3) ∧ (z < 0 ∨ 1000 < z)) := by omega
          clear hr
          rcases hcase with hr | ⟨hq, hr⟩ | ⟨hq, hq2, hr⟩
          all_goals
            go_wp2_with (first
              | (go_at_call 20; refine (in_yes _ _ _ _ (by omega) (by omega)).mono ?_; rintro e w' ⟨rfl, rfl⟩)
              | (go_at_call 20; refine (in_no _ _ _ _ (by omega)).mono ?_; rintro e w' ⟨rfl, rfl⟩))
            go_roundw
            case rel => exact ⟨j + 1, _, _, hlt, hlt8, by go_num, HC3.out, HA1.out, HA2.out, by omega, by omega, HB3.out, hb4⟩
            case measure => simp [intOf]; omega
      · have hl3' : ((l.length : Int) == 3) = false := beq_eq_false_iff_ne.2 (by omega)
        have hA2 := HA2.out
        rw [cLast_none hl3] at hA2
        have HA2 := Lib.hid hA2; clear hA2
        go_wp2_with fail
        refine (done_any _ _ n s a' _ c' _ l _ rfl HR.out HS.out h2 hm0 (by omega)).mono ?_
        rintro e w3 ⟨rfl, hc3, hk3⟩
        have HC3 := Lib.hid hc3; clear hc3
        go_wp2
        go_roundw
        case rel => exact ⟨j + 1, _, _, hlt, hlt8, by go_num, HC3.out, HA1.out, HA2.out, by omega, by omega, HB.out.keep hk3 HNB.out, hbel.trans (hk3.below hbel.size (by simp; omega))⟩
        case measure => simp [intOf]; omega
    · have hx : ¬ (j : Int) < (xss.length : Int) ∨ ((j : Int) < (xss.length : Int) ∧ ¬ (j : Int) < 80) := by omega
      clear hlt
      by_cases hr : 0 ≤ p ∧ p < n ∧ 0 ≤ k ∧ k ≤ 3
      · obtain ⟨r1, r2, r3, r4⟩ := hr
        obtain ⟨pp, rfl⟩ := Int.eq_ofNat_of_zero_le r1
        obtain ⟨kk, rfl⟩ := Int.eq_ofNat_of_zero_le r3
        obtain ⟨_, _, _, t1⟩ := read_inv HZ.out HI.out (p := pp) (k := kk) (by omega) (by omega)
        have HT := Lib.hid t1; clear t1
        have HCK := Lib.hid (HB.out.cell_ (ints_get (lastL_get last (show kk < 4 by omega))))
        have hk4 : (kk : Int) < 4 := by omega
        rcases hx with hx | ⟨hx, hx2⟩
        all_goals
          go_wp2_with fail
          refine (cRead_yes _ _ n pp kk s _ HS.out h2 r2 r4 hm0 (by omega)).mono ?_
          rintro e w4 ⟨he, hc4, hk4⟩
          rw [HT.out] at he
          subst he
          have hck := (hk4.cell (p := ⟨w2.heap.size, kk, none⟩) HB.out.lt (by simp; omega)).trans HCK.out
          clear hc4
          go_wp2_with (go_at_call 20; refine (in_yes _ _ _ _ (by omega) (by omega)).mono ?_; rintro e w' ⟨rfl, rfl⟩)
          go_ret
          exact ⟨by simp, hbel.trans (hk4.below hbel.size (by simp; omega))⟩
      · have hcase : (p < 0 ∨ (n : Int) - 1 < p) ∨ ((0 ≤ p ∧ p ≤ (n : Int) - 1) ∧ (k < 0 ∨ 3 < k)) := by omega
        have HR := Lib.hid hr; clear hr
        rcases hx with hx | ⟨hx, hx2⟩
        all_goals
          rcases hcase with hr | ⟨hq, hr⟩
          all_goals
            go_wp2_with (first
              | (go_at_call 30; refine (cRead_no _ _ n s p k _ HS.out h2 HR.out).mono ?_; rintro e w4 ⟨rfl, rfl⟩)
              | (go_at_call 20; refine (in_yes _ _ _ _ (by omega) (by omega)).mono ?_; rintro e w' ⟨rfl, rfl⟩)
              | (go_at_call 20; refine (in_no _ _ _ _ (by omega)).mono ?_; rintro e w' ⟨rfl, rfl⟩))
            go_ret
            exact ⟨by simp, hbel⟩

theorem cohereLast_walk (x0 : Int) (a1 : Option Addr) (c1 : Nat) (l1 : List (List Int)) (x2 x3 : Int) (w : World) (_ : I64 x0) (h2 : RowsIn w w.heap.size a1 l1) (_ : ∀ r ∈ l1, r.length ≤ maxLen ∧ ∀ y ∈ r, I64 y) (m2 : l1.length ≤ maxLen) (_ : I64 x2) (_ : I64 x3) :
    Calls Try.prog 6 #[.int .i64 x0, .slice a1 l1.length c1, .int .i64 x2, .int .i64 x3] w fun e w' => e = .returned (.bool true) ∧ Below w.heap.size w w' := by
  by_cases h : 1 ≤ x0 ∧ x0 ≤ 4
  · obtain ⟨h1, h2'⟩ := h
    obtain ⟨d, rfl⟩ := Int.eq_ofNat_of_zero_le (show 0 ≤ x0 by omega)
    exact cohereLast_yes d h1 h2' a1 c1 l1 x2 x3 w h2 m2
  · exact cohereLast_no x0 a1 _ c1 x2 x3 w (by omega)
end Go.Proofs.Ytjnghpambjjlkaa
