/-
  BackFlush: the walk.
-/
import Derived.Test.YtgbccaplckiilaaBackFact
import Derived.Test.YtgbccaplckiilaaSameInts
import Derived.Test.YtgbccaplckiilaaLift
namespace Go.Proofs.Ytgbccaplckiilaa
open Go.RowKit

theorem backFlush_no (n : Int) (a : Option Addr) (m c : Nat) (w : World) (h : n < 1 ∨ 8 < n) :
    Calls Try.prog 5 #[.int .i64 n, .slice a m c] w fun e w' => e = .returned (.bool true) ∧ Below w.heap.size w w' := by
  go_enter Try.func5, Try.ntmps5
  go_wp2_with (first
    | (go_at_call 17; refine (backFact_any _).mono ?_; rintro e w1 ⟨rfl, hb1⟩)
    | (go_at_call 10; refine (bNew_no _ _ h).mono ?_; rintro e w2 ⟨rfl, rfl⟩)
    | (go_at_call 18; refine (in_no _ _ _ _ h).mono ?_; rintro e w' ⟨rfl, rfl⟩))
  go_ret
  exact ⟨rfl, hb1⟩

/-- Behind a flush: the disk has all, and nothing is dirty. -/
structure FlAll (slots : Nat) (s : BSt) (last : List Int) (nr nw : Int) : Prop where
  inv : BInv slots s last nr nw
  disk : s.disk = last
  cl : AllClean s
theorem FlAll.read {slots : Nat} {s : BSt} {last : List Int} {nr nw : Int} (h : FlAll slots s last nr nw) (h1 : 1 ≤ slots) {b : Int} (h0 : 0 ≤ b) (h7 : b ≤ 7) : FlAll slots (useB slots s b true) last (nr + 1) nw :=
  ⟨(h.inv.read h1 h0 h7).1, (read_clean h.cl b).1.trans h.disk, (read_clean h.cl b).2.1⟩

def BFRel (wA w : World) (b n q : Nat) (last : List Int) (nr nw : Int) (i : Value) (wr : World) : Prop :=
  ∃ (k : Nat) (s : BSt) (v : Value), k ≤ 8 ∧ i = .int .i64 k ∧ UsAt wA b (.slice none 0 0) n ⟨s, last⟩ wr v q ∧ FlAll n s last (nr + k) nw ∧ Below w.heap.size w wr

theorem UsAt.belowFrom {w0 w wr w' : World} {b B : Nat} {v v' : Value} {slots q : Nat} {u : Us} (h : UsAt w b (.slice none 0 0) slots u wr v q) (hB : Below B w0 wr) (hs : B ≤ w.heap.size) (hb : B ≤ b) (hk : KeepO b v wr w') (_ : OwnNew wr v v') (h0 : B ≤ w0.heap.size) : Below B w0 w' :=
  hB.trans (hk.old (by have := hB.size; omega) hb fun g hg => by
    rcases h.2.2.1 g hg with e | e
    · simp [Value.ownBlock] at e
    · omega)
theorem KeepO.of (b : Nat) (v : Value) {F : List Nat} {w w' : World} (h : Keep F w w') (hF : ∀ x ∈ F, x = b) : KeepO b v w w' := ⟨F, h, fun x hx => .inl (hF x hx)⟩

set_option maxHeartbeats 1000000 in
theorem backFlush_yes (n : Nat) (h1 : 1 ≤ (n : Int)) (h2 : (n : Int) ≤ 8) (a : Option Addr) (c : Nat) (xss : List (List Int)) (w : World) (hx : RowsIn w w.heap.size a xss) (hn : xss.length ≤ maxLen) :
    Calls Try.prog 5 #[.int .i64 n, .slice a xss.length c] w fun e w' => e = .returned (.bool true) ∧ Below w.heap.size w w' := by
  have HN := Lib.hid hn; clear hn
  have HX := Lib.hid hx; clear hx
  go_enter Try.func5, Try.ntmps5
  go_wp2_with fail
  refine (backFact_any _).mono ?_
  rintro e w1 ⟨rfl, hb1⟩
  go_wp2_with fail
  refine (bNew_ok n _ h1 h2).mono ?_
  rintro e w2 ⟨rfl, hat, hb2⟩
  have hsz1 := hb1.size
  have hbw : Below w.heap.size w w2 := hb1.trans (hb2.mono hsz1)
  have HAT := Lib.hid hat; clear hat
  go_wp2_with fail
  refine (used_any w1.heap.size n w.heap.size _ bs0 a c xss _ HAT.out (by omega) (by omega) (bs0_inv n) (HX.out.below hbw) HN.out hsz1 (by simp [Value.ownBlock])).mono ?_
  rintro e w3 ⟨u, v, rfl, hus, hinv⟩
  have hsz2 := hbw.size
  have HB3 : Hid (Below w.heap.size w w3) := Lib.hid (hbw.trans (hus.below hbw.size hsz1 (by simp [Value.ownBlock])))
  have hbl := HAT.out.top.lt
  have hnw : wrs (xss.take 100) ≤ 1000 := by have := (wrs_bd (xss.take 100)).2; simp at this; omega
  have hii : BInv n u.s u.last 100 (wrs (xss.take 100)) := hinv
  have hle := hii.le; have r0 := hii.rd0; have r1 := hii.rd; have g0 := hii.wr0; have g1 := hii.wr
  obtain ⟨last, hlast⟩ : ∃ last, last = u.last := ⟨_, rfl⟩
  rw [← hlast] at hii
  have hll := hii.ll
  have HUS := Lib.hid hus; have HRNG := Lib.hid hii.rng; have HFL : Hid (FlAll n (flushB u.s) last 100 (wrs (xss.take 100))) := Lib.hid ⟨hii.flush.1, hii.flush.2.1, hii.flush.2.2⟩
  clear hus hinv hbw hb1 hb2 hii
  go_wp2_with fail
  refine (bFlush_any _ n v u.s _ HUS.out.1 (by omega) HRNG.out g0 (by omega)).mono ?_
  rintro e w4 ⟨rfl, hb4, hk4⟩
  have HUS4 : Hid (UsAt w2 w1.heap.size (.slice none 0 0) n ⟨flushB u.s, last⟩ w4 v w2.heap.size) := Lib.hid (by have := HUS.out.step hbl hb4 hk4 (OwnNew.refl _ _); rwa [← hlast] at this)
  have HB4 : Hid (Below w.heap.size w w4) := Lib.hid (HUS.out.belowFrom HB3.out hsz2 hsz1 hk4 (OwnNew.refl _ _) (Nat.le_refl _))
  clear hb4 hk4 HB3 HRNG hle r0 r1 g0 g1 HUS hlast
  go_wp2_with fail
  refine (bDisk_any _ n v (flushB u.s) _ HUS4.out.1).mono ?_
  rintro e w5 ⟨a5, c5, rfl, hn5, hb5⟩
  rw [HFL.out.disk] at hn5
  have hus5 := HUS4.out.keep (Below.keep0 hb5)
  have HUS5 := Lib.hid hus5; have HN5 := Lib.hid hn5.ints
  have HB5 : Hid (Below w.heap.size w w5) := Lib.hid (HB4.out.trans (hb5.mono HB4.out.size))
  clear hus5 hn5 hb5 HUS4 HB4
  go_wp2_with fail
  refine (ints_same a5 (some ⟨w2.heap.size, 0, none⟩) 8 c5 8 _ _ last _ hll HN5.out HUS5.out.lastIn (by decide)).mono ?_
  rintro e w6 ⟨rfl, q6, rfl⟩
  have HUS6 := Lib.hid (HUS5.out.drewN q6)
  go_wp2_with fail
  refine (bCrash_any _ n v (flushB u.s) _ HUS6.out.1).mono ?_
  rintro e w7 ⟨rfl, hb7, hk7⟩
  have HUS7 : Hid (UsAt w2 w1.heap.size (.slice none 0 0) n ⟨crashB (flushB u.s), last⟩ w7 (.slice none 0 0) w2.heap.size) := Lib.hid (HUS6.out.step hbl hb7 (KeepO.of _ v hk7 (by simp)) (fun g hg => by simp [Value.ownBlock] at hg))
  have HFL7 : Hid (FlAll n (crashB (flushB u.s)) last 100 (wrs (xss.take 100))) := Lib.hid ⟨HFL.out.inv.crash HFL.out.disk, HFL.out.disk, fun x hx => by cases hx⟩
  have HB7 : Hid (Below w.heap.size w w7) := Lib.hid ((HUS6.out.belowFrom (v' := .slice none 0 0) (HB5.out.trans (((Keep.refl [] _).drewN q6).below HB5.out.size (by simp))) hsz2 hsz1 (KeepO.of _ v hk7 (by simp)) (fun g hg => by simp [Value.ownBlock] at hg) (Nat.le_refl _)))
  clear hb7 hk7 HUS6 HUS5 HB5 HN5
  obtain ⟨nw, hnwe⟩ : ∃ nw, nw = wrs (xss.take 100) := ⟨_, rfl⟩
  rw [← hnwe] at hnw HFL7
  clear hnwe HFL
  go_wp2_with fail
  go_loopw [9] (fun i wr => BFRel w2 w w1.heap.size n w2.heap.size last 100 nw i wr) (fun i _ => 8 - (intOf i).toNat)
  case atStart => exact ⟨0, _, _, by omega, rfl, HUS7.out, by simpa using HFL7.out, HB7.out⟩
  case round =>
    obtain ⟨k, s, v8, hk, rfl, hus, hfl, hbel⟩ := hrel
    have HUS := Lib.hid hus; have HFL := Lib.hid hfl; have HB := Lib.hid hbel; clear hus hfl hbel
    have hii := HFL.out.inv
    have hle := hii.le; have r0 := hii.rd0; have r1 := hii.rd; have g0 := hii.wr0; have g1 := hii.wr
    by_cases hlt : k < 8
    · have hk8 : (k : Int) < 8 := by omega
      have hk7 : (k : Int) ≤ 7 := by omega
      have hk0 : (0 : Int) ≤ (k : Int) := by omega
      obtain ⟨_, d, r, hd⟩ := hii.read (by omega) hk0 hk7
      have HD := Lib.hid hd
      have HR := Lib.hid hii.rng
      clear hd hii
      go_wp2_with fail
      refine (bRead_ok _ k n v8 s _ HUS.out.1 (by omega) (by omega) hle HR.out hk7 r0 (by omega) g0 (by omega) _ d r HD.out).mono ?_
      rintro e w9 ⟨v9, rfl, hb9, hk9, ho9⟩
      have hst := HUS.out.step hbl hb9 hk9 ho9
      have hc := hst.last hll hlt
      have hke : BFRel w2 w w1.heap.size n w2.heap.size last 100 nw (.int .i64 ((k : Int) + 1)) w9 :=
        ⟨k + 1, _, v9, hlt, by simp, hst, by have := HFL.out.read (by omega) hk0 hk7; rw [show (100 : Int) + ((k + 1 : Nat) : Int) = 100 + (k : Int) + 1 by omega]; exact this, HUS.out.belowFrom HB.out hsz2 hsz1 hk9 ho9 (Nat.le_refl _)⟩
      have HKE := Lib.hid hke
      clear hke hst hb9 hk9 ho9
      rw [show ((k : Int)).toNat = k by simp]
      go_wp2
      go_roundw
      case rel => exact HKE.out
      case measure => simp [intOf]; omega
    · obtain rfl : k = 8 := by omega
      go_wp2_with fail
      refine (bDisk_any _ n v8 s _ HUS.out.1).mono ?_
      rintro e w10 ⟨a5, c5, rfl, hn5, hb5⟩
      rw [HFL.out.disk] at hn5
      have hus5 := HUS.out.keep (Below.keep0 hb5)
      have HUS5 := Lib.hid hus5; have HN5 := Lib.hid hn5.ints
      have HB5 : Hid (Below w.heap.size w w10) := Lib.hid (HB.out.trans (hb5.mono HB.out.size))
      clear hus5 hn5 hb5 hii
      go_wp2_with fail
      refine (ints_same a5 (some ⟨w2.heap.size, 0, none⟩) 8 c5 8 _ _ last _ hll HN5.out HUS5.out.lastIn (by decide)).mono ?_
      rintro e w11 ⟨rfl, q11, rfl⟩
      go_wp2
      go_ret
      exact ⟨rfl, HB5.out.trans (((Keep.refl [] _).drewN q11).below HB5.out.size (by simp))⟩

theorem backFlush_walk (x0 : Int) (a1 : Option Addr) (c1 : Nat) (l1 : List (List Int)) (w : World) (_ : I64 x0) (h2 : RowsIn w w.heap.size a1 l1) (_ : ∀ r ∈ l1, r.length ≤ maxLen ∧ ∀ y ∈ r, I64 y) (m2 : l1.length ≤ maxLen) :
    Calls Try.prog 5 #[.int .i64 x0, .slice a1 l1.length c1] w fun e w' => e = .returned (.bool true) ∧ Below w.heap.size w w' := by
  by_cases h : 1 ≤ x0 ∧ x0 ≤ 8
  · obtain ⟨h1, h2'⟩ := h
    obtain ⟨d, rfl⟩ := Int.eq_ofNat_of_zero_le (show 0 ≤ x0 by omega)
    exact backFlush_yes d h1 h2' a1 c1 l1 w h2 m2
  · exact backFlush_no x0 a1 _ c1 w (by omega)
end Go.Proofs.Ytgbccaplckiilaa
