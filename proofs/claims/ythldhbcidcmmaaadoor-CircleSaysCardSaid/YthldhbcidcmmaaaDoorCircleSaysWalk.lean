/-
  CircleSays: the walk.
-/
import Derived.Test.YthldhbcidcmmaaaDoorCircRef
import Derived.Test.YthldhbcidcmmaaaDoorIn
import Derived.Test.YthldhbcidcmmaaaDoorSetAt
import Derived.Test.YthldhbcidcmmaaaDoorLift
namespace Go.Proofs.YthldhbcidcmmaaaDoor
open Go.RowKit

theorem eErr0 (w : World) : Calls Tryd.prog 11 #[.nilIface, .int .i64 0] w fun e w' => e = .returned (.bool true) ∧ Below w.heap.size w w' := eError_nil 0 w
theorem eErrK (k : Int) (w : World) (hg : Handle w) : Calls Tryd.prog 11 #[errv k, .int .i64 k] w fun e w' => e = .returned (.bool true) ∧ Below w.heap.size w w' :=
  (eError_some k k w hg).mono fun e w' ⟨he, hb⟩ => ⟨by rw [he]; simp, hb⟩
theorem rNodes_is (a : Option Addr) (n c B : Nat) (l : List Int) (k : Int) (w : World) (hl : l.length = n) (h : IntsIn w B a l) (hc : n ≤ c) (hk : errL l = k) :
    Calls Tryd.prog 21 #[.slice a n c] w fun e w' => e = .returned (.int .i64 k) ∧ Below w.heap.size w w' :=
  (rNodes_any a n c B l w hl h hc).mono fun e w' ⟨he, q, hw⟩ => ⟨by rw [he, hk], by rw [hw]; exact ((Keep.refl [] w).drewN q).below (Nat.le_refl _) (by simp)⟩
theorem cPlace_in (key p : Int) (w : World) (hk : 0 ≤ key ∧ key ≤ 1000000) (hp : plc key = p) : Calls Tryd.prog 25 #[.int .i64 key] w fun e w' => e = .returned (.tuple #[.int .i64 p, .nilIface]) ∧ w = w' :=
  (cPlace_ex key w).mono fun e w' ⟨he, hw⟩ => ⟨by rw [he]; unfold spotK badK; rw [if_pos hk, if_pos hk, hp]; rfl, hw⟩
theorem cPlace_out (key : Int) (w : World) (hk : ¬ (0 ≤ key ∧ key ≤ 1000000)) : Calls Tryd.prog 25 #[.int .i64 key] w fun e w' => e = .returned (.tuple #[.int .i64 0, errv 1]) ∧ w = w' :=
  (cPlace_ex key w).mono fun e w' ⟨he, hw⟩ => ⟨by rw [he]; unfold spotK badK; rw [if_neg hk, if_neg hk]; rfl, hw⟩
theorem errK_in {l : List Int} {key : Int} (h0 : errL l = 0) (hk : 0 ≤ key ∧ key ≤ 1000000) : errK l key = 0 := by unfold errK; rw [if_neg (by omega), if_pos hk]
theorem errK_out {l : List Int} {key : Int} (h0 : errL l = 0) (hk : ¬ (0 ≤ key ∧ key ≤ 1000000)) : errK l key = 1 := by unfold errK; rw [if_neg (by omega), if_neg hk]
theorem errK_bad {l : List Int} {key k : Int} (h : errL l = k) (h0 : k ≠ 0) : errK l key = k := by unfold errK; rw [h, if_pos h0]
theorem errO_is {l : List Int} {key k : Int} (h : errK l key = k) (h0 : k ≠ 0) : errO l key = k := by unfold errO; rw [h, if_neg (fun hh => h0 hh.1)]

/-- circle.Shares where something is wrong, and where nothing is. -/
theorem shares_bad (a : Option Addr) (n c : Nat) (l : List Int) (k : Int) (w : World) (hl : l.length = n) (h : IntsIn w w.heap.size a l) (hc : n ≤ c) (hk : errL l = k) (h0 : k ≠ 0) :
    Calls Tryd.prog 28 #[.slice a n c] w fun e w' => (∃ a' c', e = .returned (.tuple #[.slice a' 0 c', errv k])) ∧ Below w.heap.size w w' :=
  (shares_ex a n c l w hl h hc).mono fun e w' ⟨hb, a', c', he, _⟩ => ⟨⟨a', c', by rw [he, hk, if_neg h0, errw_of h0]; rfl⟩, hb⟩
theorem shares_good (a : Option Addr) (n c : Nat) (l : List Int) (w : World) (hl : l.length = n) (h : IntsIn w w.heap.size a l) (hc : n ≤ c) (hk : errL l = 0) :
    Calls Tryd.prog 28 #[.slice a n c] w fun e w' => (∃ a' c', e = .returned (.tuple #[.slice a' n c', .nilIface]) ∧ IntsIn w' w'.heap.size a' (shares l 1000)) ∧ Below w.heap.size w w' :=
  (shares_ex a n c l w hl h hc).mono fun e w' ⟨hb, a', c', he, hi⟩ => ⟨⟨a', c', by rw [he, hk, if_pos rfl, hl]; rfl, by rwa [if_pos hk] at hi⟩, hb⟩
theorem cRank_bad (a : Option Addr) (n c : Nat) (l : List Int) (key k : Int) (w : World) (hl : l.length = n) (h : IntsIn w w.heap.size a l) (hc : n ≤ c) (hk : errK l key = k) (h0 : k ≠ 0) :
    Calls Tryd.prog 30 #[.slice a n c, .int .i64 key] w fun e w' => (∃ a' c', e = .returned (.tuple #[.slice a' 0 c', errv k])) ∧ Below w.heap.size w w' :=
  (cRank_ex a n c l key w hl h hc).mono fun e w' ⟨hb, a', c', xs, he, _, hx⟩ => by
    rcases hx with ⟨h1, _⟩ | ⟨_, rfl⟩
    · exact absurd (hk.symm.trans h1) h0
    · exact ⟨⟨a', c', by rw [he, hk, errw_of h0]; rfl⟩, hb⟩
theorem cRank_good (a : Option Addr) (n c : Nat) (l : List Int) (key : Int) (done : List Int) (w : World) (hl : l.length = n) (h : IntsIn w w.heap.size a l) (hc : n ≤ c) (hk : errK l key = 0) (hd : RankInv key l done []) :
    Calls Tryd.prog 30 #[.slice a n c, .int .i64 key] w fun e w' => (∃ a' c', e = .returned (.tuple #[.slice a' n c', .nilIface]) ∧ IntsIn w' w'.heap.size a' done) ∧ Below w.heap.size w w' :=
  (cRank_ex a n c l key w hl h hc).mono fun e w' ⟨hb, a', c', xs, he, hi, hx⟩ => by
    rcases hx with ⟨_, h2, h3⟩ | ⟨h1, _⟩
    · exact ⟨⟨a', c', by rw [he, hk, h2.length_eq, hl]; rfl, by rw [rankInv_end hd h2 h3]; exact hi⟩, hb⟩
    · exact absurd hk h1
theorem cOwner_bad (a : Option Addr) (n c : Nat) (l : List Int) (key k : Int) (w : World) (hl : l.length = n) (h : IntsIn w w.heap.size a l) (hc : n ≤ c) (hk : errO l key = k) (h0 : k ≠ 0) :
    Calls Tryd.prog 31 #[.slice a n c, .int .i64 key] w fun e w' => e = .returned (.tuple #[.int .i64 0, errv k]) ∧ Below w.heap.size w w' :=
  (cOwner_ex a n c l key w hl h hc).mono fun e w' ⟨he, hb⟩ => ⟨by rw [he, hk, if_neg h0, errw_of h0], hb⟩
theorem cOwner_good (a : Option Addr) (n c : Nat) (l : List Int) (key p v : Int) (w : World) (hl : l.length = n) (h : IntsIn w w.heap.size a l) (hc : n ≤ c) (hk : errO l key = 0) (hp : plc key = p) (hv : ownO p l = v) :
    Calls Tryd.prog 31 #[.slice a n c, .int .i64 key] w fun e w' => e = .returned (.tuple #[.int .i64 v, .nilIface]) ∧ Below w.heap.size w w' :=
  (cOwner_ex a n c l key w hl h hc).mono fun e w' ⟨he, hb⟩ => ⟨by rw [he, hk, if_pos rfl, hp, hv]; rfl, hb⟩

/-- A row of ints of the call's own, as a walk wants it. -/
theorem own_in {w : World} {base : Nat} {v : Value} {l : List Int} (h : OwnInts w base v l) : ∃ a c, v = .slice a l.length c ∧ IntsIn w w.heap.size a l ∧ l.length ≤ c := by
  obtain ⟨a, c, e, hi, hc, _⟩ := h.new
  exact ⟨a, c, e, hi.ints, hc⟩
theorem OwnInts.bel {w w' : World} {base : Nat} {v : Value} {l : List Int} (h : OwnInts w base v l) (hb : Below w.heap.size w w') : OwnInts w' base v l := h.keep fun g hg => hb.block g (World.ownsRow.lt h g hg).2

def SaysL1 (w : World) (n : Nat) (sh i : Value) (wr : World) : Prop := ∃ j : Nat, j ≤ n ∧ i = .int .i64 j ∧ OwnInts wr w.heap.size sh (List.replicate j 0) ∧ Below w.heap.size w wr
def SaysL2 (w : World) (l : List Int) (sh i : Value) (wr : World) : Prop := ∃ p : Nat, p ≤ 1000 ∧ i = .int .i64 p ∧ OwnInts wr w.heap.size sh (shares l p) ∧ Below w.heap.size w wr

set_option maxHeartbeats 8000000 in
set_option maxRecDepth 100000 in
theorem says_Ai (a : Option Addr) (c : Nat) (l : List Int) (key : Int) (w : World) (k : Int) (hk : errL l = k) (hk0 : k ≠ 0) (hi : (0 ≤ key ∧ key ≤ 1000000)) (n : Nat) (hl : l.length = n) (hn0 : 0 < n) (h : IntsIn w w.heap.size a l) (hc : n ≤ c) (hg : Handle w) (hnm : l.length ≤ 100000000000000) :
    Calls Tryd.prog 5 #[.slice a n c, .int .i64 key] w fun e w' => e = .returned (.bool true) ∧ Below w.heap.size w w' := by
  have hnb : (n : Int) ≤ 100000000000000 := by omega
  have HL := Lib.hid hl; have HK := Lib.hid hk; have HC := Lib.hid hc; have HI := Lib.hid hi
  have HH : Hid (∀ w', Below w.heap.size w w' → IntsIn w' w'.heap.size a l ∧ Handle w') := Lib.hid fun w' hb => ⟨(h.below hb).more hb.size, hg.below hb hg.lt⟩
  have HW0 := Lib.hid hg.lt
  have HK0 := Lib.hid hk0
  have hkb : (k == 0) = false := by simpa using hk0
  have hn0i : (0 : Int) < (n : Int) := by omega
  have hn0d : ¬ (n : Int) = 0 := by omega
  have hpb := plc_bd key
  obtain ⟨p, hp⟩ : ∃ p, plc key = p := ⟨_, rfl⟩
  rw [hp] at hpb
  have HP := Lib.hid hp
  obtain ⟨hpb0, hpb1⟩ := hpb
  obtain ⟨hk1, hk2⟩ := hi
  clear hp
  have HSM : Hid (l.length ≤ 100000000000000) := Lib.hid hnm
  clear hl hk hc h hg hnm hk0
  go_enter Tryd.func5, Tryd.ntmps5
  obtain ⟨hin, hgx⟩ := HH.out _ (Below.refl _ w)
  have HN := Lib.hid hin; have HG := Lib.hid hgx
  clear hin hgx
  go_wp2_with fail
  refine (rNodes_is a n c _ l k _ HL.out HN.out HC.out HK.out).mono ?_
  rintro e w1 ⟨rfl, hb⟩
  have HB1 : Hid (Below w.heap.size w w1) := Lib.hid hb
  obtain ⟨hin, hgx⟩ := HH.out _ HB1.out
  have HN1 := Lib.hid hin; have HG1 := Lib.hid hgx
  have HBB1 : Hid (Below w.heap.size w w1) := Lib.hid hb
  clear hin hgx hb
  go_wp2_with fail
  refine (check_bad a n c _ l k _ HL.out HN1.out HC.out HK.out HK0.out).mono ?_
  rintro e w' ⟨rfl, rfl⟩
  go_wp2_with fail
  refine (eErrK k _ HG1.out).mono ?_
  rintro e w2 ⟨rfl, hb⟩
  have HB2 : Hid (Below w.heap.size w w2) := Lib.hid (HB1.out.trans (hb.mono HB1.out.size))
  obtain ⟨hin, hgx⟩ := HH.out _ HB2.out
  have HN2 := Lib.hid hin; have HG2 := Lib.hid hgx
  have HBB2 : Hid (Below w1.heap.size w1 w2) := Lib.hid hb
  clear hin hgx hb
  go_wp2_with fail
  refine (in_yes _ _ _ _ hk1 hk2).mono ?_
  rintro e w' ⟨rfl, rfl⟩
  go_wp2_with fail
  refine (rSpot_is key p _ HP.out hk1 hk2).mono ?_
  rintro e w' ⟨rfl, rfl⟩
  go_wp2_with fail
  refine (cPlace_in key p _ HI.out HP.out).mono ?_
  rintro e w' ⟨rfl, rfl⟩
  go_wp2_with fail
  refine (eErr0 _).mono ?_
  rintro e w3 ⟨rfl, hb⟩
  have HB3 : Hid (Below w.heap.size w w3) := Lib.hid (HB2.out.trans (hb.mono HB2.out.size))
  obtain ⟨hin, hgx⟩ := HH.out _ HB3.out
  have HN3 := Lib.hid hin; have HG3 := Lib.hid hgx
  have HBB3 : Hid (Below w2.heap.size w2 w3) := Lib.hid hb
  clear hin hgx hb
  go_wp2
  refine wp_loop_rounds 1 ?_
  rw [rounds_succ]
  go_wp2
  refine wp_loop_rounds 1 ?_
  rw [rounds_succ]
  go_wp2_with fail
  refine (shares_bad a n c l k _ HL.out HN3.out HC.out HK.out HK0.out).mono ?_
  rintro e w4 ⟨⟨a1, c1, rfl⟩, hb⟩
  have HB4 : Hid (Below w.heap.size w w4) := Lib.hid (HB3.out.trans (hb.mono HB3.out.size))
  obtain ⟨hin, hgx⟩ := HH.out _ HB4.out
  have HN4 := Lib.hid hin; have HG4 := Lib.hid hgx
  have HBB4 : Hid (Below w3.heap.size w3 w4) := Lib.hid hb
  clear hin hgx hb
  go_wp2_with fail
  refine (eErrK k _ HG4.out).mono ?_
  rintro e w5 ⟨rfl, hb⟩
  have HB5 : Hid (Below w.heap.size w w5) := Lib.hid (HB4.out.trans (hb.mono HB4.out.size))
  obtain ⟨hin, hgx⟩ := HH.out _ HB5.out
  have HN5 := Lib.hid hin; have HG5 := Lib.hid hgx
  have HBB5 : Hid (Below w4.heap.size w4 w5) := Lib.hid hb
  clear hin hgx hb
  go_wp2_with fail
  refine (ints_same_keep a1 none 0 c1 0 0 0 [] _ rfl (fun h => absurd h (by simp)) (fun h => absurd h (by simp)) (by unfold maxLen; omega)).mono ?_
  rintro e w6 ⟨rfl, hkp⟩
  have HB6 : Hid (Below w.heap.size w w6) := Lib.hid (HB5.out.trans (hkp.below HB5.out.size (by simp)))
  obtain ⟨hin, hgx⟩ := HH.out _ HB6.out
  have HN6 := Lib.hid hin; have HG6 := Lib.hid hgx; have HBB6 : Hid (Below w5.heap.size w5 w6) := Lib.hid (hkp.below (Nat.le_refl _) (by simp))
  clear hin hgx hkp
  go_wp2_with fail
  refine (cRank_bad a n c l key k _ HL.out HN6.out HC.out (errK_bad HK.out HK0.out) HK0.out).mono ?_
  rintro e w7 ⟨⟨a6, c6, rfl⟩, hb⟩
  have HB7 : Hid (Below w.heap.size w w7) := Lib.hid (HB6.out.trans (hb.mono HB6.out.size))
  obtain ⟨hin, hgx⟩ := HH.out _ HB7.out
  have HN7 := Lib.hid hin; have HG7 := Lib.hid hgx
  have HBB7 : Hid (Below w6.heap.size w6 w7) := Lib.hid hb
  clear hin hgx hb
  go_wp2_with fail
  refine (eErrK k _ HG7.out).mono ?_
  rintro e w8 ⟨rfl, hb⟩
  have HB8 : Hid (Below w.heap.size w w8) := Lib.hid (HB7.out.trans (hb.mono HB7.out.size))
  obtain ⟨hin, hgx⟩ := HH.out _ HB8.out
  have HN8 := Lib.hid hin; have HG8 := Lib.hid hgx
  have HBB8 : Hid (Below w7.heap.size w7 w8) := Lib.hid hb
  clear hin hgx hb
  go_wp2_with fail
  refine (ints_same_keep a6 none 0 c6 0 0 0 [] _ rfl (fun h => absurd h (by simp)) (fun h => absurd h (by simp)) (by unfold maxLen; omega)).mono ?_
  rintro e w9 ⟨rfl, hkp⟩
  have HB9 : Hid (Below w.heap.size w w9) := Lib.hid (HB8.out.trans (hkp.below HB8.out.size (by simp)))
  obtain ⟨hin, hgx⟩ := HH.out _ HB9.out
  have HN9 := Lib.hid hin; have HG9 := Lib.hid hgx; have HBB9 : Hid (Below w8.heap.size w8 w9) := Lib.hid (hkp.below (Nat.le_refl _) (by simp))
  clear hin hgx hkp
  go_wp2_with fail
  refine (cOwner_bad a n c l key k _ HL.out HN9.out HC.out (errO_is (errK_bad HK.out HK0.out) HK0.out) HK0.out).mono ?_
  rintro e w10 ⟨rfl, hb⟩
  have HB10 : Hid (Below w.heap.size w w10) := Lib.hid (HB9.out.trans (hb.mono HB9.out.size))
  obtain ⟨hin, hgx⟩ := HH.out _ HB10.out
  have HN10 := Lib.hid hin; have HG10 := Lib.hid hgx
  have HBB10 : Hid (Below w9.heap.size w9 w10) := Lib.hid hb
  clear hin hgx hb
  go_wp2_with fail
  refine (eErrK k _ HG10.out).mono ?_
  rintro e w11 ⟨rfl, hb⟩
  have HB11 : Hid (Below w.heap.size w w11) := Lib.hid (HB10.out.trans (hb.mono HB10.out.size))
  obtain ⟨hin, hgx⟩ := HH.out _ HB11.out
  have HN11 := Lib.hid hin; have HG11 := Lib.hid hgx
  have HBB11 : Hid (Below w10.heap.size w10 w11) := Lib.hid hb
  clear hin hgx hb
  go_wp2
  go_ret
  exact ⟨by simp, HB11.out⟩

set_option maxHeartbeats 8000000 in
set_option maxRecDepth 100000 in
theorem says_Ao (a : Option Addr) (c : Nat) (l : List Int) (key : Int) (w : World) (k : Int) (hk : errL l = k) (hk0 : k ≠ 0) (hi : ¬ (0 ≤ key ∧ key ≤ 1000000)) (n : Nat) (hl : l.length = n) (hn0 : 0 < n) (h : IntsIn w w.heap.size a l) (hc : n ≤ c) (hg : Handle w) (hnm : l.length ≤ 100000000000000) :
    Calls Tryd.prog 5 #[.slice a n c, .int .i64 key] w fun e w' => e = .returned (.bool true) ∧ Below w.heap.size w w' := by
  have hnb : (n : Int) ≤ 100000000000000 := by omega
  have HL := Lib.hid hl; have HK := Lib.hid hk; have HC := Lib.hid hc; have HI := Lib.hid hi
  have HH : Hid (∀ w', Below w.heap.size w w' → IntsIn w' w'.heap.size a l ∧ Handle w') := Lib.hid fun w' hb => ⟨(h.below hb).more hb.size, hg.below hb hg.lt⟩
  have HW0 := Lib.hid hg.lt
  have HK0 := Lib.hid hk0
  have hkb : (k == 0) = false := by simpa using hk0
  have hn0i : (0 : Int) < (n : Int) := by omega
  have hn0d : ¬ (n : Int) = 0 := by omega
  have hi2 : key < 0 ∨ 1000000 < key := by omega
  have HI2 := Lib.hid hi2
  clear hi hi2
  have HSM : Hid (l.length ≤ 100000000000000) := Lib.hid hnm
  clear hl hk hc h hg hnm hk0
  go_enter Tryd.func5, Tryd.ntmps5
  obtain ⟨hin, hgx⟩ := HH.out _ (Below.refl _ w)
  have HN := Lib.hid hin; have HG := Lib.hid hgx
  clear hin hgx
  go_wp2_with fail
  refine (rNodes_is a n c _ l k _ HL.out HN.out HC.out HK.out).mono ?_
  rintro e w1 ⟨rfl, hb⟩
  have HB1 : Hid (Below w.heap.size w w1) := Lib.hid hb
  obtain ⟨hin, hgx⟩ := HH.out _ HB1.out
  have HN1 := Lib.hid hin; have HG1 := Lib.hid hgx
  have HBB1 : Hid (Below w.heap.size w w1) := Lib.hid hb
  clear hin hgx hb
  go_wp2_with fail
  refine (check_bad a n c _ l k _ HL.out HN1.out HC.out HK.out HK0.out).mono ?_
  rintro e w' ⟨rfl, rfl⟩
  go_wp2_with fail
  refine (eErrK k _ HG1.out).mono ?_
  rintro e w2 ⟨rfl, hb⟩
  have HB2 : Hid (Below w.heap.size w w2) := Lib.hid (HB1.out.trans (hb.mono HB1.out.size))
  obtain ⟨hin, hgx⟩ := HH.out _ HB2.out
  have HN2 := Lib.hid hin; have HG2 := Lib.hid hgx
  have HBB2 : Hid (Below w1.heap.size w1 w2) := Lib.hid hb
  clear hin hgx hb
  go_wp2_with fail
  refine (in_no _ _ _ _ HI2.out).mono ?_
  rintro e w' ⟨rfl, rfl⟩
  go_wp2_with fail
  refine (cPlace_out key _ HI.out).mono ?_
  rintro e w' ⟨rfl, rfl⟩
  go_wp2_with fail
  refine (eErrK 1 _ HG2.out).mono ?_
  rintro e w3 ⟨rfl, hb⟩
  have HB3 : Hid (Below w.heap.size w w3) := Lib.hid (HB2.out.trans (hb.mono HB2.out.size))
  obtain ⟨hin, hgx⟩ := HH.out _ HB3.out
  have HN3 := Lib.hid hin; have HG3 := Lib.hid hgx
  have HBB3 : Hid (Below w2.heap.size w2 w3) := Lib.hid hb
  clear hin hgx hb
  go_wp2
  refine wp_loop_rounds 1 ?_
  rw [rounds_succ]
  go_wp2
  refine wp_loop_rounds 1 ?_
  rw [rounds_succ]
  go_wp2_with fail
  refine (shares_bad a n c l k _ HL.out HN3.out HC.out HK.out HK0.out).mono ?_
  rintro e w4 ⟨⟨a1, c1, rfl⟩, hb⟩
  have HB4 : Hid (Below w.heap.size w w4) := Lib.hid (HB3.out.trans (hb.mono HB3.out.size))
  obtain ⟨hin, hgx⟩ := HH.out _ HB4.out
  have HN4 := Lib.hid hin; have HG4 := Lib.hid hgx
  have HBB4 : Hid (Below w3.heap.size w3 w4) := Lib.hid hb
  clear hin hgx hb
  go_wp2_with fail
  refine (eErrK k _ HG4.out).mono ?_
  rintro e w5 ⟨rfl, hb⟩
  have HB5 : Hid (Below w.heap.size w w5) := Lib.hid (HB4.out.trans (hb.mono HB4.out.size))
  obtain ⟨hin, hgx⟩ := HH.out _ HB5.out
  have HN5 := Lib.hid hin; have HG5 := Lib.hid hgx
  have HBB5 : Hid (Below w4.heap.size w4 w5) := Lib.hid hb
  clear hin hgx hb
  go_wp2_with fail
  refine (ints_same_keep a1 none 0 c1 0 0 0 [] _ rfl (fun h => absurd h (by simp)) (fun h => absurd h (by simp)) (by unfold maxLen; omega)).mono ?_
  rintro e w6 ⟨rfl, hkp⟩
  have HB6 : Hid (Below w.heap.size w w6) := Lib.hid (HB5.out.trans (hkp.below HB5.out.size (by simp)))
  obtain ⟨hin, hgx⟩ := HH.out _ HB6.out
  have HN6 := Lib.hid hin; have HG6 := Lib.hid hgx; have HBB6 : Hid (Below w5.heap.size w5 w6) := Lib.hid (hkp.below (Nat.le_refl _) (by simp))
  clear hin hgx hkp
  go_wp2_with fail
  refine (cRank_bad a n c l key k _ HL.out HN6.out HC.out (errK_bad HK.out HK0.out) HK0.out).mono ?_
  rintro e w7 ⟨⟨a6, c6, rfl⟩, hb⟩
  have HB7 : Hid (Below w.heap.size w w7) := Lib.hid (HB6.out.trans (hb.mono HB6.out.size))
  obtain ⟨hin, hgx⟩ := HH.out _ HB7.out
  have HN7 := Lib.hid hin; have HG7 := Lib.hid hgx
  have HBB7 : Hid (Below w6.heap.size w6 w7) := Lib.hid hb
  clear hin hgx hb
  go_wp2_with fail
  refine (eErrK k _ HG7.out).mono ?_
  rintro e w8 ⟨rfl, hb⟩
  have HB8 : Hid (Below w.heap.size w w8) := Lib.hid (HB7.out.trans (hb.mono HB7.out.size))
  obtain ⟨hin, hgx⟩ := HH.out _ HB8.out
  have HN8 := Lib.hid hin; have HG8 := Lib.hid hgx
  have HBB8 : Hid (Below w7.heap.size w7 w8) := Lib.hid hb
  clear hin hgx hb
  go_wp2_with fail
  refine (ints_same_keep a6 none 0 c6 0 0 0 [] _ rfl (fun h => absurd h (by simp)) (fun h => absurd h (by simp)) (by unfold maxLen; omega)).mono ?_
  rintro e w9 ⟨rfl, hkp⟩
  have HB9 : Hid (Below w.heap.size w w9) := Lib.hid (HB8.out.trans (hkp.below HB8.out.size (by simp)))
  obtain ⟨hin, hgx⟩ := HH.out _ HB9.out
  have HN9 := Lib.hid hin; have HG9 := Lib.hid hgx; have HBB9 : Hid (Below w8.heap.size w8 w9) := Lib.hid (hkp.below (Nat.le_refl _) (by simp))
  clear hin hgx hkp
  go_wp2_with fail
  refine (cOwner_bad a n c l key k _ HL.out HN9.out HC.out (errO_is (errK_bad HK.out HK0.out) HK0.out) HK0.out).mono ?_
  rintro e w10 ⟨rfl, hb⟩
  have HB10 : Hid (Below w.heap.size w w10) := Lib.hid (HB9.out.trans (hb.mono HB9.out.size))
  obtain ⟨hin, hgx⟩ := HH.out _ HB10.out
  have HN10 := Lib.hid hin; have HG10 := Lib.hid hgx
  have HBB10 : Hid (Below w9.heap.size w9 w10) := Lib.hid hb
  clear hin hgx hb
  go_wp2_with fail
  refine (eErrK k _ HG10.out).mono ?_
  rintro e w11 ⟨rfl, hb⟩
  have HB11 : Hid (Below w.heap.size w w11) := Lib.hid (HB10.out.trans (hb.mono HB10.out.size))
  obtain ⟨hin, hgx⟩ := HH.out _ HB11.out
  have HN11 := Lib.hid hin; have HG11 := Lib.hid hgx
  have HBB11 : Hid (Below w10.heap.size w10 w11) := Lib.hid hb
  clear hin hgx hb
  go_wp2
  go_ret
  exact ⟨by simp, HB11.out⟩

set_option maxHeartbeats 8000000 in
set_option maxRecDepth 100000 in
theorem says_B0 (a : Option Addr) (c : Nat) (l : List Int) (key : Int) (w : World) (hk : errL l = 0) (hi : ¬ (0 ≤ key ∧ key ≤ 1000000)) (hl : l.length = 0) (h : IntsIn w w.heap.size a l) (hc : 0 ≤ c) (hg : Handle w) (hnm : l.length ≤ 100000000000000) :
    Calls Tryd.prog 5 #[.slice a 0 c, .int .i64 key] w fun e w' => e = .returned (.bool true) ∧ Below w.heap.size w w' := by
  have HL := Lib.hid hl; have HK := Lib.hid hk; have HC := Lib.hid hc; have HI := Lib.hid hi
  have HH : Hid (∀ w', Below w.heap.size w w' → IntsIn w' w'.heap.size a l ∧ Handle w') := Lib.hid fun w' hb => ⟨(h.below hb).more hb.size, hg.below hb hg.lt⟩
  have HW0 := Lib.hid hg.lt
  have HGD := Lib.hid ((errL_good l).1 hk)
  have hi2 : key < 0 ∨ 1000000 < key := by omega
  have HI2 := Lib.hid hi2
  clear hi hi2
  have HSM : Hid (l.length ≤ 100000000000000) := Lib.hid hnm
  clear hl hk hc h hg hnm
  obtain ⟨i0, hii, hz0, hz1, hz2⟩ := info_parts info_int
  go_enter Tryd.func5, Tryd.ntmps5
  obtain ⟨hin, hgx⟩ := HH.out _ (Below.refl _ w)
  have HN := Lib.hid hin; have HG := Lib.hid hgx
  clear hin hgx
  go_wp2_with fail
  refine (rNodes_is a 0 c _ l 0 _ HL.out HN.out HC.out HK.out).mono ?_
  rintro e w1 ⟨rfl, hb⟩
  have HB1 : Hid (Below w.heap.size w w1) := Lib.hid hb
  obtain ⟨hin, hgx⟩ := HH.out _ HB1.out
  have HN1 := Lib.hid hin; have HG1 := Lib.hid hgx
  have HBB1 : Hid (Below w.heap.size w w1) := Lib.hid hb
  clear hin hgx hb
  go_wp2_with fail
  refine (check_good a 0 c _ l _ HL.out HN1.out HC.out HK.out).mono ?_
  rintro e w' ⟨rfl, rfl⟩
  go_wp2_with fail
  refine (eErr0 _).mono ?_
  rintro e w2 ⟨rfl, hb⟩
  have HB2 : Hid (Below w.heap.size w w2) := Lib.hid (HB1.out.trans (hb.mono HB1.out.size))
  obtain ⟨hin, hgx⟩ := HH.out _ HB2.out
  have HN2 := Lib.hid hin; have HG2 := Lib.hid hgx
  have HBB2 : Hid (Below w1.heap.size w1 w2) := Lib.hid hb
  clear hin hgx hb
  go_wp2_with fail
  refine (in_no _ _ _ _ HI2.out).mono ?_
  rintro e w' ⟨rfl, rfl⟩
  go_wp2_with fail
  refine (cPlace_out key _ HI.out).mono ?_
  rintro e w' ⟨rfl, rfl⟩
  go_wp2_with fail
  refine (eErrK 1 _ HG2.out).mono ?_
  rintro e w3 ⟨rfl, hb⟩
  have HB3 : Hid (Below w.heap.size w w3) := Lib.hid (HB2.out.trans (hb.mono HB2.out.size))
  obtain ⟨hin, hgx⟩ := HH.out _ HB3.out
  have HN3 := Lib.hid hin; have HG3 := Lib.hid hgx
  have HBB3 : Hid (Below w2.heap.size w2 w3) := Lib.hid hb
  clear hin hgx hb
  go_wp2
  refine wp_loop_rounds 1 ?_
  rw [rounds_succ]
  go_wp2
  refine wp_loop_rounds 1 ?_
  rw [rounds_succ]
  go_wp2_with fail
  refine (shares_good a 0 c l _ HL.out HN3.out HC.out HK.out).mono ?_
  rintro e w4 ⟨hx, hb⟩
  have HB4 : Hid (Below w.heap.size w w4) := Lib.hid (HB3.out.trans (hb.mono HB3.out.size))
  obtain ⟨hin, hgx⟩ := HH.out _ HB4.out
  have HN4 := Lib.hid hin; have HG4 := Lib.hid hgx
  have HBB4 : Hid (Below w3.heap.size w3 w4) := Lib.hid hb
  obtain ⟨a1, c1, rfl, hs1⟩ := hx
  have HS1 := Lib.hid hs1
  clear hs1
  clear hin hgx hb
  go_wp2_with fail
  refine (eErr0 _).mono ?_
  rintro e w5 ⟨rfl, hb⟩
  have HB5 : Hid (Below w.heap.size w w5) := Lib.hid (HB4.out.trans (hb.mono HB4.out.size))
  obtain ⟨hin, hgx⟩ := HH.out _ HB5.out
  have HN5 := Lib.hid hin; have HG5 := Lib.hid hgx
  have HBB5 : Hid (Below w4.heap.size w4 w5) := Lib.hid hb
  clear hin hgx hb
  go_wp2_with fail
  refine (ints_same_keep a1 none 0 c1 0 0 0 [] _ rfl (fun h => absurd h (by simp)) (fun h => absurd h (by simp)) (by unfold maxLen; omega)).mono ?_
  rintro e w6 ⟨rfl, hkp⟩
  have HB6 : Hid (Below w.heap.size w w6) := Lib.hid (HB5.out.trans (hkp.below HB5.out.size (by simp)))
  obtain ⟨hin, hgx⟩ := HH.out _ HB6.out
  have HN6 := Lib.hid hin; have HG6 := Lib.hid hgx; have HBB6 : Hid (Below w5.heap.size w5 w6) := Lib.hid (hkp.below (Nat.le_refl _) (by simp))
  clear hin hgx hkp
  go_wp2_with fail
  refine (cRank_bad a 0 c l key 1 _ HL.out HN6.out HC.out (errK_out HK.out HI.out) (by decide)).mono ?_
  rintro e w7 ⟨⟨a6, c6, rfl⟩, hb⟩
  have HB7 : Hid (Below w.heap.size w w7) := Lib.hid (HB6.out.trans (hb.mono HB6.out.size))
  obtain ⟨hin, hgx⟩ := HH.out _ HB7.out
  have HN7 := Lib.hid hin; have HG7 := Lib.hid hgx
  have HBB7 : Hid (Below w6.heap.size w6 w7) := Lib.hid hb
  clear hin hgx hb
  go_wp2_with fail
  refine (eErrK 1 _ HG7.out).mono ?_
  rintro e w8 ⟨rfl, hb⟩
  have HB8 : Hid (Below w.heap.size w w8) := Lib.hid (HB7.out.trans (hb.mono HB7.out.size))
  obtain ⟨hin, hgx⟩ := HH.out _ HB8.out
  have HN8 := Lib.hid hin; have HG8 := Lib.hid hgx
  have HBB8 : Hid (Below w7.heap.size w7 w8) := Lib.hid hb
  clear hin hgx hb
  go_wp2_with fail
  refine (ints_same_keep a6 none 0 c6 0 0 0 [] _ rfl (fun h => absurd h (by simp)) (fun h => absurd h (by simp)) (by unfold maxLen; omega)).mono ?_
  rintro e w9 ⟨rfl, hkp⟩
  have HB9 : Hid (Below w.heap.size w w9) := Lib.hid (HB8.out.trans (hkp.below HB8.out.size (by simp)))
  obtain ⟨hin, hgx⟩ := HH.out _ HB9.out
  have HN9 := Lib.hid hin; have HG9 := Lib.hid hgx; have HBB9 : Hid (Below w8.heap.size w8 w9) := Lib.hid (hkp.below (Nat.le_refl _) (by simp))
  clear hin hgx hkp
  go_wp2_with fail
  refine (cOwner_bad a 0 c l key 1 _ HL.out HN9.out HC.out (errO_is (errK_out HK.out HI.out) (by decide)) (by decide)).mono ?_
  rintro e w10 ⟨rfl, hb⟩
  have HB10 : Hid (Below w.heap.size w w10) := Lib.hid (HB9.out.trans (hb.mono HB9.out.size))
  obtain ⟨hin, hgx⟩ := HH.out _ HB10.out
  have HN10 := Lib.hid hin; have HG10 := Lib.hid hgx
  have HBB10 : Hid (Below w9.heap.size w9 w10) := Lib.hid hb
  clear hin hgx hb
  go_wp2_with fail
  refine (eErrK 1 _ HG10.out).mono ?_
  rintro e w11 ⟨rfl, hb⟩
  have HB11 : Hid (Below w.heap.size w w11) := Lib.hid (HB10.out.trans (hb.mono HB10.out.size))
  obtain ⟨hin, hgx⟩ := HH.out _ HB11.out
  have HN11 := Lib.hid hin; have HG11 := Lib.hid hgx
  have HBB11 : Hid (Below w10.heap.size w10 w11) := Lib.hid hb
  clear hin hgx hb
  go_wp2
  go_ret
  exact ⟨by simp, HB11.out⟩

set_option maxHeartbeats 8000000 in
set_option maxRecDepth 100000 in
theorem says_B1 (a : Option Addr) (c : Nat) (l : List Int) (key : Int) (w : World) (hk : errL l = 0) (hi : ¬ (0 ≤ key ∧ key ≤ 1000000)) (n : Nat) (hl : l.length = n) (hn0 : 0 < n) (h : IntsIn w w.heap.size a l) (hc : n ≤ c) (hg : Handle w) (hnm : l.length ≤ 100000000000000) :
    Calls Tryd.prog 5 #[.slice a n c, .int .i64 key] w fun e w' => e = .returned (.bool true) ∧ Below w.heap.size w w' := by
  have hnb : (n : Int) ≤ 100000000000000 := by omega
  have HL := Lib.hid hl; have HK := Lib.hid hk; have HC := Lib.hid hc; have HI := Lib.hid hi
  have HH : Hid (∀ w', Below w.heap.size w w' → IntsIn w' w'.heap.size a l ∧ Handle w') := Lib.hid fun w' hb => ⟨(h.below hb).more hb.size, hg.below hb hg.lt⟩
  have HW0 := Lib.hid hg.lt
  have HGD := Lib.hid ((errL_good l).1 hk)
  have hn12 : n ≤ 12 := by have := HGD.out.1; omega
  have hn12i : (n : Int) ≤ 12 := by omega
  have hn0i : (0 : Int) < (n : Int) := by omega
  have hn0d : ¬ (n : Int) = 0 := by omega
  have hi2 : key < 0 ∨ 1000000 < key := by omega
  have HI2 := Lib.hid hi2
  clear hi hi2
  have hne : l ≠ [] := fun hh => by rw [hh] at hl; simp at hl; omega
  have HNE := Lib.hid hne
  clear hne
  have HSM : Hid (l.length ≤ 100000000000000) := Lib.hid hnm
  clear hl hk hc h hg hnm
  obtain ⟨i0, hii, hz0, hz1, hz2⟩ := info_parts info_int
  go_enter Tryd.func5, Tryd.ntmps5
  obtain ⟨hin, hgx⟩ := HH.out _ (Below.refl _ w)
  have HN := Lib.hid hin; have HG := Lib.hid hgx
  clear hin hgx
  go_wp2_with fail
  refine (rNodes_is a n c _ l 0 _ HL.out HN.out HC.out HK.out).mono ?_
  rintro e w1 ⟨rfl, hb⟩
  have HB1 : Hid (Below w.heap.size w w1) := Lib.hid hb
  obtain ⟨hin, hgx⟩ := HH.out _ HB1.out
  have HN1 := Lib.hid hin; have HG1 := Lib.hid hgx
  have HBB1 : Hid (Below w.heap.size w w1) := Lib.hid hb
  clear hin hgx hb
  go_wp2_with fail
  refine (check_good a n c _ l _ HL.out HN1.out HC.out HK.out).mono ?_
  rintro e w' ⟨rfl, rfl⟩
  go_wp2_with fail
  refine (eErr0 _).mono ?_
  rintro e w2 ⟨rfl, hb⟩
  have HB2 : Hid (Below w.heap.size w w2) := Lib.hid (HB1.out.trans (hb.mono HB1.out.size))
  obtain ⟨hin, hgx⟩ := HH.out _ HB2.out
  have HN2 := Lib.hid hin; have HG2 := Lib.hid hgx
  have HBB2 : Hid (Below w1.heap.size w1 w2) := Lib.hid hb
  clear hin hgx hb
  go_wp2_with fail
  refine (in_no _ _ _ _ HI2.out).mono ?_
  rintro e w' ⟨rfl, rfl⟩
  go_wp2_with fail
  refine (cPlace_out key _ HI.out).mono ?_
  rintro e w' ⟨rfl, rfl⟩
  go_wp2_with fail
  refine (eErrK 1 _ HG2.out).mono ?_
  rintro e w3 ⟨rfl, hb⟩
  have HB3 : Hid (Below w.heap.size w w3) := Lib.hid (HB2.out.trans (hb.mono HB2.out.size))
  obtain ⟨hin, hgx⟩ := HH.out _ HB3.out
  have HN3 := Lib.hid hin; have HG3 := Lib.hid hgx
  have HBB3 : Hid (Below w2.heap.size w2 w3) := Lib.hid hb
  clear hin hgx hb
  go_wp2
  go_loopw [11, 14] (fun sh i wr => SaysL1 w n sh i wr) (fun _ i _ => n - (intOf i).toNat)
  case atStart => exact ⟨0, by omega, rfl, OwnInts.nil _ _, HB3.out⟩
  case round =>
    obtain ⟨j, hj, rfl, hown, hbel⟩ := hrel
    have HO := Lib.hid hown; have HBL := Lib.hid hbel; have hszl := hbel.size; clear hown hbel
    by_cases hlt : j < n
    · have hji : (j : Int) < (n : Int) := by omega
      have hj0 : (0 : Int) ≤ (j : Int) := by omega
      go_wp2_with (at_builtin; refine wpList_append_own _ rfl _ _ 22 rfl w.heap.size 3 i0 (.int .i64 0) 1 8 Tryd.underlying22 hii hz0 hz1 hz2 rfl (by decide) _ _ _ rfl (HO.out.alloc _) ⟨wr.heap.size, 0, none⟩ 1 1 [.int .i64 0] rfl rfl (by intro p u hp; match p, hp with | 0, hp => simp at hp; subst hp; simp [Addr.add]) (by intro u hu; simp at hu; subst hu; rfl) (by unfold maxLen; simp; omega) (by simp; omega) (by simp; omega) ?_; intro v' w9 hown' hgrow _; have HO2 : Hid (OwnInts w9 w.heap.size v' (List.replicate (j + 1) 0)) := Lib.hid (by rw [List.replicate_succ']; unfold OwnInts; simpa [ints] using hown'); have HB9 : Hid (Below w.heap.size w w9) := Lib.hid ((HBL.out.alloc hszl _).grown hgrow (by simp; omega) (fun x hx => (HO.out.lt x hx).1)); clear hown' hgrow)
      go_roundw
      case rel => exact ⟨j + 1, hlt, by simp, HO2.out, HB9.out⟩
      case measure => simp [intOf]; omega
    · obtain rfl : j = n := by omega
      have hsh0 := HO.out
      rw [show List.replicate j (0 : Int) = shares l 0 by rw [shares_zero, HL.out]] at hsh0
      obtain ⟨ash, csh, hshe, _, _⟩ := own_in hsh0
      subst hshe
      rw [shares_len, HL.out] at hsh0 ⊢
      have HS0 := Lib.hid hsh0
      clear hsh0
      obtain ⟨wq, rfl⟩ : ∃ wq : World, wq = wr := ⟨_, rfl⟩
      go_wp2
      go_loopw [15] (fun i wr => SaysL2 w l (.slice ash j csh) i wr) (fun i _ => 1000 - (intOf i).toNat)
      case atStart => exact ⟨0, by omega, rfl, HS0.out, HBL.out⟩
      case round =>
        obtain ⟨q, hq, rfl, hown, hbel⟩ := hrel
        have HO2 := Lib.hid hown; have HBL2 := Lib.hid hbel; have hsz2 := hbel.size; clear hown hbel
        by_cases hlt2 : q < 1000
        · have hqi : (q : Int) < 1000 := by omega
          have hq0 : (0 : Int) ≤ (q : Int) := by omega
          obtain ⟨i, hil, hidx, hli⟩ := idx_own (ownO_mem (q : Int) HNE.out)
          have hcb := cnt_bd l q l[i]
          have hsu := shares_succ HGD.out.2.2 hil hli
          have hil2 : i < (shares l q).length := by rw [shares_len]; exact hil
          obtain ⟨g, cap, hshe, hgb, hgl, hcell, hfree, hset⟩ := HO2.out.setAt hil2
          rw [shares_len, HL.out] at hshe
          obtain ⟨rfl, rfl⟩ : ash = some ⟨g, 0, none⟩ ∧ csh = cap := by simp only [Value.slice.injEq] at hshe; exact ⟨hshe.1, hshe.2.2⟩
          have hcv : (shares l q)[i] = cnt l q l[i] := by simp [shares]
          rw [hcv] at hcell
          obtain ⟨cv, hcve⟩ : ∃ cv, cv = cnt l q l[i] := ⟨_, rfl⟩
          rw [← hcve] at hcell hcb hsu
          obtain ⟨ov, hov⟩ : ∃ ov, ownO (q : Int) l = ov := ⟨_, rfl⟩
          have hovm : ov ∈ l := by rw [← hov]; exact ownO_mem (q : Int) HNE.out
          rw [hov] at hidx
          have HOV := Lib.hid hov; have HIX := Lib.hid hidx; have HOM := Lib.hid hovm; have HSU := Lib.hid hsu; have HSET := Lib.hid hset
          obtain ⟨hcb0, hcb1⟩ := hcb
          have hin : (i : Int) < (j : Int) := by have := HL.out; omega
          have hi0 : (0 : Int) ≤ (i : Int) := by omega
          have HNI : Hid (IntsIn wr wr.heap.size a l) := Lib.hid (HH.out _ HBL2.out).1
          clear hil hli hil2 hshe hcv hcve hov hovm hidx hsu hset
          go_wp2_with fail
          refine (rOwner_is a j c _ l q ov _ HOV.out HL.out HNI.out HGD.out.2.1 (by omega) (by omega) (by omega) (by omega)).mono ?_
          rintro e w' ⟨rfl, rfl⟩
          go_wp2_with fail
          refine (rPlace_at a j c _ l ov i _ HL.out HNI.out (by omega) HOM.out HIX.out).mono ?_
          rintro e w' ⟨rfl, rfl⟩
          go_wp2
          go_roundw
          case rel =>
            refine ⟨q + 1, hlt2, by simp, ?_, HBL2.out.setCell (p := ⟨g, i, none⟩) hgb _⟩
            rw [← HSU.out]
            exact HSET.out (cv + 1)
          case measure => simp [intOf]; omega
        · obtain rfl : q = 1000 := by omega
          have HBL3 := HBL2
          have HOS := HO2
          obtain ⟨w40, hw40⟩ : ∃ w40, w40 = wr := ⟨_, rfl⟩
          rw [← hw40] at HBL3 HOS ⊢
          have HB40 := HBL3
          obtain ⟨hin, hgx⟩ := HH.out _ HB40.out
          have HN40 := Lib.hid hin; have HG40 := Lib.hid hgx
          clear hin hgx hw40
          go_wp2_with fail
          refine (shares_good a j c l _ HL.out HN40.out HC.out HK.out).mono ?_
          rintro e w41 ⟨hx, hb⟩
          have HB41 : Hid (Below w.heap.size w w41) := Lib.hid (HB40.out.trans (hb.mono HB40.out.size))
          obtain ⟨hin, hgx⟩ := HH.out _ HB41.out
          have HN41 := Lib.hid hin; have HG41 := Lib.hid hgx
          have HBB41 : Hid (Below w40.heap.size w40 w41) := Lib.hid hb
          obtain ⟨a1, c1, rfl, hs1⟩ := hx
          have HS1 := Lib.hid hs1
          clear hs1
          clear hin hgx hb
          have HOS1 := Lib.hid (HOS.out.bel HBB41.out)
          go_wp2_with fail
          refine (eErr0 _).mono ?_
          rintro e w42 ⟨rfl, hb⟩
          have HB42 : Hid (Below w.heap.size w w42) := Lib.hid (HB41.out.trans (hb.mono HB41.out.size))
          obtain ⟨hin, hgx⟩ := HH.out _ HB42.out
          have HN42 := Lib.hid hin; have HG42 := Lib.hid hgx
          have HBB42 : Hid (Below w41.heap.size w41 w42) := Lib.hid hb
          clear hin hgx hb
          have HSI : Hid (IntsIn w42 w42.heap.size a1 (shares l 1000)) := Lib.hid ((HS1.out.below HBB42.out).more HBB42.out.size)
          have HSO : Hid (IntsIn w42 w42.heap.size ash (shares l 1000)) := Lib.hid (by
            obtain ⟨aq, cq, eq, hiq, _⟩ := own_in (HOS1.out.bel HBB42.out)
            simp only [Value.slice.injEq] at eq
            rw [eq.1]; exact hiq)
          go_wp2_with fail
          refine (ints_same_keep a1 ash j c1 csh _ _ (shares l 1000) _ (by rw [shares_len]; exact HL.out) HSI.out HSO.out (by unfold maxLen; omega)).mono ?_
          rintro e w43 ⟨rfl, hkp⟩
          have HB43 : Hid (Below w.heap.size w w43) := Lib.hid (HB42.out.trans (hkp.below HB42.out.size (by simp)))
          obtain ⟨hin, hgx⟩ := HH.out _ HB43.out
          have HN43 := Lib.hid hin; have HG43 := Lib.hid hgx; have HBB43 : Hid (Below w42.heap.size w42 w43) := Lib.hid (hkp.below (Nat.le_refl _) (by simp))
          clear hin hgx hkp
          go_wp2_with fail
          refine (cRank_bad a j c l key 1 _ HL.out HN43.out HC.out (errK_out HK.out HI.out) (by decide)).mono ?_
          rintro e w44 ⟨⟨a6, c6, rfl⟩, hb⟩
          have HB44 : Hid (Below w.heap.size w w44) := Lib.hid (HB43.out.trans (hb.mono HB43.out.size))
          obtain ⟨hin, hgx⟩ := HH.out _ HB44.out
          have HN44 := Lib.hid hin; have HG44 := Lib.hid hgx
          have HBB44 : Hid (Below w43.heap.size w43 w44) := Lib.hid hb
          clear hin hgx hb
          go_wp2_with fail
          refine (eErrK 1 _ HG44.out).mono ?_
          rintro e w45 ⟨rfl, hb⟩
          have HB45 : Hid (Below w.heap.size w w45) := Lib.hid (HB44.out.trans (hb.mono HB44.out.size))
          obtain ⟨hin, hgx⟩ := HH.out _ HB45.out
          have HN45 := Lib.hid hin; have HG45 := Lib.hid hgx
          have HBB45 : Hid (Below w44.heap.size w44 w45) := Lib.hid hb
          clear hin hgx hb
          go_wp2_with fail
          refine (ints_same_keep a6 none 0 c6 0 0 0 [] _ rfl (fun h => absurd h (by simp)) (fun h => absurd h (by simp)) (by unfold maxLen; omega)).mono ?_
          rintro e w46 ⟨rfl, hkp⟩
          have HB46 : Hid (Below w.heap.size w w46) := Lib.hid (HB45.out.trans (hkp.below HB45.out.size (by simp)))
          obtain ⟨hin, hgx⟩ := HH.out _ HB46.out
          have HN46 := Lib.hid hin; have HG46 := Lib.hid hgx; have HBB46 : Hid (Below w45.heap.size w45 w46) := Lib.hid (hkp.below (Nat.le_refl _) (by simp))
          clear hin hgx hkp
          go_wp2_with fail
          refine (cOwner_bad a j c l key 1 _ HL.out HN46.out HC.out (errO_is (errK_out HK.out HI.out) (by decide)) (by decide)).mono ?_
          rintro e w47 ⟨rfl, hb⟩
          have HB47 : Hid (Below w.heap.size w w47) := Lib.hid (HB46.out.trans (hb.mono HB46.out.size))
          obtain ⟨hin, hgx⟩ := HH.out _ HB47.out
          have HN47 := Lib.hid hin; have HG47 := Lib.hid hgx
          have HBB47 : Hid (Below w46.heap.size w46 w47) := Lib.hid hb
          clear hin hgx hb
          go_wp2_with fail
          refine (eErrK 1 _ HG47.out).mono ?_
          rintro e w48 ⟨rfl, hb⟩
          have HB48 : Hid (Below w.heap.size w w48) := Lib.hid (HB47.out.trans (hb.mono HB47.out.size))
          obtain ⟨hin, hgx⟩ := HH.out _ HB48.out
          have HN48 := Lib.hid hin; have HG48 := Lib.hid hgx
          have HBB48 : Hid (Below w47.heap.size w47 w48) := Lib.hid hb
          clear hin hgx hb
          go_wp2
          go_ret
          exact ⟨by simp, HB48.out⟩

set_option maxHeartbeats 8000000 in
set_option maxRecDepth 100000 in
theorem says_C (a : Option Addr) (c : Nat) (l : List Int) (key : Int) (w : World) (hk : errL l = 0) (hi : (0 ≤ key ∧ key ≤ 1000000)) (hl : l.length = 0) (h : IntsIn w w.heap.size a l) (hc : 0 ≤ c) (hg : Handle w) (hnm : l.length ≤ 100000000000000) :
    Calls Tryd.prog 5 #[.slice a 0 c, .int .i64 key] w fun e w' => e = .returned (.bool true) ∧ Below w.heap.size w w' := by
  have HL := Lib.hid hl; have HK := Lib.hid hk; have HC := Lib.hid hc; have HI := Lib.hid hi
  have HH : Hid (∀ w', Below w.heap.size w w' → IntsIn w' w'.heap.size a l ∧ Handle w') := Lib.hid fun w' hb => ⟨(h.below hb).more hb.size, hg.below hb hg.lt⟩
  have HW0 := Lib.hid hg.lt
  have HGD := Lib.hid ((errL_good l).1 hk)
  have hpb := plc_bd key
  obtain ⟨p, hp⟩ : ∃ p, plc key = p := ⟨_, rfl⟩
  rw [hp] at hpb
  have HP := Lib.hid hp
  obtain ⟨hpb0, hpb1⟩ := hpb
  obtain ⟨hk1, hk2⟩ := hi
  clear hp
  have HSM : Hid (l.length ≤ 100000000000000) := Lib.hid hnm
  clear hl hk hc h hg hnm
  obtain ⟨i0, hii, hz0, hz1, hz2⟩ := info_parts info_int
  go_enter Tryd.func5, Tryd.ntmps5
  obtain ⟨hin, hgx⟩ := HH.out _ (Below.refl _ w)
  have HN := Lib.hid hin; have HG := Lib.hid hgx
  clear hin hgx
  go_wp2_with fail
  refine (rNodes_is a 0 c _ l 0 _ HL.out HN.out HC.out HK.out).mono ?_
  rintro e w1 ⟨rfl, hb⟩
  have HB1 : Hid (Below w.heap.size w w1) := Lib.hid hb
  obtain ⟨hin, hgx⟩ := HH.out _ HB1.out
  have HN1 := Lib.hid hin; have HG1 := Lib.hid hgx
  have HBB1 : Hid (Below w.heap.size w w1) := Lib.hid hb
  clear hin hgx hb
  go_wp2_with fail
  refine (check_good a 0 c _ l _ HL.out HN1.out HC.out HK.out).mono ?_
  rintro e w' ⟨rfl, rfl⟩
  go_wp2_with fail
  refine (eErr0 _).mono ?_
  rintro e w2 ⟨rfl, hb⟩
  have HB2 : Hid (Below w.heap.size w w2) := Lib.hid (HB1.out.trans (hb.mono HB1.out.size))
  obtain ⟨hin, hgx⟩ := HH.out _ HB2.out
  have HN2 := Lib.hid hin; have HG2 := Lib.hid hgx
  have HBB2 : Hid (Below w1.heap.size w1 w2) := Lib.hid hb
  clear hin hgx hb
  go_wp2_with fail
  refine (in_yes _ _ _ _ hk1 hk2).mono ?_
  rintro e w' ⟨rfl, rfl⟩
  go_wp2_with fail
  refine (rSpot_is key p _ HP.out hk1 hk2).mono ?_
  rintro e w' ⟨rfl, rfl⟩
  go_wp2_with fail
  refine (cPlace_in key p _ HI.out HP.out).mono ?_
  rintro e w' ⟨rfl, rfl⟩
  go_wp2_with fail
  refine (eErr0 _).mono ?_
  rintro e w3 ⟨rfl, hb⟩
  have HB3 : Hid (Below w.heap.size w w3) := Lib.hid (HB2.out.trans (hb.mono HB2.out.size))
  obtain ⟨hin, hgx⟩ := HH.out _ HB3.out
  have HN3 := Lib.hid hin; have HG3 := Lib.hid hgx
  have HBB3 : Hid (Below w2.heap.size w2 w3) := Lib.hid hb
  clear hin hgx hb
  go_wp2
  refine wp_loop_rounds 1 ?_
  rw [rounds_succ]
  go_wp2
  refine wp_loop_rounds 1 ?_
  rw [rounds_succ]
  go_wp2_with fail
  refine (shares_good a 0 c l _ HL.out HN3.out HC.out HK.out).mono ?_
  rintro e w4 ⟨hx, hb⟩
  have HB4 : Hid (Below w.heap.size w w4) := Lib.hid (HB3.out.trans (hb.mono HB3.out.size))
  obtain ⟨hin, hgx⟩ := HH.out _ HB4.out
  have HN4 := Lib.hid hin; have HG4 := Lib.hid hgx
  have HBB4 : Hid (Below w3.heap.size w3 w4) := Lib.hid hb
  obtain ⟨a1, c1, rfl, hs1⟩ := hx
  have HS1 := Lib.hid hs1
  clear hs1
  clear hin hgx hb
  go_wp2_with fail
  refine (eErr0 _).mono ?_
  rintro e w5 ⟨rfl, hb⟩
  have HB5 : Hid (Below w.heap.size w w5) := Lib.hid (HB4.out.trans (hb.mono HB4.out.size))
  obtain ⟨hin, hgx⟩ := HH.out _ HB5.out
  have HN5 := Lib.hid hin; have HG5 := Lib.hid hgx
  have HBB5 : Hid (Below w4.heap.size w4 w5) := Lib.hid hb
  clear hin hgx hb
  go_wp2_with fail
  refine (ints_same_keep a1 none 0 c1 0 0 0 [] _ rfl (fun h => absurd h (by simp)) (fun h => absurd h (by simp)) (by unfold maxLen; omega)).mono ?_
  rintro e w6 ⟨rfl, hkp⟩
  have HB6 : Hid (Below w.heap.size w w6) := Lib.hid (HB5.out.trans (hkp.below HB5.out.size (by simp)))
  obtain ⟨hin, hgx⟩ := HH.out _ HB6.out
  have HN6 := Lib.hid hin; have HG6 := Lib.hid hgx; have HBB6 : Hid (Below w5.heap.size w5 w6) := Lib.hid (hkp.below (Nat.le_refl _) (by simp))
  clear hin hgx hkp
  go_wp2_with fail
  refine (rRank_any a 0 c l key _ HL.out HN6.out HGD.out.2.1 HGD.out.2.2 (by omega) hk1 hk2).mono ?_
  rintro e w7 ⟨v5, done, rfl, ho5, hd5, hb⟩
  have HB7 : Hid (Below w.heap.size w w7) := Lib.hid (HB6.out.trans (hb.mono HB6.out.size))
  obtain ⟨hin, hgx⟩ := HH.out _ HB7.out
  have HN7 := Lib.hid hin; have HG7 := Lib.hid hgx
  have hdl : done.length = 0 := by have := hd5.1.length_eq; rw [List.append_nil] at this; rw [this]; exact HL.out
  obtain ⟨a5, c5, rfl, _, _⟩ := own_in ho5
  rw [hdl]
  have HO5 := Lib.hid ho5; have HD5 := Lib.hid hd5; have HDL := Lib.hid hdl
  clear hin hgx hb ho5 hd5 hdl
  go_wp2_with fail
  refine (cRank_good a 0 c l key done _ HL.out HN7.out HC.out (errK_in HK.out HI.out) HD5.out).mono ?_
  rintro e w8 ⟨hx, hb⟩
  have HB8 : Hid (Below w.heap.size w w8) := Lib.hid (HB7.out.trans (hb.mono HB7.out.size))
  obtain ⟨hin, hgx⟩ := HH.out _ HB8.out
  have HN8 := Lib.hid hin; have HG8 := Lib.hid hgx
  have HBB8 : Hid (Below w7.heap.size w7 w8) := Lib.hid hb
  obtain ⟨a6, c6, rfl, hs6⟩ := hx
  have HS6 := Lib.hid hs6
  clear hs6
  clear hin hgx hb
  have HO6 := Lib.hid (HO5.out.bel HBB8.out)
  go_wp2_with fail
  refine (eErr0 _).mono ?_
  rintro e w9 ⟨rfl, hb⟩
  have HB9 : Hid (Below w.heap.size w w9) := Lib.hid (HB8.out.trans (hb.mono HB8.out.size))
  obtain ⟨hin, hgx⟩ := HH.out _ HB9.out
  have HN9 := Lib.hid hin; have HG9 := Lib.hid hgx
  have HBB9 : Hid (Below w8.heap.size w8 w9) := Lib.hid hb
  clear hin hgx hb
  have HSI6 : Hid (IntsIn w9 w9.heap.size a6 done) := Lib.hid ((HS6.out.below HBB9.out).more HBB9.out.size)
  have HSO6 : Hid (IntsIn w9 w9.heap.size a5 done) := Lib.hid (by
    obtain ⟨aq, cq, eq, hiq, _⟩ := own_in (HO6.out.bel HBB9.out)
    simp only [Value.slice.injEq] at eq
    rw [eq.1]; exact hiq)
  go_wp2_with fail
  refine (ints_same_keep a6 a5 0 c6 c5 _ _ done _ HDL.out HSI6.out HSO6.out (by unfold maxLen; omega)).mono ?_
  rintro e w10 ⟨rfl, hkp⟩
  have HB10 : Hid (Below w.heap.size w w10) := Lib.hid (HB9.out.trans (hkp.below HB9.out.size (by simp)))
  obtain ⟨hin, hgx⟩ := HH.out _ HB10.out
  have HN10 := Lib.hid hin; have HG10 := Lib.hid hgx; have HBB10 : Hid (Below w9.heap.size w9 w10) := Lib.hid (hkp.below (Nat.le_refl _) (by simp))
  clear hin hgx hkp
  have HO9 : Hid (errO l key = 5) := Lib.hid (by unfold errO; rw [if_pos ⟨errK_in HK.out HI.out, List.length_eq_zero_iff.1 HL.out⟩])
  go_wp2_with fail
  refine (cOwner_bad a 0 c l key 5 _ HL.out HN10.out HC.out HO9.out (by decide)).mono ?_
  rintro e w11 ⟨rfl, hb⟩
  have HB11 : Hid (Below w.heap.size w w11) := Lib.hid (HB10.out.trans (hb.mono HB10.out.size))
  obtain ⟨hin, hgx⟩ := HH.out _ HB11.out
  have HN11 := Lib.hid hin; have HG11 := Lib.hid hgx
  have HBB11 : Hid (Below w10.heap.size w10 w11) := Lib.hid hb
  clear hin hgx hb
  go_wp2_with fail
  refine (eErrK 5 _ HG11.out).mono ?_
  rintro e w12 ⟨rfl, hb⟩
  have HB12 : Hid (Below w.heap.size w w12) := Lib.hid (HB11.out.trans (hb.mono HB11.out.size))
  obtain ⟨hin, hgx⟩ := HH.out _ HB12.out
  have HN12 := Lib.hid hin; have HG12 := Lib.hid hgx
  have HBB12 : Hid (Below w11.heap.size w11 w12) := Lib.hid hb
  clear hin hgx hb
  go_wp2
  go_ret
  exact ⟨by simp, HB12.out⟩

set_option maxHeartbeats 8000000 in
set_option maxRecDepth 100000 in
theorem says_D (a : Option Addr) (c : Nat) (l : List Int) (key : Int) (w : World) (hk : errL l = 0) (hi : (0 ≤ key ∧ key ≤ 1000000)) (n : Nat) (hl : l.length = n) (hn0 : 0 < n) (h : IntsIn w w.heap.size a l) (hc : n ≤ c) (hg : Handle w) (hnm : l.length ≤ 100000000000000) :
    Calls Tryd.prog 5 #[.slice a n c, .int .i64 key] w fun e w' => e = .returned (.bool true) ∧ Below w.heap.size w w' := by
  have hnb : (n : Int) ≤ 100000000000000 := by omega
  have HL := Lib.hid hl; have HK := Lib.hid hk; have HC := Lib.hid hc; have HI := Lib.hid hi
  have HH : Hid (∀ w', Below w.heap.size w w' → IntsIn w' w'.heap.size a l ∧ Handle w') := Lib.hid fun w' hb => ⟨(h.below hb).more hb.size, hg.below hb hg.lt⟩
  have HW0 := Lib.hid hg.lt
  have HGD := Lib.hid ((errL_good l).1 hk)
  have hn12 : n ≤ 12 := by have := HGD.out.1; omega
  have hn12i : (n : Int) ≤ 12 := by omega
  have hn0i : (0 : Int) < (n : Int) := by omega
  have hn0d : ¬ (n : Int) = 0 := by omega
  have hpb := plc_bd key
  obtain ⟨p, hp⟩ : ∃ p, plc key = p := ⟨_, rfl⟩
  rw [hp] at hpb
  have HP := Lib.hid hp
  obtain ⟨hpb0, hpb1⟩ := hpb
  obtain ⟨hk1, hk2⟩ := hi
  clear hp
  have hne : l ≠ [] := fun hh => by rw [hh] at hl; simp at hl; omega
  have HNE := Lib.hid hne
  clear hne
  have HSM : Hid (l.length ≤ 100000000000000) := Lib.hid hnm
  clear hl hk hc h hg hnm
  obtain ⟨i0, hii, hz0, hz1, hz2⟩ := info_parts info_int
  go_enter Tryd.func5, Tryd.ntmps5
  obtain ⟨hin, hgx⟩ := HH.out _ (Below.refl _ w)
  have HN := Lib.hid hin; have HG := Lib.hid hgx
  clear hin hgx
  go_wp2_with fail
  refine (rNodes_is a n c _ l 0 _ HL.out HN.out HC.out HK.out).mono ?_
  rintro e w1 ⟨rfl, hb⟩
  have HB1 : Hid (Below w.heap.size w w1) := Lib.hid hb
  obtain ⟨hin, hgx⟩ := HH.out _ HB1.out
  have HN1 := Lib.hid hin; have HG1 := Lib.hid hgx
  have HBB1 : Hid (Below w.heap.size w w1) := Lib.hid hb
  clear hin hgx hb
  go_wp2_with fail
  refine (check_good a n c _ l _ HL.out HN1.out HC.out HK.out).mono ?_
  rintro e w' ⟨rfl, rfl⟩
  go_wp2_with fail
  refine (eErr0 _).mono ?_
  rintro e w2 ⟨rfl, hb⟩
  have HB2 : Hid (Below w.heap.size w w2) := Lib.hid (HB1.out.trans (hb.mono HB1.out.size))
  obtain ⟨hin, hgx⟩ := HH.out _ HB2.out
  have HN2 := Lib.hid hin; have HG2 := Lib.hid hgx
  have HBB2 : Hid (Below w1.heap.size w1 w2) := Lib.hid hb
  clear hin hgx hb
  go_wp2_with fail
  refine (in_yes _ _ _ _ hk1 hk2).mono ?_
  rintro e w' ⟨rfl, rfl⟩
  go_wp2_with fail
  refine (rSpot_is key p _ HP.out hk1 hk2).mono ?_
  rintro e w' ⟨rfl, rfl⟩
  go_wp2_with fail
  refine (cPlace_in key p _ HI.out HP.out).mono ?_
  rintro e w' ⟨rfl, rfl⟩
  go_wp2_with fail
  refine (eErr0 _).mono ?_
  rintro e w3 ⟨rfl, hb⟩
  have HB3 : Hid (Below w.heap.size w w3) := Lib.hid (HB2.out.trans (hb.mono HB2.out.size))
  obtain ⟨hin, hgx⟩ := HH.out _ HB3.out
  have HN3 := Lib.hid hin; have HG3 := Lib.hid hgx
  have HBB3 : Hid (Below w2.heap.size w2 w3) := Lib.hid hb
  clear hin hgx hb
  go_wp2
  go_loopw [11, 14] (fun sh i wr => SaysL1 w n sh i wr) (fun _ i _ => n - (intOf i).toNat)
  case atStart => exact ⟨0, by omega, rfl, OwnInts.nil _ _, HB3.out⟩
  case round =>
    obtain ⟨j, hj, rfl, hown, hbel⟩ := hrel
    have HO := Lib.hid hown; have HBL := Lib.hid hbel; have hszl := hbel.size; clear hown hbel
    by_cases hlt : j < n
    · have hji : (j : Int) < (n : Int) := by omega
      have hj0 : (0 : Int) ≤ (j : Int) := by omega
      go_wp2_with (at_builtin; refine wpList_append_own _ rfl _ _ 22 rfl w.heap.size 3 i0 (.int .i64 0) 1 8 Tryd.underlying22 hii hz0 hz1 hz2 rfl (by decide) _ _ _ rfl (HO.out.alloc _) ⟨wr.heap.size, 0, none⟩ 1 1 [.int .i64 0] rfl rfl (by intro p u hp; match p, hp with | 0, hp => simp at hp; subst hp; simp [Addr.add]) (by intro u hu; simp at hu; subst hu; rfl) (by unfold maxLen; simp; omega) (by simp; omega) (by simp; omega) ?_; intro v' w9 hown' hgrow _; have HO2 : Hid (OwnInts w9 w.heap.size v' (List.replicate (j + 1) 0)) := Lib.hid (by rw [List.replicate_succ']; unfold OwnInts; simpa [ints] using hown'); have HB9 : Hid (Below w.heap.size w w9) := Lib.hid ((HBL.out.alloc hszl _).grown hgrow (by simp; omega) (fun x hx => (HO.out.lt x hx).1)); clear hown' hgrow)
      go_roundw
      case rel => exact ⟨j + 1, hlt, by simp, HO2.out, HB9.out⟩
      case measure => simp [intOf]; omega
    · obtain rfl : j = n := by omega
      have hsh0 := HO.out
      rw [show List.replicate j (0 : Int) = shares l 0 by rw [shares_zero, HL.out]] at hsh0
      obtain ⟨ash, csh, hshe, _, _⟩ := own_in hsh0
      subst hshe
      rw [shares_len, HL.out] at hsh0 ⊢
      have HS0 := Lib.hid hsh0
      clear hsh0
      obtain ⟨wq, rfl⟩ : ∃ wq : World, wq = wr := ⟨_, rfl⟩
      go_wp2
      go_loopw [15] (fun i wr => SaysL2 w l (.slice ash j csh) i wr) (fun i _ => 1000 - (intOf i).toNat)
      case atStart => exact ⟨0, by omega, rfl, HS0.out, HBL.out⟩
      case round =>
        obtain ⟨q, hq, rfl, hown, hbel⟩ := hrel
        have HO2 := Lib.hid hown; have HBL2 := Lib.hid hbel; have hsz2 := hbel.size; clear hown hbel
        by_cases hlt2 : q < 1000
        · have hqi : (q : Int) < 1000 := by omega
          have hq0 : (0 : Int) ≤ (q : Int) := by omega
          obtain ⟨i, hil, hidx, hli⟩ := idx_own (ownO_mem (q : Int) HNE.out)
          have hcb := cnt_bd l q l[i]
          have hsu := shares_succ HGD.out.2.2 hil hli
          have hil2 : i < (shares l q).length := by rw [shares_len]; exact hil
          obtain ⟨g, cap, hshe, hgb, hgl, hcell, hfree, hset⟩ := HO2.out.setAt hil2
          rw [shares_len, HL.out] at hshe
          obtain ⟨rfl, rfl⟩ : ash = some ⟨g, 0, none⟩ ∧ csh = cap := by simp only [Value.slice.injEq] at hshe; exact ⟨hshe.1, hshe.2.2⟩
          have hcv : (shares l q)[i] = cnt l q l[i] := by simp [shares]
          rw [hcv] at hcell
          obtain ⟨cv, hcve⟩ : ∃ cv, cv = cnt l q l[i] := ⟨_, rfl⟩
          rw [← hcve] at hcell hcb hsu
          obtain ⟨ov, hov⟩ : ∃ ov, ownO (q : Int) l = ov := ⟨_, rfl⟩
          have hovm : ov ∈ l := by rw [← hov]; exact ownO_mem (q : Int) HNE.out
          rw [hov] at hidx
          have HOV := Lib.hid hov; have HIX := Lib.hid hidx; have HOM := Lib.hid hovm; have HSU := Lib.hid hsu; have HSET := Lib.hid hset
          obtain ⟨hcb0, hcb1⟩ := hcb
          have hin : (i : Int) < (j : Int) := by have := HL.out; omega
          have hi0 : (0 : Int) ≤ (i : Int) := by omega
          have HNI : Hid (IntsIn wr wr.heap.size a l) := Lib.hid (HH.out _ HBL2.out).1
          clear hil hli hil2 hshe hcv hcve hov hovm hidx hsu hset
          go_wp2_with fail
          refine (rOwner_is a j c _ l q ov _ HOV.out HL.out HNI.out HGD.out.2.1 (by omega) (by omega) (by omega) (by omega)).mono ?_
          rintro e w' ⟨rfl, rfl⟩
          go_wp2_with fail
          refine (rPlace_at a j c _ l ov i _ HL.out HNI.out (by omega) HOM.out HIX.out).mono ?_
          rintro e w' ⟨rfl, rfl⟩
          go_wp2
          go_roundw
          case rel =>
            refine ⟨q + 1, hlt2, by simp, ?_, HBL2.out.setCell (p := ⟨g, i, none⟩) hgb _⟩
            rw [← HSU.out]
            exact HSET.out (cv + 1)
          case measure => simp [intOf]; omega
        · obtain rfl : q = 1000 := by omega
          have HBL3 := HBL2
          have HOS := HO2
          obtain ⟨w40, hw40⟩ : ∃ w40, w40 = wr := ⟨_, rfl⟩
          rw [← hw40] at HBL3 HOS ⊢
          have HB40 := HBL3
          obtain ⟨hin, hgx⟩ := HH.out _ HB40.out
          have HN40 := Lib.hid hin; have HG40 := Lib.hid hgx
          clear hin hgx hw40
          go_wp2_with fail
          refine (shares_good a j c l _ HL.out HN40.out HC.out HK.out).mono ?_
          rintro e w41 ⟨hx, hb⟩
          have HB41 : Hid (Below w.heap.size w w41) := Lib.hid (HB40.out.trans (hb.mono HB40.out.size))
          obtain ⟨hin, hgx⟩ := HH.out _ HB41.out
          have HN41 := Lib.hid hin; have HG41 := Lib.hid hgx
          have HBB41 : Hid (Below w40.heap.size w40 w41) := Lib.hid hb
          obtain ⟨a1, c1, rfl, hs1⟩ := hx
          have HS1 := Lib.hid hs1
          clear hs1
          clear hin hgx hb
          have HOS1 := Lib.hid (HOS.out.bel HBB41.out)
          go_wp2_with fail
          refine (eErr0 _).mono ?_
          rintro e w42 ⟨rfl, hb⟩
          have HB42 : Hid (Below w.heap.size w w42) := Lib.hid (HB41.out.trans (hb.mono HB41.out.size))
          obtain ⟨hin, hgx⟩ := HH.out _ HB42.out
          have HN42 := Lib.hid hin; have HG42 := Lib.hid hgx
          have HBB42 : Hid (Below w41.heap.size w41 w42) := Lib.hid hb
          clear hin hgx hb
          have HSI : Hid (IntsIn w42 w42.heap.size a1 (shares l 1000)) := Lib.hid ((HS1.out.below HBB42.out).more HBB42.out.size)
          have HSO : Hid (IntsIn w42 w42.heap.size ash (shares l 1000)) := Lib.hid (by
            obtain ⟨aq, cq, eq, hiq, _⟩ := own_in (HOS1.out.bel HBB42.out)
            simp only [Value.slice.injEq] at eq
            rw [eq.1]; exact hiq)
          go_wp2_with fail
          refine (ints_same_keep a1 ash j c1 csh _ _ (shares l 1000) _ (by rw [shares_len]; exact HL.out) HSI.out HSO.out (by unfold maxLen; omega)).mono ?_
          rintro e w43 ⟨rfl, hkp⟩
          have HB43 : Hid (Below w.heap.size w w43) := Lib.hid (HB42.out.trans (hkp.below HB42.out.size (by simp)))
          obtain ⟨hin, hgx⟩ := HH.out _ HB43.out
          have HN43 := Lib.hid hin; have HG43 := Lib.hid hgx; have HBB43 : Hid (Below w42.heap.size w42 w43) := Lib.hid (hkp.below (Nat.le_refl _) (by simp))
          clear hin hgx hkp
          go_wp2_with fail
          refine (rRank_any a j c l key _ HL.out HN43.out HGD.out.2.1 HGD.out.2.2 (by omega) hk1 hk2).mono ?_
          rintro e w44 ⟨v5, done, rfl, ho5, hd5, hb⟩
          have HB44 : Hid (Below w.heap.size w w44) := Lib.hid (HB43.out.trans (hb.mono HB43.out.size))
          obtain ⟨hin, hgx⟩ := HH.out _ HB44.out
          have HN44 := Lib.hid hin; have HG44 := Lib.hid hgx
          have hdl : done.length = j := by have := hd5.1.length_eq; rw [List.append_nil] at this; rw [this]; exact HL.out
          obtain ⟨a5, c5, rfl, _, _⟩ := own_in ho5
          rw [hdl]
          have HO5 := Lib.hid ho5; have HD5 := Lib.hid hd5; have HDL := Lib.hid hdl
          clear hin hgx hb ho5 hd5 hdl
          go_wp2_with fail
          refine (cRank_good a j c l key done _ HL.out HN44.out HC.out (errK_in HK.out HI.out) HD5.out).mono ?_
          rintro e w45 ⟨hx, hb⟩
          have HB45 : Hid (Below w.heap.size w w45) := Lib.hid (HB44.out.trans (hb.mono HB44.out.size))
          obtain ⟨hin, hgx⟩ := HH.out _ HB45.out
          have HN45 := Lib.hid hin; have HG45 := Lib.hid hgx
          have HBB45 : Hid (Below w44.heap.size w44 w45) := Lib.hid hb
          obtain ⟨a6, c6, rfl, hs6⟩ := hx
          have HS6 := Lib.hid hs6
          clear hs6
          clear hin hgx hb
          have HO6 := Lib.hid (HO5.out.bel HBB45.out)
          go_wp2_with fail
          refine (eErr0 _).mono ?_
          rintro e w46 ⟨rfl, hb⟩
          have HB46 : Hid (Below w.heap.size w w46) := Lib.hid (HB45.out.trans (hb.mono HB45.out.size))
          obtain ⟨hin, hgx⟩ := HH.out _ HB46.out
          have HN46 := Lib.hid hin; have HG46 := Lib.hid hgx
          have HBB46 : Hid (Below w45.heap.size w45 w46) := Lib.hid hb
          clear hin hgx hb
          have HSI6 : Hid (IntsIn w46 w46.heap.size a6 done) := Lib.hid ((HS6.out.below HBB46.out).more HBB46.out.size)
          have HSO6 : Hid (IntsIn w46 w46.heap.size a5 done) := Lib.hid (by
            obtain ⟨aq, cq, eq, hiq, _⟩ := own_in (HO6.out.bel HBB46.out)
            simp only [Value.slice.injEq] at eq
            rw [eq.1]; exact hiq)
          go_wp2_with fail
          refine (ints_same_keep a6 a5 j c6 c5 _ _ done _ HDL.out HSI6.out HSO6.out (by unfold maxLen; omega)).mono ?_
          rintro e w47 ⟨rfl, hkp⟩
          have HB47 : Hid (Below w.heap.size w w47) := Lib.hid (HB46.out.trans (hkp.below HB46.out.size (by simp)))
          obtain ⟨hin, hgx⟩ := HH.out _ HB47.out
          have HN47 := Lib.hid hin; have HG47 := Lib.hid hgx; have HBB47 : Hid (Below w46.heap.size w46 w47) := Lib.hid (hkp.below (Nat.le_refl _) (by simp))
          clear hin hgx hkp
          obtain ⟨ov, hov⟩ : ∃ ov, ownO p l = ov := ⟨_, rfl⟩
          have HOV := Lib.hid hov
          clear hov
          have HO9 : Hid (errO l key = 0) := Lib.hid (by unfold errO; rw [if_neg (fun hh => HNE.out hh.2)]; exact errK_in HK.out HI.out)
          go_wp2_with fail
          refine (rOwner_is a j c _ l p ov _ HOV.out HL.out HN47.out HGD.out.2.1 (by omega) (by omega) hpb0 hpb1).mono ?_
          rintro e w' ⟨rfl, rfl⟩
          go_wp2_with fail
          refine (cOwner_good a j c l key p ov _ HL.out HN47.out HC.out HO9.out HP.out HOV.out).mono ?_
          rintro e w48 ⟨rfl, hb⟩
          have HB48 : Hid (Below w.heap.size w w48) := Lib.hid (HB47.out.trans (hb.mono HB47.out.size))
          obtain ⟨hin, hgx⟩ := HH.out _ HB48.out
          have HN48 := Lib.hid hin; have HG48 := Lib.hid hgx
          have HBB48 : Hid (Below w47.heap.size w47 w48) := Lib.hid hb
          clear hin hgx hb
          go_wp2_with fail
          refine (eErr0 _).mono ?_
          rintro e w49 ⟨rfl, hb⟩
          have HB49 : Hid (Below w.heap.size w w49) := Lib.hid (HB48.out.trans (hb.mono HB48.out.size))
          obtain ⟨hin, hgx⟩ := HH.out _ HB49.out
          have HN49 := Lib.hid hin; have HG49 := Lib.hid hgx
          have HBB49 : Hid (Below w48.heap.size w48 w49) := Lib.hid hb
          clear hin hgx hb
          go_wp2
          go_ret
          exact ⟨by simp, HB49.out⟩

theorem circleSays_walk (a0 : Option Addr) (c0 : Nat) (l0 : List Int) (x1 : Int) (w : World) (h0 : IntsIn w w.heap.size a0 l0) (_ : ∀ y ∈ l0, I64 y) (m0 : Reached l0) (z0 : (a0 = none → c0 = 0) ∧ l0.length ≤ c0) (_ : I64 x1) (hg : Handle w) :
    Calls Tryd.prog 5 #[.slice a0 l0.length c0, .int .i64 x1] w fun e w' => e = .returned (.bool true) ∧ Below w.heap.size w w' := by
  have hm : l0.length ≤ 100000000000000 := by unfold Reached reachBytes at m0; omega
  by_cases hk : errL l0 = 0
  · have hg12 := ((errL_good l0).1 hk).1
    by_cases hn : l0.length = 0
    · rw [hn]
      by_cases hi : 0 ≤ x1 ∧ x1 ≤ 1000000
      · exact says_C a0 c0 l0 x1 w hk hi hn h0 (by omega) hg (by omega)
      · exact says_B0 a0 c0 l0 x1 w hk hi hn h0 (by omega) hg (by omega)
    · by_cases hi : 0 ≤ x1 ∧ x1 ≤ 1000000
      · exact says_D a0 c0 l0 x1 w hk hi l0.length rfl (by omega) h0 z0.2 hg (by omega)
      · exact says_B1 a0 c0 l0 x1 w hk hi l0.length rfl (by omega) h0 z0.2 hg (by omega)
  · have hn : 0 < l0.length := by
      rcases Nat.eq_zero_or_pos l0.length with h | h
      · exact absurd (by rw [List.length_eq_zero_iff.1 h]; rfl) hk
      · exact h
    by_cases hi : 0 ≤ x1 ∧ x1 ≤ 1000000
    · exact says_Ai a0 c0 l0 x1 w _ rfl hk hi l0.length rfl hn h0 z0.2 hg hm
    · exact says_Ao a0 c0 l0 x1 w _ rfl hk hi l0.length rfl hn h0 z0.2 hg hm
end Go.Proofs.YthldhbcidcmmaaaDoor
