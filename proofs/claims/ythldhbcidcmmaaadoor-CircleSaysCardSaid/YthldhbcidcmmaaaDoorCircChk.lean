/-
  circle.Check, Place, Owner, Shares, Rank with what is wrong told outright; the reference's Nodes: by their contracts.
-/
import Derived.Test.YthldhbcidcmmaaaDoorCircRefLaw
import Derived.Test.YthldhbcidcmmaaaDoorTold2
import Derived.Test.YthldhbcidcmmaaaDoorRef1
import Derived.Test.YthldhbcidcmmaaaDoorRef3In
namespace Go.Proofs.YthldhbcidcmmaaaDoor
open Go.RowKit

/-- An error, or none. -/
def errw (k : Int) : Value := if k = 0 then .nilIface else errv k
theorem errw_zero : errw 0 = .nilIface := rfl
theorem errw_of {k : Int} (h : k ≠ 0) : errw k = errv k := if_neg h
theorem eError_w (k j : Int) (w : World) (hg : Handle w) : Calls Tryd.prog 11 #[errw k, .int .i64 j] w (ErrorPost w (k == j)) := by
  by_cases h : k = 0
  · subst h; rw [errw_zero]; exact eError_nil j w
  · rw [errw_of h]; exact eError_some k j w hg

theorem rHas_is (a : Option Addr) (n c B : Nat) (l : List Int) (x : Int) (d : Bool) (w : World) (hl : l.length = n) (h : IntsIn w B a l) (hn : n ≤ 100000000000) (hd : decide (x ∈ l) = d) :
    Calls Tryd.prog 14 #[.slice a n c, .int .i64 x] w fun e w' => e = .returned (.bool d) ∧ w = w' := by
  subst hd; exact rHas a n c B l x w hl h hn
def ChkRel (l : List Int) (i : Value) : Prop := ∃ k : Nat, k ≤ l.length ∧ i = .int .i64 k ∧ errN (l.take k) (l.drop k) = errN [] l
def ChkPost (l : List Int) (w : World) (e : Ending) (w' : World) : Prop := e = .returned (errw (errL l)) ∧ w = w'

set_option maxHeartbeats 1000000 in
set_option maxRecDepth 100000 in
theorem check_ex (a : Option Addr) (n c B : Nat) (l : List Int) (w : World) (hl : l.length = n) (h : IntsIn w B a l) (hc : n ≤ c) :
    Calls Tryd.prog 22 #[.slice a n c] w (ChkPost l w) := by
  have HL := Lib.hid hl; have H := Lib.hid h; clear hl h
  by_cases hn : n ≤ 12
  · have hn2 : ¬ (12 : Int) < (n : Int) := by omega
    have hn3 : (n : Int) ≤ 12 := by omega
    have HC := Lib.hid hc; clear hc
    have HE : Hid (errL l = errN [] l) := Lib.hid (by unfold errL; rw [if_pos (by rw [HL.out]; exact hn)])
    go_enter Tryd.func22, Tryd.ntmps22
    go_wp2
    go_loop [3, 4, 11] (fun _ _ i => ChkRel l i) (fun _ _ i => n - (intOf i).toNat)
    case atStart => exact ⟨0, by omega, rfl, by simp⟩
    case round =>
      obtain ⟨k, hk, rfl, hin⟩ := hrel
      have HIN := Lib.hid hin; clear hin
      have hkn : k ≤ n := by have := HL.out; omega
      by_cases hlt : k < n
      · have hkl : k < l.length := by rw [HL.out]; exact hlt
        have HT := Lib.hid (H.out.take k (Nat.le_of_lt hkl))
        obtain ⟨b, off, rfl, hb, hcx⟩ := H.out.at_ hkl
        have HAT := Lib.hid (errN_at hkl)
        obtain ⟨x, hx⟩ : ∃ x, x = l[k] := ⟨_, rfl⟩
        rw [← hx] at hcx HAT
        clear hx
        have hki : (k : Int) < (n : Int) := by omega
        have hk0 : (0 : Int) ≤ (k : Int) := by omega
        have hkc : (k : Int) ≤ (c : Int) := by have := HC.out; omega
        by_cases e : 0 ≤ x ∧ x ≤ 1000000
        · have hlt12 : k ≤ 12 := by omega
          by_cases hm : x ∈ l.take k
          · have hd : decide (x ∈ l.take k) = true := by simpa using hm
            have HD := Lib.hid hd
            have HBAD : Hid (errL l = 6) := Lib.hid (by rw [HE.out, ← HIN.out, HAT.out, if_pos e, if_pos hm])
            clear hd hm
            go_wp2_with fail
            refine (within_yes _ _ _ _ e.1 e.2).mono ?_
            rintro e' w' ⟨rfl, rfl⟩
            go_wp2_with fail
            refine (contains_any _ k c B (l.take k) x _ (by rw [List.length_take]; omega) HT.out (by omega)).mono ?_
            rintro e' w' ⟨rfl, rfl⟩
            rw [HD.out]
            go_wp2
            go_ret
            exact ⟨by rw [HBAD.out]; rfl, rfl⟩
          · have hd : decide (x ∈ l.take k) = false := by simpa using hm
            have HD := Lib.hid hd
            have HN2 : Hid (errN (l.take (k + 1)) (l.drop (k + 1)) = errN [] l) := Lib.hid (by rw [← HIN.out, HAT.out, if_pos e, if_neg hm])
            clear hd hm
            go_wp2_with fail
            refine (within_yes _ _ _ _ e.1 e.2).mono ?_
            rintro e' w' ⟨rfl, rfl⟩
            go_wp2_with fail
            refine (contains_any _ k c B (l.take k) x _ (by rw [List.length_take]; omega) HT.out (by omega)).mono ?_
            rintro e' w' ⟨rfl, rfl⟩
            rw [HD.out]
            go_wp2
            go_round
            case rel => exact ⟨k + 1, hkl, by simp, HN2.out⟩
            case measure => simp [intOf]; omega
        · have hx2 : x < 0 ∨ 1000000 < x := by omega
          have HBAD : Hid (errL l = 1) := Lib.hid (by rw [HE.out, ← HIN.out, HAT.out, if_neg e])
          have HX2 := Lib.hid hx2
          clear e hx2
          go_wp2_with fail
          refine (within_no _ _ _ _ HX2.out).mono ?_
          rintro e' w' ⟨rfl, rfl⟩
          go_wp2
          go_ret
          exact ⟨by rw [HBAD.out]; rfl, rfl⟩
      · obtain rfl : k = n := by omega
        have e : l.drop k = [] := List.drop_of_length_le (by rw [HL.out]; exact Nat.le_refl _)
        have HG : Hid (errL l = 0) := Lib.hid (by rw [HE.out, ← HIN.out, e]; rfl)
        clear e
        go_wp2
        go_ret
        exact ⟨by rw [HG.out]; rfl, rfl⟩
  · have hn2 : (12 : Int) < (n : Int) := by omega
    have HBAD : Hid (errL l = 4) := Lib.hid (by unfold errL; rw [if_neg (by rw [HL.out]; exact hn)])
    go_enter Tryd.func22, Tryd.ntmps22
    go_wp2
    go_ret
    exact ⟨by rw [HBAD.out]; rfl, rfl⟩

theorem check_bad (a : Option Addr) (n c B : Nat) (l : List Int) (k : Int) (w : World) (hl : l.length = n) (h : IntsIn w B a l) (hc : n ≤ c) (hk : errL l = k) (h0 : k ≠ 0) :
    Calls Tryd.prog 22 #[.slice a n c] w fun e w' => e = .returned (errv k) ∧ w = w' := by
  subst hk
  refine (check_ex a n c B l w hl h hc).mono ?_
  rintro e w' ⟨rfl, rfl⟩
  exact ⟨by rw [errw_of h0], rfl⟩
theorem check_good (a : Option Addr) (n c B : Nat) (l : List Int) (w : World) (hl : l.length = n) (h : IntsIn w B a l) (hc : n ≤ c) (hk : errL l = 0) :
    Calls Tryd.prog 22 #[.slice a n c] w fun e w' => e = .returned .nilIface ∧ w = w' := by
  refine (check_ex a n c B l w hl h hc).mono ?_
  rintro e w' ⟨rfl, rfl⟩
  exact ⟨by rw [hk]; rfl, rfl⟩

/-- What is wrong with nodes and a key, and with them where one is asked for. -/
def errK (l : List Int) (key : Int) : Int := if errL l ≠ 0 then errL l else if 0 ≤ key ∧ key ≤ 1000000 then 0 else 1
def errO (l : List Int) (key : Int) : Int := if errK l key = 0 ∧ l = [] then 5 else errK l key

def OwnerEx (l : List Int) (key : Int) (w : World) (e : Ending) (w' : World) : Prop := e = .returned (.tuple #[.int .i64 (if errO l key = 0 then ownO (plc key) l else 0), errw (errO l key)]) ∧ Below w.heap.size w w'
set_option maxHeartbeats 1000000 in
theorem cOwner_ex (a : Option Addr) (n c : Nat) (l : List Int) (key : Int) (w : World) (hl : l.length = n) (h : IntsIn w w.heap.size a l) (hc : n ≤ c) :
    Calls Tryd.prog 31 #[.slice a n c, .int .i64 key] w (OwnerEx l key w) := by
  by_cases h0 : errL l = 0
  · by_cases hk : 0 ≤ key ∧ key ≤ 1000000
    · by_cases hn : l = []
      · have ho : errO l key = 5 := by unfold errO errK; rw [if_pos ⟨by rw [if_neg (by omega), if_pos hk], hn⟩]
        subst hn
        have hn0 : n = 0 := by simpa using hl.symm
        subst hn0
        have HO := Lib.hid ho; have HE := Lib.hid h0; have H := Lib.hid h
        obtain ⟨hk0, hk1⟩ := hk
        clear ho h0 h hl
        go_enter Tryd.func31, Tryd.ntmps31
        go_wp2_with fail
        refine (check_good a 0 c _ [] _ rfl H.out hc HE.out).mono ?_
        rintro e w' ⟨rfl, rfl⟩
        go_wp2_with fail
        refine (within_yes _ _ _ _ hk0 hk1).mono ?_
        rintro e' w' ⟨rfl, rfl⟩
        go_wp2
        go_ret2
        exact ⟨by rw [HO.out]; rfl, Below.refl _ _⟩
      · have ho : errO l key = 0 := by
          have : errK l key = 0 := by unfold errK; rw [if_neg (by omega), if_pos hk]
          unfold errO; rw [if_neg (fun hh => hn hh.2), this]
        refine (cOwner_any a n c l key w hl h hc).mono ?_
        rintro e w' ⟨hb, ⟨_, _, _, _, rfl⟩ | ⟨hno, _⟩⟩
        · exact ⟨by rw [ho]; rfl, hb⟩
        · exact absurd ⟨(errL_good l).1 h0, hk.1, hk.2, hn⟩ hno
    · have ho : errO l key = 1 := by
        have : errK l key = 1 := by unfold errK; rw [if_neg (by omega), if_neg hk]
        unfold errO; rw [this, if_neg (by omega)]
      have hk2 : key < 0 ∨ 1000000 < key := by omega
      have HO := Lib.hid ho; have HE := Lib.hid h0; have H := Lib.hid h; have HL := Lib.hid hl; have HK := Lib.hid hk2
      clear ho h0 h hl hk hk2
      go_enter Tryd.func31, Tryd.ntmps31
      go_wp2_with fail
      refine (check_good a n c _ l _ HL.out H.out hc HE.out).mono ?_
      rintro e w' ⟨rfl, rfl⟩
      go_wp2_with fail
      refine (within_no _ _ _ _ HK.out).mono ?_
      rintro e' w' ⟨rfl, rfl⟩
      go_wp2
      go_ret2
      exact ⟨by rw [HO.out]; rfl, Below.refl _ _⟩
  · obtain ⟨k, hk⟩ : ∃ k, errL l = k := ⟨_, rfl⟩
    rw [hk] at h0
    have ho : errO l key = k := by
      have : errK l key = k := by unfold errK; rw [hk, if_pos h0]
      unfold errO; rw [this, if_neg (fun hh => h0 hh.1)]
    have HO := Lib.hid ho; have HE := Lib.hid hk; have H := Lib.hid h; have HL := Lib.hid hl; have H0 := Lib.hid h0
    clear ho h0 h hl hk
    go_enter Tryd.func31, Tryd.ntmps31
    go_wp2_with fail
    refine (check_bad a n c _ l k _ HL.out H.out hc HE.out H0.out).mono ?_
    rintro e w' ⟨rfl, rfl⟩
    go_wp2
    go_ret2
    exact ⟨by rw [HO.out, if_neg H0.out, errw_of H0.out]; rfl, Below.refl _ _⟩

def SharesEx (w : World) (l : List Int) (e : Ending) (w' : World) : Prop :=
  Below w.heap.size w w' ∧ ∃ a c, e = .returned (.tuple #[.slice a (if errL l = 0 then l else []).length c, errw (errL l)]) ∧ IntsIn w' w'.heap.size a (if errL l = 0 then shares l 1000 else [])
set_option maxHeartbeats 1000000 in
theorem shares_ex (a : Option Addr) (n c : Nat) (l : List Int) (w : World) (hl : l.length = n) (h : IntsIn w w.heap.size a l) (hc : n ≤ c) :
    Calls Tryd.prog 28 #[.slice a n c] w (SharesEx w l) := by
  by_cases h0 : errL l = 0
  · refine (shares_any a n c l w hl h hc).mono ?_
    rintro e w' ⟨hb, ⟨_, rfl, hblk⟩ | ⟨hno, _⟩⟩
    · refine ⟨hb, some ⟨w.heap.size, 0, none⟩, l.length, by rw [if_pos h0, h0]; rfl, fun hp => ?_⟩
      rw [if_pos h0] at hp ⊢
      rw [shares_len] at hp
      have hne : l ≠ [] := fun e => by rw [e] at hp; simp at hp
      rw [if_neg hne] at hblk
      exact ⟨w.heap.size, 0, rfl, hblk.lt, fun i x hx => by rw [Nat.zero_add]; exact hblk.cell_ (ints_get hx)⟩
    · exact absurd ((errL_good l).1 h0) hno
  · obtain ⟨k, hk⟩ : ∃ k, errL l = k := ⟨_, rfl⟩
    rw [hk] at h0
    have HE := Lib.hid hk; have H := Lib.hid h; have HL := Lib.hid hl; have H0 := Lib.hid h0
    clear h0 h hl hk
    go_enter Tryd.func28, Tryd.ntmps28
    go_wp2_with fail
    refine (check_bad a n c _ l k _ HL.out H.out hc HE.out H0.out).mono ?_
    rintro e w' ⟨rfl, rfl⟩
    go_wp2
    go_ret2
    exact ⟨Below.refl _ _, none, 0, by rw [HE.out, if_neg H0.out, errw_of H0.out]; rfl, by rw [HE.out, if_neg H0.out]; intro hp; simp at hp⟩

def RankEx (l : List Int) (key : Int) (w : World) (e : Ending) (w' : World) : Prop :=
  Below w.heap.size w w' ∧ ∃ a c xs, e = .returned (.tuple #[.slice a xs.length c, errw (errK l key)]) ∧ IntsIn w' w'.heap.size a xs ∧ ((errK l key = 0 ∧ xs.Perm l ∧ SortedTo key xs l.length) ∨ (errK l key ≠ 0 ∧ xs = []))
set_option maxHeartbeats 1000000 in
theorem cRank_ex (a : Option Addr) (n c : Nat) (l : List Int) (key : Int) (w : World) (hl : l.length = n) (h : IntsIn w w.heap.size a l) (hc : n ≤ c) :
    Calls Tryd.prog 30 #[.slice a n c, .int .i64 key] w (RankEx l key w) := by
  by_cases h0 : errL l = 0
  · by_cases hk : 0 ≤ key ∧ key ≤ 1000000
    · have ho : errK l key = 0 := by unfold errK; rw [if_neg (by omega), if_pos hk]
      refine (cRank_any a n c l key w hl h hc).mono ?_
      rintro e w' ⟨hb, ⟨_, _, _, a', c', xs, rfl, hp, hs, hin⟩ | ⟨hno, _⟩⟩
      · exact ⟨hb, a', c', xs, by rw [ho, hp.length_eq]; rfl, hin, .inl ⟨ho, hp, hs⟩⟩
      · exact absurd ⟨(errL_good l).1 h0, hk⟩ hno
    · have ho : errK l key = 1 := by unfold errK; rw [if_neg (by omega), if_neg hk]
      have hk2 : key < 0 ∨ 1000000 < key := by omega
      have HO := Lib.hid ho; have HE := Lib.hid h0; have HL := Lib.hid hl; have HK := Lib.hid hk2
      have HB0 : Hid (Below w.heap.size w (w.alloc (.cells #[.int .i64 key] 3))) := Lib.hid ((Below.refl _ w).alloc (Nat.le_refl _) _)
      have H1 : Hid (IntsIn (w.alloc (.cells #[.int .i64 key] 3)) (w.alloc (.cells #[.int .i64 key] 3)).heap.size a l) := Lib.hid ((h.below HB0.out).more (by simp))
      clear ho h0 h hl hk hk2
      go_enter Tryd.func30, Tryd.ntmps30
      go_wp2_with fail
      refine (check_good a n c _ l _ HL.out H1.out hc HE.out).mono ?_
      rintro e w' ⟨rfl, rfl⟩
      go_wp2_with fail
      refine (within_no _ _ _ _ HK.out).mono ?_
      rintro e' w' ⟨rfl, rfl⟩
      go_wp2
      go_ret2
      exact ⟨HB0.out, none, 0, [], by rw [HO.out]; rfl, fun hp => by simp at hp, .inr ⟨by rw [HO.out]; decide, rfl⟩⟩
  · obtain ⟨k, hk⟩ : ∃ k, errL l = k := ⟨_, rfl⟩
    rw [hk] at h0
    have ho : errK l key = k := by unfold errK; rw [hk, if_pos h0]
    have HB0 : Hid (Below w.heap.size w (w.alloc (.cells #[.int .i64 key] 3))) := Lib.hid ((Below.refl _ w).alloc (Nat.le_refl _) _)
    have H1 : Hid (IntsIn (w.alloc (.cells #[.int .i64 key] 3)) (w.alloc (.cells #[.int .i64 key] 3)).heap.size a l) := Lib.hid ((h.below HB0.out).more (by simp))
    have HO := Lib.hid ho; have HE := Lib.hid hk; have HL := Lib.hid hl; have H0 := Lib.hid h0
    clear ho h0 h hl hk
    go_enter Tryd.func30, Tryd.ntmps30
    go_wp2_with fail
    refine (check_bad a n c _ l k _ HL.out H1.out hc HE.out H0.out).mono ?_
    rintro e w' ⟨rfl, rfl⟩
    go_wp2
    go_ret2
    exact ⟨HB0.out, none, 0, [], by rw [HO.out, errw_of H0.out]; rfl, fun hp => by simp at hp, .inr ⟨by rw [HO.out]; exact H0.out, rfl⟩⟩

def badK (key : Int) : Int := if 0 ≤ key ∧ key ≤ 1000000 then 0 else 1
def spotK (key : Int) : Int := if 0 ≤ key ∧ key ≤ 1000000 then plc key else 0
theorem cPlace_ex (key : Int) (w : World) : Calls Tryd.prog 25 #[.int .i64 key] w fun e w' => e = .returned (.tuple #[.int .i64 (spotK key), errw (badK key)]) ∧ w = w' := by
  by_cases hk : 0 ≤ key ∧ key ≤ 1000000
  · have h1 : Hid (spotK key = plc key) := Lib.hid (if_pos hk)
    have h2 : Hid (badK key = 0) := Lib.hid (if_pos hk)
    obtain ⟨hk0, hk1⟩ := hk
    go_enter Tryd.func25, Tryd.ntmps25
    go_wp2_with (first
      | (go_at_call 32; refine (within_yes _ _ _ _ hk0 hk1).mono ?_; rintro e' w' ⟨rfl, rfl⟩)
      | (go_at_call 46; refine (place_any key _ hk0 hk1).mono ?_; rintro e' w' ⟨rfl, rfl⟩))
    go_ret2
    exact ⟨by rw [h1.out, h2.out]; rfl, rfl⟩
  · have h1 : Hid (spotK key = 0) := Lib.hid (if_neg hk)
    have h2 : Hid (badK key = 1) := Lib.hid (if_neg hk)
    have hk2 : key < 0 ∨ 1000000 < key := by omega
    have HK := Lib.hid hk2
    clear hk hk2
    go_enter Tryd.func25, Tryd.ntmps25
    go_wp2_with fail
    refine (within_no _ _ _ _ HK.out).mono ?_
    rintro e' w' ⟨rfl, rfl⟩
    go_wp2
    go_ret2
    exact ⟨by rw [h1.out, h2.out]; rfl, rfl⟩

set_option maxHeartbeats 1000000 in
set_option maxRecDepth 100000 in
theorem rNodes_any (a : Option Addr) (n c B : Nat) (l : List Int) (w : World) (hl : l.length = n) (h : IntsIn w B a l) (hc : n ≤ c) :
    Calls Tryd.prog 21 #[.slice a n c] w fun e w' => e = .returned (.int .i64 (errL l)) ∧ ∃ q, w' = w.drewN q := by
  have HL := Lib.hid hl; have H := Lib.hid h; clear hl h
  by_cases hn : n ≤ 12
  · have hn2 : ¬ (12 : Int) < (n : Int) := by omega
    have hn3 : (n : Int) ≤ 12 := by omega
    have HC := Lib.hid hc; clear hc
    have HE : Hid (errL l = errN [] l) := Lib.hid (by unfold errL; rw [if_pos (by rw [HL.out]; exact hn)])
    go_enter Tryd.func21, Tryd.ntmps21
    go_wp2
    go_loopw [3] (fun i wr => ChkRel l i ∧ ∃ q, wr = w.drewN q) (fun i _ => n - (intOf i).toNat)
    case atStart => exact ⟨⟨0, by omega, rfl, by simp⟩, 0, by simp [World.drewN]⟩
    case round =>
      obtain ⟨⟨k, hk, rfl, hin⟩, q, hwr⟩ := hrel
      have HW := Lib.hid hwr
      have HH : Hid (IntsIn wr B a l) := Lib.hid (by rw [hwr]; exact H.out)
      clear hwr
      have HIN := Lib.hid hin; clear hin
      have hkn : k ≤ n := by have := HL.out; omega
      by_cases hlt : k < n
      · have hkl : k < l.length := by rw [HL.out]; exact hlt
        have HT := Lib.hid (HH.out.take k (Nat.le_of_lt hkl))
        obtain ⟨b, off, rfl, hb, hcx⟩ := HH.out.at_ hkl
        have HAT := Lib.hid (errN_at hkl)
        obtain ⟨x, hx⟩ : ∃ x, x = l[k] := ⟨_, rfl⟩
        rw [← hx] at hcx HAT
        clear hx
        have hki : (k : Int) < (n : Int) := by omega
        have hk0 : (0 : Int) ≤ (k : Int) := by omega
        have hkc : (k : Int) ≤ (c : Int) := by have := HC.out; omega
        by_cases e : 0 ≤ x ∧ x ≤ 1000000
        · have hlt12 : k ≤ 12 := by omega
          by_cases hm : x ∈ l.take k
          · have hd : decide (x ∈ l.take k) = true := by simpa using hm
            have HD := Lib.hid hd
            have HBAD : Hid (errL l = 6) := Lib.hid (by rw [HE.out, ← HIN.out, HAT.out, if_pos e, if_pos hm])
            clear hd hm
            go_wp2_with fail
            refine (kin_yes _ _ _ _ e.1 e.2).mono ?_
            rintro e' w' ⟨rfl, rfl⟩
            go_wp2
            go_quiet ((go_at_call 14; exact quiet_eq (rHas_is _ k c B (l.take k) x _ _ (by rw [List.length_take]; omega) HT.out (by omega) HD.out)))
            go_wp2
            go_ret
            exact ⟨ret_int HBAD.out.symm, _, by first | exact HW.out | (rw [HW.out]; exact drewN_drewN _ _ _)⟩
          · have hd : decide (x ∈ l.take k) = false := by simpa using hm
            have HD := Lib.hid hd
            have HN2 : Hid (errN (l.take (k + 1)) (l.drop (k + 1)) = errN [] l) := Lib.hid (by rw [← HIN.out, HAT.out, if_pos e, if_neg hm])
            clear hd hm
            go_wp2_with fail
            refine (kin_yes _ _ _ _ e.1 e.2).mono ?_
            rintro e' w' ⟨rfl, rfl⟩
            go_wp2
            go_quiet ((go_at_call 14; exact quiet_eq (rHas_is _ k c B (l.take k) x _ _ (by rw [List.length_take]; omega) HT.out (by omega) HD.out)))
            go_wp2
            go_roundw
            case rel => exact ⟨⟨k + 1, hkl, by simp, HN2.out⟩, _, by rw [HW.out]; exact drewN_drewN _ _ _⟩
            case measure => simp [intOf]; omega
        · have hx2 : x < 0 ∨ 1000000 < x := by omega
          have HBAD : Hid (errL l = 1) := Lib.hid (by rw [HE.out, ← HIN.out, HAT.out, if_neg e])
          have HX2 := Lib.hid hx2
          clear e hx2
          go_wp2_with fail
          refine (kin_no _ _ _ _ HX2.out).mono ?_
          rintro e' w' ⟨rfl, rfl⟩
          go_wp2
          go_ret
          exact ⟨ret_int HBAD.out.symm, _, by first | exact HW.out | (rw [HW.out]; exact drewN_drewN _ _ _)⟩
      · obtain rfl : k = n := by omega
        have e : l.drop k = [] := List.drop_of_length_le (by rw [HL.out]; exact Nat.le_refl _)
        have HG : Hid (errL l = 0) := Lib.hid (by rw [HE.out, ← HIN.out, e]; rfl)
        clear e
        go_wp2
        go_ret
        exact ⟨ret_int HG.out.symm, _, HW.out⟩
  · have hn2 : (12 : Int) < (n : Int) := by omega
    have HBAD : Hid (errL l = 4) := Lib.hid (by unfold errL; rw [if_neg (by rw [HL.out]; exact hn)])
    go_enter Tryd.func21, Tryd.ntmps21
    go_wp2
    go_ret
    exact ⟨ret_int HBAD.out.symm, 0, by simp [World.drewN]⟩
end Go.Proofs.YthldhbcidcmmaaaDoor
