/-
  circle.Check, circle.Owner, by their contracts.
-/
import Derived.Test.YthldhbcidcmmaaaDoorCircle2
namespace Go.Proofs.YthldhbcidcmmaaaDoor
open Go.RowKit

def Good (l : List Int) : Prop := l.length ≤ 12 ∧ InB l ∧ l.Nodup
theorem IntsIn.take {w : World} {B : Nat} {a : Option Addr} {l : List Int} (h : IntsIn w B a l) (k : Nat) (hk : k ≤ l.length) : IntsIn w B a (l.take k) := fun h0 => by
  rw [List.length_take] at h0
  obtain ⟨b, off, e, hb, hc⟩ := h (by omega)
  refine ⟨b, off, e, hb, fun i x hx => hc i x ?_⟩
  have hi : i < k := by have := (List.getElem?_eq_some_iff.1 hx).1; rw [List.length_take] at this; omega
  rwa [List.getElem?_take_of_lt hi] at hx
theorem take_nodup_succ {l : List Int} {k : Nat} (hk : k < l.length) (h : (l.take k).Nodup) (hn : ¬ l[k] ∈ l.take k) : (l.take (k + 1)).Nodup := by
  rw [List.take_succ_eq_append_getElem hk, List.nodup_append]
  exact ⟨h, by simp, fun x hx y hy e => by simp at hy; subst hy; subst e; exact hn hx⟩
theorem inB_succ {l : List Int} {k : Nat} (hk : k < l.length) (h : InB (l.take k)) (hx : 0 ≤ l[k] ∧ l[k] ≤ 1000000) : InB (l.take (k + 1)) := fun x hxm => by
  rw [List.take_succ_eq_append_getElem hk, List.mem_append] at hxm
  rcases hxm with hxm | hxm
  · exact h x hxm
  · simp at hxm; subst hxm; exact hx
theorem not_nodup_of {l : List Int} {k : Nat} (hk : k < l.length) (h : l[k] ∈ l.take k) : ¬ l.Nodup := fun hn => by
  obtain ⟨j, hj, e⟩ := List.getElem_of_mem h
  rw [List.length_take] at hj
  rw [List.getElem_take] at e
  have := (List.getElem_inj (h₀ := by omega) (h₁ := hk) hn).1 e
  omega

def CheckPost (l : List Int) (w : World) (e : Ending) (w' : World) : Prop := ((Good l ∧ e = .returned .nilIface) ∨ (¬ Good l ∧ ∃ k, e = .returned (errv k))) ∧ w = w'
def CheckRel (l : List Int) (i : Value) : Prop := ∃ k : Nat, k ≤ l.length ∧ i = .int .i64 k ∧ InB (l.take k) ∧ (l.take k).Nodup

set_option maxHeartbeats 1000000 in
set_option maxRecDepth 100000 in
theorem check_any (a : Option Addr) (n c B : Nat) (l : List Int) (w : World) (hl : l.length = n) (h : IntsIn w B a l) (hc : n ≤ c) :
    Calls Tryd.prog 22 #[.slice a n c] w (CheckPost l w) := by
  have HL := Lib.hid hl; have H := Lib.hid h; clear hl h
  by_cases hn : n ≤ 12
  · have hn2 : ¬ (12 : Int) < (n : Int) := by omega
    have hn3 : (n : Int) ≤ 12 := by omega
    have HC := Lib.hid hc; clear hc
    go_enter Tryd.func22, Tryd.ntmps22
    go_wp2
    go_loop [3, 4, 11] (fun _ _ i => CheckRel l i) (fun _ _ i => n - (intOf i).toNat)
    case atStart => exact ⟨0, by omega, rfl, fun x hx => by simp at hx, by simp⟩
    case round =>
      obtain ⟨k, hk, rfl, hin, hnd⟩ := hrel
      have HIN := Lib.hid hin; have HND := Lib.hid hnd; clear hin hnd
      have hkn : k ≤ n := by have := HL.out; omega
      by_cases hlt : k < n
      · have hkl : k < l.length := by rw [HL.out]; exact hlt
        have HT := Lib.hid (H.out.take k (Nat.le_of_lt hkl))
        obtain ⟨b, off, rfl, hb, hcx⟩ := H.out.at_ hkl
        have HIS := Lib.hid (fun hx => inB_succ hkl HIN.out hx)
        have HNS := Lib.hid (fun hx => take_nodup_succ hkl HND.out hx)
        have HNO := Lib.hid (fun hx => not_nodup_of hkl hx)
        have hmem := List.getElem_mem hkl
        obtain ⟨x, hx⟩ : ∃ x, x = l[k] := ⟨_, rfl⟩
        rw [← hx] at hcx HIS HNS HNO hmem
        have HMEM := Lib.hid hmem
        clear hx hmem
        have hki : (k : Int) < (n : Int) := by omega
        have hk0 : (0 : Int) ≤ (k : Int) := by omega
        have hkc : (k : Int) ≤ (c : Int) := by have := HC.out; omega
        by_cases e : 0 ≤ x ∧ x ≤ 1000000
        · have hlt12 : k ≤ 12 := by omega
          by_cases hm : x ∈ l.take k
          · have hd : decide (x ∈ l.take k) = true := by simpa using hm
            have HD := Lib.hid hd
            have HBAD : Hid (¬ Good l) := Lib.hid (fun hg => HNO.out hm hg.2.2)
            clear hd hm
            go_wp2_with fail
            refine (within_yes _ _ _ _ e.1 e.2).mono ?_
            rintro e' w' ⟨rfl, rfl⟩
            go_wp2_with fail
            refine (contains_any _ k c B (l.take k) x _ (by rw [List.length_take]; omega) HT.out (by omega)).mono ?_
            rintro e' w' ⟨rfl, rfl⟩
            rw [HD.out]
            go_wp2
            go_ret
            exact ⟨.inr ⟨HBAD.out, 6, rfl⟩, rfl⟩
          · have hd : decide (x ∈ l.take k) = false := by simpa using hm
            have HD := Lib.hid hd
            have HN2 := Lib.hid (HNS.out hm)
            have HI2 := Lib.hid (HIS.out e)
            clear hd hm
            go_wp2_with fail
            refine (within_yes _ _ _ _ e.1 e.2).mono ?_
            rintro e' w' ⟨rfl, rfl⟩
            go_wp2_with fail
            refine (contains_any _ k c B (l.take k) x _ (by rw [List.length_take]; omega) HT.out (by omega)).mono ?_
            rintro e' w' ⟨rfl, rfl⟩
            rw [HD.out]
            go_wp2
            go_round
            case rel => exact ⟨k + 1, hkl, by simp, HI2.out, HN2.out⟩
            case measure => simp [intOf]; omega
        · have hx2 : x < 0 ∨ 1000000 < x := by omega
          have HBAD : Hid (¬ Good l) := Lib.hid (fun hg => e (hg.2.1 x HMEM.out))
          have HX2 := Lib.hid hx2
          clear e hx2
          go_wp2_with fail
          refine (within_no _ _ _ _ HX2.out).mono ?_
          rintro e' w' ⟨rfl, rfl⟩
          go_wp2
          go_ret
          exact ⟨.inr ⟨HBAD.out, 1, rfl⟩, rfl⟩
      · obtain rfl : k = n := by omega
        have e : l.take k = l := List.take_of_length_le (by rw [HL.out]; exact Nat.le_refl _)
        have HG : Hid (Good l) := Lib.hid ⟨by rw [HL.out]; exact hn, by have := HIN.out; rwa [e] at this, by have := HND.out; rwa [e] at this⟩
        clear e
        go_wp2
        go_ret
        exact ⟨.inl ⟨HG.out, rfl⟩, rfl⟩
  · have hn2 : (12 : Int) < (n : Int) := by omega
    have HBAD : Hid (¬ Good l) := Lib.hid (fun hg => by have := hg.1; have := HL.out; omega)
    go_enter Tryd.func22, Tryd.ntmps22
    go_wp2
    go_ret
    exact ⟨.inr ⟨HBAD.out, 4, rfl⟩, rfl⟩

def OwnerPost (l : List Int) (key : Int) (w : World) (e : Ending) (w' : World) : Prop :=
  Below w.heap.size w w' ∧ ((Good l ∧ 0 ≤ key ∧ key ≤ 1000000 ∧ l ≠ [] ∧ e = .returned (.tuple #[.int .i64 (ownO (plc key) l), .nilIface])) ∨
    (¬ (Good l ∧ 0 ≤ key ∧ key ≤ 1000000 ∧ l ≠ []) ∧ ∃ k, e = .returned (.tuple #[.int .i64 0, errv k])))

set_option maxHeartbeats 1000000 in
theorem cOwner_any (a : Option Addr) (n c : Nat) (l : List Int) (key : Int) (w : World) (hl : l.length = n) (h : IntsIn w w.heap.size a l) (hc : n ≤ c) :
    Calls Tryd.prog 31 #[.slice a n c, .int .i64 key] w (OwnerPost l key w) := by
  have HL := Lib.hid hl; have H := Lib.hid h; clear hl h
  go_enter Tryd.func31, Tryd.ntmps31
  go_wp2_with fail
  refine (check_any a n c _ l _ HL.out H.out hc).mono ?_
  rintro e w' ⟨⟨hg, rfl⟩ | ⟨hg, k, rfl⟩, rfl⟩
  · have HG := Lib.hid hg; clear hg
    have hn12 : (n : Int) ≤ 12 := by have := HG.out.1; have := HL.out; omega
    by_cases hk : 0 ≤ key ∧ key ≤ 1000000
    · obtain ⟨hk0, hk1⟩ := hk
      by_cases h0 : n = 0
      · have h0i : (n : Int) = 0 := by omega
        have HBAD : Hid (l = []) := Lib.hid (List.length_eq_zero_iff.1 (by rw [HL.out]; exact h0))
        subst h0
        go_wp2_with fail
        refine (within_yes _ _ _ _ hk0 hk1).mono ?_
        rintro e' w' ⟨rfl, rfl⟩
        go_wp2
        go_ret2
        exact ⟨Below.refl _ _, .inr ⟨fun hh => hh.2.2.2 HBAD.out, 5, rfl⟩⟩
      · have h0i : ¬ (n : Int) = 0 := by omega
        have HNE : Hid (l ≠ []) := Lib.hid (fun hh => h0 (by rw [← HL.out, hh]; rfl))
        have hpb := plc_bd key
        obtain ⟨p, hp⟩ : ∃ p, plc key = p := ⟨_, rfl⟩
        rw [hp] at hpb
        have HP := Lib.hid hp
        clear hp
        go_wp2_with fail
        refine (within_yes _ _ _ _ hk0 hk1).mono ?_
        rintro e' w' ⟨rfl, rfl⟩
        go_wp2_with fail
        refine (place_is key p _ HP.out hk0 hk1).mono ?_
        rintro e' w' ⟨rfl, rfl⟩
        go_wp2_with fail
        refine (owner_any p a n c l _ HL.out H.out hpb.1 hpb.2 HG.out.2.1 (by omega) (by omega)).mono ?_
        rintro e' w2 ⟨rfl, hb2⟩
        have HB2 := Lib.hid hb2; clear hb2
        go_wp2
        go_ret2
        exact ⟨HB2.out, .inl ⟨HG.out, hk0, hk1, HNE.out, by rw [HP.out]; rfl⟩⟩
    · have hk2 : key < 0 ∨ 1000000 < key := by omega
      have HK := Lib.hid hk2; have HK1 := Lib.hid hk; clear hk hk2
      go_wp2_with fail
      refine (within_no _ _ _ _ HK.out).mono ?_
      rintro e' w' ⟨rfl, rfl⟩
      go_wp2
      go_ret2
      exact ⟨Below.refl _ _, .inr ⟨fun hh => HK1.out ⟨hh.2.1, hh.2.2.1⟩, 1, rfl⟩⟩
  · have HG := Lib.hid hg; clear hg
    go_wp2
    go_ret2
    exact ⟨Below.refl _ _, .inr ⟨fun hh => HG.out hh.1, k, rfl⟩⟩
end Go.Proofs.YthldhbcidcmmaaaDoor
