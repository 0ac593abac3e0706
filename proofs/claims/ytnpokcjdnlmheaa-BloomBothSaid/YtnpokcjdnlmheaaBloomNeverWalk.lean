/-
  BloomNever: the walk.
-/
import Derived.Test.YtnpokcjdnlmheaaBloomFill
import Derived.Test.YtnpokcjdnlmheaaLift
namespace Go.Proofs.Ytnpokcjdnlmheaa
open Go.RowKit

theorem getD_true (l : List Bool) (i : Nat) : l.getD i false = true ↔ l[i]? = some true := by
  rw [List.getD_eq_getElem?_getD]
  cases l[i]? with
  | none => simp
  | some x => simp
theorem setK_mono (key : Int) (n k : Nat) (bits : List Bool) (i : Nat) (h : bits.getD i false = true) : (setK key n k bits).getD i false = true := by
  induction k with
  | zero => exact h
  | succ k ih =>
    rw [getD_true] at ih ⊢
    have hi := (List.getElem?_eq_some_iff.1 ih).1
    simp only [setK, List.getElem?_set]
    split
    · simp_all
    · exact ih
theorem setK_sets (key : Int) (n k : Nat) (bits : List Bool) (j : Nat) (hj : j < k) (hn : 0 < n) (hl : bits.length = n) : (setK key n k bits).getD (hashN key j n) false = true := by
  induction k with
  | zero => omega
  | succ k ih =>
    have hh := hashN_lt key j n hn
    have hlen : (setK key n k bits).length = n := by rw [setK_len, hl]
    rw [getD_true] at ih ⊢
    simp only [setK, List.getElem?_set]
    by_cases e : j = k
    · subst e
      rw [if_pos rfl, if_pos (by rw [hlen]; exact hh)]
    · have := ih (by omega)
      have hi := (List.getElem?_eq_some_iff.1 this).1
      split
      · simp_all
      · exact this
theorem hasK_of {key : Int} {n : Nat} {bits : List Bool} {h : Nat} (hb : ∀ j, j < h → bits.getD (hashN key j n) false = true) : hasK key n bits h = true := by
  induction h with
  | zero => rfl
  | succ h ih => simp only [hasK, ih (fun j hj => hb j (by omega)), hb h (by omega), Bool.and_self]
theorem addB_mono (hashes : Nat) (bits : List Bool) (key : Int) (i : Nat) (h : bits.getD i false = true) : (addB hashes bits key).getD i false = true := by
  unfold addB; split
  · exact setK_mono _ _ _ _ _ h
  · exact h
theorem foldl_addB_mono (hashes : Nat) (ks : List Int) (bits : List Bool) (i : Nat) (h : bits.getD i false = true) : (ks.foldl (addB hashes) bits).getD i false = true := by
  induction ks generalizing bits with
  | nil => exact h
  | cons k r ih => exact ih _ (addB_mono _ _ _ _ h)
theorem fill_has (n hashes : Nat) (hn : 0 < n) (ks : List Int) (key : Int) (hm : key ∈ ks) (h1 : 0 ≤ key) (h2 : key ≤ 1000000) : hasK key (fillB n hashes ks).length (fillB n hashes ks) hashes = true := by
  rw [fillB_len]
  refine hasK_of fun j hj => ?_
  obtain ⟨p, q, rfl⟩ := List.append_of_mem hm
  unfold fillB
  rw [List.foldl_append, List.foldl_cons]
  refine foldl_addB_mono _ _ _ _ ?_
  have hl : (p.foldl (addB hashes) (List.replicate n false)).length = n := by rw [foldl_addB_len]; simp
  generalize p.foldl (addB hashes) (List.replicate n false) = bits at hl
  unfold addB
  rw [if_pos ⟨h1, h2⟩, hl]
  exact setK_sets _ _ _ _ _ hj hn hl

theorem bloomNever_no (bits hashes : Int) (a : Option Addr) (n c : Nat) (k : Int) (w : World) (h : ¬ (1 ≤ bits ∧ bits ≤ 128 ∧ 1 ≤ hashes ∧ hashes ≤ 4)) :
    Calls Try.prog 4 #[.int .i64 bits, .int .i64 hashes, .slice a n c, .int .i64 k] w fun e w' => e = .returned (.bool true) ∧ Below w.heap.size w w' := by
  by_cases h1 : 1 ≤ bits ∧ bits ≤ 128
  · have h2 : hashes < 1 ∨ 4 < hashes := by omega
    obtain ⟨h3, h4⟩ := h1
    go_enter Try.func4, Try.ntmps4
    go_wp2_with (first
      | (go_at_call 17; refine (bloomFact_any _).mono ?_; rintro e w1 ⟨rfl, hb1⟩)
      | (go_at_call 18; refine (filled_no _ _ _ _ _ _ h).mono ?_; rintro e w2 ⟨rfl, rfl⟩)
      | (go_at_call 14; refine (in_yes _ _ _ _ (by omega) (by omega)).mono ?_; rintro e w' ⟨rfl, rfl⟩)
      | (go_at_call 14; refine (in_no _ _ _ _ (by omega)).mono ?_; rintro e w' ⟨rfl, rfl⟩))
    go_ret
    exact ⟨rfl, hb1⟩
  · have h2 : bits < 1 ∨ 128 < bits := by omega
    go_enter Try.func4, Try.ntmps4
    go_wp2_with (first
      | (go_at_call 17; refine (bloomFact_any _).mono ?_; rintro e w1 ⟨rfl, hb1⟩)
      | (go_at_call 18; refine (filled_no _ _ _ _ _ _ h).mono ?_; rintro e w2 ⟨rfl, rfl⟩)
      | (go_at_call 14; refine (in_no _ _ _ _ (by omega)).mono ?_; rintro e w' ⟨rfl, rfl⟩))
    go_ret
    exact ⟨rfl, hb1⟩

set_option maxRecDepth 100000 in
theorem bloomNever_yes (n hashes : Nat) (h1 : 1 ≤ (n : Int)) (h2 : (n : Int) ≤ 128) (h3 : 1 ≤ (hashes : Int)) (h4 : (hashes : Int) ≤ 4) (a : Option Addr) (c : Nat) (ks : List Int) (k : Int) (w : World)
    (hx : IntsIn w w.heap.size a ks) (hn : ks.length ≤ maxLen) :
    Calls Try.prog 4 #[.int .i64 n, .int .i64 hashes, .slice a ks.length c, .int .i64 k] w fun e w' => e = .returned (.bool true) ∧ Below w.heap.size w w' := by
  have hM : (ks.length : Int) ≤ 9223372036854775807 := by unfold maxLen at hn; omega
  have HN := Lib.hid hn; clear hn
  go_enter Try.func4, Try.ntmps4
  go_wp2_with fail
  refine (bloomFact_any _).mono ?_
  rintro e w1 ⟨rfl, hb1⟩
  go_wp2_with fail
  refine (filled_yes n hashes a _ c w.heap.size ks _ rfl (hx.below hb1) hb1.size HN.out h1 h2 h3 h4).mono ?_
  rintro e w2 ⟨b, g, rfl, hf, hbw, hgw, hb2⟩
  have HF := Lib.hid hf; clear hf
  have hbel := hb1.trans (hb2.mono hb1.size)
  by_cases hk : 0 ≤ k ∧ k ≤ (ks.length : Int) - 1
  · obtain ⟨j, rfl⟩ := Int.eq_ofNat_of_zero_le hk.1
    have hj : j < ks.length := by omega
    by_cases hk39 : (j : Int) ≤ 39
    · obtain ⟨bx, off, rfl, hbB, hc⟩ := hx.at_ hj
      have hcw := (hbel.cell (p := ⟨bx, off + j, none⟩) hbB).trans hc
      have hj0 : (0 : Int) ≤ (j : Int) := by omega
      have hjn : (j : Int) < (ks.length : Int) := by omega
      have HM : Hid (ks[j] ∈ ks.take 40) := Lib.hid (by rw [List.mem_take_iff_getElem]; exact ⟨j, by omega, rfl⟩)
      obtain ⟨x, hxx⟩ : ∃ x, x = ks[j] := ⟨_, rfl⟩
      rw [← hxx] at hcw HM
      clear hxx hc
      by_cases hxr : 0 ≤ x ∧ x ≤ 1000000
      · have hl := fillB_len n hashes (ks.take 40)
        have HL := Lib.hid hl; clear hl
        go_wp2_with (first
          | (go_at_call 14; refine (in_yes _ _ _ _ (by omega) (by omega)).mono ?_; rintro e w' ⟨rfl, rfl⟩)
          | (go_at_call 19; refine (bloomHas_yes _ _ _ hashes x _ HF.out hxr.1 hxr.2 (by rw [HL.out]; exact h1) (by rw [HL.out]; exact h2) h4).mono ?_; rintro e w3 ⟨he, hk3⟩; rw [fill_has n hashes (by omega) _ x HM.out hxr.1 hxr.2] at he; subst he))
        go_ret
        exact ⟨rfl, hbel.trans (hk3.below hbel.size (by simp))⟩
      · have hxr' : x < 0 ∨ 1000000 < x := by omega
        go_wp2_with (first
          | (go_at_call 14; refine (in_yes _ _ _ _ (by omega) (by omega)).mono ?_; rintro e w' ⟨rfl, rfl⟩)
          | (go_at_call 14; refine (in_no _ _ _ _ (by omega)).mono ?_; rintro e w' ⟨rfl, rfl⟩))
        go_ret
        exact ⟨rfl, hbel⟩
    · have hk39' : (39 : Int) < (j : Int) := by omega
      go_wp2_with (go_at_call 14; refine (in_yes _ _ _ _ (by omega) (by omega)).mono ?_; rintro e w' ⟨rfl, rfl⟩)
      go_ret
      exact ⟨rfl, hbel⟩
  · have hk' : k < 0 ∨ (ks.length : Int) - 1 < k := by omega
    go_wp2_with (go_at_call 14; refine (in_no _ _ _ _ (by omega)).mono ?_; rintro e w' ⟨rfl, rfl⟩)
    go_ret
    exact ⟨rfl, hbel⟩

theorem reached_max {l : List Int} (h : Reached l) : l.length ≤ maxLen := by
  unfold Reached reachBytes at h
  unfold maxLen
  omega

theorem bloomNever_walk (x0 x1 : Int) (a2 : Option Addr) (c2 : Nat) (l2 : List Int) (x3 : Int) (w : World) (_ : I64 x0) (_ : I64 x1) (h2 : IntsIn w w.heap.size a2 l2) (_ : ∀ y ∈ l2, I64 y) (m2 : Reached l2) (_ : I64 x3) :
    Calls Try.prog 4 #[.int .i64 x0, .int .i64 x1, .slice a2 l2.length c2, .int .i64 x3] w fun e w' => e = .returned (.bool true) ∧ Below w.heap.size w w' := by
  by_cases h : 1 ≤ x0 ∧ x0 ≤ 128 ∧ 1 ≤ x1 ∧ x1 ≤ 4
  · obtain ⟨h1, h2', h3, h4⟩ := h
    obtain ⟨d, rfl⟩ := Int.eq_ofNat_of_zero_le (show 0 ≤ x0 by omega)
    obtain ⟨e, rfl⟩ := Int.eq_ofNat_of_zero_le (show 0 ≤ x1 by omega)
    exact bloomNever_yes d e h1 h2' h3 h4 a2 c2 l2 x3 w h2 (reached_max m2)
  · exact bloomNever_no x0 x1 a2 _ c2 x3 w h
end Go.Proofs.Ytnpokcjdnlmheaa
