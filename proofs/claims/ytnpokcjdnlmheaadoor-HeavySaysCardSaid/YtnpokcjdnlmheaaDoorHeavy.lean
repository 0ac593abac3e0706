/-
  Kept counts in memory; core.All, heavy.Check, the closures, slices.IndexFunc, by their contracts.
-/
import Derived.Test.YtnpokcjdnlmheaaDoorCore
import Derived.StillTailTactics
import Derived.RegionTactic
import Derived.Outline
namespace Go.Proofs.YtnpokcjdnlmheaaDoor
open Go.RowKit

/-! ### numbers within bounds -/
def allB (l : List Int) (lo hi : Int) : Bool := l.all fun x => decide (lo ≤ x ∧ x ≤ hi)
theorem allB_succ {l : List Int} {k : Nat} {lo hi : Int} (h : k < l.length) : allB (l.take (k + 1)) lo hi = (allB (l.take k) lo hi && decide (lo ≤ l[k] ∧ l[k] ≤ hi)) := by
  unfold allB; rw [List.take_succ_eq_append_getElem h, List.all_append]; simp only [List.all_cons, List.all_nil, Bool.and_true]
theorem allB_no {l : List Int} {k : Nat} {lo hi : Int} (h : k < l.length) (hx : l[k] < lo ∨ hi < l[k]) : allB l lo hi = false := by
  unfold allB
  rw [List.all_eq_false]
  exact ⟨l[k], List.getElem_mem h, by simp; omega⟩

theorem all_any (a : Option Addr) (n c B : Nat) (l : List Int) (lo hi : Int) (w : World) (hl : l.length = n) (h : IntsIn w B a l) (hn : n ≤ 100000000000) :
    Calls Tryd.prog 41 #[.slice a n c, .int .i64 lo, .int .i64 hi] w fun e w' => e = .returned (.bool (allB l lo hi)) ∧ w = w' := by
  have HL := Lib.hid hl; clear hl
  have hn2 : (n : Int) ≤ 20000000000000 := by omega
  go_enter Tryd.func41, Tryd.ntmps41
  go_wp2
  go_loop [8, 11] (fun _ i => ∃ k : Nat, k ≤ n ∧ i = .int .i64 k ∧ allB (l.take k) lo hi = true) (fun _ i => n - (intOf i).toNat)
  case atStart => exact ⟨0, by omega, rfl, rfl⟩
  case round =>
    obtain ⟨k, hk, rfl, hnm⟩ := hrel
    have HM := Lib.hid hnm; clear hnm
    by_cases hlt : k < n
    · have hkl : k < l.length := by rw [HL.out]; exact hlt
      obtain ⟨b, off, rfl, hb, hc⟩ := h.at_ hkl
      have HS := Lib.hid (allB_succ (lo := lo) (hi := hi) hkl)
      have HNO := Lib.hid (fun hx => allB_no (lo := lo) (hi := hi) hkl hx)
      obtain ⟨y, hy⟩ : ∃ y, y = l[k] := ⟨_, rfl⟩
      rw [← hy] at hc HS HNO
      clear hy
      have hki : (k : Int) < (n : Int) := by omega
      have hk0 : (0 : Int) ≤ (k : Int) := by omega
      by_cases e : lo ≤ y ∧ y ≤ hi
      · go_wp2_with (go_at_call 32; refine (within_yes _ _ _ _ e.1 e.2).mono ?_; rintro e w' ⟨rfl, rfl⟩)
        go_round
        case rel => exact ⟨k + 1, hlt, by simp, by rw [HS.out, HM.out]; simpa using e⟩
        case measure => simp [intOf]; omega
      · have hx : y < lo ∨ hi < y := by omega
        have HX := Lib.hid hx
        have HF := Lib.hid (HNO.out hx)
        clear hx e
        go_wp2_with (go_at_call 32; refine (within_no _ _ _ _ HX.out).mono ?_; rintro e w' ⟨rfl, rfl⟩)
        go_ret
        exact ⟨ret_bool HF.out.symm, rfl⟩
    · obtain rfl : k = n := by omega
      have hm : allB l lo hi = true := by
        have := HM.out
        rwa [List.take_of_length_le (by rw [HL.out]; exact Nat.le_refl _)] at this
      have HMM := Lib.hid hm; clear hm
      go_wp2
      go_ret
      exact ⟨ret_bool HMM.out.symm, rfl⟩

/-! ### Check -/
theorem hCheck_full (a : Option Addr) (n c : Nat) (keep : Int) (w : World) (h : 40 < n) :
    Calls Tryd.prog 25 #[.slice a n c, .int .i64 keep] w fun e w' => e = .returned (errv 4) ∧ w = w' := by
  have h' : (40 : Int) < (n : Int) := by omega
  go_enter Tryd.func25, Tryd.ntmps25
  go_wp2
  go_ret
  exact ⟨rfl, rfl⟩
theorem hCheck_range (a : Option Addr) (n c B : Nat) (l : List Int) (keep : Int) (w : World) (hl : l.length = n) (h : IntsIn w B a l) (hn : n ≤ 40) (hk : allB l 0 1000000 = false ∨ keep < 1 ∨ 8 < keep) :
    Calls Tryd.prog 25 #[.slice a n c, .int .i64 keep] w fun e w' => e = .returned (errv 1) ∧ w = w' := by
  have h' : ¬ (40 : Int) < (n : Int) := by omega
  have H := Lib.hid h; have HL := Lib.hid hl; clear h hl
  cases ha : allB l 0 1000000 with
  | true =>
    have hk2 : keep < 1 ∨ 8 < keep := by rcases hk with h | h; · rw [ha] at h; cases h
                                         · exact h
    have HA := Lib.hid ha; have HK := Lib.hid hk2; clear ha hk hk2
    go_enter Tryd.func25, Tryd.ntmps25
    go_wp2_with fail
    refine (all_any a n c B l 0 1000000 _ HL.out H.out (by omega)).mono ?_
    rintro e w' ⟨rfl, rfl⟩
    rw [HA.out]
    go_wp2_with fail
    refine (within_no keep 1 8 _ HK.out).mono ?_
    rintro e w' ⟨rfl, rfl⟩
    go_wp2
    go_ret
    exact ⟨rfl, rfl⟩
  | false =>
    have HA := Lib.hid ha; clear ha hk
    go_enter Tryd.func25, Tryd.ntmps25
    go_wp2_with fail
    refine (all_any a n c B l 0 1000000 _ HL.out H.out (by omega)).mono ?_
    rintro e w' ⟨rfl, rfl⟩
    rw [HA.out]
    go_wp2
    go_ret
    exact ⟨rfl, rfl⟩
theorem hCheck_ok (a : Option Addr) (n c B : Nat) (l : List Int) (keep : Int) (w : World) (hl : l.length = n) (h : IntsIn w B a l) (hn : n ≤ 40) (ha : allB l 0 1000000 = true) (h1 : 1 ≤ keep) (h2 : keep ≤ 8) :
    Calls Tryd.prog 25 #[.slice a n c, .int .i64 keep] w fun e w' => e = .returned .nilIface ∧ w = w' := by
  have h' : ¬ (40 : Int) < (n : Int) := by omega
  have H := Lib.hid h; have HL := Lib.hid hl; have HA := Lib.hid ha; clear h hl ha
  go_enter Tryd.func25, Tryd.ntmps25
  go_wp2_with fail
  refine (all_any a n c B l 0 1000000 _ HL.out H.out (by omega)).mono ?_
  rintro e w' ⟨rfl, rfl⟩
  rw [HA.out]
  go_wp2_with fail
  refine (within_yes keep 1 8 _ h1 h2).mono ?_
  rintro e w' ⟨rfl, rfl⟩
  go_wp2
  go_ret
  exact ⟨rfl, rfl⟩

/-! ### counts that are kept -/
def flat (L : List (Int × Int)) : List Int := L.flatMap fun x => [x.1, x.2]
theorem flat_len : ∀ L : List (Int × Int), (flat L).length = L.length * 2
  | [] => rfl
  | x :: L => by have := flat_len L; simp [flat] at this ⊢; omega
theorem flat_cons (x : Int × Int) (L : List (Int × Int)) : flat (x :: L) = x.1 :: x.2 :: flat L := rfl
theorem flat_append (L M : List (Int × Int)) : flat (L ++ M) = flat L ++ flat M := by simp [flat]
theorem flat_get : ∀ (L : List (Int × Int)) (i : Nat) (x : Int × Int), L[i]? = some x → (flat L)[i * 2]? = some x.1 ∧ (flat L)[i * 2 + 1]? = some x.2
  | [], i, x, h => by simp at h
  | y :: L, 0, x, h => by simp at h; subst h; simp [flat_cons]
  | y :: L, i + 1, x, h => by
    have := flat_get L i x (by simpa using h)
    rw [flat_cons, show (i + 1) * 2 = i * 2 + 1 + 1 by omega]
    simpa using this
theorem flat_set0 : ∀ (L : List (Int × Int)) (i : Nat) (x : Int × Int) (v : Int), L[i]? = some x → (flat L).set (i * 2) v = flat (L.set i (v, x.2))
  | [], i, x, v, h => by simp at h
  | y :: L, 0, x, v, h => by simp at h; subst h; simp [flat_cons]
  | y :: L, i + 1, x, v, h => by
    have := flat_set0 L i x v (by simpa using h)
    rw [flat_cons, show (i + 1) * 2 = i * 2 + 1 + 1 by omega]
    simpa [flat_cons] using this
theorem flat_set1 : ∀ (L : List (Int × Int)) (i : Nat) (x : Int × Int) (v : Int), L[i]? = some x → (flat L).set (i * 2 + 1) v = flat (L.set i (x.1, v))
  | [], i, x, v, h => by simp at h
  | y :: L, 0, x, v, h => by simp at h; subst h; simp [flat_cons]
  | y :: L, i + 1, x, v, h => by
    have := flat_set1 L i x v (by simpa using h)
    rw [flat_cons, show (i + 1) * 2 = i * 2 + 1 + 1 by omega]
    simpa [flat_cons] using this

/-- A slice value's address leads to the counts L. -/
def KIn (w : World) (g : Nat) (L : List (Int × Int)) : Prop := ∀ (i : Nat) (x : Int × Int), L[i]? = some x → w.cell? ⟨g, i * 2, none⟩ = some (.int .i64 x.1) ∧ w.cell? ⟨g, i * 2 + 1, none⟩ = some (.int .i64 x.2)
theorem KIn.keep {w w' : World} {g : Nat} {L : List (Int × Int)} {F : List Nat} (h : KIn w g L) (hk : Keep F w w') (hg : g < w.heap.size) (hF : g ∉ F) : KIn w' g L := fun i x hx =>
  ⟨(hk.cell (p := ⟨g, i * 2, none⟩) hg hF).trans (h i x hx).1, (hk.cell (p := ⟨g, i * 2 + 1, none⟩) hg hF).trans (h i x hx).2⟩

/-! ### the closures -/
theorem keep1_any (key : Int) (p : Addr) (x : Int × Int) (w : World) (hc : w.cell? p = some (.int .i64 key)) (hp : p.block < w.heap.size) :
    Calls Tryd.prog 44 #[.agg #[.int .i64 x.1, .int .i64 x.2], .pointer (some p)] w fun e w' => e = .returned (.bool (x.1 == key)) ∧ Below w.heap.size w w' := by
  have hne : p.block ≠ w.heap.size := by omega
  go_enter Tryd.func44, Tryd.ntmps44
  go_wp2
  go_ret
  exact ⟨rfl, (Below.refl _ _).alloc (Nat.le_refl _) _⟩
end Go.Proofs.YtnpokcjdnlmheaaDoor
