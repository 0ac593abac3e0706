/-
  The sketch's closed fact; 'in', by its contracts.
-/
import Derived.Test.YtnpokcjdnlmheaaSketchRest
namespace Go.Proofs.Ytnpokcjdnlmheaa
open Go.RowKit

theorem in_yes (n l h : Int) (w : World) (h1 : l ≤ n) (h2 : n ≤ h) :
    Calls Try.prog 14 #[.int .i64 n, .int .i64 l, .int .i64 h] w fun e w' => e = .returned (.bool true) ∧ w = w' := by
  go_enter Try.func14, Try.ntmps14
  go_wp2
  go_ret
  simp
theorem in_no (n l h : Int) (w : World) (h1 : n < l ∨ h < n) :
    Calls Try.prog 14 #[.int .i64 n, .int .i64 l, .int .i64 h] w fun e w' => e = .returned (.bool false) ∧ w = w' := by
  by_cases h2 : l ≤ n
  · have h3 : h < n := by omega
    clear h1
    go_enter Try.func14, Try.ntmps14
    go_wp2
    go_ret
    simp [h3]
  · have h3 : n < l := by omega
    clear h1 h2
    go_enter Try.func14, Try.ntmps14
    go_wp2
    go_ret
    simp

def sk0 (depth width : Nat) : List (List Int) := List.replicate depth (List.replicate width 0)
def skA : List (List Int) := skAdd 5 3 8 (sk0 2 8)
def skB : List (List Int) := skAdd 6 2 8 skA
def bdB (rows : List (List Int)) : Bool := rows.all fun r => r.all fun x => decide (0 ≤ x ∧ x ≤ 1000000)
theorem skBd_of {rows : List (List Int)} (h : bdB rows = true) : SkBd rows := by
  intro k h'
  unfold bdB at h
  rw [List.all_eq_true] at h
  unfold entry
  by_cases hk : k < rows.length
  · have h1 := h _ (List.getElem_mem hk)
    rw [List.all_eq_true] at h1
    have e : rows.getD k [] = rows[k] := by simp [List.getD, List.getElem?_eq_getElem hk]
    rw [e]
    by_cases hj : h' < rows[k].length
    · have e2 : rows[k].getD h' 0 = rows[k][h'] := by simp [List.getD, List.getElem?_eq_getElem hj]
      rw [e2]
      exact of_decide_eq_true (h1 _ (List.getElem_mem hj))
    · have e2 : rows[k].getD h' 0 = 0 := by simp [List.getD, List.getElem?_eq_none (Nat.le_of_not_lt hj)]
      rw [e2]; omega
  · have e : rows.getD k [] = [] := by simp [List.getD, List.getElem?_eq_none (Nat.le_of_not_lt hk)]
    rw [e]; simp

theorem fact_count : skCount 5 8 skB = 3 := by decide
theorem fact_bd0 : SkBd (sk0 2 8) := skBd_of (by decide)
theorem fact_bdA : SkBd skA := skBd_of (by decide)

theorem sketchFact_any (w : World) :
    Calls Try.prog 12 #[] w fun e w' => e = .returned (.bool true) ∧ Below w.heap.size w w' := by
  have hcnt := fact_count
  go_enter Try.func12, Try.ntmps12
  go_wp2_with fail
  refine (sketchNew_yes 2 8 _ (by decide) (by decide) (by decide) (by decide)).mono ?_
  rintro e w1 ⟨g, cap, L, rfl, hs, hg, hLb, hbel⟩
  have hL : L.length = 2 := by have := hs.len; simpa using this.symm
  have HS := Lib.hid hs; clear hs
  have H1 : 0 < L.length := by omega
  have H2 : L.length ≤ 4 := by omega
  clear hL
  go_wp2_with fail
  refine (add_ok _ g cap L 8 (sk0 2 8) 0 5 3 _ HS.out H1 H2 (by decide) (by decide) (by decide) (by decide) (by decide) (by decide) (by decide) (by decide) fact_bd0).mono ?_
  rintro e w2 ⟨rfl, hs2, hk2⟩
  have HS2 := Lib.hid hs2; clear hs2
  go_wp2_with fail
  refine (add_ok _ g cap L 8 skA (0 + 3) 6 2 _ HS2.out H1 H2 (by decide) (by decide) (by decide) (by decide) (by decide) (by decide) (by decide) (by decide) fact_bdA).mono ?_
  rintro e w3 ⟨rfl, hs3, hk3⟩
  have HS3 := Lib.hid hs3; clear hs3
  go_wp2_with fail
  refine (count_ok _ g cap L 8 skB (0 + 3 + 2) 5 _ HS3.out H1 H2 (by decide) (by decide) (by decide) (by decide)).mono ?_
  rintro e w4 ⟨rfl, hs4, hk4⟩
  have HS4 := Lib.hid hs4; clear hs4
  go_wp2_with fail
  refine (sum_any _ g cap L 8 skB (0 + 3 + 2) _ HS4.out).mono ?_
  rintro e w5 ⟨rfl, rfl⟩
  go_wp2
  go_ret
  refine ⟨rfl, ?_⟩
  have hkk : Keep (w.heap.size :: L) w1 w4 := (hk2.trans hk3).trans (hk4.mono (by simp))
  exact hbel.trans (hkk.below hbel.size (by
    intro x hx
    rcases List.mem_cons.1 hx with h | h
    · omega
    · have := hLb x h; omega))
end Go.Proofs.Ytnpokcjdnlmheaa
