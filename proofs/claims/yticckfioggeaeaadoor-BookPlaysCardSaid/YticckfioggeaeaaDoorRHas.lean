/-
  The reference's Has, by its contract.
-/
import Derived.Test.YticckfioggeaeaaDoorCore
namespace Go.Proofs.YticckfioggeaeaaDoor
open Go.RowKit

theorem take_mem_succ {l : List Int} {k : Nat} {x : Int} (h : k < l.length) : x ∈ l.take (k + 1) ↔ x ∈ l.take k ∨ l[k] = x := by
  rw [List.take_succ_eq_append_getElem h, List.mem_append]
  simp [eq_comm]

theorem rHas (a : Option Addr) (n c B : Nat) (l : List Int) (x : Int) (w : World) (hl : l.length = n) (h : IntsIn w B a l) (hn : n ≤ 100000000000) :
    Calls Tryd.prog 11 #[.slice a n c, .int .i64 x] w fun e w' => e = .returned (.bool (decide (x ∈ l))) ∧ w = w' := by
  have HL := Lib.hid hl; clear hl
  have hn2 : (n : Int) ≤ 20000000000000 := by omega
  go_enter Tryd.func11, Tryd.ntmps11
  go_wp2
  go_loop [5] (fun i => ∃ k : Nat, k ≤ n ∧ i = .int .i64 k ∧ ¬ x ∈ l.take k) (fun i => n - (intOf i).toNat)
  case atStart => exact ⟨0, by omega, rfl, by simp⟩
  case round =>
    obtain ⟨k, hk, rfl, hnm⟩ := hrel
    have HM := Lib.hid hnm; clear hnm
    by_cases hlt : k < n
    · have hkl : k < l.length := by rw [HL.out]; exact hlt
      obtain ⟨b, off, rfl, hb, hc⟩ := h.at_ hkl
      have HS := Lib.hid (take_mem_succ (x := x) hkl)
      obtain ⟨y, hy⟩ : ∃ y, y = l[k] := ⟨_, rfl⟩
      rw [← hy] at hc HS
      clear hy
      have hki : (k : Int) < (n : Int) := by omega
      have hk0 : (0 : Int) ≤ (k : Int) := by omega
      by_cases e : y = x
      · subst e
        have hm : y ∈ l := List.mem_of_mem_take (HS.out.2 (.inr rfl))
        have HMM := Lib.hid (show decide (y ∈ l) = true by simpa using hm)
        clear hm
        go_wp2
        go_ret
        exact ⟨ret_bool HMM.out.symm, rfl⟩
      · go_wp2
        go_round
        case rel => exact ⟨k + 1, hlt, by simp, fun hh => (HS.out.1 hh).elim HM.out e⟩
        case measure => simp [intOf]; omega
    · obtain rfl : k = n := by omega
      have hm : decide (x ∈ l) = false := by
        have := HM.out
        rw [List.take_of_length_le (by rw [HL.out]; exact Nat.le_refl _)] at this
        simpa using this
      have HMM := Lib.hid hm; clear hm
      go_wp2
      go_ret
      exact ⟨ret_bool HMM.out.symm, rfl⟩

def WithoutPost (w : World) (l : List Int) (x : Int) (e : Ending) (w' : World) : Prop := ∃ v, e = .returned v ∧ OwnInts w' w.heap.size v (l.erase x) ∧ Below w.heap.size w w'
def WithoutRel (w : World) (l : List Int) (x : Int) (n : Nat) (out gone i : Value) (wr : World) : Prop :=
  ∃ k : Nat, k ≤ n ∧ i = .int .i64 k ∧ gone = .bool (decide (x ∈ l.take k)) ∧ OwnInts wr w.heap.size out ((l.take k).erase x) ∧ Below w.heap.size w wr
theorem rHas_is (a : Option Addr) (n c B : Nat) (l : List Int) (x : Int) (d : Bool) (w : World) (hl : l.length = n) (h : IntsIn w B a l) (hn : n ≤ 100000000000) (hd : decide (x ∈ l) = d) :
    Calls Tryd.prog 11 #[.slice a n c, .int .i64 x] w fun e w' => e = .returned (.bool d) ∧ w = w' := by
  subst hd; exact rHas a n c B l x w hl h hn
end Go.Proofs.YticckfioggeaeaaDoor
