/-
  The reference's Has and Without (the first of a number), by their contracts.
-/
import Derived.Test.YthldhbcidcmmaaaDoorCore
import Derived.Outline
namespace Go.Proofs.YthldhbcidcmmaaaDoor
open Go.RowKit

theorem OwnInts.base {w : World} {b b' : Nat} {v : Value} {xs : List Int} (h : OwnInts w b v xs) (hb : b' ≤ b) : OwnInts w b' v xs := by
  obtain ⟨hl, h2⟩ := h
  refine ⟨hl, ?_⟩
  rcases h2 with h2 | ⟨g, cap, cur, e, hbb, r⟩
  · exact .inl h2
  · exact .inr ⟨g, cap, cur, e, by omega, r⟩

theorem take_mem_succ {l : List Int} {k : Nat} {x : Int} (h : k < l.length) : x ∈ l.take (k + 1) ↔ x ∈ l.take k ∨ l[k] = x := by
  rw [List.take_succ_eq_append_getElem h, List.mem_append]
  simp [eq_comm]

theorem rHas (a : Option Addr) (n c B : Nat) (l : List Int) (x : Int) (w : World) (hl : l.length = n) (h : IntsIn w B a l) (hn : n ≤ 100000000000) :
    Calls Tryd.prog 14 #[.slice a n c, .int .i64 x] w fun e w' => e = .returned (.bool (decide (x ∈ l))) ∧ w = w' := by
  have HL := Lib.hid hl; clear hl
  have hn2 : (n : Int) ≤ 20000000000000 := by omega
  go_enter Tryd.func14, Tryd.ntmps14
  go_wp2
  go_loop [5] (fun i => ∃ k : Nat, k ≤ n ∧ i = .int .i64 k ∧ ¬ x ∈ l.take k) (fun i => n - (intOf i).toNat)
  case atStart => exact ⟨0, by omega, rfl, by simp⟩
  case round =>
    obtain ⟨k, hk, rfl, hnm⟩ := hrel
    have HM := Lib.hid hnm; clear hnm
    by_cases hlt : k < n
    · have hkl : k < l.length := by rw [HL.out]; exact hlt
      obtain ⟨b, off, rfl, hb, hc⟩ := h.at_ hkl
      have HS := Lib.hid (take_mem_succ (x := x) hkl)
      obtain ⟨y, hy⟩ : ∃ y, y = l[k] := ⟨_, rfl⟩
      rw [← hy] at hc HS
      clear hy
      have hki : (k : Int) < (n : Int) := by omega
      have hk0 : (0 : Int) ≤ (k : Int) := by omega
      by_cases e : y = x
      · subst e
        have hm : y ∈ l := List.mem_of_mem_take (HS.out.2 (.inr rfl))
        have HMM := Lib.hid (show decide (y ∈ l) = true by simpa using hm)
        clear hm
        go_wp2
        go_ret
        exact ⟨ret_bool HMM.out.symm, rfl⟩
      · go_wp2
        go_round
        case rel => exact ⟨k + 1, hlt, by simp, fun hh => (HS.out.1 hh).elim HM.out e⟩
        case measure => simp [intOf]; omega
    · obtain rfl : k = n := by omega
      have hm : decide (x ∈ l) = false := by
        have := HM.out
        rw [List.take_of_length_le (by rw [HL.out]; exact Nat.le_refl _)] at this
        simpa using this
      have HMM := Lib.hid hm; clear hm
      go_wp2
      go_ret
      exact ⟨ret_bool HMM.out.symm, rfl⟩

def WithoutPost (w : World) (l : List Int) (x : Int) (e : Ending) (w' : World) : Prop := ∃ v, e = .returned v ∧ OwnInts w' w.heap.size v (l.erase x) ∧ Below w.heap.size w w'
def WithoutRel (w : World) (l : List Int) (x : Int) (n : Nat) (out gone i : Value) (wr : World) : Prop :=
  ∃ k : Nat, k ≤ n ∧ i = .int .i64 k ∧ gone = .bool (decide (x ∈ l.take k)) ∧ OwnInts wr w.heap.size out ((l.take k).erase x) ∧ Below w.heap.size w wr

set_option maxHeartbeats 400000 in
set_option maxRecDepth 100000 in
theorem rWithout (a : Option Addr) (n c B : Nat) (l : List Int) (x : Int) (w : World) (hl : l.length = n) (h : IntsIn w B a l) (hB : B ≤ w.heap.size) (hn : n ≤ 100000000000) :
    Calls Tryd.prog 50 #[.slice a n c, .int .i64 x] w (WithoutPost w l x) := by
  have HL := Lib.hid hl; clear hl
  have hn2 : (n : Int) ≤ 20000000000000 := by omega
  obtain ⟨i0, hi, hz0, hz1, hz2⟩ := info_parts info_int
  go_enter Tryd.func50, Tryd.ntmps50
  go_wp2
  go_loopw [5, 6, 7] (fun out gone i wr => WithoutRel w l x n out gone i wr) (fun _ _ i _ => n - (intOf i).toNat)
  case atStart => exact ⟨0, by omega, rfl, by simp, OwnInts.nil _ _, Below.refl _ _⟩
  case round =>
    obtain ⟨k, hk, rfl, rfl, hown, hbel⟩ := hrel
    have hsz := hbel.size
    by_cases hlt : k < n
    · have hkl : k < l.length := by rw [HL.out]; exact hlt
      obtain ⟨b, off, rfl, hb, hc⟩ := h.at_ hkl
      have hcw := (hbel.cell (p := ⟨b, off + k, none⟩) (by show b < _; omega)).trans hc
      have HS := Lib.hid (take_mem_succ (x := x) hkl)
      have HT : Hid ((l.take (k + 1)).erase x = if x ∈ l.take k then (l.take k).erase x ++ [l[k]] else l.take k ++ [l[k]].erase x) := Lib.hid (by
        rw [List.take_succ_eq_append_getElem hkl, List.erase_append])
      obtain ⟨y, hy⟩ : ∃ y, y = l[k] := ⟨_, rfl⟩
      rw [← hy] at hcw HS HT
      clear hy hc
      have hki : (k : Int) < (n : Int) := by omega
      have hk0 : (0 : Int) ≤ (k : Int) := by omega
      obtain ⟨xs, hxs⟩ : ∃ xs, xs = (l.take k).erase x := ⟨_, rfl⟩
      have hxl : xs.length ≤ k := by
        rw [hxs]
        refine Nat.le_trans (List.length_erase_le) ?_
        simp; omega
      rw [← hxs] at hown HT
      have HX := Lib.hid hxs; clear hxs
      have HOWN := Lib.hid hown; clear hown
      by_cases e : y = x
      · subst e
        by_cases g : y ∈ l.take k
        · have hg : decide (y ∈ l.take k) = true := by simpa using g
          have hT : (l.take (k + 1)).erase y = xs ++ [y] := by rw [HT.out, if_pos g]
          have HTT := Lib.hid hT; have HD := Lib.hid (show decide (y ∈ l.take (k + 1)) = true by simpa using HS.out.2 (.inr rfl)); clear hT g HT HS HX
          go_wp2_with (at_builtin; refine wpList_append_own _ rfl _ _ 22 rfl w.heap.size 3 i0 (.int .i64 0) 1 8 Tryd.underlying22 hi hz0 hz1 hz2 rfl (by decide) _ _ _ rfl (HOWN.out.alloc _) ⟨wr.heap.size, 0, none⟩ 1 1 [.int .i64 y] rfl rfl (by intro p u hp; match p, hp with | 0, hp => simp at hp; subst hp; simp [Addr.add]) (by intro u hu; simp at hu; subst hu; rfl) (by unfold maxLen; omega) (by omega) (by simp; omega) ?_; intro v' w2 hown' hgrow hlies)
          go_roundw
          case rel => exact ⟨k + 1, hlt, by simp, by rw [HD.out], by rw [HTT.out]; unfold OwnInts; simpa [ints] using hown', (hbel.alloc hsz _).grown hgrow (by simp; omega) (fun x hx => (HOWN.out.lt x hx).1)⟩
          case measure => simp [intOf]; omega
        · have hg : decide (y ∈ l.take k) = false := by simpa using g
          have hT : (l.take (k + 1)).erase y = xs := by rw [HT.out, if_neg g, HX.out, List.erase_of_not_mem g]; simp
          have HTT := Lib.hid hT; have HD := Lib.hid (show decide (y ∈ l.take (k + 1)) = true by simpa using HS.out.2 (.inr rfl)); clear hT g HT HS HX
          go_wp2
          go_roundw
          case rel => exact ⟨k + 1, hlt, by simp, by rw [HD.out], by rw [HTT.out]; exact HOWN.out, hbel⟩
          case measure => simp [intOf]; omega
      · have hD : decide (x ∈ l.take (k + 1)) = decide (x ∈ l.take k) := by
          rw [decide_eq_decide, HS.out]; simp [e]
        have hT : (l.take (k + 1)).erase x = xs ++ [y] := by
          rw [HT.out]
          by_cases g : x ∈ l.take k
          · rw [if_pos g]
          · rw [if_neg g, HX.out, List.erase_of_not_mem g, List.erase_of_not_mem (by simpa using fun h => e h.symm)]
        have HTT := Lib.hid hT; have HD := Lib.hid hD; clear hT hD HT HS HX
        go_wp2_with (at_builtin; refine wpList_append_own _ rfl _ _ 22 rfl w.heap.size 3 i0 (.int .i64 0) 1 8 Tryd.underlying22 hi hz0 hz1 hz2 rfl (by decide) _ _ _ rfl (HOWN.out.alloc _) ⟨wr.heap.size, 0, none⟩ 1 1 [.int .i64 y] rfl rfl (by intro p u hp; match p, hp with | 0, hp => simp at hp; subst hp; simp [Addr.add]) (by intro u hu; simp at hu; subst hu; rfl) (by unfold maxLen; omega) (by omega) (by simp; omega) ?_; intro v' w2 hown' hgrow hlies)
        go_roundw
        case rel => exact ⟨k + 1, hlt, by simp, by rw [HD.out], by rw [HTT.out]; unfold OwnInts; simpa [ints] using hown', (hbel.alloc hsz _).grown hgrow (by simp; omega) (fun x hx => (HOWN.out.lt x hx).1)⟩
        case measure => simp [intOf]; omega
    · obtain rfl : k = n := by omega
      have e : l.take k = l := List.take_of_length_le (by rw [HL.out]; exact Nat.le_refl _)
      rw [e] at hown
      have HOWN := Lib.hid hown; clear hown e
      go_wp2
      go_ret
      exact ⟨_, rfl, HOWN.out, hbel⟩
end Go.Proofs.YthldhbcidcmmaaaDoor
