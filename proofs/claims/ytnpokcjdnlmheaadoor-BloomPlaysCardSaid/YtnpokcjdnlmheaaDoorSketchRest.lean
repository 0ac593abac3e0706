/-
  Add where it is refused; Count, Sum, Row, New where it is refused: by their contracts.
-/
import Derived.Test.YtnpokcjdnlmheaaDoorSketchAdd
import Derived.Test.YtnpokcjdnlmheaaDoorClone
namespace Go.Proofs.YtnpokcjdnlmheaaDoor
open Go.RowKit


theorem sketchNew_no (depth width : Int) (w : World) (h : ¬ (1 ≤ depth ∧ depth ≤ 4 ∧ 1 ≤ width ∧ width ≤ 16)) :
    Calls Tryd.prog 6 #[.int .i64 depth, .int .i64 width] w fun e w' => e = .returned (.tuple #[.pointer none, errv 1]) ∧ w = w' := by
  by_cases h1 : 1 ≤ depth ∧ depth ≤ 4
  · have h2 : width < 1 ∨ 16 < width := by omega
    obtain ⟨h3, h4⟩ := h1
    clear h
    go_enter Tryd.func6, Tryd.ntmps6
    go_wp2_with (first
      | (go_at_call 32; refine (within_yes _ _ _ _ (by omega) (by omega)).mono ?_; rintro e w' ⟨rfl, rfl⟩)
      | (go_at_call 32; refine (within_no _ _ _ _ (by omega)).mono ?_; rintro e w' ⟨rfl, rfl⟩))
    go_ret2
    exact ⟨rfl, rfl⟩
  · have h2 : depth < 1 ∨ 4 < depth := by omega
    clear h1 h
    go_enter Tryd.func6, Tryd.ntmps6
    go_wp2_with (go_at_call 32; refine (within_no _ _ _ _ (by omega)).mono ?_; rintro e w' ⟨rfl, rfl⟩)
    go_ret2
    exact ⟨rfl, rfl⟩

theorem add_range (b : Nat) (key n : Int) (w : World) (h : ¬ (0 ≤ key ∧ key ≤ 1000000 ∧ 0 ≤ n ∧ n ≤ 1000)) :
    Calls Tryd.prog 9 #[.pointer (some ⟨b, 0, none⟩), .int .i64 key, .int .i64 n] w fun e w' => e = .returned (errv 1) ∧ w = w' := by
  by_cases h1 : 0 ≤ key ∧ key ≤ 1000000
  · have h2 : n < 0 ∨ 1000 < n := by omega
    obtain ⟨h3, h4⟩ := h1
    clear h
    go_enter Tryd.func9, Tryd.ntmps9
    go_wp2_with (first
      | (go_at_call 32; refine (within_yes _ _ _ _ (by omega) (by omega)).mono ?_; rintro e w' ⟨rfl, rfl⟩)
      | (go_at_call 32; refine (within_no _ _ _ _ (by omega)).mono ?_; rintro e w' ⟨rfl, rfl⟩))
    go_ret
    exact ⟨rfl, rfl⟩
  · have h2 : key < 0 ∨ 1000000 < key := by omega
    clear h1 h
    go_enter Tryd.func9, Tryd.ntmps9
    go_wp2_with (go_at_call 32; refine (within_no _ _ _ _ (by omega)).mono ?_; rintro e w' ⟨rfl, rfl⟩)
    go_ret
    exact ⟨rfl, rfl⟩

/-- The least counter of the first k rows. -/
def cntTo (key : Int) (width : Nat) (rows : List (List Int)) : Nat → Int
  | 0 => 1000000
  | k + 1 => min (cntTo key width rows k) (entry rows k (hashN key k width))

def skCount (key : Int) (width : Nat) (rows : List (List Int)) : Int := cntTo key width rows rows.length

theorem cntTo_succ (key : Int) (width : Nat) (rows : List (List Int)) (k : Nat) : cntTo key width rows (k + 1) = if entry rows k (hashN key k width) < cntTo key width rows k then entry rows k (hashN key k width) else cntTo key width rows k := by
  simp only [cntTo]; split <;> omega

theorem count_range (b : Nat) (key : Int) (w : World) (h : key < 0 ∨ 1000000 < key) :
    Calls Tryd.prog 14 #[.pointer (some ⟨b, 0, none⟩), .int .i64 key] w fun e w' => e = .returned (.tuple #[.int .i64 0, errv 1]) ∧ w = w' := by
  go_enter Tryd.func14, Tryd.ntmps14
  go_wp2_with (go_at_call 32; refine (within_no _ _ _ _ h).mono ?_; rintro e w' ⟨rfl, rfl⟩)
  go_ret2
  exact ⟨rfl, rfl⟩

def CountPost (w : World) (b g cap : Nat) (L : List Nat) (width : Nat) (rows : List (List Int)) (sum key : Int) (e : Ending) (w' : World) : Prop :=
  e = .returned (.tuple #[.int .i64 (skCount key width rows), .nilIface]) ∧ SketchAt w' b g cap L width rows sum ∧ Keep [] w w'

set_option maxRecDepth 100000 in
theorem count_ok (b g cap : Nat) (L : List Nat) (width : Nat) (rows : List (List Int)) (sum key : Int) (w : World) (hs : SketchAt w b g cap L width rows sum) (hL0 : 0 < L.length) (hL : L.length ≤ 4) (hw1 : 1 ≤ (width : Int)) (hw2 : (width : Int) ≤ 16)
    (h1 : 0 ≤ key) (h2 : key ≤ 1000000) :
    Calls Tryd.prog 14 #[.pointer (some ⟨b, 0, none⟩), .int .i64 key] w (CountPost w b g cap L width rows sum key) := by
  have HS := Lib.hid hs; clear hs
  go_enter Tryd.func14, Tryd.ntmps14
  go_wp2_with (first
    | (go_at_call 32; refine (within_yes _ _ _ _ (by omega) (by omega)).mono ?_; rintro e w' ⟨rfl, rfl⟩)
    | (go_at_call 34; refine (counters_any b g cap L width rows sum key _ HS.out hL0 hL hw1 hw2 h1 h2).mono ?_; rintro e w1 ⟨g1, cap1, cur1, rfl, hg1, hb1, hcur1, hbel⟩))
  have hs := HS.out.keep (Keep.of_below hbel (Nat.le_refl _)) (F := []) (by simp)
  have hk1 : Keep [] w w1 := Keep.of_below hbel (Nat.le_refl _)
  go_loop [6, 8, 17] (fun m _ i => ∃ k : Nat, k ≤ L.length ∧ i = .int .i64 k ∧ m = .int .i64 (cntTo key width rows k)) (fun _ _ i => L.length - (intOf i).toNat)
  case atStart => exact ⟨0, Nat.zero_le _, rfl, rfl⟩
  case round =>
    obtain ⟨k, hk, rfl, rfl⟩ := hrel
    by_cases hlt : k < L.length
    · have hcp := hb1.cell_ (hcur1 k hlt)
      have hh := hashN_lt key k width (by omega)
      obtain ⟨hc, hf, hl⟩ := hs.cell_ hlt hh
      go_wp2
      go_round
      case rel => exact ⟨k + 1, hlt, by go_num, congrArg (Value.int .i64) (cntTo_succ key width rows k).symm⟩
      case measure => simp [intOf]; omega
    · go_wp2
      go_ret2
      obtain rfl : k = rows.length := by have := hs.len; omega
      exact ⟨rfl, hs, hk1⟩

theorem sum_any (b g cap : Nat) (L : List Nat) (width : Nat) (rows : List (List Int)) (sum : Int) (w : World) (hs : SketchAt w b g cap L width rows sum) :
    Calls Tryd.prog 10 #[.pointer (some ⟨b, 0, none⟩)] w fun e w' => e = .returned (.int .i64 sum) ∧ w = w' := by
  have hc1 := hs.top.cell_ (i := 1) rfl
  go_enter Tryd.func10, Tryd.ntmps10
  go_wp2
  go_ret
  exact ⟨rfl, rfl⟩

theorem row_ok (b g cap : Nat) (L : List Nat) (width : Nat) (rows : List (List Int)) (sum : Int) (i : Nat) (w : World) (hs : SketchAt w b g cap L width rows sum) (hL : L.length ≤ 4) (hw1 : 1 ≤ (width : Int)) (hw2 : (width : Int) ≤ 16) (hi : i < rows.length) :
    Calls Tryd.prog 11 #[.pointer (some ⟨b, 0, none⟩), .int .i64 i] w fun e w' => ∃ v, e = .returned v ∧ OwnInts w' w.heap.size v rows[i] ∧ Below w.heap.size w w' := by
  have hc0 := hs.top.cell_ (i := 0) rfl
  obtain ⟨cur, hcur, hlead⟩ := hs.lead
  have hi' : i < L.length := by rw [← hs.len]; exact hi
  have hc := hcur.cell_ (hlead i _ (List.getElem?_eq_getElem hi'))
  obtain ⟨hl, hr⟩ := hs.row i _ _ (List.getElem?_eq_getElem hi') (List.getElem?_eq_getElem hi)
  have HI : Hid (IntsIn w w.heap.size (some ⟨L[i], 0, none⟩) rows[i]) := Lib.hid fun _ => ⟨L[i], 0, rfl, hr.lt, fun j x hx => hr.cell_ (by rw [Nat.zero_add]; exact ints_get hx)⟩
  have HL := Lib.hid hl; clear hl
  clear hr hlead
  go_enter Tryd.func11, Tryd.ntmps11
  go_wp2_with (first
    | (go_at_call 32; refine (within_yes _ _ _ _ (by omega) (by omega)).mono ?_; rintro e w' ⟨rfl, rfl⟩)
    | (go_at_call 35; refine (clone_at _ width w.heap.size width rows[i] _ HL.out HI.out (by omega) (by omega)).mono ?_; rintro e w1 ⟨v, rfl, hv, hbel⟩))
  go_ret
  exact ⟨v, rfl, hv, hbel⟩
end Go.Proofs.YtnpokcjdnlmheaaDoor
