/-
  Kepts of alike lists; the reference's All and Keys, by their contracts (printed by wip/gen_heavysays.py).
-/
import Derived.Test.YtnpokcjdnlmheaaDoorHeavyRef
import Derived.Test.YtnpokcjdnlmheaaDoorRef3In
import Derived.Laws.StructEq
namespace Go.Proofs.YtnpokcjdnlmheaaDoor
open Go.RowKit

theorem neq_kept (x : Int × Int) (w : World) : (binOp .neq 60 (.agg #[.int .i64 x.1, .int .i64 x.2]) (.agg #[.int .i64 x.1, .int .i64 x.2])).run Tryd.prog w = .ok (.bool false) w := by
  have u3 := Tryd.underlying3
  have a3 := Tryd.isAgg3
  have z3 := Tryd.sizeOf3
  have hS : Tryd.prog.underlying 60 = some (.struct (Tryd.prog.fieldsOf 60)) := by kernel_rfl
  have hp : Tryd.prog.stoodInHeld 60 = false := by kernel_rfl
  rw [run_neq_struct, show (10000 : Nat) = 9999 + 1 from rfl, run_equalIn_agg w 9999 60 _ _ hS hp]
  simp only [Program.fieldsOf, Tryd.underlying60]
  go_simp

def KeptsRel (w : World) (n : Nat) (i : Value) (wr : World) : Prop := ∃ k : Nat, k ≤ n ∧ i = .int .i64 k ∧ Keep [] w wr
set_option maxHeartbeats 1000000 in
theorem kepts_same (a b : Option Addr) (ga gb n c d : Nat) (L : List (Int × Int)) (w : World) (hl : L.length = n) (ha : 0 < n → a = some ⟨ga, 0, none⟩) (hb : 0 < n → b = some ⟨gb, 0, none⟩)
    (hga : ga < w.heap.size) (hgb : gb < w.heap.size) (hka : KIn w ga L) (hkb : KIn w gb L) (hn : n ≤ 1000) :
    Calls Tryd.prog 28 #[.slice a n c, .slice b n d] w fun e w' => e = .returned (.bool true) ∧ Keep [] w w' := by
  have HL := Lib.hid hl; have HA := Lib.hid ha; have HB := Lib.hid hb; have HKA := Lib.hid hka; have HKB := Lib.hid hkb; clear hl ha hb hka hkb
  have hn2 : (n : Int) ≤ 1000 := by omega
  go_enter Tryd.func28, Tryd.ntmps28
  go_wp2
  go_loopw [5] (fun i wr => KeptsRel w n i wr) (fun i _ => n - (intOf i).toNat)
  case atStart => exact ⟨0, by omega, rfl, Keep.refl _ _⟩
  case round =>
    obtain ⟨k, hk, rfl, hkr⟩ := hrel
    have HK := Lib.hid hkr; clear hkr
    by_cases hlt : k < n
    · have hkl : k < L.length := by rw [HL.out]; exact hlt
      obtain rfl := HA.out (by omega)
      obtain rfl := HB.out (by omega)
      obtain ⟨x, hx⟩ : ∃ x, x = L[k] := ⟨_, rfl⟩
      have hx2 : L[k]? = some x := by rw [hx]; exact List.getElem?_eq_getElem hkl
      obtain ⟨p0, p1⟩ := (HKA.out.keep HK.out hga (by simp)) k x hx2
      obtain ⟨q0, q1⟩ := (HKB.out.keep HK.out hgb (by simp)) k x hx2
      clear hx hx2
      have hki : (k : Int) < (n : Int) := by omega
      have hk0 : (0 : Int) ≤ (k : Int) := by omega
      have hneq := neq_kept x
      go_wp2
      go_quiet (fail)
      go_wp2
      go_roundw
      case rel => exact ⟨k + 1, hlt, by simp, HK.out.drewN _⟩
      case measure => simp [intOf]; omega
    · have hki : ¬ (k : Int) < (n : Int) := by omega
      go_wp2
      go_ret
      exact ⟨rfl, HK.out⟩

theorem times_is (a : Option Addr) (n c B : Nat) (l : List Int) (x t : Int) (w : World) (ht : times l x = t) (hl : l.length = n) (h : IntsIn w B a l) (hn : n ≤ 100000000000) :
    Calls Tryd.prog 30 #[.slice a n c, .int .i64 x] w fun e w' => e = .returned (.int .i64 t) ∧ w = w' := by
  rw [← ht]; exact times_any a n c B l x w hl h hn


theorem r1in_yes (n l h : Int) (w : World) (h1 : l ≤ n) (h2 : n ≤ h) :
    Calls Tryd.prog 49 #[.int .i64 n, .int .i64 l, .int .i64 h] w fun e w' => e = .returned (.bool true) ∧ w = w' := by
  go_enter Tryd.func49, Tryd.ntmps49
  go_wp2
  go_ret
  simp
theorem r1in_no (n l h : Int) (w : World) (h1 : n < l ∨ h < n) :
    Calls Tryd.prog 49 #[.int .i64 n, .int .i64 l, .int .i64 h] w fun e w' => e = .returned (.bool false) ∧ w = w' := by
  by_cases h2 : l ≤ n
  · have h3 : h < n := by omega
    clear h1
    go_enter Tryd.func49, Tryd.ntmps49
    go_wp2
    go_ret
    simp [h3]
  · have h3 : n < l := by omega
    clear h1 h2
    go_enter Tryd.func49, Tryd.ntmps49
    go_wp2
    go_ret
    simp

theorem rAll (a : Option Addr) (n c B : Nat) (l : List Int) (lo hi : Int) (w : World) (hl : l.length = n) (h : IntsIn w B a l) (hn : n ≤ 100000000000) :
    Calls Tryd.prog 39 #[.slice a n c, .int .i64 lo, .int .i64 hi] w fun e w' => e = .returned (.bool (allB l lo hi)) ∧ w = w' := by
  have HL := Lib.hid hl; clear hl
  have hn2 : (n : Int) ≤ 20000000000000 := by omega
  go_enter Tryd.func39, Tryd.ntmps39
  go_wp2
  go_loop [7] (fun i => ∃ k : Nat, k ≤ n ∧ i = .int .i64 k ∧ allB (l.take k) lo hi = true) (fun i => n - (intOf i).toNat)
  case atStart => exact ⟨0, Nat.zero_le _, rfl, by simp [allB]⟩
  case round =>
    obtain ⟨k, hk, rfl, hb⟩ := hrel
    have HB := Lib.hid hb; clear hb
    by_cases hlt : k < n
    · have hkl : k < l.length := by rw [HL.out]; exact hlt
      obtain ⟨b, off, rfl, _, hc⟩ := h.at_ hkl
      have HS := Lib.hid (allB_succ (lo := lo) (hi := hi) hkl)
      have HN := Lib.hid (fun h => allB_no (lo := lo) (hi := hi) hkl h)
      obtain ⟨x, hx⟩ : ∃ x, x = l[k] := ⟨_, rfl⟩
      rw [← hx] at hc HS HN
      clear hx
      have hki : (k : Int) < (n : Int) := by omega
      have hk0 : (0 : Int) ≤ (k : Int) := by omega
      by_cases hin : lo ≤ x ∧ x ≤ hi
      · obtain ⟨g1, g2⟩ := hin
        go_wp2_with (go_at_call 49; refine (r1in_yes _ _ _ _ g1 g2).mono ?_; rintro e w' ⟨rfl, rfl⟩)
        go_round
        case rel => exact ⟨k + 1, hlt, by go_num, by rw [HS.out, HB.out]; simp [g1, g2]⟩
        case measure => simp [intOf]; omega
      · have hno : x < lo ∨ hi < x := by omega
        clear hin
        go_wp2_with (go_at_call 49; refine (r1in_no _ _ _ _ hno).mono ?_; rintro e w' ⟨rfl, rfl⟩)
        go_ret
        exact ⟨ret_bool (HN.out hno).symm, rfl⟩
    · obtain rfl : k = n := by omega
      go_wp2
      go_ret
      exact ⟨ret_bool (by have := HB.out; rw [List.take_of_length_le (by rw [HL.out]; exact Nat.le_refl _)] at this; exact this.symm), rfl⟩
theorem kKeys_full (a : Option Addr) (n c : Nat) (keep : Int) (w : World) (h : 40 < n) :
    Calls Tryd.prog 24 #[.slice a n c, .int .i64 keep] w fun e w' => e = .returned (.int .i64 4) ∧ w = w' := by
  have h' : (40 : Int) < (n : Int) := by omega
  go_enter Tryd.func24, Tryd.ntmps24
  go_wp2
  go_ret
  exact ⟨rfl, rfl⟩
theorem kKeys_ok (a : Option Addr) (n c B : Nat) (l : List Int) (keep : Int) (w : World) (hl : l.length = n) (h : IntsIn w B a l) (hn : n ≤ 40) (ha : allB l 0 1000000 = true) (h1 : 1 ≤ keep) (h2 : keep ≤ 8) :
    Calls Tryd.prog 24 #[.slice a n c, .int .i64 keep] w fun e w' => e = .returned (.int .i64 0) ∧ w = w' := by
  have h' : ¬ (40 : Int) < (n : Int) := by omega
  have hA := rAll a n c B l 0 1000000 w hl h (by omega)
  rw [ha] at hA
  have HA := Lib.hid hA; clear hA ha hl h
  go_enter Tryd.func24, Tryd.ntmps24
  go_wp2_with (first
    | (go_at_call 39; refine HA.out.mono ?_; rintro e w' ⟨rfl, rfl⟩)
    | (go_at_call 40; refine (kin_yes _ _ _ _ (by omega) (by omega)).mono ?_; rintro e w' ⟨rfl, rfl⟩))
  go_ret
  exact ⟨rfl, rfl⟩
theorem kKeys_range (a : Option Addr) (n c B : Nat) (l : List Int) (keep : Int) (w : World) (hl : l.length = n) (h : IntsIn w B a l) (hn : n ≤ 40) (hk : allB l 0 1000000 = false ∨ keep < 1 ∨ 8 < keep) :
    Calls Tryd.prog 24 #[.slice a n c, .int .i64 keep] w fun e w' => e = .returned (.int .i64 1) ∧ w = w' := by
  have h' : ¬ (40 : Int) < (n : Int) := by omega
  have hA := rAll a n c B l 0 1000000 w hl h (by omega)
  obtain ⟨q, hq⟩ : ∃ q, q = allB l 0 1000000 := ⟨_, rfl⟩
  rw [← hq] at hA hk
  have HA := Lib.hid hA; clear hA hq hl h
  cases q
  · go_enter Tryd.func24, Tryd.ntmps24
    go_wp2_with (go_at_call 39; refine HA.out.mono ?_; rintro e w' ⟨rfl, rfl⟩)
    go_ret
    exact ⟨rfl, rfl⟩
  · have hk' : keep < 1 ∨ 8 < keep := by rcases hk with h | h; · cases h
                                         · exact h
    clear hk
    go_enter Tryd.func24, Tryd.ntmps24
    go_wp2_with (first
      | (go_at_call 39; refine HA.out.mono ?_; rintro e w' ⟨rfl, rfl⟩)
      | (go_at_call 40; refine (kin_no _ _ _ _ hk').mono ?_; rintro e w' ⟨rfl, rfl⟩))
    go_ret
    exact ⟨rfl, rfl⟩
theorem KAt.below {w w' : World} {b : Nat} {v : Value} {L : List (Int × Int)} (h : KAt w b v L) (hb : Below w.heap.size w w') : KAt w' b v L :=
  h.keepF (F := []) (Keep.of_below hb (Nat.le_refl _)) (by simp)
theorem IntsIn.on {w w' : World} {a : Option Addr} {l : List Int} (h : IntsIn w w.heap.size a l) (hb : Below w.heap.size w w') : IntsIn w' w'.heap.size a l := (h.below hb).more hb.size
/-- Two alike lists, wherever they lie. -/
theorem kepts_at (v u : Value) (b b' : Nat) (L : List (Int × Int)) (w : World) (h : KAt w b v L) (h' : KAt w b' u L) (hw : 0 < w.heap.size) (hn : L.length ≤ 1000) :
    Calls Tryd.prog 28 #[v, u] w fun e w' => e = .returned (.bool true) ∧ Below w.heap.size w w' := by
  obtain ⟨a1, g1, c1, rfl, q1, q2, q3, _⟩ := h.view 0 hw
  obtain ⟨a2, g2, c2, rfl, p1, p2, p3, _⟩ := h'.view 0 hw
  refine (kepts_same a1 a2 g1 g2 L.length c1 c2 L w rfl q1 p1 q2 p2 q3 p3 hn).mono ?_
  rintro e w' ⟨rfl, hk⟩
  exact ⟨rfl, hk.below (Nat.le_refl _) (by simp)⟩
end Go.Proofs.YtnpokcjdnlmheaaDoor
