/-
  The reference's Bits, and Has of a list; bloom.Hash, by their contracts.
-/
import Derived.Test.YtnpokcjdnlmheaaDoorSketchRef
import Derived.Test.YtnpokcjdnlmheaaDoorBloom
import Derived.Maps.AppendAt
namespace Go.Proofs.YtnpokcjdnlmheaaDoor
open Go.RowKit

def bitsOf (key : Int) (n h : Nat) : List Int := (List.range h).map fun i => ((hashN key i n : Nat) : Int)
theorem bitsOf_len (key : Int) (n h : Nat) : (bitsOf key n h).length = h := by simp [bitsOf]
theorem bitsOf_succ (key : Int) (n h : Nat) : bitsOf key n (h + 1) = bitsOf key n h ++ [((hashN key h n : Nat) : Int)] := by simp [bitsOf, List.range_succ]
def BitsRel (w : World) (key : Int) (n h : Nat) (v i : Value) (wr : World) : Prop :=
  ∃ (k : Nat) (xv : Value), k ≤ h ∧ i = .int .i64 k ∧ xv = v ∧ OwnInts wr w.heap.size xv (bitsOf key n k) ∧ Below w.heap.size w wr

set_option maxHeartbeats 1000000 in
set_option maxRecDepth 100000 in
theorem rbits_any (key : Int) (n h : Nat) (w : World) (h1 : 0 ≤ key) (h2 : key ≤ 1000000) (h3 : 1 ≤ (n : Int)) (h4 : (n : Int) ≤ 128) (hh : h ≤ 4) :
    Calls Tryd.prog 17 #[.int .i64 key, .int .i64 n, .int .i64 h] w fun e w' => ∃ v, e = .returned v ∧ OwnInts w' w.heap.size v (bitsOf key n h) ∧ Below w.heap.size w w' := by
  go_enter Tryd.func17, Tryd.ntmps17
  go_wp2
  go_loopw [7, 8] (fun v i wr => BitsRel w key n h v i wr) (fun _ i _ => h - (intOf i).toNat)
  case atStart => exact ⟨0, _, Nat.zero_le _, rfl, rfl, OwnInts.nil _ _, Below.refl _ _⟩
  case round =>
    obtain ⟨k, v, hk, rfl, rfl, ho, hbel⟩ := hrel
    have HO := Lib.hid ho; have HB := Lib.hid hbel; clear ho hbel
    by_cases hlt : k < h
    · have hki : (k : Int) < (h : Int) := by omega
      have hk0 : (0 : Int) ≤ (k : Int) := by omega
      go_wp2_with fail
      refine (rhash_any key k n _ (by omega) h1 h2 h3 h4).mono ?_
      rintro e w4 ⟨rfl, hb4⟩
      have HO4 : Hid (∀ w' : World, Keep [] w4 w' → OwnInts w' w.heap.size v (bitsOf key n k)) := Lib.hid fun w' hk => HO.out.keep fun g hg => ((Keep.of_below (F := []) hb4 (Nat.le_refl _)).trans hk).block g (World.ownsRow.lt HO.out g hg).2 (by simp)
      have HB4 := Lib.hid (HB.out.trans (hb4.mono HB.out.size))
      have hbl : (bitsOf key n k).length = k := bitsOf_len _ _ _
      have HGE : Hid (∀ g, v.ownBlock = some g → w.heap.size ≤ g) := Lib.hid fun g hg => (World.ownsRow.lt HO.out g hg).1
      clear hb4
      obtain ⟨q, hq⟩ : ∃ q, q = hashN key k n := ⟨_, rfl⟩
      have HQ := Lib.hid hq
      rw [← hq]
      clear hq
      obtain ⟨i0, hi, hz0, hz1, hz2⟩ := info_parts info_int
      go_wp2_with (at_builtin; refine wpList_append_own_at _ rfl _ _ 30 rfl w.heap.size 3 i0 (.int .i64 0) 1 8 Tryd.underlying30 hi hz0 hz1 hz2 rfl (by decide) _ _ _ rfl (HO4.out _ ((Keep.refl _ _).alloc _)) ⟨w4.heap.size, 0, none⟩ 1 1 [.int .i64 (q : Int)] rfl rfl (by intro p u hp; match p, hp with | 0, hp => simp at hp; subst hp; simp [Addr.add]) (by intro u hu; simp at hu; subst hu; rfl) (by unfold maxLen; omega) (by omega) (by have := HB4.out.size; simp; omega) ?_; intro v' w5 hown' hgrow _ _; have hob : OwnInts w5 w.heap.size v' (bitsOf key n k ++ [(q : Int)]) := (by unfold OwnInts; simpa [ints] using hown'); have hb5 : Below w.heap.size w w5 := (HB4.out.alloc HB4.out.size _).grown hgrow (by have := HB4.out.size; simp; omega) HGE.out; have HOB := Lib.hid hob; have HB5 := Lib.hid hb5; clear hob hown' hgrow hb5)
      go_roundw
      case rel => exact ⟨k + 1, _, hlt, by simp, rfl, by rw [bitsOf_succ, ← HQ.out]; exact HOB.out, HB5.out⟩
      case measure => simp [intOf]; omega
    · obtain rfl : k = h := by omega
      go_wp2
      go_ret
      exact ⟨_, rfl, HO.out, HB.out⟩

set_option maxRecDepth 100000 in
theorem rhas_any (a : Option Addr) (n c B : Nat) (x : Int) (xs : List Int) (w : World) (hl : xs.length = n) (h : IntsIn w B a xs) (hn : n ≤ 1000) :
    Calls Tryd.prog 19 #[.slice a n c, .int .i64 x] w fun e w' => e = .returned (.bool (decide (x ∈ xs))) ∧ w = w' := by
  have HY : Hid (∀ k : Nat, xs[k]? = some x → decide (x ∈ xs) = true) := Lib.hid fun k hk => decide_eq_true (List.mem_of_getElem? hk)
  have HNO : Hid ((∀ j, j < n → xs[j]? ≠ some x) → decide (x ∈ xs) = false) := Lib.hid fun h1 => decide_eq_false fun hm => by
    obtain ⟨j, hj, e⟩ := List.getElem_of_mem hm
    exact h1 j (by omega) (by rw [List.getElem?_eq_getElem hj, e])
  go_enter Tryd.func19, Tryd.ntmps19
  go_wp2
  go_loop [5] (fun i => ∃ k : Nat, k ≤ n ∧ i = .int .i64 k ∧ ∀ j, j < k → xs[j]? ≠ some x) (fun i => n - (intOf i).toNat)
  case atStart => exact ⟨0, Nat.zero_le _, rfl, fun j hj => absurd hj (Nat.not_lt_zero _)⟩
  case round =>
    obtain ⟨k, hk, rfl, hbef⟩ := hrel
    have HB := Lib.hid hbef; clear hbef
    by_cases hlt : k < n
    · obtain ⟨b, off, rfl, hb, hc1⟩ := h.at_ (by omega : k < xs.length)
      obtain ⟨y, hy⟩ : ∃ y, y = xs[k]'(by omega) := ⟨_, rfl⟩
      have HX : Hid (xs[k]? = some y) := Lib.hid (by rw [hy]; exact List.getElem?_eq_getElem _)
      rw [← hy] at hc1
      clear hy
      have hk0 : (0 : Int) ≤ (k : Int) := by omega
      have hkn : (k : Int) < (n : Int) := by omega
      by_cases e : y = x
      · subst e
        go_wp2
        go_ret
        exact ⟨ret_eq (show Value.bool true = .bool (decide (y ∈ xs)) by rw [HY.out k HX.out]), rfl⟩
      · have e' : (y == x) = false := beq_eq_false_iff_ne.2 e
        go_wp2
        go_round
        case rel => exact ⟨k + 1, hlt, by go_num, fun j hj => by
          by_cases ej : j = k
          · subst ej; rw [HX.out]; intro h2; injection h2 with h2; exact e h2
          · exact HB.out j (by omega)⟩
        case measure => simp [intOf]; omega
    · obtain rfl : k = n := by omega
      go_wp2
      go_ret
      exact ⟨ret_eq (show Value.bool false = .bool (decide (x ∈ xs)) by rw [HNO.out HB.out]), rfl⟩
end Go.Proofs.YtnpokcjdnlmheaaDoor
