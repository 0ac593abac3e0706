/-
  The reference's Hash, Counted, by their contracts.
-/
import Derived.Test.YtnpokcjdnlmheaaDoorHash
import Derived.Test.YtnpokcjdnlmheaaDoorSketchLawD
import Derived.Deep.QuietTactic
import Derived.BigQuiet
namespace Go.Proofs.YtnpokcjdnlmheaaDoor
open Go.RowKit

set_option maxRecDepth 100000 in
theorem rhash_0 (key : Int) (m : Nat) (w : World) (h1 : 0 ≤ key) (h2 : key ≤ 1000000) (h3 : 1 ≤ (m : Int)) (h4 : (m : Int) ≤ 128) :
    Calls Tryd.prog 13 #[.int .i64 key, .int .i64 0, .int .i64 m] w fun e w' => e = .returned (.int .i64 (hashN key 0 m : Nat)) ∧ Below w.heap.size w w' := by
  obtain ⟨q1, q2⟩ := quot_bd key m h1 h2
  have HN := Lib.hid (hashN_int key 0 m (by omega))
  go_enter Tryd.func13, Tryd.ntmps13
  go_wp2
  go_ret
  exact ⟨ret_int (by rw [HN.out]; simp [hashA, hashB]), (((Below.refl _ w).alloc (Nat.le_refl _) _).alloc (by simp) _)⟩
set_option maxRecDepth 100000 in
theorem rhash_1 (key : Int) (m : Nat) (w : World) (h1 : 0 ≤ key) (h2 : key ≤ 1000000) (h3 : 1 ≤ (m : Int)) (h4 : (m : Int) ≤ 128) :
    Calls Tryd.prog 13 #[.int .i64 key, .int .i64 1, .int .i64 m] w fun e w' => e = .returned (.int .i64 (hashN key 1 m : Nat)) ∧ Below w.heap.size w w' := by
  obtain ⟨q1, q2⟩ := quot_bd key m h1 h2
  have HN := Lib.hid (hashN_int key 1 m (by omega))
  go_enter Tryd.func13, Tryd.ntmps13
  go_wp2
  go_ret
  exact ⟨ret_int (by rw [HN.out]; simp [hashA, hashB]), (((Below.refl _ w).alloc (Nat.le_refl _) _).alloc (by simp) _)⟩
set_option maxRecDepth 100000 in
theorem rhash_2 (key : Int) (m : Nat) (w : World) (h1 : 0 ≤ key) (h2 : key ≤ 1000000) (h3 : 1 ≤ (m : Int)) (h4 : (m : Int) ≤ 128) :
    Calls Tryd.prog 13 #[.int .i64 key, .int .i64 2, .int .i64 m] w fun e w' => e = .returned (.int .i64 (hashN key 2 m : Nat)) ∧ Below w.heap.size w w' := by
  obtain ⟨q1, q2⟩ := quot_bd key m h1 h2
  have HN := Lib.hid (hashN_int key 2 m (by omega))
  go_enter Tryd.func13, Tryd.ntmps13
  go_wp2
  go_ret
  exact ⟨ret_int (by rw [HN.out]; simp [hashA, hashB]), (((Below.refl _ w).alloc (Nat.le_refl _) _).alloc (by simp) _)⟩
set_option maxRecDepth 100000 in
theorem rhash_3 (key : Int) (m : Nat) (w : World) (h1 : 0 ≤ key) (h2 : key ≤ 1000000) (h3 : 1 ≤ (m : Int)) (h4 : (m : Int) ≤ 128) :
    Calls Tryd.prog 13 #[.int .i64 key, .int .i64 3, .int .i64 m] w fun e w' => e = .returned (.int .i64 (hashN key 3 m : Nat)) ∧ Below w.heap.size w w' := by
  obtain ⟨q1, q2⟩ := quot_bd key m h1 h2
  have HN := Lib.hid (hashN_int key 3 m (by omega))
  go_enter Tryd.func13, Tryd.ntmps13
  go_wp2
  go_ret
  exact ⟨ret_int (by rw [HN.out]; simp [hashA, hashB]), (((Below.refl _ w).alloc (Nat.le_refl _) _).alloc (by simp) _)⟩
theorem rhash_any (key : Int) (k m : Nat) (w : World) (hk : k < 4) (h1 : 0 ≤ key) (h2 : key ≤ 1000000) (h3 : 1 ≤ (m : Int)) (h4 : (m : Int) ≤ 128) :
    Calls Tryd.prog 13 #[.int .i64 key, .int .i64 k, .int .i64 m] w fun e w' => e = .returned (.int .i64 (hashN key k m : Nat)) ∧ Below w.heap.size w w' := by
  match k, hk with
  | 0, _ => exact rhash_0 key m w h1 h2 h3 h4
  | 1, _ => exact rhash_1 key m w h1 h2 h3 h4
  | 2, _ => exact rhash_2 key m w h1 h2 h3 h4
  | 3, _ => exact rhash_3 key m w h1 h2 h3 h4

/-- What was added in all at a counter. -/
def cntd (keys many : List Int) (r width at_ : Nat) : Int := ((keys.zip many).map fun x => if hashN x.1 r width = at_ then x.2 else 0).sum
theorem cntd_snoc (keys many : List Int) (key n : Int) (r width at_ : Nat) (h : keys.length = many.length) : cntd (keys ++ [key]) (many ++ [n]) r width at_ = cntd keys many r width at_ + if hashN key r width = at_ then n else 0 := by
  unfold cntd
  rw [List.zip_append h, List.map_append, List.sum_append]
  simp
theorem cntd_take (keys many : List Int) (r width at_ k : Nat) {x y : Int} (hx : keys[k]? = some x) (hy : many[k]? = some y) : cntd (keys.take (k + 1)) (many.take (k + 1)) r width at_ = cntd (keys.take k) (many.take k) r width at_ + if hashN x r width = at_ then y else 0 := by
  have h1 := (List.getElem?_eq_some_iff.1 hx).1
  have h2 := (List.getElem?_eq_some_iff.1 hy).1
  rw [List.take_add_one, List.take_add_one, hx, hy]
  exact cntd_snoc _ _ _ _ _ _ _ (by simp; omega)
theorem cntd_bd (keys many : List Int) (r width at_ : Nat) (h : ∀ y ∈ many, 0 ≤ y ∧ y ≤ 1000) : 0 ≤ cntd keys many r width at_ ∧ cntd keys many r width at_ ≤ 1000 * keys.length := by
  unfold cntd
  induction keys generalizing many with
  | nil => simp
  | cons x ks ih =>
    cases many with
    | nil => simp; omega
    | cons y ms =>
      have hy := h y (by simp)
      have := ih ms (fun z hz => h z (by simp [hz]))
      simp only [List.zip_cons_cons, List.map_cons, List.sum_cons, List.length_cons]
      split <;> omega

set_option maxHeartbeats 1000000 in
set_option maxRecDepth 100000 in
theorem counted_any (a a' : Option Addr) (c c' n r width at_ B : Nat) (keys many : List Int) (w : World) (hB : B ≤ w.heap.size) (hl : keys.length = n) (hl2 : many.length = n) (h : IntsIn w B a keys) (h' : IntsIn w B a' many) (hn : n ≤ 60)
    (hr : r < 4) (hk : ∀ x ∈ keys, 0 ≤ x ∧ x ≤ 1000000) (hm : ∀ y ∈ many, 0 ≤ y ∧ y ≤ 1000) (h3 : 1 ≤ (width : Int)) (h4 : (width : Int) ≤ 16) :
    Calls Tryd.prog 12 #[.slice a n c, .slice a' n c', .int .i64 r, .int .i64 width, .int .i64 at_] w fun e w' => e = .returned (.int .i64 (cntd keys many r width at_)) ∧ Below w.heap.size w w' := by
  have HK := Lib.hid hk; have HM := Lib.hid hm; have HI := Lib.hid h; have HI' := Lib.hid h'
  clear hk hm h h'
  go_enter Tryd.func12, Tryd.ntmps12
  go_wp2
  go_loopw [11, 12] (fun t i wr => ∃ k : Nat, k ≤ n ∧ i = .int .i64 k ∧ t = .int .i64 (cntd (keys.take k) (many.take k) r width at_) ∧ Below w.heap.size w wr) (fun _ i _ => n - (intOf i).toNat)
  case atStart => exact ⟨0, Nat.zero_le _, rfl, rfl, Below.refl _ _⟩
  case round =>
    obtain ⟨k, hk, rfl, rfl, hbel⟩ := hrel
    have HB := Lib.hid hbel; clear hbel
    by_cases hlt : k < n
    · obtain ⟨b, off, rfl, hb, hc⟩ := HI.out.at_ (by omega : k < keys.length)
      obtain ⟨b', off', rfl, hb', hc'⟩ := HI'.out.at_ (by omega : k < many.length)
      have hst := cntd_take keys many r width at_ k (List.getElem?_eq_getElem (by omega)) (List.getElem?_eq_getElem (by omega))
      have hbd := cntd_bd (keys.take k) (many.take k) r width at_ (fun y hy => HM.out y (List.mem_of_mem_take hy))
      have hx1 := HK.out keys[k] (List.getElem_mem _)
      have hy1 := HM.out many[k] (List.getElem_mem _)
      have hlk : (keys.take k).length = k := by rw [List.length_take]; omega
      rw [hlk] at hbd
      obtain ⟨x, hx⟩ : ∃ x, x = keys[k]'(by omega) := ⟨_, rfl⟩
      obtain ⟨y, hy⟩ : ∃ y, y = many[k]'(by omega) := ⟨_, rfl⟩
      rw [← hx] at hc hst hx1
      rw [← hy] at hc' hst hy1
      obtain ⟨t, ht⟩ : ∃ t, t = cntd (keys.take k) (many.take k) r width at_ := ⟨_, rfl⟩
      rw [← ht] at hst hbd ⊢
      have HST := Lib.hid hst
      obtain ⟨hx1, hx2⟩ := hx1
      obtain ⟨hy1, hy2⟩ := hy1
      obtain ⟨ht1, ht2⟩ := hbd
      have ht3 : t ≤ 60000 := by omega
      have hc1 := (HB.out.cell (p := ⟨b, off + k, none⟩) (Nat.lt_of_lt_of_le hb hB)).trans hc
      clear hx hy ht hst hc ht2
      have hk0 : (0 : Int) ≤ (k : Int) := by omega
      have hkn : (k : Int) < (n : Int) := by omega
      go_wp2_with fail
      refine (rhash_any x r width _ hr hx1 hx2 h3 (by omega)).mono ?_
      rintro e w1 ⟨rfl, hb1⟩
      have HB1 := Lib.hid (HB.out.trans (hb1.mono HB.out.size))
      have hc2 := (HB1.out.cell (p := ⟨b', off' + k, none⟩) (Nat.lt_of_lt_of_le hb' hB)).trans hc'
      clear hb1 hc'
      obtain ⟨q, hq⟩ : ∃ q, q = hashN x r width := ⟨_, rfl⟩
      rw [← hq] at HST ⊢
      clear hq
      by_cases e : q = at_
      · have e' : ((q : Int) == (at_ : Int)) = true := by rw [e]; simp
        go_wp2
        go_roundw
        case rel => exact ⟨k + 1, hlt, by go_num, congrArg (Value.int .i64) (by rw [HST.out, if_pos e]), HB1.out⟩
        case measure => simp [intOf]; omega
      · have e' : ((q : Int) == (at_ : Int)) = false := beq_eq_false_iff_ne.2 (by omega)
        go_wp2
        go_roundw
        case rel => exact ⟨k + 1, hlt, by go_num, congrArg (Value.int .i64) (by rw [HST.out, if_neg e]; omega), HB1.out⟩
        case measure => simp [intOf]; omega
    · obtain rfl : k = n := by omega
      go_wp2
      go_ret
      exact ⟨ret_int (by rw [List.take_of_length_le (by omega), List.take_of_length_le (by omega)]), HB.out⟩
end Go.Proofs.YtnpokcjdnlmheaaDoor
