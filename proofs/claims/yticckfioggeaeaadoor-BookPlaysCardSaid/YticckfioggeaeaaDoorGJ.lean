/-
  Several texts in one (merged by wip/mergefix.py): BookRef1, BookRef2.
-/
import Derived.Test.YticckfioggeaeaaDoorGA
import Derived.Test.YticckfioggeaeaaDoorBookParse
import Derived.Test.YticckfioggeaeaaDoorBookDown
set_option linter.unusedVariables false
set_option linter.unusedSimpArgs false
set_option linter.unnecessarySimpa false
/-
  The reference's Place, Put (at the head), less: over lists that are never written again; by their contracts.
-/
namespace Go.Proofs.YticckfioggeaeaaDoor
open Go.RowKit

def plOf (l : List Int) (x : Int) : Int := if l.findIdx (· == x) < l.length then (l.findIdx (· == x) : Nat) else -1
theorem plOf_hit {l : List Int} {x : Int} {i : Nat} (hi : i < l.length) (h1 : l[i] = x) (h2 : ∀ j (hj : j < l.length), j < i → l[j] ≠ x) : plOf l x = i := by
  have e : l.findIdx (· == x) = i := by
    rw [List.findIdx_eq hi]
    exact ⟨by simp [h1], fun j hj => by simpa using h2 j (by omega) hj⟩
  unfold plOf; rw [e, if_pos hi]
theorem plOf_none {l : List Int} {x : Int} (h : ∀ y ∈ l, y ≠ x) : plOf l x = -1 := by
  have e : l.findIdx (· == x) = l.length := by
    rw [List.findIdx_eq_length]
    exact fun y hy => by simpa using h y hy
  unfold plOf; rw [e, if_neg (Nat.lt_irrefl _)]

theorem rPlace (a : Option Addr) (n c B : Nat) (l : List Int) (x : Int) (w : World) (hl : l.length = n) (h : IntsIn w B a l) (hn : n ≤ 100000000000) :
    Calls Tryd.prog 29 #[.slice a n c, .int .i64 x] w fun e w' => e = .returned (.int .i64 (plOf l x)) ∧ w = w' := by
  have HL := Lib.hid hl; clear hl
  have hn2 : (n : Int) ≤ 20000000000000 := by omega
  go_enter Tryd.func29, Tryd.ntmps29
  go_wp2
  go_loop [5] (fun i => ∃ k : Nat, k ≤ n ∧ i = .int .i64 k ∧ ∀ j (hj : j < l.length), j < k → l[j] ≠ x) (fun i => n - (intOf i).toNat)
  case atStart => exact ⟨0, Nat.zero_le _, rfl, fun j hj h => by omega⟩
  case round =>
    obtain ⟨k, hk, rfl, hbef⟩ := hrel
    have HB := Lib.hid hbef; clear hbef
    by_cases hlt : k < n
    · have hkL : k < l.length := by rw [HL.out]; exact hlt
      obtain ⟨b, off, rfl, _, hc⟩ := h.at_ hkL
      obtain ⟨y, hy⟩ : ∃ y, y = l[k] := ⟨_, rfl⟩
      rw [← hy] at hc
      have HY := Lib.hid hy
      clear hy
      have hki : (k : Int) < (n : Int) := by omega
      have hk0 : (0 : Int) ≤ (k : Int) := by omega
      by_cases e : y = x
      · have HP : Hid (plOf l x = k) := Lib.hid (plOf_hit hkL (by rw [← HY.out]; exact e) HB.out)
        have e' : (y == x) = true := by rw [e]; simp
        clear e
        go_wp2
        go_ret
        exact ⟨ret_int HP.out.symm, rfl⟩
      · have e' : (y == x) = false := beq_eq_false_iff_ne.2 e
        go_wp2
        go_round
        case rel => exact ⟨k + 1, hlt, by go_num, fun j hj hjk => by
          by_cases ej : j = k
          · subst ej; rw [← HY.out]; exact e
          · exact HB.out j hj (by omega)⟩
        case measure => simp [intOf]; omega
    · obtain rfl : k = n := by omega
      have HP : Hid (plOf l x = -1) := Lib.hid (plOf_none fun y hy => by
        obtain ⟨j, hj, rfl⟩ := List.getElem_of_mem hy
        exact HB.out j hj (by rw [← HL.out]; exact hj))
      go_wp2
      go_ret
      exact ⟨ret_int HP.out.symm, rfl⟩

/-- A value of a list that is never written again. -/
theorem own_src {w : World} {base : Nat} {g cap : Nat} {l : List Int} {n : Nat} (h : OwnInts w base (.slice (some ⟨g, 0, none⟩) n cap) l) : n = l.length ∧ n ≤ cap ∧ cap ≤ maxLen ∧ base ≤ g ∧ g < w.heap.size ∧
    (∀ i, i ≤ n → Src w (some ⟨g, 0, none⟩) i cap (ints (l.take i))) ∧
    (∀ i, i ≤ n → Src w (if cap = i then some ⟨g, 0, none⟩ else some ⟨g, i, none⟩) (n - i) (cap - i) (ints (l.drop i))) := by
  obtain ⟨hl, ⟨e, hn⟩ | ⟨g', cap', cur, e, hb, hh, hc, hm, hs, ht⟩⟩ := h
  · cases e
  · injection e with e1 e2 e3
    injection e1 with e1
    injection e1 with e1
    subst e1 e2 e3
    have hlt : g < w.heap.size := by
      rcases Nat.lt_or_ge g w.heap.size with h | h
      · exact h
      · rw [Array.getElem?_eq_none h] at hh; cases hh
    have hget : ∀ (i : Nat) (x : Int), l[i]? = some x → w.cell? ⟨g, i, none⟩ = some (.int .i64 x) := fun i x hx => by
      have hi : i < l.length := (List.getElem?_eq_some_iff.1 hx).1
      have h2 : (cur.toList.take (l.length * 1))[i]? = (ints l)[i]? := by rw [ht]
      rw [List.getElem?_take_of_lt (by omega), ints_get hx] at h2
      have hb : Blk w g 3 cur.toList := by unfold Blk; simpa using hh
      exact hb.cell_ h2
    refine ⟨rfl, hc, hm, hb, hlt, fun i hi => ⟨by simp [ints]; omega, .inr ⟨_, rfl, fun j u hu => ?_⟩⟩, fun i hi => ⟨by simp [ints], ?_⟩⟩
    · simp only [ints, List.getElem?_map, Option.map_eq_some_iff] at hu
      obtain ⟨x, hx, rfl⟩ := hu
      rw [add_addr, Nat.zero_add]
      have hj := (List.getElem?_eq_some_iff.1 hx).1
      rw [List.length_take] at hj
      rw [List.getElem?_take_of_lt (by omega)] at hx
      exact hget j x hx
    · by_cases e : cap = i
      · refine .inr ⟨⟨g, 0, none⟩, by rw [if_pos e], fun j u hu => ?_⟩
        have hj := (List.getElem?_eq_some_iff.1 hu).1
        rw [ints_len, List.length_drop] at hj
        omega
      · refine .inr ⟨⟨g, i, none⟩, by rw [if_neg e], fun j u hu => ?_⟩
        simp only [ints, List.getElem?_map, Option.map_eq_some_iff] at hu
        obtain ⟨x, hx, rfl⟩ := hu
        rw [add_addr]
        rw [List.getElem?_drop] at hx
        exact hget _ x hx
theorem Src.on {w w' : World} {a : Option Addr} {m c : Nat} {news : List Value} (h : Src w a m c news) (hk : ∀ b, b < w.heap.size → w'.heap[b]? = w.heap[b]?) : Src w' a m c news := by
  obtain ⟨hl, h | ⟨ad, e, hc⟩⟩ := h
  · exact ⟨hl, .inl h⟩
  · refine ⟨hl, .inr ⟨ad, e, fun j u hu => ?_⟩⟩
    have h1 := hc j u hu
    have h2 := World.block_lt_of_cell? w _ h1
    exact (World.cell?_of_block (w := w) (hk _ h2)).trans h1
def OutPost (w : World) (l : List Int) (e : Ending) (w' : World) : Prop := ∃ v, e = .returned v ∧ OwnInts w' w.heap.size v l ∧ Below w.heap.size w w'

set_option maxRecDepth 100000 in
theorem rLess (v : Value) (base i : Nat) (l : List Int) (w : World) (h : OwnInts w base v l) (hi : i < l.length) (hn : l.length ≤ 1000) :
    Calls Tryd.prog 25 #[v, .int .i64 i] w (OutPost w (l.eraseIdx i)) := by
  obtain ⟨i0, hi0, hz0, hz1, hz2⟩ := info_parts info_int
  obtain ⟨g, cap, rfl⟩ : ∃ g cap, v = .slice (some ⟨g, 0, none⟩) l.length cap := by
    obtain ⟨hl, ⟨rfl, hn⟩ | ⟨g', cap', cur, rfl, _⟩⟩ := h
    · omega
    · exact ⟨g', cap', rfl⟩
  obtain ⟨n, hn0⟩ : ∃ n, n = l.length := ⟨_, rfl⟩
  rw [← hn0] at h hi hn ⊢
  obtain ⟨-, hnc, hcm, -, hg, h1, h2⟩ := own_src h
  have HT := Lib.hid (h1 i (by omega)); have HD := Lib.hid (h2 (i + 1) (by omega))
  have HN := Lib.hid hn0
  have hcm2 : (cap : Int) ≤ 9223372036854775807 := by unfold maxLen at hcm; omega
  clear h1 h2 h hn0
  go_enter Tryd.func25, Tryd.ntmps25
  go_wp2_with (first
    | (at_builtin; refine wpList_append_src rfl (.tmp 6) (.tmp 9) 29 rfl w.heap.size 3 i0 (.int .i64 0) 8 Tryd.underlying29 hi0 hz0 hz1 hz2 rfl (.slice none 0 0) 0 [] rfl (World.ownsRow_nil _ _ _ _) (some ⟨g, 0, none⟩) i cap (ints (l.take i)) rfl HT.out (ints_one _) (by unfold maxLen; omega) (by omega) (Nat.le_refl _) ?_; intro v1 w1 hown1 hgrow1; have HB1 := Lib.hid ((Below.refl w.heap.size w).grown hgrow1 (Nat.le_refl _) (by simp [Value.ownBlock])); have HO1 := Lib.hid hown1; clear hown1 hgrow1)
    | (at_builtin; refine wpList_append_src rfl (.tmp 11) (.tmp 15) 29 rfl w.heap.size 3 i0 (.int .i64 0) 8 Tryd.underlying29 hi0 hz0 hz1 hz2 rfl v1 (0 + i) ([] ++ ints (l.take i)) rfl HO1.out (if cap = i + 1 then some ⟨g, 0, none⟩ else some ⟨g, i + 1, none⟩) (n - (i + 1)) (cap - (i + 1)) (ints (l.drop (i + 1))) rfl (HD.out.on HB1.out.block) (ints_one _) (by unfold maxLen; omega) (by omega) HB1.out.size ?_; intro v2 w2 hown2 hgrow2; have HB2 := Lib.hid (HB1.out.grown hgrow2 HB1.out.size (fun z hz => (World.ownsRow.lt HO1.out z hz).1)); have HO2 := Lib.hid hown2; clear hown2 hgrow2))
  all_goals
    go_ret
    refine ⟨_, rfl, ?_, HB2.out⟩
    have := HO2.out
    unfold OwnInts
    rw [List.eraseIdx_eq_take_drop_succ, List.length_append, List.length_take, List.length_drop, ← HN.out]
    rw [show min i n + (n - (i + 1)) = 0 + i + (n - (i + 1)) by omega, show ints (l.take i ++ l.drop (i + 1)) = [] ++ ints (l.take i) ++ ints (l.drop (i + 1)) by simp [ints]]
    exact this

theorem zero_src {w : World} {base : Nat} {v : Value} {l : List Int} (h : OwnInts w base v l) : ∃ a c, v = .slice a l.length c ∧ (a = none → c = 0) ∧ l.length ≤ c ∧ c ≤ maxLen ∧ (∀ g, v.ownBlock = some g → base ≤ g ∧ g < w.heap.size) ∧ Src w a 0 c [] ∧ Src w a l.length c (ints l) ∧ (a = none ∨ ∃ g, a = some ⟨g, 0, none⟩) := by
  obtain ⟨hl, ⟨rfl, hn⟩ | ⟨g, cap, cur, rfl, hb, hh, hc, hm, hs, ht⟩⟩ := h
  · have : l = [] := List.length_eq_zero_iff.1 hn
    subst this
    exact ⟨none, 0, rfl, fun _ => rfl, Nat.le_refl _, by unfold maxLen; omega, by simp [Value.ownBlock], ⟨rfl, .inl ⟨rfl, rfl, rfl⟩⟩, ⟨rfl, .inl ⟨rfl, rfl, rfl⟩⟩, .inl rfl⟩
  · have h : OwnInts w base (.slice (some ⟨g, 0, none⟩) l.length cap) l := ⟨hl, .inr ⟨g, cap, cur, rfl, hb, hh, hc, hm, hs, ht⟩⟩
    obtain ⟨_, _, _, h1, h2, h3, _⟩ := own_src h
    have h0 := h3 0 (Nat.zero_le _)
    have h4 := h3 l.length (Nat.le_refl _)
    rw [List.take_length] at h4
    exact ⟨_, cap, rfl, by simp, hc, hm, fun g' e => by simp [Value.ownBlock] at e; subst e; exact ⟨h1, h2⟩, h0, h4, .inr ⟨g, rfl⟩⟩

set_option maxRecDepth 100000 in
theorem rPut0 (v : Value) (base : Nat) (x : Int) (l : List Int) (w : World) (h : OwnInts w base v l) (hn : l.length ≤ 1000) :
    Calls Tryd.prog 41 #[v, .int .i64 0, .int .i64 x] w (OutPost w (x :: l)) := by
  obtain ⟨i0, hi0, hz0, hz1, hz2⟩ := info_parts info_int
  obtain ⟨a, c, rfl, hac, hnc, hcm, _, hs0, hsn, ha⟩ := zero_src h
  obtain ⟨n, hn0⟩ : ∃ n, n = l.length := ⟨_, rfl⟩
  rw [← hn0] at hn hnc hsn ⊢
  have HS0 := Lib.hid hs0; have HSN := Lib.hid hsn; have HN := Lib.hid hn0
  have hcm2 : (c : Int) ≤ 9223372036854775807 := by unfold maxLen at hcm; omega
  clear hs0 hsn hn0 h
  have HC := Lib.hid hac
  clear hac
  rcases ha with rfl | ⟨g, rfl⟩
  · obtain rfl := HC.out rfl
    obtain rfl : n = 0 := by omega
    go_enter Tryd.func41, Tryd.ntmps41
    go_wp2_with (first
      | (at_builtin; refine wpList_append_src rfl (.tmp 17) (.tmp 20) 29 rfl w.heap.size 3 i0 (.int .i64 0) 8 Tryd.underlying29 hi0 hz0 hz1 hz2 rfl v2 1 [.int .i64 x] rfl HO2.out none 0 0 (ints l) rfl (HSN.out.on HB2.out.block) (ints_one _) (by unfold maxLen; omega) (by omega) HB2.out.size ?_; intro v3 w3 hown3 hgrow3; have HB3 := Lib.hid (HB2.out.grown hgrow3 HB2.out.size (fun z hz => (World.ownsRow.lt HO2.out z hz).1)); have HO3 := Lib.hid hown3; clear hown3 hgrow3)
      | (at_builtin; refine wpList_append_src rfl (.tmp 13) (.tmp 15) 29 rfl w.heap.size 3 i0 (.int .i64 0) 8 Tryd.underlying29 hi0 hz0 hz1 hz2 rfl v1 0 [] rfl (HO1.out.alloc _) (some ⟨w1.heap.size, 0, none⟩) 1 1 [.int .i64 x] rfl ⟨rfl, .inr ⟨_, rfl, by intro p u hp; match p, hp with | 0, hp => simp at hp; subst hp; simp [Addr.add]⟩⟩ (by intro u hu; simp at hu; subst hu; rfl) (by unfold maxLen; omega) (by omega) (by simp; omega) ?_; intro v2 w2 hown2 hgrow2; have HB2 := Lib.hid ((HB1.out.alloc hsz1 _).grown hgrow2 (by simp; omega) (fun z hz => (World.ownsRow.lt HO1.out z hz).1)); have HO2 := Lib.hid (by simpa using hown2 : w2.ownsRow w.heap.size 3 1 v2 1 [.int .i64 x]); clear hown2 hgrow2)
      | (at_builtin; refine wpList_append_src rfl (.tmp 8) (.tmp 11) 29 rfl w.heap.size 3 i0 (.int .i64 0) 8 Tryd.underlying29 hi0 hz0 hz1 hz2 rfl (.slice none 0 0) 0 [] rfl (World.ownsRow_nil _ _ _ _) none 0 0 [] rfl HS0.out (by simp) (by unfold maxLen; omega) (by omega) (Nat.le_refl _) ?_; intro v1 w1 hown1 hgrow1; have HB1 := Lib.hid ((Below.refl w.heap.size w).grown hgrow1 (Nat.le_refl _) (by simp [Value.ownBlock])); have HO1 := Lib.hid (by simpa using hown1 : w1.ownsRow w.heap.size 3 1 v1 0 []); have hsz1 := HB1.out.size; clear hown1 hgrow1))
    go_ret
    refine ⟨_, rfl, ?_, HB3.out⟩
    have := HO3.out
    unfold OwnInts
    rw [List.length_cons, ← HN.out, Nat.add_comm]
    simpa [ints] using this
  · by_cases e : c = 0
    · subst e
      obtain rfl : n = 0 := by omega
      go_enter Tryd.func41, Tryd.ntmps41
      go_wp2_with (first
        | (at_builtin; refine wpList_append_src rfl (.tmp 17) (.tmp 20) 29 rfl w.heap.size 3 i0 (.int .i64 0) 8 Tryd.underlying29 hi0 hz0 hz1 hz2 rfl v2 1 [.int .i64 x] rfl HO2.out (some ⟨g, 0, none⟩) 0 0 (ints l) rfl (HSN.out.on HB2.out.block) (ints_one _) (by unfold maxLen; omega) (by omega) HB2.out.size ?_; intro v3 w3 hown3 hgrow3; have HB3 := Lib.hid (HB2.out.grown hgrow3 HB2.out.size (fun z hz => (World.ownsRow.lt HO2.out z hz).1)); have HO3 := Lib.hid hown3; clear hown3 hgrow3)
        | (at_builtin; refine wpList_append_src rfl (.tmp 13) (.tmp 15) 29 rfl w.heap.size 3 i0 (.int .i64 0) 8 Tryd.underlying29 hi0 hz0 hz1 hz2 rfl v1 0 [] rfl (HO1.out.alloc _) (some ⟨w1.heap.size, 0, none⟩) 1 1 [.int .i64 x] rfl ⟨rfl, .inr ⟨_, rfl, by intro p u hp; match p, hp with | 0, hp => simp at hp; subst hp; simp [Addr.add]⟩⟩ (by intro u hu; simp at hu; subst hu; rfl) (by unfold maxLen; omega) (by omega) (by simp; omega) ?_; intro v2 w2 hown2 hgrow2; have HB2 := Lib.hid ((HB1.out.alloc hsz1 _).grown hgrow2 (by simp; omega) (fun z hz => (World.ownsRow.lt HO1.out z hz).1)); have HO2 := Lib.hid (by simpa using hown2 : w2.ownsRow w.heap.size 3 1 v2 1 [.int .i64 x]); clear hown2 hgrow2)
        | (at_builtin; refine wpList_append_src rfl (.tmp 8) (.tmp 11) 29 rfl w.heap.size 3 i0 (.int .i64 0) 8 Tryd.underlying29 hi0 hz0 hz1 hz2 rfl (.slice none 0 0) 0 [] rfl (World.ownsRow_nil _ _ _ _) (some ⟨g, 0, none⟩) 0 0 [] rfl HS0.out (by simp) (by unfold maxLen; omega) (by omega) (Nat.le_refl _) ?_; intro v1 w1 hown1 hgrow1; have HB1 := Lib.hid ((Below.refl w.heap.size w).grown hgrow1 (Nat.le_refl _) (by simp [Value.ownBlock])); have HO1 := Lib.hid (by simpa using hown1 : w1.ownsRow w.heap.size 3 1 v1 0 []); have hsz1 := HB1.out.size; clear hown1 hgrow1))
      go_ret
      refine ⟨_, rfl, ?_, HB3.out⟩
      have := HO3.out
      unfold OwnInts
      rw [List.length_cons, ← HN.out, Nat.add_comm]
      simpa [ints] using this
    · go_enter Tryd.func41, Tryd.ntmps41
      go_wp2_with (first
        | (at_builtin; refine wpList_append_src rfl (.tmp 17) (.tmp 20) 29 rfl w.heap.size 3 i0 (.int .i64 0) 8 Tryd.underlying29 hi0 hz0 hz1 hz2 rfl v2 1 [.int .i64 x] rfl HO2.out (some ⟨g, 0, none⟩) n c (ints l) rfl (HSN.out.on HB2.out.block) (ints_one _) (by unfold maxLen; omega) (by omega) HB2.out.size ?_; intro v3 w3 hown3 hgrow3; have HB3 := Lib.hid (HB2.out.grown hgrow3 HB2.out.size (fun z hz => (World.ownsRow.lt HO2.out z hz).1)); have HO3 := Lib.hid hown3; clear hown3 hgrow3)
        | (at_builtin; refine wpList_append_src rfl (.tmp 13) (.tmp 15) 29 rfl w.heap.size 3 i0 (.int .i64 0) 8 Tryd.underlying29 hi0 hz0 hz1 hz2 rfl v1 0 [] rfl (HO1.out.alloc _) (some ⟨w1.heap.size, 0, none⟩) 1 1 [.int .i64 x] rfl ⟨rfl, .inr ⟨_, rfl, by intro p u hp; match p, hp with | 0, hp => simp at hp; subst hp; simp [Addr.add]⟩⟩ (by intro u hu; simp at hu; subst hu; rfl) (by unfold maxLen; omega) (by omega) (by simp; omega) ?_; intro v2 w2 hown2 hgrow2; have HB2 := Lib.hid ((HB1.out.alloc hsz1 _).grown hgrow2 (by simp; omega) (fun z hz => (World.ownsRow.lt HO1.out z hz).1)); have HO2 := Lib.hid (by simpa using hown2 : w2.ownsRow w.heap.size 3 1 v2 1 [.int .i64 x]); clear hown2 hgrow2)
        | (at_builtin; refine wpList_append_src rfl (.tmp 8) (.tmp 11) 29 rfl w.heap.size 3 i0 (.int .i64 0) 8 Tryd.underlying29 hi0 hz0 hz1 hz2 rfl (.slice none 0 0) 0 [] rfl (World.ownsRow_nil _ _ _ _) (some ⟨g, 0, none⟩) 0 c [] rfl HS0.out (by simp) (by unfold maxLen; omega) (by omega) (Nat.le_refl _) ?_; intro v1 w1 hown1 hgrow1; have HB1 := Lib.hid ((Below.refl w.heap.size w).grown hgrow1 (Nat.le_refl _) (by simp [Value.ownBlock])); have HO1 := Lib.hid (by simpa using hown1 : w1.ownsRow w.heap.size 3 1 v1 0 []); have hsz1 := HB1.out.size; clear hown1 hgrow1))
      go_ret
      refine ⟨_, rfl, ?_, HB3.out⟩
      have := HO3.out
      unfold OwnInts
      rw [List.length_cons, ← HN.out, Nat.add_comm]
      simpa [ints] using this
end Go.Proofs.YticckfioggeaeaaDoor

/-
  The reference's Digits, Sum, by their contracts.
-/
namespace Go.Proofs.YticckfioggeaeaaDoor
open Go.RowKit

theorem digit_str (d : Nat) (h : d < 10) (w : World) : Calls Tryd.prog 28 #[.int .i64 d] w fun e w' => e = .returned (.string ⟨(Lib.decDigits d).toArray⟩) ∧ w = w' := by
  have hc : d = 0 ∨ d = 1 ∨ d = 2 ∨ d = 3 ∨ d = 4 ∨ d = 5 ∨ d = 6 ∨ d = 7 ∨ d = 8 ∨ d = 9 := by omega
  have HD : Hid (Lib.decDigits d = [UInt8.ofNat (48 + d)]) := Lib.hid (dec_small h)
  rcases hc with rfl | rfl | rfl | rfl | rfl | rfl | rfl | rfl | rfl | rfl
  all_goals
    clear h
    go_enter Tryd.func28, Tryd.ntmps28
    go_wp2
    go_ret
    exact ⟨by rw [HD.out, Lib.extract_eq]; rfl, rfl⟩
theorem digits_any (n : Nat) (h : n < 9223372036854775808) (w : World) : Calls Tryd.prog 28 #[.int .i64 n] w fun e w' => e = .returned (.string ⟨(Lib.decDigits n).toArray⟩) ∧ w = w' := by
  induction n using Nat.strongRecOn generalizing w with
  | _ n ih =>
    by_cases hn : n < 10
    · exact digit_str n hn w
    · have HIH := Lib.hid (fun w => ih (n / 10) (by omega) (by omega) w)
      have HDM := Lib.hid (fun w => digit_str (n % 10) (by omega) w)
      have HD : Hid (Lib.decDigits n = Lib.decDigits (n / 10) ++ Lib.decDigits (n % 10)) := Lib.hid (by rw [dec_big hn, dec_small (show n % 10 < 10 by omega)])
      have hl1 : (Lib.decDigits (n / 10)).length ≤ 19 := dec_len_le (by decide) (by omega)
      have hl2 : (Lib.decDigits (n % 10)).length ≤ 19 := dec_len_le (by decide) (by omega)
      have hni : ¬ (n : Int) < 10 := by omega
      have hn0 : (0 : Int) ≤ (n : Int) := by omega
      obtain ⟨q, hq⟩ : ∃ q, q = n / 10 := ⟨_, rfl⟩
      obtain ⟨r, hr⟩ : ∃ r, r = n % 10 := ⟨_, rfl⟩
      have hqi : (n : Int) / 10 = (q : Int) := by omega
      have hri : (n : Int) % 10 = (r : Int) := by omega
      rw [← hq, ← hr] at HD
      rw [← hq] at HIH hl1
      rw [← hr] at HDM hl2
      clear ih hn hq hr
      go_enter Tryd.func28, Tryd.ntmps28
      go_wp2_with fail
      refine (HIH.out _).mono ?_
      rintro e w1 ⟨rfl, rfl⟩
      go_wp2_with fail
      refine (HDM.out _).mono ?_
      rintro e w1 ⟨rfl, rfl⟩
      go_wp2
      go_ret
      exact ⟨ret_eq (congrArg Value.string (by rw [HD.out, ← str_cat])), rfl⟩
theorem rdigits_int (n : Int) (h0 : 0 ≤ n) (h : n < 9223372036854775808) (w : World) : Calls Tryd.prog 28 #[.int .i64 n] w fun e w' => e = .returned (.string ⟨(Lib.itoa n).toArray⟩) ∧ w = w' := by
  obtain ⟨u, rfl⟩ := Int.eq_ofNat_of_zero_le h0
  rw [itoa_nat]
  exact digits_any u (by omega) w
theorem wsum_drop (l : List UInt8) (m : Nat) (hm : m < l.length) : wsum m (l.drop m) = (m + 1) * l[m].toNat + wsum (m + 1) (l.drop (m + 1)) := by
  rw [List.drop_eq_getElem_cons hm, wsum]
theorem wsum_bd2 (l : List UInt8) (h : l.length ≤ 100000) (k : Nat) : wsum k (l.drop k) ≤ 2550000000000 := by
  have h1 := wsum_bd l h l.length
  rw [List.take_length] at h1
  have h2 := wsum_append (l.take k) (l.drop k) 0
  rw [List.take_append_drop] at h2
  rcases Nat.lt_or_ge l.length k with h3 | h3
  · rw [List.drop_of_length_le (by omega)]; simp [wsum]
  · rw [List.length_take, Nat.min_eq_left h3, Nat.zero_add] at h2
    omega
set_option maxHeartbeats 1000000 in
set_option maxRecDepth 100000 in
theorem rsum_any (s : ByteArray) (w : World) (hs : s.size ≤ 100000) :
    Calls Tryd.prog 42 #[.string s] w fun e w' => e = .returned (.int .i64 (sumB s.data.toList : Nat)) ∧ w = w' := by
  have hsz := Lib.size_eq s
  obtain ⟨n, hn⟩ : ∃ n, n = s.size := ⟨_, rfl⟩
  have HL : Hid (s.data.toList.length = n) := Lib.hid (by omega)
  have HW : Hid (∀ k, wsum k (s.data.toList.drop k) ≤ 2550000000000) := Lib.hid fun k => wsum_bd2 _ (by omega) k
  have hn5 : s.size ≤ 100000 := hs
  have HN := Lib.hid hn
  have hn5' : n ≤ 100000 := by omega
  clear hsz hn hs
  go_enter Tryd.func42, Tryd.ntmps42
  go_wp2
  rw [← HN.out]
  go_loop [3, 4] (fun t i => ∃ k : Nat, k ≤ n ∧ i = .int .i64 ((k : Int) - 1) ∧ t = .int .i64 (wsum k (s.data.toList.drop k) : Nat)) (fun _ i => (intOf i + 1).toNat)
  case atStart => exact ⟨n, Nat.le_refl _, rfl, by rw [List.drop_of_length_le (by rw [HL.out]; exact Nat.le_refl _)]; rfl⟩
  case round =>
    obtain ⟨k, hk, rfl, rfl⟩ := hrel
    by_cases hlt : k = 0
    · subst hlt
      have HT : Hid (sumB s.data.toList = wsum 0 (s.data.toList.drop 0) % 9973) := Lib.hid rfl
      have hw := HW.out 0
      obtain ⟨t, ht⟩ : ∃ t, t = wsum 0 (s.data.toList.drop 0) := ⟨_, rfl⟩
      rw [← ht] at HT hw ⊢
      have hneg : ((0 : Nat) : Int) - 1 = -1 := by omega
      rw [hneg]
      clear ht hneg
      go_wp2
      go_ret
      exact ⟨ret_int (by rw [HT.out]; omega), rfl⟩
    · obtain ⟨m, hm⟩ : ∃ m, k = m + 1 := ⟨k - 1, by omega⟩
      subst hm
      have hmn : m < s.size := by have := HN.out; omega
      have hst := wsum_drop s.data.toList m (by rw [HL.out]; omega)
      have hw := HW.out (m + 1)
      obtain ⟨c, hcc⟩ : ∃ c, c = s[m].toNat := ⟨_, rfl⟩
      have hc255 : c < 256 := by rw [hcc]; exact UInt8.toNat_lt _
      have hg : (s.data.toList[m]'(by rw [HL.out]; omega)).toNat = c := by rw [hcc]; rfl
      rw [hg] at hst
      obtain ⟨t, ht⟩ : ∃ t, t = wsum (m + 1) (s.data.toList.drop (m + 1)) := ⟨_, rfl⟩
      rw [← ht] at hst hw ⊢
      obtain ⟨z, hz⟩ : ∃ z, z = (m + 1) * c := ⟨_, rfl⟩
      have hzb : z ≤ 25600000 := by rw [hz]; exact Nat.le_trans (Nat.mul_le_mul (show m + 1 ≤ 100000 by omega) (show c ≤ 256 by omega)) (by decide)
      rw [← hz] at hst
      have HST := Lib.hid hst
      have hzi : ((m : Int) + 1) * (c : Int) = (z : Int) := by rw [hz]; simp
      have hmi : ((m + 1 : Nat) : Int) - 1 = (m : Int) := by omega
      have hm0 : (0 : Int) ≤ (m : Int) := by omega
      have hcs : s[m].toNat = c := hcc.symm
      have hwm : IntKind.i64.wrap (z : Int) = (z : Int) := IntWalk.i64_in _ (by omega)
      have hwt : IntKind.i64.wrap ((t : Int) + (z : Int)) = (t : Int) + (z : Int) := IntWalk.i64_in _ (by omega)
      rw [hmi]
      clear hst ht hcc hg hz hlt hmi
      go_wp2
      go_round
      case rel => exact ⟨m, by omega, rfl, congrArg (Value.int .i64) (by rw [HST.out]; simp; omega)⟩
      case measure => first | (simp [intOf]; done) | (simp [intOf]; omega)
theorem rsum_l (t : List UInt8) (q : Nat) (w : World) (hq : sumB t = q) (h : t.length ≤ 100000) :
    Calls Tryd.prog 42 #[.string ⟨t.toArray⟩] w fun e w' => e = .returned (.int .i64 q) ∧ w = w' :=
  (rsum_any ⟨t.toArray⟩ w (by simpa [ByteArray.size] using h)).mono fun e w' ⟨he, hb⟩ => ⟨by rw [he, ← hq], hb⟩
end Go.Proofs.YticckfioggeaeaaDoor
