/-
  The reference's Put at the head: by its contract.
-/
import Derived.Test.YthldhbcidcmmaaaDoorAppend
namespace Go.Proofs.YthldhbcidcmmaaaDoor
open Go.RowKit

theorem own_src {w : World} {base : Nat} {g cap : Nat} {l : List Int} {n : Nat} (h : OwnInts w base (.slice (some ⟨g, 0, none⟩) n cap) l) : n = l.length ∧ n ≤ cap ∧ cap ≤ maxLen ∧ base ≤ g ∧ g < w.heap.size ∧
    (∀ i, i ≤ n → Src w (some ⟨g, 0, none⟩) i cap (ints (l.take i))) ∧
    (∀ i, i ≤ n → Src w (if cap = i then some ⟨g, 0, none⟩ else some ⟨g, i, none⟩) (n - i) (cap - i) (ints (l.drop i))) := by
  obtain ⟨hl, ⟨e, hn⟩ | ⟨g', cap', cur, e, hb, hh, hc, hm, hs, ht⟩⟩ := h
  · cases e
  · injection e with e1 e2 e3
    injection e1 with e1
    injection e1 with e1
    subst e1 e2 e3
    have hlt : g < w.heap.size := by
      rcases Nat.lt_or_ge g w.heap.size with h | h
      · exact h
      · rw [Array.getElem?_eq_none h] at hh; cases hh
    have hget : ∀ (i : Nat) (x : Int), l[i]? = some x → w.cell? ⟨g, i, none⟩ = some (.int .i64 x) := fun i x hx => by
      have hi : i < l.length := (List.getElem?_eq_some_iff.1 hx).1
      have h2 : (cur.toList.take (l.length * 1))[i]? = (ints l)[i]? := by rw [ht]
      rw [List.getElem?_take_of_lt (by omega), ints_get hx] at h2
      have hb : Blk w g 3 cur.toList := by unfold Blk; simpa using hh
      exact hb.cell_ h2
    refine ⟨rfl, hc, hm, hb, hlt, fun i hi => ⟨by simp [ints]; omega, .inr ⟨_, rfl, fun j u hu => ?_⟩⟩, fun i hi => ⟨by simp [ints], ?_⟩⟩
    · simp only [ints, List.getElem?_map, Option.map_eq_some_iff] at hu
      obtain ⟨x, hx, rfl⟩ := hu
      rw [add_addr, Nat.zero_add]
      have hj := (List.getElem?_eq_some_iff.1 hx).1
      rw [List.length_take] at hj
      rw [List.getElem?_take_of_lt (by omega)] at hx
      exact hget j x hx
    · by_cases e : cap = i
      · refine .inr ⟨⟨g, 0, none⟩, by rw [if_pos e], fun j u hu => ?_⟩
        have hj := (List.getElem?_eq_some_iff.1 hu).1
        rw [ints_len, List.length_drop] at hj
        omega
      · refine .inr ⟨⟨g, i, none⟩, by rw [if_neg e], fun j u hu => ?_⟩
        simp only [ints, List.getElem?_map, Option.map_eq_some_iff] at hu
        obtain ⟨x, hx, rfl⟩ := hu
        rw [add_addr]
        rw [List.getElem?_drop] at hx
        exact hget _ x hx
theorem Src.on {w w' : World} {a : Option Addr} {m c : Nat} {news : List Value} (h : Src w a m c news) (hk : ∀ b, b < w.heap.size → w'.heap[b]? = w.heap[b]?) : Src w' a m c news := by
  obtain ⟨hl, h | ⟨ad, e, hc⟩⟩ := h
  · exact ⟨hl, .inl h⟩
  · refine ⟨hl, .inr ⟨ad, e, fun j u hu => ?_⟩⟩
    have h1 := hc j u hu
    have h2 := World.block_lt_of_cell? w _ h1
    exact (World.cell?_of_block (w := w) (hk _ h2)).trans h1
def OutPost (w : World) (l : List Int) (e : Ending) (w' : World) : Prop := ∃ v, e = .returned v ∧ OwnInts w' w.heap.size v l ∧ Below w.heap.size w w'
theorem zero_src {w : World} {base : Nat} {v : Value} {l : List Int} (h : OwnInts w base v l) : ∃ a c, v = .slice a l.length c ∧ (a = none → c = 0) ∧ l.length ≤ c ∧ c ≤ maxLen ∧ (∀ g, v.ownBlock = some g → base ≤ g ∧ g < w.heap.size) ∧ Src w a 0 c [] ∧ Src w a l.length c (ints l) ∧ (a = none ∨ ∃ g, a = some ⟨g, 0, none⟩) := by
  obtain ⟨hl, ⟨rfl, hn⟩ | ⟨g, cap, cur, rfl, hb, hh, hc, hm, hs, ht⟩⟩ := h
  · have : l = [] := List.length_eq_zero_iff.1 hn
    subst this
    exact ⟨none, 0, rfl, fun _ => rfl, Nat.le_refl _, by unfold maxLen; omega, by simp [Value.ownBlock], ⟨rfl, .inl ⟨rfl, rfl, rfl⟩⟩, ⟨rfl, .inl ⟨rfl, rfl, rfl⟩⟩, .inl rfl⟩
  · have h : OwnInts w base (.slice (some ⟨g, 0, none⟩) l.length cap) l := ⟨hl, .inr ⟨g, cap, cur, rfl, hb, hh, hc, hm, hs, ht⟩⟩
    obtain ⟨_, _, _, h1, h2, h3, _⟩ := own_src h
    have h0 := h3 0 (Nat.zero_le _)
    have h4 := h3 l.length (Nat.le_refl _)
    rw [List.take_length] at h4
    exact ⟨_, cap, rfl, by simp, hc, hm, fun g' e => by simp [Value.ownBlock] at e; subst e; exact ⟨h1, h2⟩, h0, h4, .inr ⟨g, rfl⟩⟩

set_option maxRecDepth 100000 in
theorem rPut0 (v : Value) (base : Nat) (x : Int) (l : List Int) (w : World) (h : OwnInts w base v l) (hn : l.length ≤ 1000) :
    Calls Tryd.prog 44 #[v, .int .i64 0, .int .i64 x] w (OutPost w (x :: l)) := by
  obtain ⟨i0, hi0, hz0, hz1, hz2⟩ := info_parts info_int
  obtain ⟨a, c, rfl, hac, hnc, hcm, _, hs0, hsn, ha⟩ := zero_src h
  obtain ⟨n, hn0⟩ : ∃ n, n = l.length := ⟨_, rfl⟩
  rw [← hn0] at hn hnc hsn ⊢
  have HS0 := Lib.hid hs0; have HSN := Lib.hid hsn; have HN := Lib.hid hn0
  have hcm2 : (c : Int) ≤ 9223372036854775807 := by unfold maxLen at hcm; omega
  clear hs0 hsn hn0 h
  have HC := Lib.hid hac
  clear hac
  rcases ha with rfl | ⟨g, rfl⟩
  · obtain rfl := HC.out rfl
    obtain rfl : n = 0 := by omega
    go_enter Tryd.func44, Tryd.ntmps44
    go_wp2_with (first
      | (at_builtin; refine wpList_append_src rfl (.tmp 17) (.tmp 20) 22 rfl w.heap.size 3 i0 (.int .i64 0) 8 Tryd.underlying22 hi0 hz0 hz1 hz2 rfl v2 1 [.int .i64 x] rfl HO2.out none 0 0 (ints l) rfl (HSN.out.on HB2.out.block) (ints_one _) (by unfold maxLen; omega) (by omega) HB2.out.size ?_; intro v3 w3 hown3 hgrow3; have HB3 := Lib.hid (HB2.out.grown hgrow3 HB2.out.size (fun z hz => (World.ownsRow.lt HO2.out z hz).1)); have HO3 := Lib.hid hown3; clear hown3 hgrow3)
      | (at_builtin; refine wpList_append_src rfl (.tmp 13) (.tmp 15) 22 rfl w.heap.size 3 i0 (.int .i64 0) 8 Tryd.underlying22 hi0 hz0 hz1 hz2 rfl v1 0 [] rfl (HO1.out.alloc _) (some ⟨w1.heap.size, 0, none⟩) 1 1 [.int .i64 x] rfl ⟨rfl, .inr ⟨_, rfl, by intro p u hp; match p, hp with | 0, hp => simp at hp; subst hp; simp [Addr.add]⟩⟩ (by intro u hu; simp at hu; subst hu; rfl) (by unfold maxLen; omega) (by omega) (by simp; omega) ?_; intro v2 w2 hown2 hgrow2; have HB2 := Lib.hid ((HB1.out.alloc hsz1 _).grown hgrow2 (by simp; omega) (fun z hz => (World.ownsRow.lt HO1.out z hz).1)); have HO2 := Lib.hid (by simpa using hown2 : w2.ownsRow w.heap.size 3 1 v2 1 [.int .i64 x]); clear hown2 hgrow2)
      | (at_builtin; refine wpList_append_src rfl (.tmp 8) (.tmp 11) 22 rfl w.heap.size 3 i0 (.int .i64 0) 8 Tryd.underlying22 hi0 hz0 hz1 hz2 rfl (.slice none 0 0) 0 [] rfl (World.ownsRow_nil _ _ _ _) none 0 0 [] rfl HS0.out (by simp) (by unfold maxLen; omega) (by omega) (Nat.le_refl _) ?_; intro v1 w1 hown1 hgrow1; have HB1 := Lib.hid ((Below.refl w.heap.size w).grown hgrow1 (Nat.le_refl _) (by simp [Value.ownBlock])); have HO1 := Lib.hid (by simpa using hown1 : w1.ownsRow w.heap.size 3 1 v1 0 []); have hsz1 := HB1.out.size; clear hown1 hgrow1))
    go_ret
    refine ⟨_, rfl, ?_, HB3.out⟩
    have := HO3.out
    unfold OwnInts
    rw [List.length_cons, ← HN.out, Nat.add_comm]
    simpa [ints] using this
  · by_cases e : c = 0
    · subst e
      obtain rfl : n = 0 := by omega
      go_enter Tryd.func44, Tryd.ntmps44
      go_wp2_with (first
        | (at_builtin; refine wpList_append_src rfl (.tmp 17) (.tmp 20) 22 rfl w.heap.size 3 i0 (.int .i64 0) 8 Tryd.underlying22 hi0 hz0 hz1 hz2 rfl v2 1 [.int .i64 x] rfl HO2.out (some ⟨g, 0, none⟩) 0 0 (ints l) rfl (HSN.out.on HB2.out.block) (ints_one _) (by unfold maxLen; omega) (by omega) HB2.out.size ?_; intro v3 w3 hown3 hgrow3; have HB3 := Lib.hid (HB2.out.grown hgrow3 HB2.out.size (fun z hz => (World.ownsRow.lt HO2.out z hz).1)); have HO3 := Lib.hid hown3; clear hown3 hgrow3)
        | (at_builtin; refine wpList_append_src rfl (.tmp 13) (.tmp 15) 22 rfl w.heap.size 3 i0 (.int .i64 0) 8 Tryd.underlying22 hi0 hz0 hz1 hz2 rfl v1 0 [] rfl (HO1.out.alloc _) (some ⟨w1.heap.size, 0, none⟩) 1 1 [.int .i64 x] rfl ⟨rfl, .inr ⟨_, rfl, by intro p u hp; match p, hp with | 0, hp => simp at hp; subst hp; simp [Addr.add]⟩⟩ (by intro u hu; simp at hu; subst hu; rfl) (by unfold maxLen; omega) (by omega) (by simp; omega) ?_; intro v2 w2 hown2 hgrow2; have HB2 := Lib.hid ((HB1.out.alloc hsz1 _).grown hgrow2 (by simp; omega) (fun z hz => (World.ownsRow.lt HO1.out z hz).1)); have HO2 := Lib.hid (by simpa using hown2 : w2.ownsRow w.heap.size 3 1 v2 1 [.int .i64 x]); clear hown2 hgrow2)
        | (at_builtin; refine wpList_append_src rfl (.tmp 8) (.tmp 11) 22 rfl w.heap.size 3 i0 (.int .i64 0) 8 Tryd.underlying22 hi0 hz0 hz1 hz2 rfl (.slice none 0 0) 0 [] rfl (World.ownsRow_nil _ _ _ _) (some ⟨g, 0, none⟩) 0 0 [] rfl HS0.out (by simp) (by unfold maxLen; omega) (by omega) (Nat.le_refl _) ?_; intro v1 w1 hown1 hgrow1; have HB1 := Lib.hid ((Below.refl w.heap.size w).grown hgrow1 (Nat.le_refl _) (by simp [Value.ownBlock])); have HO1 := Lib.hid (by simpa using hown1 : w1.ownsRow w.heap.size 3 1 v1 0 []); have hsz1 := HB1.out.size; clear hown1 hgrow1))
      go_ret
      refine ⟨_, rfl, ?_, HB3.out⟩
      have := HO3.out
      unfold OwnInts
      rw [List.length_cons, ← HN.out, Nat.add_comm]
      simpa [ints] using this
    · go_enter Tryd.func44, Tryd.ntmps44
      go_wp2_with (first
        | (at_builtin; refine wpList_append_src rfl (.tmp 17) (.tmp 20) 22 rfl w.heap.size 3 i0 (.int .i64 0) 8 Tryd.underlying22 hi0 hz0 hz1 hz2 rfl v2 1 [.int .i64 x] rfl HO2.out (some ⟨g, 0, none⟩) n c (ints l) rfl (HSN.out.on HB2.out.block) (ints_one _) (by unfold maxLen; omega) (by omega) HB2.out.size ?_; intro v3 w3 hown3 hgrow3; have HB3 := Lib.hid (HB2.out.grown hgrow3 HB2.out.size (fun z hz => (World.ownsRow.lt HO2.out z hz).1)); have HO3 := Lib.hid hown3; clear hown3 hgrow3)
        | (at_builtin; refine wpList_append_src rfl (.tmp 13) (.tmp 15) 22 rfl w.heap.size 3 i0 (.int .i64 0) 8 Tryd.underlying22 hi0 hz0 hz1 hz2 rfl v1 0 [] rfl (HO1.out.alloc _) (some ⟨w1.heap.size, 0, none⟩) 1 1 [.int .i64 x] rfl ⟨rfl, .inr ⟨_, rfl, by intro p u hp; match p, hp with | 0, hp => simp at hp; subst hp; simp [Addr.add]⟩⟩ (by intro u hu; simp at hu; subst hu; rfl) (by unfold maxLen; omega) (by omega) (by simp; omega) ?_; intro v2 w2 hown2 hgrow2; have HB2 := Lib.hid ((HB1.out.alloc hsz1 _).grown hgrow2 (by simp; omega) (fun z hz => (World.ownsRow.lt HO1.out z hz).1)); have HO2 := Lib.hid (by simpa using hown2 : w2.ownsRow w.heap.size 3 1 v2 1 [.int .i64 x]); clear hown2 hgrow2)
        | (at_builtin; refine wpList_append_src rfl (.tmp 8) (.tmp 11) 22 rfl w.heap.size 3 i0 (.int .i64 0) 8 Tryd.underlying22 hi0 hz0 hz1 hz2 rfl (.slice none 0 0) 0 [] rfl (World.ownsRow_nil _ _ _ _) (some ⟨g, 0, none⟩) 0 c [] rfl HS0.out (by simp) (by unfold maxLen; omega) (by omega) (Nat.le_refl _) ?_; intro v1 w1 hown1 hgrow1; have HB1 := Lib.hid ((Below.refl w.heap.size w).grown hgrow1 (Nat.le_refl _) (by simp [Value.ownBlock])); have HO1 := Lib.hid (by simpa using hown1 : w1.ownsRow w.heap.size 3 1 v1 0 []); have hsz1 := HB1.out.size; clear hown1 hgrow1))
      go_ret
      refine ⟨_, rfl, ?_, HB3.out⟩
      have := HO3.out
      unfold OwnInts
      rw [List.length_cons, ← HN.out, Nat.add_comm]
      simpa [ints] using this
end Go.Proofs.YthldhbcidcmmaaaDoor
