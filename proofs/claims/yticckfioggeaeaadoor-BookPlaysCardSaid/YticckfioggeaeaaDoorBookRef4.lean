/-
  The reference's front where the key is there, Put, Get, by their contracts (printed by wip/gen_bookref4.py).
-/
import Derived.Test.YticckfioggeaeaaDoorBookRef3
import Derived.Test.YticckfioggeaeaaDoorGA
import Derived.Deep.RegionHeld3
import Derived.Deep.RegionWith
set_option linter.unusedVariables false
set_option linter.unusedSimpArgs false
set_option linter.unnecessarySimpa false
set_option linter.unusedVariables false
namespace Go.Proofs.YticckfioggeaeaaDoor
open Go.RowKit

set_option maxHeartbeats 2000000 in
set_option maxRecDepth 100000 in
theorem rFront_hit (slots : Int) (lK lV : List Int) (txt : List UInt8) (many : Int) (X : Value) (k v : Int) (i : Nat) (w : World) (h : RSt w slots lK lV txt many X) (hp : plOf lK k = i) (hi : i < lK.length) (hi2 : i < lV.length) (hn : lK.length ≤ 8) (hn2 : lV.length ≤ 8) :
    Calls Tryd.prog 26 #[X, .int .i64 k, .int .i64 v] w (RPost w slots (k :: lK.eraseIdx i) (v :: lV.eraseIdx i) txt many) := by
  obtain ⟨aK, aV, nK, nV, cK, cV, rfl, hK, hV, hkl, hvl⟩ := h
  obtain ⟨w1, hw1⟩ : ∃ w1, w1 = (w.alloc (.cells #[.int .i64 slots, .slice aK nK cK, .slice aV nV cV, .string ⟨txt.toArray⟩, .int .i64 many] 39)).alloc (.cells #[.int .i64 0, .slice none 0 0, .slice none 0 0, .string ⟨#[]⟩, .int .i64 0] 39) := ⟨_, rfl⟩
  have hd1 := RB.start (slots := slots) (txt := txt) (many := many) w hK hV hkl hvl
  rw [← hw1] at hd1
  have HD1 := Lib.hid hd1; have HW1 := Lib.hid hw1
  have HP := Lib.hid hp
  rw [hkl] at hn hi
  rw [hvl] at hn2 hi2
  clear hd1 hw1 hK hV hkl hvl hp
  have hii : (0 : Int) ≤ (i : Int) := by omega
  go_enter Tryd.func26, Tryd.ntmps26
  go_upto_region 1 with fail
  rw [← HW1.out]
  obtain ⟨x0, x1, x2, x3, x4, f0, f1, f2, f3, f4⟩ := HD1.out.cells
  go_wp2_with fail
  refine (rPlace aK nK cK _ lK k _ HD1.out.kl (own_in HD1.out.K) (by omega)).mono ?_
  rintro e w2 ⟨rfl, rfl⟩
  rw [HP.out]
  go_wp2_with fail
  refine (less_s aK cK nK i lK _ HD1.out.K HD1.out.kl hi (by omega)).mono ?_
  rintro e w3 ⟨a3, c3, rfl, ho3, hn3, hb3⟩
  have HD3 := Lib.hid (HD1.out.below hb3)
  have HO3 := Lib.hid ho3; have HN3 := Lib.hid hn3
  clear ho3 hn3 hb3 x0 x1 x2 x3 x4 f0 f1 f2 f3 f4
  obtain ⟨x0, x1, x2, x3, x4, f0, f1, f2, f3, f4⟩ := HD3.out.cells
  go_upto_region 4 with fail
  obtain ⟨w4, hw4⟩ : ∃ w', w' = (w3.setCell ⟨w.heap.size, 1, none⟩ (.slice a3 (nK - 1) c3)) := ⟨_, rfl⟩
  have hd4 := HD3.out.setK HO3.out HN3.out
  rw [← hw4] at hd4 ⊢
  have HD4 := Lib.hid hd4
  clear hd4 hw4 x0 x1 x2 x3 x4 f0 f1 f2 f3 f4
  obtain ⟨x0, x1, x2, x3, x4, f0, f1, f2, f3, f4⟩ := HD4.out.cells
  go_wp2_with fail
  refine (less_s aV cV nV i lV _ HD4.out.V HD4.out.vl hi2 (by omega)).mono ?_
  rintro e w5 ⟨a5, c5, rfl, ho5, hn5, hb5⟩
  have HD5 := Lib.hid (HD4.out.below hb5)
  have HO5 := Lib.hid ho5; have HN5 := Lib.hid hn5
  clear ho5 hn5 hb5 x0 x1 x2 x3 x4 f0 f1 f2 f3 f4
  obtain ⟨x0, x1, x2, x3, x4, f0, f1, f2, f3, f4⟩ := HD5.out.cells
  go_upto_region 5 with fail
  obtain ⟨w6, hw6⟩ : ∃ w', w' = (w5.setCell ⟨w.heap.size, 2, none⟩ (.slice a5 (nV - 1) c5)) := ⟨_, rfl⟩
  have hd6 := HD5.out.setV HO5.out HN5.out
  rw [← hw6] at hd6 ⊢
  have HD6 := Lib.hid hd6
  clear hd6 hw6 x0 x1 x2 x3 x4 f0 f1 f2 f3 f4
  obtain ⟨x0, x1, x2, x3, x4, f0, f1, f2, f3, f4⟩ := HD6.out.cells
  go_wp2_with fail
  refine (put_s a3 c3 (nK - 1) k (lK.eraseIdx i) _ HD6.out.K HD6.out.kl (by omega)).mono ?_
  rintro e w7 ⟨a7, c7, rfl, ho7, hn7, hb7⟩
  have HD7 := Lib.hid (HD6.out.below hb7)
  have HO7 := Lib.hid ho7; have HN7 := Lib.hid hn7
  clear ho7 hn7 hb7 x0 x1 x2 x3 x4 f0 f1 f2 f3 f4
  obtain ⟨x0, x1, x2, x3, x4, f0, f1, f2, f3, f4⟩ := HD7.out.cells
  go_upto_region 6 with fail
  obtain ⟨w8, hw8⟩ : ∃ w', w' = (w7.setCell ⟨w.heap.size, 1, none⟩ (.slice a7 (nK - 1 + 1) c7)) := ⟨_, rfl⟩
  have hd8 := HD7.out.setK HO7.out HN7.out
  rw [← hw8] at hd8 ⊢
  have HD8 := Lib.hid hd8
  clear hd8 hw8 x0 x1 x2 x3 x4 f0 f1 f2 f3 f4
  obtain ⟨x0, x1, x2, x3, x4, f0, f1, f2, f3, f4⟩ := HD8.out.cells
  go_wp2_with fail
  refine (put_s a5 c5 (nV - 1) v (lV.eraseIdx i) _ HD8.out.V HD8.out.vl (by omega)).mono ?_
  rintro e w9 ⟨a9, c9, rfl, ho9, hn9, hb9⟩
  have HD9 := Lib.hid (HD8.out.below hb9)
  have HO9 := Lib.hid ho9; have HN9 := Lib.hid hn9
  clear ho9 hn9 hb9 x0 x1 x2 x3 x4 f0 f1 f2 f3 f4
  obtain ⟨x0, x1, x2, x3, x4, f0, f1, f2, f3, f4⟩ := HD9.out.cells
  go_upto_region 7 with fail
  obtain ⟨w10, hw10⟩ : ∃ w', w' = (w9.setCell ⟨w.heap.size, 2, none⟩ (.slice a9 (nV - 1 + 1) c9)) := ⟨_, rfl⟩
  have hd10 := HD9.out.setV HO9.out HN9.out
  rw [← hw10] at hd10 ⊢
  have HD10 := Lib.hid hd10
  clear hd10 hw10 x0 x1 x2 x3 x4 f0 f1 f2 f3 f4
  obtain ⟨x0, x1, x2, x3, x4, f0, f1, f2, f3, f4⟩ := HD10.out.cells
  obtain ⟨y0, y1, y2, y3, y4, g0, g1, g2, g3, g4⟩ := HD10.out.rcells
  go_wp2
  have HDE := HD10
  (try simp only [Exit.inBlock, Exit.then])
  refine bodyPost_ret (results_cell1 rfl _ _ (w.heap.size + 1) 39 _ _ rfl (blk5 HDE.out.res _ _ _ _ _) Tryd.underlying39 rfl info_rstore) rfl ?_
  have hd := HDE.out.done (.int .i64 slots) (.slice a7 (nK - 1 + 1) c7) (.slice a9 (nV - 1 + 1) c9) (.string ⟨txt.toArray⟩) (.int .i64 many)
  exact ⟨_, rfl, ⟨a7, a9, nK - 1 + 1, nV - 1 + 1, c7, c9, rfl, hd.1, hd.2.1, HDE.out.kl, HDE.out.vl⟩, hd.2.2⟩

/-! ### The store in the reference's words -/
theorem ret3 {X c : Value} {a b : Int} (h : a = b) : Ending.returned (.tuple #[X, .int .i64 a, c]) = .returned (.tuple #[X, .int .i64 b, c]) := by rw [h]
theorem drop_erase {α : Type} (L : List α) {m : Nat} (h : L.length = m + 1) : L.dropLast = L.eraseIdx m := by
  rw [List.eraseIdx_eq_take_drop_succ, List.dropLast_eq_take, List.drop_of_length_le (by omega), h]; simp
theorem keysLen (s : Bk) : s.keys.length = s.M.length := by unfold Bk.keys; rw [List.length_map]
theorem mem_split {M : List (Int × Int)} {k : Int} (hn : (M.map (·.1)).Nodup) (hk : k ∈ M.map (·.1)) : ∃ A v B, M = A ++ (k, v) :: B ∧ (∀ p ∈ A, p.1 ≠ k) ∧ (∀ p ∈ B, p.1 ≠ k) := by
  obtain ⟨p, hp, rfl⟩ := List.mem_map.1 hk
  obtain ⟨A, B, rfl⟩ := List.append_of_mem hp
  rw [List.map_append, List.map_cons, List.nodup_append, List.nodup_cons] at hn
  exact ⟨A, p.2, B, rfl, fun q hq e => hn.2.2 q.1 (List.mem_map.2 ⟨q, hq, rfl⟩) p.1 (by simp) e, fun q hq e => hn.2.1.1 (by rw [← e]; exact List.mem_map.2 ⟨q, hq, rfl⟩)⟩
theorem erase_mid {α : Type} (A : List α) (p : α) (B : List α) : (A ++ p :: B).eraseIdx A.length = A ++ B := by
  rw [List.eraseIdx_append_of_length_le (Nat.le_refl _), Nat.sub_self, List.eraseIdx_cons_zero]
theorem filter_mid {A B : List (Int × Int)} {k v : Int} (hA : ∀ p ∈ A, p.1 ≠ k) (hB : ∀ p ∈ B, p.1 ≠ k) : (A ++ (k, v) :: B).filter (fun p => p.1 != k) = A ++ B := by
  rw [List.filter_append, List.filter_cons, if_neg (by simp), List.filter_eq_self.2 fun p hp => (by simpa using hA p hp), List.filter_eq_self.2 fun p hp => (by simpa using hB p hp)]
theorem hit_at {s : Bk} {k : Int} (hn : s.keys.Nodup) (hk : k ∈ s.keys) : ∃ i : Nat, i < s.M.length ∧ plOf s.keys k = (i : Nat) ∧ s.keys.eraseIdx i = (s.M.filter fun p => p.1 != k).map (·.1) ∧ (s.M.map (·.2)).eraseIdx i = (s.M.filter fun p => p.1 != k).map (·.2) ∧ (s.M.map (·.2))[i]? = some (valOf s k) := by
  obtain ⟨A, v, B, e, hA, hB⟩ := mem_split hn hk
  refine ⟨A.length, ?_, ?_, ?_, ?_, ?_⟩
  · rw [e]; simp
  · refine plOf_hit ?_ ?_ ?_
    · unfold Bk.keys; rw [e]; simp
    · unfold Bk.keys; simp [e]
    · intro j hj hjl
      unfold Bk.keys
      simp only [e, List.map_append, List.map_cons]
      rw [List.getElem_append_left (by rw [List.length_map]; exact hjl), List.getElem_map]
      exact hA _ (List.getElem_mem _)
  · unfold Bk.keys
    rw [e, filter_mid hA hB, List.map_append, List.map_cons]
    have := erase_mid (A.map (·.1)) k (B.map (·.1))
    rw [List.length_map] at this
    rw [this, List.map_append]
  · rw [e, filter_mid hA hB, List.map_append, List.map_cons]
    have := erase_mid (A.map (·.2)) v (B.map (·.2))
    rw [List.length_map] at this
    rw [this, List.map_append]
  · have hv : valOf s k = v := by
      unfold valOf
      rw [e, List.find?_append, List.find?_eq_none.2 (fun p hp => by simpa using hA p hp)]
      simp
    rw [hv, e]
    simp
theorem miss_at {s : Bk} {k : Int} (hk : k ∉ s.keys) : plOf s.keys k = -1 ∧ s.M.filter (fun p => p.1 != k) = s.M := by
  refine ⟨plOf_none fun y hy e => hk (by rw [← e]; exact hy), List.filter_eq_self.2 fun p hp => ?_⟩
  have : p.1 ≠ k := fun e => hk (by rw [← e]; exact List.mem_map.2 ⟨p, hp, rfl⟩)
  simpa using this
/-- A store by value that is s. -/
def RB4 (w : World) (slots : Nat) (s : Bk) (X : Value) : Prop := RSt w slots s.keys (s.M.map (·.2)) s.text s.many X
def RPutPost (w : World) (slots : Nat) (s : Bk) (x e0 : Int) (e : Ending) (w' : World) : Prop := ∃ X, e = .returned (.tuple #[X, .int .i64 x, .int .i64 e0]) ∧ RB4 w' slots s X ∧ Below w.heap.size w w'
theorem RSt.keep0 {w w' : World} {slots : Int} {lK lV : List Int} {txt : List UInt8} {many : Int} {X : Value} (h : RSt w slots lK lV txt many X) (hk : Keep [] w w') : RSt w' slots lK lV txt many X := by
  obtain ⟨aK, aV, nK, nV, cK, cV, rfl, h1, h2, h3, h4⟩ := h
  exact ⟨aK, aV, nK, nV, cK, cV, rfl, own_keep0 h1 hk, own_keep0 h2 hk, h3, h4⟩
/-- front, in the store's words. -/
theorem rFront (slots : Nat) (s : Bk) (lK lV : List Int) (E : List (Int × Int)) (X : Value) (k v : Int) (w : World) (h : RSt w slots lK lV s.text s.many X) (hK : lK = E.map (·.1)) (hV : lV = E.map (·.2)) (hn : (E.map (·.1)).Nodup) (h8 : E.length ≤ 8) :
    Calls Tryd.prog 26 #[X, .int .i64 k, .int .i64 v] w (RPost w slots (((k, v) :: E.filter fun p => p.1 != k).map (·.1)) (((k, v) :: E.filter fun p => p.1 != k).map (·.2)) s.text s.many) := by
  subst hK hV
  rw [List.map_cons, List.map_cons]
  by_cases hk : k ∈ E.map (·.1)
  · obtain ⟨i, hi, h1, h2, h3, _⟩ := hit_at (s := ⟨E, [], 0⟩) hn hk
    have h2' : (E.map (·.1)).eraseIdx i = (E.filter fun p => p.1 != k).map (·.1) := h2
    rw [← h2', ← h3]
    exact rFront_hit slots _ _ s.text s.many X k v i w h h1 (by simpa using hi) (by simpa using hi) (by simpa using h8) (by simpa using h8)
  · obtain ⟨h1, h2⟩ := miss_at (s := ⟨E, [], 0⟩) hk
    have h2' : E.filter (fun p => p.1 != k) = E := h2
    rw [h2']
    exact rFront_miss slots _ _ s.text s.many X k v w h h1 (by simpa using h8) (by simpa using h8)
set_option maxHeartbeats 2000000 in
set_option maxRecDepth 100000 in
theorem rPut_range (slots : Nat) (s : Bk) (X : Value) (k v : Int) (w : World) (h : RB4 w slots s X) (hr : ¬ okPut k v) :
    Calls Tryd.prog 15 #[X, .int .i64 k, .int .i64 v] w (RPutPost w slots s 0 1) := by
  obtain ⟨aK, aV, nK, nV, cK, cV, rfl, hK, hV, hkl, hvl⟩ := h
  obtain ⟨w1, hw1⟩ : ∃ w1, w1 = (w.alloc (.cells #[.int .i64 slots, .slice aK nK cK, .slice aV nV cV, .string ⟨s.text.toArray⟩, .int .i64 s.many] 39)).alloc (.cells #[.int .i64 0, .slice none 0 0, .slice none 0 0, .string ⟨#[]⟩, .int .i64 0] 39) := ⟨_, rfl⟩
  have hd1 := RB.start (slots := slots) (txt := s.text) (many := (s.many : Int)) w hK hV hkl hvl
  rw [← hw1] at hd1
  have HD1 := Lib.hid hd1; have HW1 := Lib.hid hw1
  have hc : k < 0 ∨ (0 ≤ k ∧ 1000000 < k) ∨ ((0 ≤ k ∧ k ≤ 1000000) ∧ v < 0) ∨ ((0 ≤ k ∧ k ≤ 1000000) ∧ 0 ≤ v ∧ 1000 < v) := by unfold okPut at hr; omega
  clear hd1 hw1 hK hV hkl hvl hr
  obtain ⟨x0, x1, x2, x3, x4, f0, f1, f2, f3, f4⟩ := HD1.out.cells
  obtain ⟨y0, y1, y2, y3, y4, g0, g1, g2, g3, g4⟩ := HD1.out.rcells
  rcases hc with hc | ⟨hc1, hc2⟩ | ⟨⟨hc1, hc2⟩, hc3⟩ | ⟨⟨hc1, hc2⟩, hc3, hc4⟩
  all_goals
    go_enter Tryd.func15, Tryd.ntmps15
    go_upto_region 1 with fail
    rw [← HW1.out]
    go_wp2
    have HDE := HD1
    (try simp only [Exit.inBlock, Exit.then])
    refine bodyPost_ret (results_cell3 rfl _ _ (w.heap.size + 1) 39 _ _ rfl (blk5 HDE.out.res _ _ _ _ _) Tryd.underlying39 rfl info_rstore) rfl ?_
    have hd := HDE.out.done (.int .i64 slots) (.slice aK nK cK) (.slice aV nV cV) (.string ⟨s.text.toArray⟩) (.int .i64 s.many)
    exact ⟨_, rfl, ⟨aK, aV, nK, nV, cK, cV, rfl, hd.1, hd.2.1, HDE.out.kl, HDE.out.vl⟩, hd.2.2⟩
set_option maxHeartbeats 4000000 in
set_option maxRecDepth 100000 in
theorem rPut_log (slots : Nat) (s : Bk) (X : Value) (k v : Int) (w : World) (h : RB4 w slots s X) (hr : okPut k v) (hm : s.many = 60) :
    Calls Tryd.prog 15 #[X, .int .i64 k, .int .i64 v] w (RPutPost w slots s 0 4) := by
  obtain ⟨aK, aV, nK, nV, cK, cV, rfl, hK, hV, hkl, hvl⟩ := h
  obtain ⟨w1, hw1⟩ : ∃ w1, w1 = (w.alloc (.cells #[.int .i64 slots, .slice aK nK cK, .slice aV nV cV, .string ⟨s.text.toArray⟩, .int .i64 s.many] 39)).alloc (.cells #[.int .i64 0, .slice none 0 0, .slice none 0 0, .string ⟨#[]⟩, .int .i64 0] 39) := ⟨_, rfl⟩
  have hd1 := RB.start (slots := slots) (txt := s.text) (many := (s.many : Int)) w hK hV hkl hvl
  rw [← hw1] at hd1
  have HD1 := Lib.hid hd1; have HW1 := Lib.hid hw1
  obtain ⟨⟨hk0, hk1⟩, hv0, hv1⟩ := hr
  have hmi : (60 : Int) ≤ (s.many : Int) := by omega
  clear hd1 hw1 hK hV hkl hvl hm
  obtain ⟨x0, x1, x2, x3, x4, f0, f1, f2, f3, f4⟩ := HD1.out.cells
  obtain ⟨y0, y1, y2, y3, y4, g0, g1, g2, g3, g4⟩ := HD1.out.rcells
  go_enter Tryd.func15, Tryd.ntmps15
  go_upto_region 1 with fail
  rw [← HW1.out]
  go_wp2
  have HDE := HD1
  (try simp only [Exit.inBlock, Exit.then])
  refine bodyPost_ret (results_cell3 rfl _ _ (w.heap.size + 1) 39 _ _ rfl (blk5 HDE.out.res _ _ _ _ _) Tryd.underlying39 rfl info_rstore) rfl ?_
  have hd := HDE.out.done (.int .i64 slots) (.slice aK nK cK) (.slice aV nV cV) (.string ⟨s.text.toArray⟩) (.int .i64 s.many)
  exact ⟨_, rfl, ⟨aK, aV, nK, nV, cK, cV, rfl, hd.1, hd.2.1, HDE.out.kl, HDE.out.vl⟩, hd.2.2⟩
set_option maxHeartbeats 4000000 in
set_option maxRecDepth 100000 in
theorem rPut_in (slots : Nat) (s : Bk) (X : Value) (k v : Int) (w : World) (h : RB4 w slots s X) (hr : okPut k v) (hok : BkOk slots s) (h8 : slots ≤ 8) (hm : s.many ≠ 60) (hf : ¬ fullFor slots s k) :
    Calls Tryd.prog 15 #[X, .int .i64 k, .int .i64 v] w (RPutPost w slots (putB slots s k v) (-1) 0) := by
  obtain ⟨aK, aV, nK, nV, cK, cV, rfl, hK, hV, hkl, hvl⟩ := h
  obtain ⟨w1, hw1⟩ : ∃ w1, w1 = (w.alloc (.cells #[.int .i64 slots, .slice aK nK cK, .slice aV nV cV, .string ⟨s.text.toArray⟩, .int .i64 s.many] 39)).alloc (.cells #[.int .i64 0, .slice none 0 0, .slice none 0 0, .string ⟨#[]⟩, .int .i64 0] 39) := ⟨_, rfl⟩
  have hd1 := RB.start (slots := slots) (txt := s.text) (many := (s.many : Int)) w hK hV hkl hvl
  rw [← hw1] at hd1
  have HD1 := Lib.hid hd1; have HW1 := Lib.hid hw1
  obtain ⟨⟨hk0, hk1⟩, hv0, hv1⟩ := hr
  have hmany := hok.many
  have htx : s.text.length ≤ 2000 := by have := hok.text; omega
  have hmi : ¬ (60 : Int) ≤ (s.many : Int) := by omega
  have hnK : nK = s.M.length := by rw [← hkl, keysLen]
  have hnV : nV = s.M.length := by rw [← hvl, List.length_map]
  have hn8 : nK ≤ 8 := by have := hok.len; omega
  have HLK : Hid (s.keys = (outM slots s k).map (·.1)) := Lib.hid (by unfold outM; rw [if_neg hf]; rfl)
  have HLV : Hid (s.M.map (·.2) = (outM slots s k).map (·.2)) := Lib.hid (by unfold outM; rw [if_neg hf])
  have HND : Hid (((outM slots s k).map (·.1)).Nodup) := Lib.hid (by rw [← HLK.out]; exact hok.nod)
  have HL8 : Hid ((outM slots s k).length ≤ 8) := Lib.hid (by have := hok.len; unfold outM; rw [if_neg hf]; omega)
  have hcase : k ∈ s.keys ∨ (k ∉ s.keys ∧ nK ≠ slots) := by
    by_cases hm : k ∈ s.keys
    · exact .inl hm
    · exact .inr ⟨hm, fun e => hf ⟨hm, by omega⟩⟩
  have HC := Lib.hid hcase
  have HKL := Lib.hid hkl; have HVL := Lib.hid hvl
  clear hd1 hw1 hK hV hkl hvl hm hok hf hcase hnK hnV
  go_enter Tryd.func15, Tryd.ntmps15
  go_upto_region 6 with fail
  rw [← HW1.out]
  obtain ⟨x0, x1, x2, x3, x4, f0, f1, f2, f3, f4⟩ := HD1.out.cells
  rcases HC.out with hc | ⟨hc, hne⟩
  · have HHAS : Hid (decide (k ∈ s.keys) = true) := Lib.hid (decide_eq_true hc)
    clear hc
    go_upto_region 10 with (go_at_call 11; refine (rHas_is aK nK cK _ s.keys k true _ HKL.out (own_in HD1.out.K) (by omega) HHAS.out).mono ?_; rintro e w2 ⟨rfl, rfl⟩)

    have HFR : Hid (∀ w', OwnInts w' 0 (.slice aK nK cK) s.keys → OwnInts w' 0 (.slice aV nV cV) (s.M.map (·.2)) → Calls Tryd.prog 26 #[rVal slots aK aV nK nV cK cV s.text s.many, .int .i64 k, .int .i64 v] w' (RPost w' slots (putB slots s k v).keys ((putB slots s k v).M.map (·.2)) s.text s.many)) := Lib.hid fun w' h1 h2 =>
      rFront slots s s.keys (s.M.map (·.2)) (outM slots s k) _ k v w' ⟨aK, aV, _, _, cK, cV, rfl, h1, h2, HKL.out, HVL.out⟩ HLK.out HLV.out HND.out HL8.out
    go_wp2_with fail
    refine (HFR.out _ HD1.out.K HD1.out.V).mono ?_
    rintro e wf ⟨Xf, rfl, ⟨aF, aG, nF, nG, cF, cG, rfl, hKF, hVF, hlF, hlG⟩, hbf⟩
    have HDf := Lib.hid (HD1.out.below hbf)
    have HKF := Lib.hid hKF; have HVF := Lib.hid hVF; have HLF := Lib.hid hlF; have HLG := Lib.hid hlG
    clear hKF hVF hlF hlG hbf x0 x1 x2 x3 x4 f0 f1 f2 f3 f4
    obtain ⟨x0, x1, x2, x3, x4, f0, f1, f2, f3, f4⟩ := HDf.out.cells
    go_upto_region 11 with fail
    obtain ⟨wg, hwg⟩ : ∃ w', w' = set5 wf w.heap.size (.int .i64 slots) (.slice aF nF cF) (.slice aG nG cG) (.string ⟨s.text.toArray⟩) (.int .i64 s.many) := ⟨_, rfl⟩
    have hdg := HDf.out.setAll (slots' := slots) (txt' := s.text) (many' := s.many) HKF.out HVF.out HLF.out HLG.out
    rw [← hwg] at hdg
    rw [show ((((wf.setCell ⟨w.heap.size, 0, none⟩ (.int .i64 slots)).setCell ⟨w.heap.size, 1, none⟩ (.slice aF nF cF)).setCell ⟨w.heap.size, 2, none⟩ (.slice aG nG cG)).setCell ⟨w.heap.size, 3, none⟩ (.string ⟨s.text.toArray⟩)).setCell ⟨w.heap.size, 4, none⟩ (.int .i64 s.many) = wg from hwg.symm]
    have HDg := Lib.hid hdg
    clear hdg hwg x0 x1 x2 x3 x4 f0 f1 f2 f3 f4
    have HSx : Hid (∀ w', Keep [] wg w' → w'.cell? ⟨w.heap.size, 0, none⟩ = some (.int .i64 slots) ∧ w'.cell? ⟨w.heap.size, 1, none⟩ = some (.slice aF nF cF) ∧ w'.cell? ⟨w.heap.size, 2, none⟩ = some (.slice aG nG cG) ∧ w'.cell? ⟨w.heap.size, 3, none⟩ = some (.string ⟨s.text.toArray⟩) ∧ w'.cell? ⟨w.heap.size, 4, none⟩ = some (.int .i64 s.many)) := Lib.hid fun w' hk => by
      have := (HDg.out.keep hk).cells
      exact ⟨this.1, this.2.1, this.2.2.1, this.2.2.2.1, this.2.2.2.2.1⟩
    have hil1 := itoa_len (n := k) (k := 7) hk0 (by decide) (by omega)
    have hil2 := itoa_len (n := v) (k := 4) hv0 (by decide) (by omega)
    have q1 : ¬ 9223372036854775807 < 2 + (Lib.itoa k).length := by omega
    have q2 : ¬ 9223372036854775807 < 2 + (Lib.itoa k).length + 1 := by omega
    have q3 : ¬ 9223372036854775807 < 2 + (Lib.itoa k).length + 1 + (Lib.itoa v).length := by omega
    have HWP : Hid ((⟨#[112, 32]⟩ : ByteArray) ++ ⟨(Lib.itoa k).toArray⟩ ++ ⟨#[32]⟩ ++ ⟨(Lib.itoa v).toArray⟩ = ⟨(wordP k v).toArray⟩) := Lib.hid (by
      have e : wordP k v = [112, 32] ++ Lib.itoa k ++ [32] ++ Lib.itoa v := by unfold wordP; simp
      rw [e, ← str_cat, ← str_cat, ← str_cat])
    have HRS : Hid (∀ w', Keep [] wg w' → RSt w' slots (putB slots s k v).keys ((putB slots s k v).M.map (·.2)) s.text s.many (rVal slots aF aG nF nG cF cG s.text s.many)) := Lib.hid fun w' hk => ⟨aF, aG, nF, nG, cF, cG, rfl, (HDg.out.keep hk).K, (HDg.out.keep hk).V, HLF.out, HLG.out⟩
    have HWL : Hid ((wordP k v).length ≤ 100) := Lib.hid (by have := wordP_len (k := k) (v := v) ⟨⟨hk0, hk1⟩, hv0, hv1⟩; omega)
    obtain ⟨y0, y1, y2, y3, y4, g0, g1, g2, g3, g4⟩ := HDg.out.rcells
    go_wp2
    go_region_held3 (fun w' => w'.cell? ⟨w.heap.size, 0, none⟩ = some (.int .i64 slots) ∧ w'.cell? ⟨w.heap.size, 1, none⟩ = some (.slice aF nF cF) ∧ w'.cell? ⟨w.heap.size, 2, none⟩ = some (.slice aG nG cG) ∧ w'.cell? ⟨w.heap.size, 3, none⟩ = some (.string ⟨s.text.toArray⟩) ∧ w'.cell? ⟨w.heap.size, 4, none⟩ = some (.int .i64 s.many))
      (first | exact HSx.out _ (Keep.refl _ _).drew | exact HSx.out _ HKd.out | exact HDd.out.xres _ _ _ _ _ | fail)
      (first
        | (go_at_call 28; refine (rdigits_int _ (by omega) (by omega) _).mono ?_; rintro e w2 ⟨rfl, rfl⟩)
        | (go_at_call 27; rw [HWP.out]; refine (rDown slots _ _ s.text s.many _ (wordP k v) _ (HRS.out _ (Keep.refl _ _).drew) HWL.out htx (by omega) (by omega)).mono ?_; rintro e wd ⟨Xd, rfl, ⟨aD, aE, nD, nE, cD, cE, rfl, hKD, hVD, hlD, hlE⟩, hbd⟩; have HKd : Hid (Keep [] wg wd) := Lib.hid ((Keep.refl _ _).drew.trans (Keep.of_below hbd (Nat.le_refl _))); have HKD := Lib.hid hKD; have HVD := Lib.hid hVD; have HLD := Lib.hid hlD; have HLE := Lib.hid hlE; have HDd := Lib.hid (HDg.out.keep HKd.out); clear hKD hVD hlD hlE hbd y0 y1 y2 y3 y4 g0 g1 g2 g3 g4; (obtain ⟨y0, y1, y2, y3, y4, g0, g1, g2, g3, g4⟩ := HDd.out.rcells)))
    have HDE := HDd
    clear y0 y1 y2 y3 y4 g0 g1 g2 g3 g4
    go_wp2
    (try simp only [Exit.inBlock, Exit.then])
    refine bodyPost_ret (results_cell3 rfl _ _ (w.heap.size + 1) 39 _ _ rfl (blk5 HDE.out.res _ _ _ _ _) Tryd.underlying39 rfl info_rstore) rfl ?_
    have hk := keep5 wd (w.heap.size + 1) (.int .i64 slots) (.slice aD nD cD) (.slice aE nE cE) (.string ⟨(s.text ++ lineOf (wordP k v)).toArray⟩) (.int .i64 ((s.many : Int) + 1))
    have hd := HDE.out.done (.int .i64 slots) (.slice aD nD cD) (.slice aE nE cE) (.string ⟨(s.text ++ lineOf (wordP k v)).toArray⟩) (.int .i64 ((s.many : Int) + 1))
    have hmc : (((putB slots s k v).many : Nat) : Int) = (s.many : Int) + 1 := by simp [putB]
    refine ⟨_, rfl, ?_, hd.2.2⟩
    unfold RB4
    rw [hmc]
    exact ⟨aD, aE, nD, nE, cD, cE, rfl, own_keep1 HKD.out hk HDE.out.res (by decide), own_keep1 HVD.out hk HDE.out.res (by decide), HLD.out, HLE.out⟩

  · have HHAS : Hid (decide (k ∈ s.keys) = false) := Lib.hid (decide_eq_false hc)
    have hneq : ((nK : Int) == (slots : Int)) = false := beq_eq_false_iff_ne.2 (by omega)
    clear hc hne
    go_upto_region 10 with (go_at_call 11; refine (rHas_is aK nK cK _ s.keys k false _ HKL.out (own_in HD1.out.K) (by omega) HHAS.out).mono ?_; rintro e w2 ⟨rfl, rfl⟩)

    have HFR : Hid (∀ w', OwnInts w' 0 (.slice aK nK cK) s.keys → OwnInts w' 0 (.slice aV nV cV) (s.M.map (·.2)) → Calls Tryd.prog 26 #[rVal slots aK aV nK nV cK cV s.text s.many, .int .i64 k, .int .i64 v] w' (RPost w' slots (putB slots s k v).keys ((putB slots s k v).M.map (·.2)) s.text s.many)) := Lib.hid fun w' h1 h2 =>
      rFront slots s s.keys (s.M.map (·.2)) (outM slots s k) _ k v w' ⟨aK, aV, _, _, cK, cV, rfl, h1, h2, HKL.out, HVL.out⟩ HLK.out HLV.out HND.out HL8.out
    go_wp2_with fail
    refine (HFR.out _ HD1.out.K HD1.out.V).mono ?_
    rintro e wf ⟨Xf, rfl, ⟨aF, aG, nF, nG, cF, cG, rfl, hKF, hVF, hlF, hlG⟩, hbf⟩
    have HDf := Lib.hid (HD1.out.below hbf)
    have HKF := Lib.hid hKF; have HVF := Lib.hid hVF; have HLF := Lib.hid hlF; have HLG := Lib.hid hlG
    clear hKF hVF hlF hlG hbf x0 x1 x2 x3 x4 f0 f1 f2 f3 f4
    obtain ⟨x0, x1, x2, x3, x4, f0, f1, f2, f3, f4⟩ := HDf.out.cells
    go_upto_region 11 with fail
    obtain ⟨wg, hwg⟩ : ∃ w', w' = set5 wf w.heap.size (.int .i64 slots) (.slice aF nF cF) (.slice aG nG cG) (.string ⟨s.text.toArray⟩) (.int .i64 s.many) := ⟨_, rfl⟩
    have hdg := HDf.out.setAll (slots' := slots) (txt' := s.text) (many' := s.many) HKF.out HVF.out HLF.out HLG.out
    rw [← hwg] at hdg
    rw [show ((((wf.setCell ⟨w.heap.size, 0, none⟩ (.int .i64 slots)).setCell ⟨w.heap.size, 1, none⟩ (.slice aF nF cF)).setCell ⟨w.heap.size, 2, none⟩ (.slice aG nG cG)).setCell ⟨w.heap.size, 3, none⟩ (.string ⟨s.text.toArray⟩)).setCell ⟨w.heap.size, 4, none⟩ (.int .i64 s.many) = wg from hwg.symm]
    have HDg := Lib.hid hdg
    clear hdg hwg x0 x1 x2 x3 x4 f0 f1 f2 f3 f4
    have HSx : Hid (∀ w', Keep [] wg w' → w'.cell? ⟨w.heap.size, 0, none⟩ = some (.int .i64 slots) ∧ w'.cell? ⟨w.heap.size, 1, none⟩ = some (.slice aF nF cF) ∧ w'.cell? ⟨w.heap.size, 2, none⟩ = some (.slice aG nG cG) ∧ w'.cell? ⟨w.heap.size, 3, none⟩ = some (.string ⟨s.text.toArray⟩) ∧ w'.cell? ⟨w.heap.size, 4, none⟩ = some (.int .i64 s.many)) := Lib.hid fun w' hk => by
      have := (HDg.out.keep hk).cells
      exact ⟨this.1, this.2.1, this.2.2.1, this.2.2.2.1, this.2.2.2.2.1⟩
    have hil1 := itoa_len (n := k) (k := 7) hk0 (by decide) (by omega)
    have hil2 := itoa_len (n := v) (k := 4) hv0 (by decide) (by omega)
    have q1 : ¬ 9223372036854775807 < 2 + (Lib.itoa k).length := by omega
    have q2 : ¬ 9223372036854775807 < 2 + (Lib.itoa k).length + 1 := by omega
    have q3 : ¬ 9223372036854775807 < 2 + (Lib.itoa k).length + 1 + (Lib.itoa v).length := by omega
    have HWP : Hid ((⟨#[112, 32]⟩ : ByteArray) ++ ⟨(Lib.itoa k).toArray⟩ ++ ⟨#[32]⟩ ++ ⟨(Lib.itoa v).toArray⟩ = ⟨(wordP k v).toArray⟩) := Lib.hid (by
      have e : wordP k v = [112, 32] ++ Lib.itoa k ++ [32] ++ Lib.itoa v := by unfold wordP; simp
      rw [e, ← str_cat, ← str_cat, ← str_cat])
    have HRS : Hid (∀ w', Keep [] wg w' → RSt w' slots (putB slots s k v).keys ((putB slots s k v).M.map (·.2)) s.text s.many (rVal slots aF aG nF nG cF cG s.text s.many)) := Lib.hid fun w' hk => ⟨aF, aG, nF, nG, cF, cG, rfl, (HDg.out.keep hk).K, (HDg.out.keep hk).V, HLF.out, HLG.out⟩
    have HWL : Hid ((wordP k v).length ≤ 100) := Lib.hid (by have := wordP_len (k := k) (v := v) ⟨⟨hk0, hk1⟩, hv0, hv1⟩; omega)
    obtain ⟨y0, y1, y2, y3, y4, g0, g1, g2, g3, g4⟩ := HDg.out.rcells
    go_wp2
    go_region_held3 (fun w' => w'.cell? ⟨w.heap.size, 0, none⟩ = some (.int .i64 slots) ∧ w'.cell? ⟨w.heap.size, 1, none⟩ = some (.slice aF nF cF) ∧ w'.cell? ⟨w.heap.size, 2, none⟩ = some (.slice aG nG cG) ∧ w'.cell? ⟨w.heap.size, 3, none⟩ = some (.string ⟨s.text.toArray⟩) ∧ w'.cell? ⟨w.heap.size, 4, none⟩ = some (.int .i64 s.many))
      (first | exact HSx.out _ (Keep.refl _ _).drew | exact HSx.out _ HKd.out | exact HDd.out.xres _ _ _ _ _ | fail)
      (first
        | (go_at_call 28; refine (rdigits_int _ (by omega) (by omega) _).mono ?_; rintro e w2 ⟨rfl, rfl⟩)
        | (go_at_call 27; rw [HWP.out]; refine (rDown slots _ _ s.text s.many _ (wordP k v) _ (HRS.out _ (Keep.refl _ _).drew) HWL.out htx (by omega) (by omega)).mono ?_; rintro e wd ⟨Xd, rfl, ⟨aD, aE, nD, nE, cD, cE, rfl, hKD, hVD, hlD, hlE⟩, hbd⟩; have HKd : Hid (Keep [] wg wd) := Lib.hid ((Keep.refl _ _).drew.trans (Keep.of_below hbd (Nat.le_refl _))); have HKD := Lib.hid hKD; have HVD := Lib.hid hVD; have HLD := Lib.hid hlD; have HLE := Lib.hid hlE; have HDd := Lib.hid (HDg.out.keep HKd.out); clear hKD hVD hlD hlE hbd y0 y1 y2 y3 y4 g0 g1 g2 g3 g4; (obtain ⟨y0, y1, y2, y3, y4, g0, g1, g2, g3, g4⟩ := HDd.out.rcells)))
    have HDE := HDd
    clear y0 y1 y2 y3 y4 g0 g1 g2 g3 g4
    go_wp2
    (try simp only [Exit.inBlock, Exit.then])
    refine bodyPost_ret (results_cell3 rfl _ _ (w.heap.size + 1) 39 _ _ rfl (blk5 HDE.out.res _ _ _ _ _) Tryd.underlying39 rfl info_rstore) rfl ?_
    have hk := keep5 wd (w.heap.size + 1) (.int .i64 slots) (.slice aD nD cD) (.slice aE nE cE) (.string ⟨(s.text ++ lineOf (wordP k v)).toArray⟩) (.int .i64 ((s.many : Int) + 1))
    have hd := HDE.out.done (.int .i64 slots) (.slice aD nD cD) (.slice aE nE cE) (.string ⟨(s.text ++ lineOf (wordP k v)).toArray⟩) (.int .i64 ((s.many : Int) + 1))
    have hmc : (((putB slots s k v).many : Nat) : Int) = (s.many : Int) + 1 := by simp [putB]
    refine ⟨_, rfl, ?_, hd.2.2⟩
    unfold RB4
    rw [hmc]
    exact ⟨aD, aE, nD, nE, cD, cE, rfl, own_keep1 HKD.out hk HDE.out.res (by decide), own_keep1 HVD.out hk HDE.out.res (by decide), HLD.out, HLE.out⟩

set_option maxHeartbeats 4000000 in
set_option maxRecDepth 100000 in
theorem rPut_out (slots : Nat) (s : Bk) (X : Value) (k v : Int) (w : World) (h : RB4 w slots s X) (hr : okPut k v) (hok : BkOk slots s) (h8 : slots ≤ 8) (hm : s.many ≠ 60) (hf : fullFor slots s k) (h1 : 1 ≤ slots) :
    Calls Tryd.prog 15 #[X, .int .i64 k, .int .i64 v] w (RPutPost w slots (putB slots s k v) (letGo slots s k) 0) := by
  obtain ⟨aK, aV, nK, nV, cK, cV, rfl, hK, hV, hkl, hvl⟩ := h
  obtain ⟨w1, hw1⟩ : ∃ w1, w1 = (w.alloc (.cells #[.int .i64 slots, .slice aK nK cK, .slice aV nV cV, .string ⟨s.text.toArray⟩, .int .i64 s.many] 39)).alloc (.cells #[.int .i64 0, .slice none 0 0, .slice none 0 0, .string ⟨#[]⟩, .int .i64 0] 39) := ⟨_, rfl⟩
  have hd1 := RB.start (slots := slots) (txt := s.text) (many := (s.many : Int)) w hK hV hkl hvl
  rw [← hw1] at hd1
  have HD1 := Lib.hid hd1; have HW1 := Lib.hid hw1
  obtain ⟨⟨hk0, hk1⟩, hv0, hv1⟩ := hr
  have hmany := hok.many
  have htx : s.text.length ≤ 2000 := by have := hok.text; omega
  have hmi : ¬ (60 : Int) ≤ (s.many : Int) := by omega
  have hnK : nK = s.M.length := by rw [← hkl, keysLen]
  have hnV : nV = s.M.length := by rw [← hvl, List.length_map]
  have hn8 : nK ≤ 8 := by have := hok.len; omega
  obtain ⟨m, hm1⟩ : ∃ m, slots = m + 1 := ⟨slots - 1, by omega⟩
  have hMl : s.M.length = m + 1 := by rw [hf.2]; exact hm1
  have HLK : Hid (s.keys.eraseIdx m = (outM slots s k).map (·.1)) := Lib.hid (by unfold outM; rw [if_pos hf, List.map_dropLast]; exact (drop_erase _ (by rw [keysLen]; exact hMl)).symm)
  have HLV : Hid ((s.M.map (·.2)).eraseIdx m = (outM slots s k).map (·.2)) := Lib.hid (by unfold outM; rw [if_pos hf, List.map_dropLast]; exact (drop_erase _ (by rw [List.length_map]; exact hMl)).symm)
  have HND : Hid (((outM slots s k).map (·.1)).Nodup) := Lib.hid (by unfold outM; rw [if_pos hf]; exact ((List.dropLast_sublist _).map _).nodup hok.nod)
  have HL8 : Hid ((outM slots s k).length ≤ 8) := Lib.hid (by have := hok.len; unfold outM; rw [if_pos hf, List.length_dropLast]; omega)
  have hkm : m < s.keys.length := by rw [keysLen]; omega
  have HLG0 : Hid (letGo slots s k = s.keys[m]) := Lib.hid (by unfold letGo; rw [if_pos hf, List.getLast?_eq_getElem?, keysLen, hMl, Nat.add_sub_cancel, List.getElem?_eq_getElem hkm]; rfl)
  have HHAS : Hid (decide (k ∈ s.keys) = false) := Lib.hid (decide_eq_false hf.1)
  have hneq : ((nK : Int) == (slots : Int)) = true := by rw [hnK, hf.2]; simp
  obtain ⟨gK, oK, heK, _, hcK⟩ := (own_in HD1.out.K).at_ hkm
  subst heK
  obtain ⟨y, hy⟩ : ∃ y, y = s.keys[m] := ⟨_, rfl⟩
  rw [← hy] at hcK HLG0
  have hsub : (slots : Int) - 1 = (m : Int) := by omega
  have hwm : IntKind.i64.wrap (m : Int) = (m : Int) := IntWalk.i64_in _ (by omega)
  have hmK : m < nK := by omega
  have hmV : m < nV := by omega
  have hmKi : (m : Int) < (nK : Int) := by omega
  have hm0 : (0 : Int) ≤ (m : Int) := by omega
  have HKL := Lib.hid hkl; have HVL := Lib.hid hvl
  have HNK : Hid (nV = nK) := Lib.hid (by omega)
  have HM1 := Lib.hid hm1
  have hnV8 : nV ≤ 8 := by omega
  clear hd1 hw1 hK hV hkl hvl hm hok hf hnK hnV hMl hkm hy hm1
  go_enter Tryd.func15, Tryd.ntmps15
  go_upto_region 6 with fail
  rw [← HW1.out]
  obtain ⟨x0, x1, x2, x3, x4, f0, f1, f2, f3, f4⟩ := HD1.out.cells
  go_wp2_with (go_at_call 11; refine (rHas_is (some ⟨gK, oK, none⟩) nK cK _ s.keys k false _ HKL.out (own_in HD1.out.K) (by omega) HHAS.out).mono ?_; rintro e w2 ⟨rfl, rfl⟩)
  refine (less_s (some ⟨gK, oK, none⟩) cK nK m s.keys _ HD1.out.K HD1.out.kl hmK (by omega)).mono ?_
  rintro e w5 ⟨a5, c5, rfl, ho5, hn5, hb5⟩
  have HD5 := Lib.hid (HD1.out.below hb5)
  have HO5 := Lib.hid ho5; have HN5 := Lib.hid hn5
  clear ho5 hn5 hb5 x0 x1 x2 x3 x4 f0 f1 f2 f3 f4 hcK
  obtain ⟨x0, x1, x2, x3, x4, f0, f1, f2, f3, f4⟩ := HD5.out.cells
  go_upto_region 9 with fail
  obtain ⟨w6, hw6⟩ : ∃ w', w' = (w5.setCell ⟨w.heap.size, 1, none⟩ (.slice a5 (nK - 1) c5)) := ⟨_, rfl⟩
  have hd6 := HD5.out.setK HO5.out HN5.out
  rw [← hw6] at hd6 ⊢
  have HD6 := Lib.hid hd6
  clear hd6 hw6 x0 x1 x2 x3 x4 f0 f1 f2 f3 f4
  obtain ⟨x0, x1, x2, x3, x4, f0, f1, f2, f3, f4⟩ := HD6.out.cells
  go_wp2_with fail
  refine (less_s aV cV nV m (s.M.map (·.2)) _ HD6.out.V HD6.out.vl hmV (by omega)).mono ?_
  rintro e w7 ⟨a7, c7, rfl, ho7, hn7, hb7⟩
  have HD7 := Lib.hid (HD6.out.below hb7)
  have HO7 := Lib.hid ho7; have HN7 := Lib.hid hn7
  clear ho7 hn7 hb7 x0 x1 x2 x3 x4 f0 f1 f2 f3 f4
  obtain ⟨x0, x1, x2, x3, x4, f0, f1, f2, f3, f4⟩ := HD7.out.cells
  go_upto_region 10 with fail
  obtain ⟨w8, hw8⟩ : ∃ w', w' = (w7.setCell ⟨w.heap.size, 2, none⟩ (.slice a7 (nV - 1) c7)) := ⟨_, rfl⟩
  have hd8 := HD7.out.setV HO7.out HN7.out
  rw [← hw8] at hd8 ⊢
  have HD8 := Lib.hid hd8
  clear hd8 hw8 x0 x1 x2 x3 x4 f0 f1 f2 f3 f4
  obtain ⟨x0, x1, x2, x3, x4, f0, f1, f2, f3, f4⟩ := HD8.out.cells
  have HFR : Hid (∀ w', OwnInts w' 0 (.slice a5 (nK - 1) c5) (s.keys.eraseIdx m) → OwnInts w' 0 (.slice a7 (nV - 1) c7) ((s.M.map (·.2)).eraseIdx m) → Calls Tryd.prog 26 #[rVal slots a5 a7 (nK - 1) (nV - 1) c5 c7 s.text s.many, .int .i64 k, .int .i64 v] w' (RPost w' slots (putB slots s k v).keys ((putB slots s k v).M.map (·.2)) s.text s.many)) := Lib.hid fun w' h1 h2 =>
    rFront slots s (s.keys.eraseIdx m) ((s.M.map (·.2)).eraseIdx m) (outM slots s k) _ k v w' ⟨a5, a7, _, _, c5, c7, rfl, h1, h2, HN5.out, HN7.out⟩ HLK.out HLV.out HND.out HL8.out
  go_wp2_with fail
  refine (HFR.out _ HD8.out.K HD8.out.V).mono ?_
  rintro e wf ⟨Xf, rfl, ⟨aF, aG, nF, nG, cF, cG, rfl, hKF, hVF, hlF, hlG⟩, hbf⟩
  have HDf := Lib.hid (HD8.out.below hbf)
  have HKF := Lib.hid hKF; have HVF := Lib.hid hVF; have HLF := Lib.hid hlF; have HLG := Lib.hid hlG
  clear hKF hVF hlF hlG hbf x0 x1 x2 x3 x4 f0 f1 f2 f3 f4
  obtain ⟨x0, x1, x2, x3, x4, f0, f1, f2, f3, f4⟩ := HDf.out.cells
  go_upto_region 11 with fail
  obtain ⟨wg, hwg⟩ : ∃ w', w' = set5 wf w.heap.size (.int .i64 slots) (.slice aF nF cF) (.slice aG nG cG) (.string ⟨s.text.toArray⟩) (.int .i64 s.many) := ⟨_, rfl⟩
  have hdg := HDf.out.setAll (slots' := slots) (txt' := s.text) (many' := s.many) HKF.out HVF.out HLF.out HLG.out
  rw [← hwg] at hdg
  rw [show ((((wf.setCell ⟨w.heap.size, 0, none⟩ (.int .i64 slots)).setCell ⟨w.heap.size, 1, none⟩ (.slice aF nF cF)).setCell ⟨w.heap.size, 2, none⟩ (.slice aG nG cG)).setCell ⟨w.heap.size, 3, none⟩ (.string ⟨s.text.toArray⟩)).setCell ⟨w.heap.size, 4, none⟩ (.int .i64 s.many) = wg from hwg.symm]
  have HDg := Lib.hid hdg
  clear hdg hwg x0 x1 x2 x3 x4 f0 f1 f2 f3 f4
  have HSx : Hid (∀ w', Keep [] wg w' → w'.cell? ⟨w.heap.size, 0, none⟩ = some (.int .i64 slots) ∧ w'.cell? ⟨w.heap.size, 1, none⟩ = some (.slice aF nF cF) ∧ w'.cell? ⟨w.heap.size, 2, none⟩ = some (.slice aG nG cG) ∧ w'.cell? ⟨w.heap.size, 3, none⟩ = some (.string ⟨s.text.toArray⟩) ∧ w'.cell? ⟨w.heap.size, 4, none⟩ = some (.int .i64 s.many)) := Lib.hid fun w' hk => by
    have := (HDg.out.keep hk).cells
    exact ⟨this.1, this.2.1, this.2.2.1, this.2.2.2.1, this.2.2.2.2.1⟩
  have hil1 := itoa_len (n := k) (k := 7) hk0 (by decide) (by omega)
  have hil2 := itoa_len (n := v) (k := 4) hv0 (by decide) (by omega)
  have q1 : ¬ 9223372036854775807 < 2 + (Lib.itoa k).length := by omega
  have q2 : ¬ 9223372036854775807 < 2 + (Lib.itoa k).length + 1 := by omega
  have q3 : ¬ 9223372036854775807 < 2 + (Lib.itoa k).length + 1 + (Lib.itoa v).length := by omega
  have HWP : Hid ((⟨#[112, 32]⟩ : ByteArray) ++ ⟨(Lib.itoa k).toArray⟩ ++ ⟨#[32]⟩ ++ ⟨(Lib.itoa v).toArray⟩ = ⟨(wordP k v).toArray⟩) := Lib.hid (by
    have e : wordP k v = [112, 32] ++ Lib.itoa k ++ [32] ++ Lib.itoa v := by unfold wordP; simp
    rw [e, ← str_cat, ← str_cat, ← str_cat])
  have HRS : Hid (∀ w', Keep [] wg w' → RSt w' slots (putB slots s k v).keys ((putB slots s k v).M.map (·.2)) s.text s.many (rVal slots aF aG nF nG cF cG s.text s.many)) := Lib.hid fun w' hk => ⟨aF, aG, nF, nG, cF, cG, rfl, (HDg.out.keep hk).K, (HDg.out.keep hk).V, HLF.out, HLG.out⟩
  have HWL : Hid ((wordP k v).length ≤ 100) := Lib.hid (by have := wordP_len (k := k) (v := v) ⟨⟨hk0, hk1⟩, hv0, hv1⟩; omega)
  obtain ⟨y0, y1, y2, y3, y4, g0, g1, g2, g3, g4⟩ := HDg.out.rcells
  go_wp2
  go_region_held3 (fun w' => w'.cell? ⟨w.heap.size, 0, none⟩ = some (.int .i64 slots) ∧ w'.cell? ⟨w.heap.size, 1, none⟩ = some (.slice aF nF cF) ∧ w'.cell? ⟨w.heap.size, 2, none⟩ = some (.slice aG nG cG) ∧ w'.cell? ⟨w.heap.size, 3, none⟩ = some (.string ⟨s.text.toArray⟩) ∧ w'.cell? ⟨w.heap.size, 4, none⟩ = some (.int .i64 s.many))
    (first | exact HSx.out _ (Keep.refl _ _).drew | exact HSx.out _ HKd.out | exact HDd.out.xres _ _ _ _ _ | fail)
    (first
      | (go_at_call 28; refine (rdigits_int _ (by omega) (by omega) _).mono ?_; rintro e w2 ⟨rfl, rfl⟩)
      | (go_at_call 27; rw [HWP.out]; refine (rDown slots _ _ s.text s.many _ (wordP k v) _ (HRS.out _ (Keep.refl _ _).drew) HWL.out htx (by omega) (by omega)).mono ?_; rintro e wd ⟨Xd, rfl, ⟨aD, aE, nD, nE, cD, cE, rfl, hKD, hVD, hlD, hlE⟩, hbd⟩; have HKd : Hid (Keep [] wg wd) := Lib.hid ((Keep.refl _ _).drew.trans (Keep.of_below hbd (Nat.le_refl _))); have HKD := Lib.hid hKD; have HVD := Lib.hid hVD; have HLD := Lib.hid hlD; have HLE := Lib.hid hlE; have HDd := Lib.hid (HDg.out.keep HKd.out); clear hKD hVD hlD hlE hbd y0 y1 y2 y3 y4 g0 g1 g2 g3 g4; (obtain ⟨y0, y1, y2, y3, y4, g0, g1, g2, g3, g4⟩ := HDd.out.rcells)))
  have HDE := HDd
  clear y0 y1 y2 y3 y4 g0 g1 g2 g3 g4
  go_wp2
  (try simp only [Exit.inBlock, Exit.then])
  refine bodyPost_ret (results_cell3 rfl _ _ (w.heap.size + 1) 39 _ _ rfl (blk5 HDE.out.res _ _ _ _ _) Tryd.underlying39 rfl info_rstore) rfl ?_
  have hk := keep5 wd (w.heap.size + 1) (.int .i64 slots) (.slice aD nD cD) (.slice aE nE cE) (.string ⟨(s.text ++ lineOf (wordP k v)).toArray⟩) (.int .i64 ((s.many : Int) + 1))
  have hd := HDE.out.done (.int .i64 slots) (.slice aD nD cD) (.slice aE nE cE) (.string ⟨(s.text ++ lineOf (wordP k v)).toArray⟩) (.int .i64 ((s.many : Int) + 1))
  have hmc : (((putB slots s k v).many : Nat) : Int) = (s.many : Int) + 1 := by simp [putB]
  refine ⟨_, ret3 HLG0.out.symm, ?_, hd.2.2⟩
  unfold RB4
  rw [hmc]
  exact ⟨aD, aE, nD, nE, cD, cE, rfl, own_keep1 HKD.out hk HDE.out.res (by decide), own_keep1 HVD.out hk HDE.out.res (by decide), HLD.out, HLE.out⟩
end Go.Proofs.YticckfioggeaeaaDoor
