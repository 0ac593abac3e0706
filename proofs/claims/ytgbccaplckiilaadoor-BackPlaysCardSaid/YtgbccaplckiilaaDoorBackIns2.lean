/-
  slices.Insert of one frame at the head: where there is no room; of none; both roads in one, by their contracts.
-/
import Derived.Test.YtgbccaplckiilaaDoorBackIns
import Derived.Maps.AppendAt
import Derived.Lib.AppendZerosOnto
import Derived.Laws.NewBlocks
import Derived.Shelf.Spec.SlicesInsertGrow
namespace Go.Proofs.YtgbccaplckiilaaDoor
open Go.RowKit Go.Lib

theorem zsize (z : List Value) (n : Nat) : (Builtin.zeroCells z.toArray n).size = n * z.length := by
  simp [Builtin.zeroCells]

set_option maxHeartbeats 2000000 in
set_option maxRecDepth 100000 in
theorem insFr_grow (g cap n vb base : Nat) (f : Fr) (L : List Fr) (cs : List Value) (w : World) (hl : L.length = n) (h0 : 0 < n) (hnc : n ≤ cap) (hroom : cap < n + 1) (hb : base ≤ w.heap.size) (hblk : Blk w g 59 cs) (htk : cs.take (n * 3) = flat3 L)
    (hv : Blk w vb 59 (fr3 f)) (hn : n ≤ 1000) (v : Value) :
    Calls Tryd.prog 33 #[.slice (some ⟨g, 0, none⟩) n cap, .int .i64 0, .slice (some ⟨vb, 0, none⟩) 1 1] w (InsB w base v f L) := by
  obtain ⟨i0, hi0, hz0, hz1, hz2⟩ := info_parts info_frame
  have hfl := flat3_len L
  have hgl := hblk.lt
  have hvl := hv.lt
  have hget : ∀ j v, (flat3 L)[j]? = some v → cs[j]? = some v := fun j v hj => by
    have hjl := (List.getElem?_eq_some_iff.1 hj).1
    rw [← htk, List.getElem?_take_of_lt (by omega)] at hj
    exact hj
  obtain ⟨G, hG⟩ : ∃ G, G = grownCap w (n + 1) cap 59 := ⟨_, rfl⟩
  obtain ⟨ROW, hROW⟩ : ∃ ROW : Array Value, ROW = ([] : List Value).toArray ++ Builtin.zeroCells (Value.agg #[.int .i64 0, .int .i64 0, .bool false]).cells (n + 1) ++ Builtin.zeroCells (Value.agg #[.int .i64 0, .int .i64 0, .bool false]).cells (G - (n + 1)) := ⟨_, rfl⟩
  have hold : (Builtin.firstCells i0.size 0 (.slice (some ⟨g, 0, none⟩) 0 cap)).run Tryd.prog w.drew = .ok ([] : List Value).toArray w.drew := by
    rw [hz1]
    exact run_firstCells_some w.drew 3 0 ⟨g, 0, none⟩ 0 cap [] (by simp) (by simp)
  have hrz : ∀ ty, (Builtin.append_ #[50, 3] ty #[.slice (some ⟨g, 0, none⟩) 0 cap, .int .i64 ((n : Int) + 1)]).run Tryd.prog w = .ok (.slice (some ⟨w.heap.size, 0, none⟩) (n + 1) G) (w.drew.alloc (.cells ROW 59)) := fun ty => by
    have h := Lib.run_append_grow_zeros (P := Tryd.prog) w 50 3 ty 59 i0 _ .i64 .i64 Tryd.underlying50 Tryd.underlying3 hi0 hz0 (some ⟨g, 0, none⟩) 0 cap [] hold (n + 1) (by omega) (by omega) (by omega) (by omega) (by rw [hz2]; omega) (by rw [hz2, Nat.zero_add]; exact growslice_fits hroom (by omega))
    rw [Nat.zero_add, ← hG, ← hROW] at h
    exact h
  have hGn : n + 1 ≤ G := by rw [hG]; exact grownCap_ge w _ _ _
  have hGm : G ≤ maxLen := by rw [hG]; exact grownCap_le_maxLen w (n + 1) cap 59 (by unfold maxLen; omega)
  have hRs : ROW.size = G * 3 := by
    rw [hROW]
    simp [Builtin.zeroCells, Value.cells]
    omega
  obtain ⟨W1, hW1⟩ : ∃ W1, W1 = w.drew.alloc (.cells ROW 59) := ⟨_, rfl⟩
  have hb1 : Blk W1 w.heap.size 59 ROW.toList := by
    rw [hW1]
    have := Blk.new w.drew 59 ROW.toList
    simpa using this
  have hk1 : Keep [] w W1 := by rw [hW1]; exact ((Keep.refl [] w).drew).alloc _
  have hv1 := hv.keep hk1 (by simp)
  have hg1 := hblk.keep hk1 (by simp)
  have hcpA : ∀ (W : World), W.heap = W1.heap → ∀ ty dc, (Builtin.copy_ #[50, 50] ty #[.slice (some ⟨w.heap.size, 0, none⟩) (n + 1) dc, .slice (some ⟨vb, 0, none⟩) 1 1]).run Tryd.prog W = .ok (goInt 1) (W.setCells w.heap.size 0 (fr3 f)) := fun W hW ty dc => by
    have hbW : Blk W w.heap.size 59 ROW.toList := by unfold Blk; rw [hW]; exact hb1
    have hvW : Blk W vb 59 (fr3 f) := by unfold Blk; rw [hW]; exact hv1
    have hmin : Nat.min 1 (n + 1) = 1 := by simp [Nat.min_def]
    have := run_copy_fr W ty w.heap.size 0 (n + 1) dc ⟨vb, 0, none⟩ 1 1 (fr3 f) (by rw [hmin]; rfl) (fun j v hj => by rw [add_addr, Nat.zero_add]; exact hvW.cell_ hj) (fun j hj => by rw [hbW.cell_ (List.getElem?_eq_getElem (by simp [fr3] at hj; simp; omega))]; rfl) (fun j _ => hbW.free _) (fr3_one f)
    rwa [hmin] at this
  obtain ⟨W2, hW2⟩ : ∃ W2, W2 = W1.setCells w.heap.size 0 (fr3 f) := ⟨_, rfl⟩
  have hb2 : Blk W2 w.heap.size 59 (sets ROW.toList 0 (fr3 f)) := by rw [hW2]; exact Blk.setCells _ 0 _ _ hb1
  have hk2 : Keep [w.heap.size] W1 W2 := by rw [hW2]; exact Keep.setCells (fun _ => by simp) _ _ _ (Keep.refl _ _)
  have hg2 := hg1.keep hk2 (by simp; omega)
  have hcpB : ∀ (W : World), W.heap = W2.heap → ∀ ty dc sc, (Builtin.copy_ #[50, 50] ty #[.slice (some ⟨w.heap.size, 3, none⟩) n dc, .slice (some ⟨g, 0, none⟩) n sc]).run Tryd.prog W = .ok (goInt n) (W.setCells w.heap.size 3 (flat3 L)) := fun W hW ty dc sc => by
    have hbW : Blk W w.heap.size 59 (sets ROW.toList 0 (fr3 f)) := by unfold Blk; rw [hW]; exact hb2
    have hgW : Blk W g 59 cs := by unfold Blk; rw [hW]; exact hg2
    have hmin : Nat.min n n = n := by simp [Nat.min_def]
    have := run_copy_fr W ty w.heap.size 3 n dc ⟨g, 0, none⟩ n sc (flat3 L) (by rw [hmin]; omega) (fun j v hj => by rw [add_addr, Nat.zero_add]; exact hgW.cell_ (hget j v hj)) (fun j hj => by rw [hbW.cell_ (List.getElem?_eq_getElem (by rw [sets_len]; simp; omega))]; rfl) (fun j _ => hbW.free _) (flat3_one L)
    rwa [hmin] at this
  have hfin : ∀ W : World, W.heap = W2.heap → FAt (W.setCells w.heap.size 3 (flat3 L)) base (.slice (some ⟨w.heap.size, 0, none⟩) (n + 1) G) (f :: L) := by
    intro W hW
    have hbW : Blk W w.heap.size 59 (sets ROW.toList 0 (fr3 f)) := by unfold Blk; rw [hW]; exact hb2
    have hb3 := Blk.setCells (flat3 L) 3 _ _ hbW
    have e : (f :: L).length = n + 1 := by simp [hl]
    rw [← e]
    refine FAt.mk_ hb (by rw [e]; exact hGn) hGm hb3 (by rw [sets_len, sets_len]; simpa using hRs) ?_
    rw [e]
    apply List.ext_getElem?
    intro q
    by_cases hq : q < (n + 1) * 3
    · rw [List.getElem?_take_of_lt hq, sets_get _ _ _ _ (by rw [sets_len]; simp; omega), sets_get _ _ _ _ (by simp [fr3]; omega)]
      have e2 : flat3 (f :: L) = fr3 f ++ flat3 L := rfl
      have e3 : (fr3 f).length = 3 := rfl
      rw [e2]
      by_cases hq2 : q < 3
      · rw [if_neg (by omega), if_pos (by omega), List.getElem?_append_left (by omega), Nat.sub_zero]
      · rw [if_pos (by omega), List.getElem?_append_right (by omega), e3]
    · rw [List.getElem?_eq_none (by rw [List.length_take]; omega), List.getElem?_eq_none (by rw [flat3_len, e]; omega)]
  have hkf : ∀ W : World, Keep [w.heap.size] W1 W → Keep [] w (W.setCells w.heap.size 3 (flat3 L)) := fun W hk => Keep.setCells (fun h => absurd h (Nat.lt_irrefl _)) _ _ _ ((hk1.mono (by simp)).trans (hk.mono (fun x hx _ => hx)) |>.mono (fun x hx hlt => by simp at hx; omega))
  subst hW2
  subst hW1
  have HFIN := Lib.hid hfin; have HKF := Lib.hid hkf; have hca : ∀ ty dc, (Builtin.copy_ #[50, 50] ty #[.slice (some ⟨w.heap.size, 0, none⟩) (n + 1) dc, .slice (some ⟨vb, 0, none⟩) 1 1]).run Tryd.prog (w.alloc (.cells ROW 59)).drew = .ok (goInt 1) ((w.alloc (.cells ROW 59)).drew.setCells w.heap.size 0 (fr3 f)) := fun ty dc => hcpA _ rfl ty dc
  have HCB := Lib.hid hcpB
  have hz2 : ¬ ((0 : Int) = (n : Int)) := by omega
  have hz3 : (cap : Int) < (n : Int) + 1 := by omega
  have hw0 : IntKind.i64.wrap 1 = 1 := by decide
  have hw1 : IntKind.i64.wrap ((n : Int) + 1) = (n : Int) + 1 := IntWalk.i64_in _ (by omega)
  have hG1 : ¬ G = 1 := by omega
  have hG0 : ¬ G = 0 := by omega
  have hb6 : ¬ cap = 0 := by omega
  have hn1 : (0 : Int) ≤ (n : Int) + 1 := by omega
  have hn2 : (1 : Int) ≤ (n : Int) + 1 := by omega
  have hHne : g ≠ w.heap.size := by omega
  clear hcpA hcpB hold hROW hG hRs hfin hkf hb1 hk1 hv1 hg1 hb2 hk2 hg2 hget hfl htk
  go_enter Tryd.func33, Tryd.ntmps33
  go_wp2_with (at_builtin; refine Lib.wpList_append_run _ rfl _ _ _ _ rfl _ _ rfl rfl _ _ (hrz _) ?_)
  go_region_law (refine step_copy_runI rfl _ _ 50 50 rfl (.slice (some ⟨w.heap.size, 3, none⟩) n (G - 1)) (.slice (some ⟨g, 0, none⟩) n cap) (by simp [Act.eval, Act.put]) (by simp [Act.eval, Act.put]) (HCB.out _ (by rfl) 3 (G - 1) cap) ?_)
  go_wp2
  go_ret
  exact ⟨_, rfl, HFIN.out _ rfl, [], HKF.out _ ((Keep.setCells (fun _ => by simp) _ _ _ (Keep.refl _ _)).drew), by simp, .inr rfl⟩

set_option maxHeartbeats 1000000 in
set_option maxRecDepth 100000 in
theorem insFr_nil (a : Option Addr) (cap vb base : Nat) (f : Fr) (w : World) (h : FAt w base (.slice a 0 cap) []) (ha : a = none ∧ cap = 0 ∨ ∃ g, a = some ⟨g, 0, none⟩) (hb : base ≤ w.heap.size)
    (hv : Blk w vb 59 (fr3 f)) :
    Calls Tryd.prog 33 #[.slice a 0 cap, .int .i64 0, .slice (some ⟨vb, 0, none⟩) 1 1] w (InsB w base (.slice a 0 cap) f []) := by
  obtain ⟨i0, hi0, hz0, hz1, hz2⟩ := info_parts info_frame
  have hrow : w.ownsRow base 59 3 (.slice a 0 cap) 0 [] := h.row
  have HROW := Lib.hid hrow; have HV := Lib.hid hv
  clear hrow h hv
  rcases ha with ⟨rfl, rfl⟩ | ⟨g, rfl⟩
  all_goals
    go_enter Tryd.func33, Tryd.ntmps33
    go_wp2_with (at_builtin; refine wpList_append_own_at _ rfl _ _ 50 rfl base 59 i0 (.agg #[.int .i64 0, .int .i64 0, .bool false]) 3 24 Tryd.underlying50 hi0 hz0 hz1 hz2 rfl (by decide) _ 0 [] rfl HROW.out ⟨vb, 0, none⟩ 1 1 (fr3 f) rfl rfl (fun j u hj => by rw [add_addr, Nat.zero_add]; exact HV.out.cell_ hj) (fr3_one f) (by unfold maxLen; omega) (by omega) hb ?_; intro v' w1 hown hgrow _ hat)
    go_ret
    refine ⟨v', rfl, ⟨hown⟩, ?_⟩
    first
      | exact ⟨[g], (Keep.refl [g] w).grown hgrow (fun k hk _ => by cases hk; simp), by simp [Value.ownBlock], hat⟩
      | exact ⟨[], (Keep.refl [] w).grown hgrow (fun k hk => nomatch hk), by simp, hat⟩

/-- One frame more at the head. -/
theorem insFr_any (v : Value) (vb base n : Nat) (f : Fr) (L : List Fr) (w : World) (h : FAt w base v L) (hl : L.length = n) (hb : base ≤ w.heap.size) (hv : Blk w vb 59 (fr3 f)) (hne : some vb ≠ v.ownBlock) (hn : n ≤ 1000) :
    Calls Tryd.prog 33 #[v, .int .i64 0, .slice (some ⟨vb, 0, none⟩) 1 1] w (InsB w base v f L) := by
  have h' := h
  obtain ⟨hl2, ⟨rfl, hn0⟩ | ⟨g, cap, cur, rfl, hbg, hh, hc, hm, hs, ht⟩⟩ := h
  · have : L = [] := List.length_eq_zero_iff.1 hn0
    subst this
    exact insFr_nil none 0 vb base f w h' (.inl ⟨rfl, rfl⟩) hb hv
  · rcases Nat.eq_zero_or_pos L.length with h0 | h0
    · have : L = [] := List.length_eq_zero_iff.1 h0
      subst this
      exact insFr_nil _ cap vb base f w h' (.inr ⟨g, rfl⟩) hb hv
    · have hblk : Blk w g 59 cur.toList := by unfold Blk; simpa using hh
      rw [hl]
      rw [hl] at h0 hc ht
      by_cases hr : n + 1 ≤ cap
      · exact insFr_room g cap n vb base f L cur.toList w hl h0 hr hm hbg hblk (by simpa using hs) ht hv (fun e => hne (by rw [e]; rfl)) hn
      · exact insFr_grow g cap n vb base f L cur.toList w hl h0 hc (by omega) hb hblk ht hv hn _
end Go.Proofs.YtgbccaplckiilaaDoor
