/-
  slices.Insert of one number into a row of the call's own, at a place: by its contract.
-/
import Derived.Test.YthldhbcidcmmaaaDoorSets
import Derived.Shelf.Spec.SlicesInsert
import Derived.Shelf.Spec.SlicesInsertGrow
import Derived.Maps.AppendAt
import Derived.Lib.AppendZerosOnto
import Derived.Laws.NewBlocks
import Derived.Deep.RegionLaw
import Derived.Deep.AppendLies
namespace Go.Proofs.YthldhbcidcmmaaaDoor
open Go.RowKit Go.Lib

theorem blk_shape {w : World} {g : Nat} {t : TypeId} {cs : List Value} (h : Blk w g t cs) : w.shape? g = some (t, cs.length) := by
  unfold Blk at h
  simp [World.shape?, h]
theorem run_copy_i (w : World) (ty : TypeId) (b o dLen dCap : Nat) (a : Addr) (sLen sCap : Nat) (cs : List Value) (hn : cs.length = Nat.min sLen dLen * 1)
    (hsrc : ∀ j v, cs[j]? = some v → w.cell? (a.add j) = some v) (hc : ∀ j, j < cs.length → (w.cell? ⟨b, o + j, none⟩).isSome = true) (hf : ∀ j, j < cs.length → w.frozen? ⟨b, o + j, none⟩ = false) (h1 : ∀ v ∈ cs, v.oneCell' = true) :
    (Builtin.copy_ #[22, 22] ty #[.slice (some ⟨b, o, none⟩) dLen dCap, .slice (some a) sLen sCap]).run Tryd.prog w = .ok (goInt (Nat.min sLen dLen)) (w.setCells b o cs) := by
  obtain ⟨i0, hi0, hz0, hz1, hz2⟩ := info_parts info_int
  have hfc := run_firstCells_some (P := Tryd.prog) w 1 (Nat.min sLen dLen) a sLen sCap cs hn hsrc
  have hst := run_storeCells_cells (P := Tryd.prog) b o cs 0 w (by simpa using hc) (by simpa using hf) h1
  simp only [Nat.add_zero] at hst
  have hlo : ∀ wx : World, (Builtin.lenOf (.slice (some a) sLen sCap)).run Tryd.prog wx = .ok sLen wx := fun _ => rfl
  simp [Builtin.copy_, run_underlying Tryd.underlying22, sizeOf, typeInfo, hi0, hz1, hlo, hfc, hst]

def InsAt (w : World) (base : Nat) (v : Value) (i : Nat) (f : Int) (L : List Int) (e : Ending) (w' : World) : Prop := ∃ v', e = .returned v' ∧ OwnInts w' base v' (L.take i ++ f :: L.drop i) ∧ ∃ F, Keep F w w' ∧ (∀ x ∈ F, some x = v.ownBlock) ∧ (v'.ownBlock = v.ownBlock ∨ v'.ownBlock = some w.heap.size)
theorem own_mk {w : World} {base g cap : Nat} {L : List Int} {cs : List Value} (hb : base ≤ g) (hc : L.length ≤ cap) (hm : cap ≤ maxLen) (h : Blk w g 3 cs) (hs : cs.length = cap) (ht : cs.take L.length = ints L) : OwnInts w base (.slice (some ⟨g, 0, none⟩) L.length cap) L :=
  ⟨by rw [ints_len, Nat.mul_one], .inr ⟨g, cap, cs.toArray, rfl, hb, h, hc, hm, by simpa using hs, by rw [Nat.mul_one]; exact ht⟩⟩
theorem insAt_len (L : List Int) (i : Nat) (f : Int) (hi : i ≤ L.length) : (L.take i ++ f :: L.drop i).length = L.length + 1 := by simp; omega

set_option maxHeartbeats 2000000 in
set_option maxRecDepth 100000 in
theorem insAt_room (g cap n vb base i : Nat) (f : Int) (L : List Int) (cs : List Value) (w : World) (hl : L.length = n) (hi : i < n) (hroom : n + 1 ≤ cap) (hcm : cap ≤ maxLen) (hb : base ≤ g) (hblk : Blk w g 3 cs) (hlen : cs.length = cap) (htk : cs.take n = ints L)
    (hv : Blk w vb 3 [.int .i64 f]) (hne : vb ≠ g) (hn : n ≤ 1000) :
    Calls Tryd.prog 39 #[.slice (some ⟨g, 0, none⟩) n cap, .int .i64 i, .slice (some ⟨vb, 0, none⟩) 1 1] w (InsAt w base (.slice (some ⟨g, 0, none⟩) n cap) i f L) := by
  have hget : ∀ (j : Nat) (v : Value), (ints L)[j]? = some v → cs[j]? = some v := fun j v hj => by
    have hjl := (List.getElem?_eq_some_iff.1 hj).1
    rw [ints_len] at hjl
    rw [← htk, List.getElem?_take_of_lt (by omega)] at hj
    exact hj
  have hov : ∀ lb cb, (callFunc 59 #[.slice (some ⟨vb, 0, none⟩) 1 1, .slice (some ⟨g, i + 1, none⟩) lb cb]).run Tryd.prog w = .ok (.value (.bool false)) w := fun lb cb => by
    rw [run_callFunc_extern Tryd.func59 (by kernel_rfl) (by kernel_rfl) (by kernel_rfl) (e := Extern.SlicesOverlaps.overlaps #[22, 22] #[4]) (by kernel_rfl),
      Lib.run_overlaps_apart w 22 4 3 Tryd.underlying22 1 (fun wx => by obtain ⟨i0, hi0, hz0, hz1, hz2⟩ := info_parts info_int; simp [Go.sizeOf, typeInfo, hi0, hz1]) ⟨vb, 0, none⟩ ⟨g, i + 1, none⟩ 1 1 lb cb hne _ _ _ _ (blk_shape hv) (blk_shape hblk) (by omega) (hv.free 0) (hv.free _)]
    rfl
  obtain ⟨D, hD⟩ : ∃ D, D = ints (L.drop i) := ⟨_, rfl⟩
  have hDl : D.length = n - i := by rw [hD, ints_len, List.length_drop, hl]
  have hDg : ∀ j v, D[j]? = some v → cs[i + j]? = some v := fun j v hj => by
    rw [hD] at hj
    refine hget _ _ ?_
    simp only [ints, List.getElem?_map, List.getElem?_drop] at hj ⊢
    exact hj
  have hD1 : ∀ v ∈ D, v.oneCell' = true := by
    rw [hD]; intro v hv; obtain ⟨x, _, rfl⟩ := List.mem_map.1 hv; rfl
  have hsome : ∀ j, j < cap → (w.cell? ⟨g, j, none⟩).isSome = true := fun j hj => by rw [hblk.cell_ (List.getElem?_eq_getElem (by omega))]; rfl
  have hcp1 : ∀ ty dc sc, (Builtin.copy_ #[22, 22] ty #[.slice (some ⟨g, i + 1, none⟩) (n - i) dc, .slice (some ⟨g, i, none⟩) (n + 1 - i) sc]).run Tryd.prog w.drew = .ok (goInt ((n - i : Nat) : Int)) (w.drew.setCells g (i + 1) D) := fun ty dc sc => by
    have hmin : Nat.min (n + 1 - i) (n - i) = n - i := Nat.min_eq_right (by omega)
    have := run_copy_i w.drew ty g (i + 1) (n - i) dc ⟨g, i, none⟩ (n + 1 - i) sc D (by rw [hmin]; omega) (fun j v hj => by rw [add_addr]; exact hblk.cell_ (hDg j v hj)) (fun j hj => hsome _ (by omega)) (fun j _ => hblk.free _) hD1
    rwa [hmin] at this
  obtain ⟨W1, hW1⟩ : ∃ W1, W1 = w.drew.setCells g (i + 1) D := ⟨_, rfl⟩
  have hb1 : Blk W1 g 3 (sets cs (i + 1) D) := by rw [hW1]; exact Blk.setCells _ (i + 1) cs _ hblk.drew
  have hk1 : Keep [g] w W1 := by rw [hW1]; exact Keep.setCells (fun _ => by simp) _ _ _ ((Keep.refl _ _).drew)
  have hv1 : Blk W1 vb 3 [.int .i64 f] := hv.keep hk1 (by simpa using hne)
  have hcp2 : ∀ ty dc, (Builtin.copy_ #[22, 22] ty #[.slice (some ⟨g, i, none⟩) (n + 1 - i) dc, .slice (some ⟨vb, 0, none⟩) 1 1]).run Tryd.prog W1 = .ok (goInt 1) (W1.setCells g i [.int .i64 f]) := fun ty dc => by
    have hmin : Nat.min 1 (n + 1 - i) = 1 := Nat.min_eq_left (by omega)
    have := run_copy_i W1 ty g i (n + 1 - i) dc ⟨vb, 0, none⟩ 1 1 [.int .i64 f] (by rw [hmin]; rfl) (fun j v hj => by rw [add_addr, Nat.zero_add]; exact hv1.cell_ hj) (fun j hj => by rw [hb1.cell_ (List.getElem?_eq_getElem (by rw [sets_len]; simp at hj; omega))]; rfl) (fun j _ => hb1.free _) (by intro u hu; simp at hu; subst hu; rfl)
    rwa [hmin] at this
  have hb2 := Blk.setCells [.int .i64 f] i _ _ hb1
  have hk2 : Keep [g] w (W1.setCells g i [.int .i64 f]) := Keep.setCells (fun _ => by simp) _ _ _ hk1
  have hfin : OwnInts (W1.setCells g i [.int .i64 f]) base (.slice (some ⟨g, 0, none⟩) (n + 1) cap) (L.take i ++ f :: L.drop i) := by
    have e := insAt_len L i f (by omega)
    rw [hl] at e
    rw [← e]
    refine own_mk hb (by rw [e]; exact hroom) hcm hb2 (by rw [sets_len, sets_len]; exact hlen) ?_
    rw [e]
    apply List.ext_getElem?
    intro q
    have e2 : ints (L.take i ++ f :: L.drop i) = (ints L).take i ++ .int .i64 f :: D := by rw [hD]; simp [ints]
    rw [e2]
    by_cases hq : q < n + 1
    · rw [List.getElem?_take_of_lt hq, sets_get _ _ _ _ (by rw [sets_len]; simp; omega), sets_get _ _ _ _ (by omega)]
      have htl : ((ints L).take i).length = i := by rw [List.length_take, ints_len]; omega
      rcases Nat.lt_trichotomy q i with hq2 | hq2 | hq2
      · rw [if_neg (by omega), if_neg (by omega), List.getElem?_append_left (by omega), List.getElem?_take_of_lt hq2]
        have hq3 : (ints L)[q]? = some ((ints L)[q]'(by rw [ints_len]; omega)) := List.getElem?_eq_getElem _
        rw [hq3]; exact hget q _ hq3
      · subst hq2
        rw [if_pos (by simp), List.getElem?_append_right (by omega), htl]; simp
      · rw [if_neg (by simp; omega), if_pos (by omega), List.getElem?_append_right (by omega), htl, show q - i = (q - (i + 1)) + 1 by omega]; simp
    · rw [List.getElem?_eq_none (by rw [List.length_take]; omega), List.getElem?_eq_none (by simp [ints]; omega)]
  have HFIN := Lib.hid hfin; have HK2 := Lib.hid hk2
  have hW : Hid (W1 = w.drew.setCells g (i + 1) D) := hW1
  rw [← hW1] at hcp1
  have hz2 : ¬ ((i : Int) = (n : Int)) := by omega
  have hz3 : (n : Int) + 1 ≤ (cap : Int) := by omega
  have hz4 : ¬ (cap : Int) < (n : Int) + 1 := by omega
  have hw1 : IntKind.i64.wrap ((n : Int) + 1) = (n : Int) + 1 := IntWalk.i64_in _ (by unfold maxLen at hcm; omega)
  have hw2 : IntKind.i64.wrap ((i : Int) + 1) = (i : Int) + 1 := IntWalk.i64_in _ (by omega)
  have hb5 : ¬ cap = i + 1 := by omega
  have hb6 : ¬ cap = i := by omega
  have hi0 : (0 : Int) ≤ (i : Int) := by omega
  have hin : (i : Int) ≤ (n : Int) := by omega
  clear hW1 hfin hk2 hb2 hv1 hk1 hb1 hsome hget htk hD hDl hDg hD1
  go_enter Tryd.func39, Tryd.ntmps39
  go_wp2_with (simp only [hov])
  have hp1 : (0 : Int) ≤ (i : Int) + 1 := by omega
  have hp2 : (i : Int) + 1 ≤ (n : Int) + 1 := by omega
  have hp3 : (i : Int) ≤ (n : Int) + 1 := by omega
  have hp4 : ((i : Int) + 1).toNat = i + 1 := by omega
  have hp5 : ((n : Int) + 1).toNat = n + 1 := by omega
  go_region_law (refine step_copy_runI rfl _ _ 22 22 rfl _ _ (by simp [Act.eval, Act.put]) (by simp [Act.eval, Act.put]) (hcp1 _ _ _) ?_)
  go_wp2_with (at_builtin; refine wpList_copy_runI _ rfl _ _ 22 22 rfl _ _ rfl rfl (hcp2 _ _) ?_)
  go_ret
  exact ⟨_, rfl, HFIN.out, [g], HK2.out, by simp [Value.ownBlock], .inl rfl⟩

set_option maxHeartbeats 2000000 in
set_option maxRecDepth 100000 in
theorem insAt_grow (g cap n vb base i : Nat) (f : Int) (L : List Int) (cs : List Value) (w : World) (hl : L.length = n) (hi : i < n) (hnc : n ≤ cap) (hroom : cap < n + 1) (hb : base ≤ w.heap.size) (hblk : Blk w g 3 cs) (htk : cs.take n = ints L)
    (hv : Blk w vb 3 [.int .i64 f]) (hn : n ≤ 1000) (v : Value) :
    Calls Tryd.prog 39 #[.slice (some ⟨g, 0, none⟩) n cap, .int .i64 i, .slice (some ⟨vb, 0, none⟩) 1 1] w (InsAt w base v i f L) := by
  obtain ⟨i0, hi0, hz0, hz1, hz2⟩ := info_parts info_int
  have hgl := hblk.lt
  have hvl := hv.lt
  have hget : ∀ (j : Nat) (v : Value), (ints L)[j]? = some v → cs[j]? = some v := fun j v hj => by
    have hjl := (List.getElem?_eq_some_iff.1 hj).1
    rw [ints_len] at hjl
    rw [← htk, List.getElem?_take_of_lt (by omega)] at hj
    exact hj
  obtain ⟨K, hK⟩ : ∃ K, K = n + 1 - i := ⟨_, rfl⟩
  have hKi : (n : Int) + 1 - (i : Int) = (K : Int) := by omega
  have hiK : i + K = n + 1 := by omega
  obtain ⟨T, hT⟩ : ∃ T, T = ints (L.take i) := ⟨_, rfl⟩
  have hTl : T.length = i := by rw [hT, ints_len, List.length_take]; omega
  have hTg : ∀ j v, T[j]? = some v → cs[j]? = some v := fun j v hj => by
    have hjl := (List.getElem?_eq_some_iff.1 hj).1
    refine hget _ _ ?_
    rw [hT] at hj
    simp only [ints, List.getElem?_map] at hj ⊢
    rwa [List.getElem?_take_of_lt (by omega)] at hj
  obtain ⟨G, hG⟩ : ∃ G, G = grownCap w (n + 1) cap 3 := ⟨_, rfl⟩
  obtain ⟨ROW, hROW⟩ : ∃ ROW : Array Value, ROW = T.toArray ++ Builtin.zeroCells (Value.int .i64 0).cells K ++ Builtin.zeroCells (Value.int .i64 0).cells (G - (n + 1)) := ⟨_, rfl⟩
  have hold : (Builtin.firstCells i0.size i (.slice (some ⟨g, 0, none⟩) i cap)).run Tryd.prog w.drew = .ok T.toArray w.drew := by
    rw [hz1]
    exact run_firstCells_some w.drew 1 i ⟨g, 0, none⟩ i cap T (by omega) (fun j u hu => by rw [add_addr, Nat.zero_add]; exact hblk.cell_ (hTg j u hu))
  have hrz : ∀ ty, (Builtin.append_ #[22, 3] ty #[.slice (some ⟨g, 0, none⟩) i cap, .int .i64 (K : Int)]).run Tryd.prog w = .ok (.slice (some ⟨w.heap.size, 0, none⟩) (n + 1) G) (w.drew.alloc (.cells ROW 3)) := fun ty => by
    have h := Lib.run_append_grow_zeros (P := Tryd.prog) w 22 3 ty 3 i0 _ .i64 .i64 Tryd.underlying22 Tryd.underlying3 hi0 hz0 (some ⟨g, 0, none⟩) i cap T hold K (by omega) (by omega) (by omega) (by omega) (by rw [hz2]; omega) (by rw [hz2, hiK]; exact growslice_fits hroom (by omega))
    rw [hiK, ← hG, ← hROW] at h
    exact h
  have hGn : n + 1 ≤ G := by rw [hG]; exact grownCap_ge w _ _ _
  have hGm : G ≤ maxLen := by rw [hG]; exact grownCap_le_maxLen w (n + 1) cap 3 (by unfold maxLen; omega)
  have hRs : ROW.size = G := by
    rw [hROW]
    simp [Builtin.zeroCells, Value.cells, hTl]
    omega
  have hRT : ∀ j, j < i → ROW.toList[j]? = T[j]? := fun j hj => by
    rw [hROW]
    simp only [Array.toList_append, List.append_assoc]
    rw [List.getElem?_append_left (by first | omega | (simp; omega) | (show j < T.length; omega))]
  obtain ⟨W1, hW1⟩ : ∃ W1, W1 = w.drew.alloc (.cells ROW 3) := ⟨_, rfl⟩
  have hb1 : Blk W1 w.heap.size 3 ROW.toList := by
    rw [hW1]
    have := Blk.new w.drew 3 ROW.toList
    simpa using this
  have hk1 : Keep [] w W1 := by rw [hW1]; exact ((Keep.refl [] w).drew).alloc _
  have hv1 := hv.keep hk1 (by simp)
  have hg1 := hblk.keep hk1 (by simp)
  obtain ⟨D, hD⟩ : ∃ D, D = ints (L.drop i) := ⟨_, rfl⟩
  have hDl : D.length = n - i := by rw [hD, ints_len, List.length_drop, hl]
  have hDg : ∀ j v, D[j]? = some v → cs[i + j]? = some v := fun j v hj => by
    rw [hD] at hj
    refine hget _ _ ?_
    simp only [ints, List.getElem?_map, List.getElem?_drop] at hj ⊢
    exact hj
  have hD1 : ∀ v ∈ D, v.oneCell' = true := by
    rw [hD]; intro v hv; obtain ⟨x, _, rfl⟩ := List.mem_map.1 hv; rfl
  have hcpA : ∀ (W : World), W.heap = W1.heap → ∀ ty dc, (Builtin.copy_ #[22, 22] ty #[.slice (some ⟨w.heap.size, i, none⟩) (n + 1 - i) dc, .slice (some ⟨vb, 0, none⟩) 1 1]).run Tryd.prog W = .ok (goInt 1) (W.setCells w.heap.size i [.int .i64 f]) := fun W hW ty dc => by
    have hbW : Blk W w.heap.size 3 ROW.toList := by unfold Blk; rw [hW]; exact hb1
    have hvW : Blk W vb 3 [.int .i64 f] := by unfold Blk; rw [hW]; exact hv1
    have hmin : Nat.min 1 (n + 1 - i) = 1 := Nat.min_eq_left (by omega)
    have := run_copy_i W ty w.heap.size i (n + 1 - i) dc ⟨vb, 0, none⟩ 1 1 [.int .i64 f] (by rw [hmin]; rfl) (fun j v hj => by rw [add_addr, Nat.zero_add]; exact hvW.cell_ hj) (fun j hj => by rw [hbW.cell_ (List.getElem?_eq_getElem (by simp at hj; simp; omega))]; rfl) (fun j _ => hbW.free _) (by intro u hu; simp at hu; subst hu; rfl)
    rwa [hmin] at this
  obtain ⟨W2, hW2⟩ : ∃ W2, W2 = W1.setCells w.heap.size i [.int .i64 f] := ⟨_, rfl⟩
  have hb2 : Blk W2 w.heap.size 3 (sets ROW.toList i [.int .i64 f]) := by rw [hW2]; exact Blk.setCells _ i _ _ hb1
  have hk2 : Keep [w.heap.size] W1 W2 := by rw [hW2]; exact Keep.setCells (fun _ => by simp) _ _ _ (Keep.refl _ _)
  have hg2 := hg1.keep hk2 (by simp; omega)
  have hcpB : ∀ (W : World), W.heap = W2.heap → ∀ ty dc sc, (Builtin.copy_ #[22, 22] ty #[.slice (some ⟨w.heap.size, i + 1, none⟩) (n - i) dc, .slice (some ⟨g, i, none⟩) (n - i) sc]).run Tryd.prog W = .ok (goInt ((n - i : Nat) : Int)) (W.setCells w.heap.size (i + 1) D) := fun W hW ty dc sc => by
    have hbW : Blk W w.heap.size 3 (sets ROW.toList i [.int .i64 f]) := by unfold Blk; rw [hW]; exact hb2
    have hgW : Blk W g 3 cs := by unfold Blk; rw [hW]; exact hg2
    have hmin : Nat.min (n - i) (n - i) = n - i := by simp
    have := run_copy_i W ty w.heap.size (i + 1) (n - i) dc ⟨g, i, none⟩ (n - i) sc D (by rw [hmin]; omega) (fun j v hj => by rw [add_addr]; exact hgW.cell_ (hDg j v hj)) (fun j hj => by rw [hbW.cell_ (List.getElem?_eq_getElem (by rw [sets_len]; simp; omega))]; rfl) (fun j _ => hbW.free _) hD1
    rwa [hmin] at this
  have hfin : ∀ W : World, W.heap = W2.heap → OwnInts (W.setCells w.heap.size (i + 1) D) base (.slice (some ⟨w.heap.size, 0, none⟩) (n + 1) G) (L.take i ++ f :: L.drop i) := by
    intro W hW
    have hbW : Blk W w.heap.size 3 (sets ROW.toList i [.int .i64 f]) := by unfold Blk; rw [hW]; exact hb2
    have hb3 := Blk.setCells D (i + 1) _ _ hbW
    have e := insAt_len L i f (by omega)
    rw [hl] at e
    rw [← e]
    refine own_mk hb (by rw [e]; exact hGn) hGm hb3 (by rw [sets_len, sets_len]; simpa using hRs) ?_
    rw [e]
    apply List.ext_getElem?
    intro q
    have e2 : ints (L.take i ++ f :: L.drop i) = T ++ .int .i64 f :: D := by rw [hD, hT]; simp [ints]
    rw [e2]
    by_cases hq : q < n + 1
    · rw [List.getElem?_take_of_lt hq, sets_get _ _ _ _ (by rw [sets_len]; simp; omega), sets_get _ _ _ _ (by simp; omega)]
      rcases Nat.lt_trichotomy q i with hq2 | hq2 | hq2
      · rw [if_neg (by omega), if_neg (by omega), List.getElem?_append_left (by omega), hRT q hq2]
      · subst hq2
        rw [if_neg (by omega), if_pos (by simp), List.getElem?_append_right (by omega), hTl]; simp
      · rw [if_pos (by omega), List.getElem?_append_right (by omega), hTl, show q - i = (q - (i + 1)) + 1 by omega]; simp
    · rw [List.getElem?_eq_none (by rw [List.length_take]; omega), List.getElem?_eq_none (by simp; omega)]
  have hkf : ∀ W : World, Keep [w.heap.size] W1 W → Keep [] w (W.setCells w.heap.size (i + 1) D) := fun W hk => Keep.setCells (fun h => absurd h (Nat.lt_irrefl _)) _ _ _ ((hk1.mono (by simp)).trans (hk.mono (fun x hx _ => hx)) |>.mono (fun x hx hlt => by simp at hx; omega))
  subst hW2
  subst hW1
  have HFIN := Lib.hid hfin; have HKF := Lib.hid hkf
  have hca : ∀ ty dc, (Builtin.copy_ #[22, 22] ty #[.slice (some ⟨w.heap.size, i, none⟩) (n + 1 - i) dc, .slice (some ⟨vb, 0, none⟩) 1 1]).run Tryd.prog (w.alloc (.cells ROW 3)).drew = .ok (goInt 1) ((w.alloc (.cells ROW 3)).drew.setCells w.heap.size i [.int .i64 f]) := fun ty dc => hcpA _ rfl ty dc
  have HCB := Lib.hid hcpB
  have hz2 : ¬ ((i : Int) = (n : Int)) := by omega
  have hz3 : (cap : Int) < (n : Int) + 1 := by omega
  have hw0 : IntKind.i64.wrap 1 = 1 := by decide
  have hw1 : IntKind.i64.wrap ((n : Int) + 1) = (n : Int) + 1 := IntWalk.i64_in _ (by omega)
  have hw2 : IntKind.i64.wrap ((i : Int) + 1) = (i : Int) + 1 := IntWalk.i64_in _ (by omega)
  have hw3 : IntKind.i64.wrap (K : Int) = (K : Int) := IntWalk.i64_in _ (by omega)
  have hG1 : ¬ G = i + 1 := by omega
  have hG0 : ¬ G = i := by omega
  have hb6 : ¬ cap = i := by omega
  have hi1 : (0 : Int) ≤ (i : Int) := by omega
  have hin : (i : Int) ≤ (n : Int) := by omega
  have hic : (i : Int) ≤ (cap : Int) := by omega
  have hp1 : (0 : Int) ≤ (i : Int) + 1 := by omega
  have hp2 : (i : Int) + 1 ≤ (n : Int) + 1 := by omega
  have hp3 : (i : Int) ≤ (n : Int) + 1 := by omega
  have hp4 : ((i : Int) + 1).toNat = i + 1 := by omega
  have hHne : g ≠ w.heap.size := by omega
  clear hcpA hcpB hold hROW hG hRs hfin hkf hb1 hk1 hv1 hg1 hb2 hk2 hg2 hget htk hT hTl hTg hRT hD hDl hDg hD1 hK hiK
  go_enter Tryd.func39, Tryd.ntmps39
  go_wp2_with (at_builtin; refine Lib.wpList_append_run _ rfl _ _ _ _ rfl _ _ rfl rfl _ _ (hrz _) ?_)
  go_region_law (refine step_copy_runI rfl _ _ 22 22 rfl (.slice (some ⟨w.heap.size, i + 1, none⟩) (n - i) (G - (i + 1))) (.slice (some ⟨g, i, none⟩) (n - i) (cap - i)) (by simp [Act.eval, Act.put]) (by simp [Act.eval, Act.put]) (HCB.out _ (by rfl) 3 (G - (i + 1)) (cap - i)) ?_)
  go_wp2
  go_ret
  exact ⟨_, rfl, HFIN.out _ rfl, [], HKF.out _ ((Keep.setCells (fun _ => by simp) _ _ _ (Keep.refl _ _)).drew), by simp, .inr rfl⟩

set_option maxHeartbeats 1000000 in
set_option maxRecDepth 100000 in
theorem insAt_end (v : Value) (vb base n : Nat) (f : Int) (L : List Int) (w : World) (h : OwnInts w base v L) (hl : L.length = n) (hb : base ≤ w.heap.size) (hv : Blk w vb 3 [.int .i64 f]) (hn : n ≤ 1000) :
    Calls Tryd.prog 39 #[v, .int .i64 n, .slice (some ⟨vb, 0, none⟩) 1 1] w (InsAt w base v n f L) := by
  obtain ⟨i0, hi0, hz0, hz1, hz2⟩ := info_parts info_int
  have hrow : w.ownsRow base 3 1 v n (ints L) := by rw [← hl]; exact h
  have HROW := Lib.hid hrow; have HV := Lib.hid hv; have HL := Lib.hid hl
  have hsh : ∃ a c, v = .slice a n c ∧ n ≤ c ∧ (a = none ∧ c = 0 ∨ ∃ g, a = some ⟨g, 0, none⟩) := by
    obtain ⟨hl2, ⟨rfl, h0⟩ | ⟨g, cap, cur, rfl, _, _, hc, _⟩⟩ := hrow
    · subst h0; exact ⟨none, 0, rfl, Nat.le_refl _, .inl ⟨rfl, rfl⟩⟩
    · exact ⟨_, cap, rfl, hc, .inr ⟨g, rfl⟩⟩
  have hfin : ∀ (v' : Value) (w' : World), w'.ownsRow base 3 1 v' (n + 1) (ints L ++ [.int .i64 f]) → OwnInts w' base v' (L.take n ++ f :: L.drop n) := fun v' w' ho => by
    rw [List.take_of_length_le (by omega), List.drop_of_length_le (by omega)]
    unfold OwnInts
    rw [List.length_append, hl]
    simpa [ints] using ho
  have HFIN := Lib.hid hfin
  clear hrow h hv hl hfin
  obtain ⟨a, c, rfl, hnc, hac⟩ := hsh
  have hn0 : (0 : Int) ≤ (n : Int) := by omega
  rcases hac with ⟨rfl, rfl⟩ | ⟨g, rfl⟩
  · obtain rfl : n = 0 := by omega
    go_enter Tryd.func39, Tryd.ntmps39
    go_wp2_with (at_builtin; refine wpList_append_own_at _ rfl _ _ 22 rfl base 3 i0 (.int .i64 0) 1 8 Tryd.underlying22 hi0 hz0 hz1 hz2 rfl (by decide) _ 0 (ints L) rfl HROW.out ⟨vb, 0, none⟩ 1 1 [.int .i64 f] rfl rfl (fun j u hj => by rw [add_addr, Nat.zero_add]; exact HV.out.cell_ hj) (by intro u hu; simp at hu; subst hu; rfl) (by unfold maxLen; omega) (by omega) hb ?_; intro v' w1 hown hgrow _ hat; have HOWN := Lib.hid hown; have HGROW := Lib.hid hgrow; have HAT := Lib.hid hat; clear hown hgrow hat)
    go_ret
    exact ⟨v', rfl, HFIN.out _ _ HOWN.out, [], (Keep.refl [] w).grown HGROW.out (fun k hk => nomatch hk), by simp, HAT.out⟩
  · have hic : (n : Int) ≤ (c : Int) := by omega
    by_cases hcn : c = n
    · subst hcn
      go_enter Tryd.func39, Tryd.ntmps39
      go_wp2_with (at_builtin; refine wpList_append_own_at _ rfl _ _ 22 rfl base 3 i0 (.int .i64 0) 1 8 Tryd.underlying22 hi0 hz0 hz1 hz2 rfl (by decide) _ c (ints L) rfl HROW.out ⟨vb, 0, none⟩ 1 1 [.int .i64 f] rfl rfl (fun j u hj => by rw [add_addr, Nat.zero_add]; exact HV.out.cell_ hj) (by intro u hu; simp at hu; subst hu; rfl) (by unfold maxLen; omega) (by omega) hb ?_; intro v' w1 hown hgrow _ hat; have HOWN := Lib.hid hown; have HGROW := Lib.hid hgrow; have HAT := Lib.hid hat; clear hown hgrow hat)
      go_ret
      exact ⟨v', rfl, HFIN.out _ _ HOWN.out, [g], (Keep.refl [g] w).grown HGROW.out (fun k hk _ => by cases hk; simp), by simp [Value.ownBlock], HAT.out⟩
    · go_enter Tryd.func39, Tryd.ntmps39
      go_wp2_with (at_builtin; refine wpList_append_own_at _ rfl _ _ 22 rfl base 3 i0 (.int .i64 0) 1 8 Tryd.underlying22 hi0 hz0 hz1 hz2 rfl (by decide) _ n (ints L) rfl HROW.out ⟨vb, 0, none⟩ 1 1 [.int .i64 f] rfl rfl (fun j u hj => by rw [add_addr, Nat.zero_add]; exact HV.out.cell_ hj) (by intro u hu; simp at hu; subst hu; rfl) (by unfold maxLen; omega) (by omega) hb ?_; intro v' w1 hown hgrow _ hat; have HOWN := Lib.hid hown; have HGROW := Lib.hid hgrow; have HAT := Lib.hid hat; clear hown hgrow hat)
      go_ret
      exact ⟨v', rfl, HFIN.out _ _ HOWN.out, [g], (Keep.refl [g] w).grown HGROW.out (fun k hk _ => by cases hk; simp), by simp [Value.ownBlock], HAT.out⟩

/-- One number more, at its place. -/
theorem insAt_any (v : Value) (vb base n i : Nat) (f : Int) (L : List Int) (w : World) (h : OwnInts w base v L) (hl : L.length = n) (hi : i ≤ n) (hb : base ≤ w.heap.size) (hv : Blk w vb 3 [.int .i64 f]) (hne : some vb ≠ v.ownBlock) (hn : n ≤ 1000) :
    Calls Tryd.prog 39 #[v, .int .i64 i, .slice (some ⟨vb, 0, none⟩) 1 1] w (InsAt w base v i f L) := by
  by_cases hin : i = n
  · subst hin; exact insAt_end v vb base i f L w h hl hb hv hn
  · have h' := h
    obtain ⟨hl2, ⟨rfl, hn0⟩ | ⟨g, cap, cur, rfl, hbg, hh, hc, hm, hs, ht⟩⟩ := h
    · omega
    · have hblk : Blk w g 3 cur.toList := by unfold Blk; simpa using hh
      rw [hl, Nat.mul_one] at ht
      rw [hl] at hc ⊢
      by_cases hr : n + 1 ≤ cap
      · exact insAt_room g cap n vb base i f L cur.toList w hl (by omega) hr hm hbg hblk (by simpa using hs) ht hv (fun e => hne (by rw [e]; rfl)) hn
      · exact insAt_grow g cap n vb base i f L cur.toList w hl (by omega) hc (by omega) hb hblk ht hv hn _
end Go.Proofs.YthldhbcidcmmaaaDoor
