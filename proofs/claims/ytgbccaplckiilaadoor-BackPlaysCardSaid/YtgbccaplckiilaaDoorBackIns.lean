/-
  slices.Insert of one frame at the head: where there is room, by its contract.
-/
import Derived.Test.YtgbccaplckiilaaDoorBackDel
import Derived.Shelf.Spec.SlicesInsert
namespace Go.Proofs.YtgbccaplckiilaaDoor
open Go.RowKit

theorem blk_shape {w : World} {g : Nat} {t : TypeId} {cs : List Value} (h : Blk w g t cs) : w.shape? g = some (t, cs.length) := by
  unfold Blk at h
  simp [World.shape?, h]
theorem run_copy_fr (w : World) (ty : TypeId) (b o dLen dCap : Nat) (a : Addr) (sLen sCap : Nat) (cs : List Value) (hn : cs.length = Nat.min sLen dLen * 3)
    (hsrc : ∀ j v, cs[j]? = some v → w.cell? (a.add j) = some v) (hc : ∀ j, j < cs.length → (w.cell? ⟨b, o + j, none⟩).isSome = true) (hf : ∀ j, j < cs.length → w.frozen? ⟨b, o + j, none⟩ = false) (h1 : ∀ v ∈ cs, v.oneCell' = true) :
    (Builtin.copy_ #[50, 50] ty #[.slice (some ⟨b, o, none⟩) dLen dCap, .slice (some a) sLen sCap]).run Tryd.prog w = .ok (goInt (Nat.min sLen dLen)) (w.setCells b o cs) := by
  obtain ⟨i0, hi0, hz0, hz1, hz2⟩ := info_parts info_frame
  have hfc := run_firstCells_some (P := Tryd.prog) w 3 (Nat.min sLen dLen) a sLen sCap cs hn hsrc
  have hst := run_storeCells_cells (P := Tryd.prog) b o cs 0 w (by simpa using hc) (by simpa using hf) h1
  simp only [Nat.add_zero] at hst
  have hlo : ∀ wx : World, (Builtin.lenOf (.slice (some a) sLen sCap)).run Tryd.prog wx = .ok sLen wx := fun _ => rfl
  simp [Builtin.copy_, run_underlying Tryd.underlying50, sizeOf, typeInfo, hi0, hz1, hlo, hfc, hst]

/-- A slice value holds the frames L, at the head of a block from base on. -/
structure FAt (w : World) (base : Nat) (v : Value) (L : List Fr) : Prop where
  row : w.ownsRow base 59 3 v L.length (flat3 L)
theorem FAt.mk_ {w : World} {base g cap : Nat} {L : List Fr} {cs : List Value} (hb : base ≤ g) (hc : L.length ≤ cap) (hm : cap ≤ maxLen) (h : Blk w g 59 cs) (hs : cs.length = cap * 3) (ht : cs.take (L.length * 3) = flat3 L) :
    FAt w base (.slice (some ⟨g, 0, none⟩) L.length cap) L := ⟨by rw [flat3_len], .inr ⟨g, cap, cs.toArray, rfl, hb, h, hc, hm, by simpa using hs, ht⟩⟩

def InsB (w : World) (base : Nat) (v : Value) (f : Fr) (L : List Fr) (e : Ending) (w' : World) : Prop := ∃ v', e = .returned v' ∧ FAt w' base v' (f :: L) ∧ ∃ F, Keep F w w' ∧ (∀ x ∈ F, some x = v.ownBlock) ∧ (v'.ownBlock = v.ownBlock ∨ v'.ownBlock = some w.heap.size)

theorem fr3_one (f : Fr) : ∀ v ∈ fr3 f, v.oneCell' = true := by
  intro v hv
  simp only [fr3, List.mem_cons, List.not_mem_nil, or_false] at hv
  rcases hv with rfl | rfl | rfl <;> rfl

set_option maxHeartbeats 2000000 in
set_option maxRecDepth 100000 in
theorem insFr_room (g cap n vb base : Nat) (f : Fr) (L : List Fr) (cs : List Value) (w : World) (hl : L.length = n) (h0 : 0 < n) (hroom : n + 1 ≤ cap) (hcm : cap ≤ maxLen) (hb : base ≤ g) (hblk : Blk w g 59 cs) (hlen : cs.length = cap * 3) (htk : cs.take (n * 3) = flat3 L)
    (hv : Blk w vb 59 (fr3 f)) (hne : vb ≠ g) (hn : n ≤ 1000) :
    Calls Tryd.prog 33 #[.slice (some ⟨g, 0, none⟩) n cap, .int .i64 0, .slice (some ⟨vb, 0, none⟩) 1 1] w (InsB w base (.slice (some ⟨g, 0, none⟩) n cap) f L) := by
  have hfl := flat3_len L
  have hget : ∀ j v, (flat3 L)[j]? = some v → cs[j]? = some v := fun j v hj => by
    have hjl := (List.getElem?_eq_some_iff.1 hj).1
    rw [← htk, List.getElem?_take_of_lt (by omega)] at hj
    exact hj
  have hov : ∀ lb cb, (callFunc 38 #[.slice (some ⟨vb, 0, none⟩) 1 1, .slice (some ⟨g, 3, none⟩) lb cb]).run Tryd.prog w = .ok (.value (.bool false)) w := fun lb cb => by
    rw [run_callFunc_extern Tryd.func38 (by kernel_rfl) (by kernel_rfl) (by kernel_rfl) (e := Extern.SlicesOverlaps.overlaps #[50, 50] #[4]) (by kernel_rfl),
      Lib.run_overlaps_apart w 50 4 59 Tryd.underlying50 3 (fun wx => by obtain ⟨i0, hi0, hz0, hz1, hz2⟩ := info_parts info_frame; simp [Go.sizeOf, typeInfo, hi0, hz1]) ⟨vb, 0, none⟩ ⟨g, 3, none⟩ 1 1 lb cb hne _ _ _ _ (blk_shape hv) (blk_shape hblk) (by omega) (hv.free 0) (hv.free _)]
    rfl
  have hsome : ∀ j, j < cap * 3 → (w.cell? ⟨g, j, none⟩).isSome = true := fun j hj => by rw [hblk.cell_ (List.getElem?_eq_getElem (by omega))]; rfl
  have hcp1 : ∀ ty dc sc, (Builtin.copy_ #[50, 50] ty #[.slice (some ⟨g, 3, none⟩) n dc, .slice (some ⟨g, 0, none⟩) (n + 1) sc]).run Tryd.prog w.drew = .ok (goInt n) (w.drew.setCells g 3 (flat3 L)) := fun ty dc sc => by
    have hmin : Nat.min (n + 1) n = n := by simp [Nat.min_def]
    have := run_copy_fr w.drew ty g 3 n dc ⟨g, 0, none⟩ (n + 1) sc (flat3 L) (by rw [hmin]; omega) (fun j v hj => by rw [add_addr, Nat.zero_add]; exact hblk.cell_ (hget j v hj)) (fun j hj => hsome _ (by omega)) (fun j _ => hblk.free _) (flat3_one L)
    rwa [hmin] at this
  obtain ⟨W1, hW1⟩ : ∃ W1, W1 = w.drew.setCells g 3 (flat3 L) := ⟨_, rfl⟩
  have hb1 : Blk W1 g 59 (sets cs 3 (flat3 L)) := by rw [hW1]; exact Blk.setCells _ 3 cs _ hblk.drew
  have hk1 : Keep [g] w W1 := by rw [hW1]; exact Keep.setCells (fun _ => by simp) _ _ _ ((Keep.refl _ _).drew)
  have hv1 : Blk W1 vb 59 (fr3 f) := hv.keep hk1 (by simpa using hne)
  have hcp2 : ∀ ty dc, (Builtin.copy_ #[50, 50] ty #[.slice (some ⟨g, 0, none⟩) (n + 1) dc, .slice (some ⟨vb, 0, none⟩) 1 1]).run Tryd.prog W1 = .ok (goInt 1) (W1.setCells g 0 (fr3 f)) := fun ty dc => by
    have hmin : Nat.min 1 (n + 1) = 1 := by simp [Nat.min_def]
    have := run_copy_fr W1 ty g 0 (n + 1) dc ⟨vb, 0, none⟩ 1 1 (fr3 f) (by rw [hmin]; rfl) (fun j v hj => by rw [add_addr, Nat.zero_add]; exact hv1.cell_ hj) (fun j hj => by rw [hb1.cell_ (List.getElem?_eq_getElem (by rw [sets_len]; simp [fr3] at hj; omega))]; rfl) (fun j _ => hb1.free _) (fr3_one f)
    rwa [hmin] at this
  have hb2 := Blk.setCells (fr3 f) 0 _ _ hb1
  have hk2 : Keep [g] w (W1.setCells g 0 (fr3 f)) := Keep.setCells (fun _ => by simp) _ _ _ hk1
  have hfin : FAt (W1.setCells g 0 (fr3 f)) base (.slice (some ⟨g, 0, none⟩) (n + 1) cap) (f :: L) := by
    have e : (f :: L).length = n + 1 := by simp [hl]
    rw [← e]
    refine FAt.mk_ hb (by rw [e]; exact hroom) hcm hb2 (by rw [sets_len, sets_len]; exact hlen) ?_
    rw [e]
    apply List.ext_getElem?
    intro q
    by_cases hq : q < (n + 1) * 3
    · rw [List.getElem?_take_of_lt hq, sets_get _ _ _ _ (by rw [sets_len]; simp [fr3]; omega), sets_get _ _ _ _ (by omega)]
      have e2 : flat3 (f :: L) = fr3 f ++ flat3 L := rfl
      have e3 : (fr3 f).length = 3 := rfl
      rw [e2]
      by_cases hq2 : q < 3
      · rw [if_pos (by omega), List.getElem?_append_left (by omega), Nat.sub_zero]
      · rw [if_neg (by omega), if_pos (by omega), List.getElem?_append_right (by omega), e3]
    · rw [List.getElem?_eq_none (by rw [List.length_take]; omega), List.getElem?_eq_none (by rw [flat3_len, e]; omega)]
  have HFIN := Lib.hid hfin; have HK2 := Lib.hid hk2
  have hW : Hid (W1 = w.drew.setCells g 3 (flat3 L)) := hW1
  rw [← hW1] at hcp1
  have hz2 : ¬ ((0 : Int) = (n : Int)) := by omega
  have hz3 : (n : Int) + 1 ≤ (cap : Int) := by omega
  have hz4 : ¬ (cap : Int) < (n : Int) + 1 := by omega
  have hw1 : IntKind.i64.wrap ((n : Int) + 1) = (n : Int) + 1 := IntWalk.i64_in _ (by unfold maxLen at hcm; omega)
  have hw0 : IntKind.i64.wrap 1 = 1 := by decide
  have hb5 : ¬ cap = 1 := by omega
  have hb6 : ¬ cap = 0 := by omega
  have hnt : ((n : Int) + 1).toNat = n + 1 := by omega
  have hn1 : (0 : Int) ≤ (n : Int) + 1 := by omega
  have hn2 : (1 : Int) ≤ (n : Int) + 1 := by omega
  clear hW1 hfin hk2 hb2 hv1 hk1 hb1 hsome hget hfl htk
  go_enter Tryd.func33, Tryd.ntmps33
  go_wp2_with (simp only [hov])
  go_region_law (refine step_copy_runI rfl _ _ 50 50 rfl _ _ (by simp [Act.eval, Act.put]) (by simp [Act.eval, Act.put]) (hcp1 _ _ _) ?_)
  go_wp2_with (at_builtin; refine wpList_copy_runI _ rfl _ _ 50 50 rfl _ _ rfl rfl (hcp2 _ _) ?_)
  go_ret
  exact ⟨_, rfl, HFIN.out, [g], HK2.out, by simp [Value.ownBlock], .inl rfl⟩
end Go.Proofs.YtgbccaplckiilaaDoor
