/-
  Several texts in one (merged by wip/mergefix.py): ZGen, ZIntDel, ZIntIns, ZIntIns2.
-/
import Derived.Test.YticckfioggeaeaaGreatDoorGA
import Derived.StillTailTactics
import Derived.RegionTactic
import Derived.Deep.RegionLaw
import Derived.Shelf.Spec.SlicesInsert
import Derived.Maps.AppendAt
import Derived.Lib.AppendZerosOnto
import Derived.Laws.NewBlocks
import Derived.Shelf.Spec.SlicesInsertGrow
import Derived.Deep.AppendLies
import Derived.BigRegion
set_option linter.unusedVariables false
set_option linter.unusedSimpArgs false
set_option linter.unnecessarySimpa false
/-
  General facts for slices that are deleted from and inserted into (printed by wip/gen_zlru.py).
-/
namespace Go.Proofs.YticckfioggeaeaaGreatDoor
open Go.RowKit

theorem blk_shape {w : World} {g : Nat} {t : TypeId} {cs : List Value} (h : Blk w g t cs) : w.shape? g = some (t, cs.length) := by
  unfold Blk at h
  simp [World.shape?, h]
theorem zsize (z : List Value) (n : Nat) : (Builtin.zeroCells z.toArray n).size = n * z.length := by
  simp [Builtin.zeroCells]

theorem first_erase {α : Type} {p : α → Bool} : ∀ (L : List α) (i : Nat) (x : α), L[i]? = some x → p x = true → (∀ j y, j < i → L[j]? = some y → p y = false) → L.find? p = some x ∧ L.eraseP p = L.eraseIdx i
  | [], i, x, h, _, _ => by simp at h
  | a :: L, 0, x, h, hp, _ => by
    simp at h; subst h
    simp [hp]
  | a :: L, i + 1, x, h, hp, hb => by
    have ha : p a = false := hb 0 a (by omega) (by simp)
    have ih := first_erase L i x (by simpa using h) hp (fun j y hj hy => hb (j + 1) y (by omega) (by simpa using hy))
    simp [ha, ih]

def bools (l : List Bool) : List Value := l.map Value.bool
def OwnBools (w : World) (base : Nat) (v : Value) (l : List Bool) : Prop := w.ownsRow base 4 1 v l.length (bools l)
theorem info_bool : (Tryz.prog.info? 4).map (fun i => (i.zero, i.size, i.bytes)) = some (some (.bool false), 1, 1) := by kernel_rfl
theorem OwnBools.keep {w w' : World} {base : Nat} {v : Value} {l : List Bool} (h : OwnBools w base v l) (hk : ∀ g, v.ownBlock = some g → w'.heap[g]? = w.heap[g]?) : OwnBools w' base v l := by
  obtain ⟨hl, h2⟩ := h
  refine ⟨hl, ?_⟩
  rcases h2 with h2 | ⟨g, cap, cur, e, hb, hh, r⟩
  · exact .inl h2
  · exact .inr ⟨g, cap, cur, e, hb, (hk g (by rw [e]; rfl)).trans hh, r⟩

end Go.Proofs.YticckfioggeaeaaGreatDoor

/-
  slices.Delete of one number (printed by gen_intslices.py), by its contract.
-/
namespace Go.Proofs.YticckfioggeaeaaGreatDoor
open Go.RowKit

def fr1 (x : Int) : List Value := [.int .i64 x]
def flat1 (L : List Int) : List Value := L.flatMap fr1
theorem flat1_cons (x : Int) (L : List Int) : flat1 (x :: L) = .int .i64 x :: flat1 L := rfl
theorem flat1_append (L M : List Int) : flat1 (L ++ M) = flat1 L ++ flat1 M := by simp [flat1]
theorem flat1_ints : ∀ L : List Int, flat1 L = ints L
  | [] => rfl
  | x :: L => by rw [flat1_cons, flat1_ints L]; rfl
theorem flat1_len (L : List Int) : (flat1 L).length = L.length * 1 := by rw [flat1_ints]; simp [ints]
theorem flat1_take (L : List Int) (i : Nat) : (flat1 L).take (i * 1) = flat1 (L.take i) := by rw [flat1_ints, flat1_ints, Nat.mul_one]; simp [ints]
theorem flat1_drop (L : List Int) (i : Nat) : (flat1 L).drop (i * 1) = flat1 (L.drop i) := by rw [flat1_ints, flat1_ints, Nat.mul_one]; simp [ints]
theorem flat1_one (L : List Int) : ∀ v ∈ flat1 L, v.oneCell' = true := by
  rw [flat1_ints]; intro v hv
  obtain ⟨x, _, rfl⟩ := List.mem_map.1 hv
  rfl
theorem zero_i (w : World) : (zeroValue 3).run Tryz.prog w = .ok (.int .i64 0) w := by
  obtain ⟨i, hi, hz⟩ := Option.map_eq_some_iff.1 info_int
  simp only [Prod.mk.injEq] at hz
  simp [zeroValue, typeInfo, hi, hz.1]
set_option linter.unnecessarySimpa false in
theorem run_clear_i (w : World) (ty : TypeId) (b o c : Nat) (hc : ∀ j, j < 1 → (w.cell? ⟨b, o + j, none⟩).isSome = true) (hf : ∀ j, j < 1 → w.frozen? ⟨b, o + j, none⟩ = false) :
    (Builtin.clear_ #[22] ty #[.slice (some ⟨b, o, none⟩) 1 c]).run Tryz.prog w = .ok (.tuple #[]) (w.setCells b o [.int .i64 0]) := by
  have hzc : (Builtin.zeroCells (Value.int .i64 0).cells 1).toList = [.int .i64 0] := by simp [Builtin.zeroCells, Value.cells, List.range_succ]
  have hst := run_storeCells_cells (P := Tryz.prog) b o [.int .i64 0] 0 w (by simpa using hc) (by simpa using hf) (by intro v hv'; simp at hv'; subst hv'; rfl)
  simp only [Nat.add_zero] at hst
  simp [Builtin.clear_, run_underlying Tryz.underlying22, zero_i, hzc, hst]

def DelI (w : World) (g cap : Nat) (L : List Int) (i : Nat) (e : Ending) (w' : World) : Prop :=
  e = .returned (.slice (some ⟨g, 0, none⟩) (L.length - 1) cap) ∧ (∃ rest, Blk w' g 3 (flat1 (L.eraseIdx i) ++ rest) ∧ (flat1 (L.eraseIdx i) ++ rest).length = cap * 1) ∧ Keep [g] w w'

set_option maxHeartbeats 1000000 in
set_option maxRecDepth 100000 in
theorem delI (g cap n i : Nat) (L : List Int) (rest : List Value) (w : World) (hl : L.length = n) (hi : i < n) (hcap : n ≤ cap) (hcm : cap ≤ maxLen) (hblk : Blk w g 3 (flat1 L ++ rest)) (hlen : (flat1 L ++ rest).length = cap * 1) (hn : n ≤ 1000) :
    Calls Tryz.prog 49 #[.slice (some ⟨g, 0, none⟩) n cap, .int .i64 i, .int .i64 ((i + 1 : Nat) : Int)] w (DelI w g cap L i) := by
  obtain ⟨i0, hi0, hz0, hz1, hz2⟩ := info_parts info_int
  obtain ⟨j, hj⟩ : ∃ j, j = i + 1 := ⟨_, rfl⟩
  rw [← hj]
  have hg := hblk.lt
  obtain ⟨cs, hcs⟩ : ∃ cs, cs = flat1 L ++ rest := ⟨_, rfl⟩
  have hfl := flat1_len L
  have hct : cs.take (n * 1) = flat1 L := by rw [hcs, List.take_append_of_le_length (by omega), List.take_of_length_le (by omega)]
  rw [← hcs] at hblk hlen
  obtain ⟨news, hnews⟩ : ∃ news, news = flat1 (L.drop j) := ⟨_, rfl⟩
  have hnl : news.length = (n - j) * 1 := by rw [hnews, flat1_len, List.length_drop, hl]
  have hget : ∀ t u, news[t]? = some u → cs[j * 1 + t]? = some u := by
    intro t u hu
    have ht : t < (n - j) * 1 := by have := (List.getElem?_eq_some_iff.1 hu).1; omega
    rw [hnews, ← flat1_drop, List.getElem?_drop] at hu
    rw [hcs, List.getElem?_append_left (by omega)]
    exact hu
  obtain ⟨A, hA, hsrc⟩ : ∃ A : Addr, (if cap = j then some (⟨g, 0, none⟩ : Addr) else some ⟨g, j, none⟩) = some A ∧ Hid (∀ t u, news[t]? = some u → w.drew.cell? (A.add t) = some u) := by
    by_cases h : cap = j
    · refine ⟨⟨g, 0, none⟩, by simp [h], fun t u hu => ?_⟩
      have ht := (List.getElem?_eq_some_iff.1 hu).1
      omega
    · refine ⟨⟨g, j, none⟩, by simp [h], fun t u hu => ?_⟩
      rw [add_addr]
      have := hget t u hu; rw [Nat.mul_one] at this; exact hblk.cell_ this
  have s1 : Hid (news.length = (n - j) * 1) := hnl
  have s2 : Hid (∀ u ∈ news, u.oneCell' = true) := by rw [hnews]; exact flat1_one _
  have s3 : Hid (∀ t, t < news.length → (w.drew.cell? ⟨g, 0 + i * 1 + t, none⟩).isSome = true ∧ w.drew.frozen? ⟨g, 0 + i * 1 + t, none⟩ = false) := by
    intro t ht
    refine ⟨?_, hblk.free _⟩
    have : w.cell? ⟨g, 0 + i * 1 + t, none⟩ = some (cs[0 + i * 1 + t]'(by omega)) := hblk.cell_ (List.getElem?_eq_getElem _)
    show (w.cell? _).isSome = true
    rw [this]; rfl
  obtain ⟨W1, hW1⟩ : ∃ W1, W1 = w.drew.setCells g (0 + i * 1) news := ⟨_, rfl⟩
  have hb1 : Blk W1 g 3 (sets cs (0 + i * 1) news) := by rw [hW1]; exact Blk.setCells news (0 + i * 1) cs _ hblk.drew
  have hk1 : Keep [g] w W1 := by rw [hW1]; exact Keep.setCells (fun _ => by simp) _ _ _ ((Keep.refl _ _).drew)
  have hm : n - (i + (n - j)) = 1 := by omega
  have hin : ∀ t, t < 1 → (i + (n - j)) + t < (sets cs (0 + i * 1) news).length := fun t ht => by rw [sets_len]; omega
  have hcl : ∀ ty, (Builtin.clear_ #[22] ty #[.slice (some ⟨g, (i + (n - j)), none⟩) 1 (cap - (i + (n - j)))]).run Tryz.prog W1 = .ok (.tuple #[]) (W1.setCells g ((i + (n - j))) [.int .i64 0]) := by
    intro ty
    exact run_clear_i W1 ty g ((i + (n - j))) _ (fun t ht => by rw [hb1.cell_ (List.getElem?_eq_getElem (hin t ht))]; rfl) (fun t ht => hb1.free _)
  have hfin : ∃ rest', Blk (W1.setCells g ((i + (n - j))) [.int .i64 0]) g 3 (flat1 (L.eraseIdx i) ++ rest') ∧ (flat1 (L.eraseIdx i) ++ rest').length = cap * 1 := by
    have hb2 := Blk.setCells [.int .i64 0] ((i + (n - j))) _ _ hb1
    obtain ⟨ds, hds⟩ : ∃ ds, ds = sets (sets cs (0 + i * 1) news) ((i + (n - j))) [.int .i64 0] := ⟨_, rfl⟩
    rw [← hds] at hb2
    have hdl : ds.length = cap * 1 := by rw [hds, sets_len, sets_len]; exact hlen
    have hel : (L.eraseIdx i).length = n - 1 := by rw [List.length_eraseIdx_of_lt (by omega), hl]
    have htk : ds.take ((n - 1) * 1) = flat1 (L.eraseIdx i) := by
      apply List.ext_getElem?
      intro q
      by_cases hq : q < (n - 1) * 1
      · rw [List.getElem?_take_of_lt hq, hds, sets_get _ _ _ _ (by rw [sets_len]; simp; omega), if_neg (by simp; omega), sets_get _ _ _ _ (by omega), List.eraseIdx_eq_take_drop_succ, flat1_append, ← hj]
        have hti : (flat1 (L.take i)).length = i * 1 := by rw [flat1_len, List.length_take]; omega
        by_cases hq2 : q < i * 1
        · rw [if_neg (by omega), List.getElem?_append_left (by omega), ← flat1_take, List.getElem?_take_of_lt hq2, hcs, List.getElem?_append_left (by omega)]
        · rw [if_pos (by omega), List.getElem?_append_right (by omega), hti, hnews, Nat.zero_add]
      · rw [List.getElem?_eq_none (by rw [List.length_take]; omega), List.getElem?_eq_none (by rw [flat1_len]; omega)]
    refine ⟨ds.drop ((n - 1) * 1), ?_, ?_⟩
    · rw [← htk, List.take_append_drop]; exact hb2
    · rw [← htk, List.take_append_drop]; exact hdl
  have hkf : Keep [g] w (W1.setCells g ((i + (n - j))) [.int .i64 0]) := Keep.setCells (fun _ => by simp) _ _ _ hk1
  have HFIN := Lib.hid hfin; have HKF := Lib.hid hkf; have HL := Lib.hid hl
  have hW : Hid (W1 = w.drew.setCells g (0 + i * 1) news) := hW1
  have h1 : (i : Int) ≤ (j : Int) := by omega
  have h2 : (j : Int) ≤ (n : Int) := by omega
  have h3 : (n : Int) ≤ (cap : Int) := by omega
  have h4 : ¬ (i : Int) = (j : Int) := by omega
  have h5 : (0 : Int) ≤ (i : Int) := by omega
  have h6 : (0 : Int) ≤ (j : Int) := by omega
  have h7 : i ≤ n := by omega
  have h8 : j ≤ n := by omega
  have h9 : i ≤ j := by omega
  have hic : i ≤ cap := by omega
  have hjc : j ≤ cap := by omega
  have hnc : ¬ cap = i + (n - j) := by omega
  have hi1 : (i : Int) + ((n - j : Nat) : Int) ≤ (n : Int) := by omega
  have hi2 : i + (n - j) ≤ n := by omega
  have HN1 : Hid (i + (n - j) = n - 1) := Lib.hid (by omega)
  clear hW1 hb1 hk1 hget hnews hnl hfin hkf hct hcs hblk hlen hin hl hfl hj
  go_enter Tryz.func49, Tryz.ntmps49
  go_wp2_with fail
  go_region_law (refine step_append_room rfl (.tmp 22) (.tmp 25) 22 rfl 3 i0 1 Tryz.underlying22 hi0 hz1 g 0 i cap (by simp [Act.eval, Act.put]) A (n - j) (cap - j) news (by simp [Act.eval, Act.put]) s1.out hsrc.out s2.out (by omega) s3.out ?_; rw [← hW.out])
  go_wp2
  go_ret
  exact ⟨ret_eq (show Value.slice (some ⟨g, 0, none⟩) (i + (n - j)) cap = .slice (some ⟨g, 0, none⟩) (L.length - 1) cap by rw [HN1.out, HL.out]), HFIN.out, HKF.out⟩
theorem delI1 (g cap n i : Nat) (L : List Int) (rest : List Value) (w : World) (hl : L.length = n) (hi : i < n) (hcap : n ≤ cap) (hcm : cap ≤ maxLen) (hblk : Blk w g 3 (flat1 L ++ rest)) (hlen : (flat1 L ++ rest).length = cap * 1) (hn : n ≤ 1000) :
    Calls Tryz.prog 49 #[.slice (some ⟨g, 0, none⟩) n cap, .int .i64 i, .int .i64 ((i : Int) + 1)] w (DelI w g cap L i) := by
  rw [show (i : Int) + 1 = ((i + 1 : Nat) : Int) by omega]
  exact delI g cap n i L rest w hl hi hcap hcm hblk hlen hn
end Go.Proofs.YticckfioggeaeaaGreatDoor

/-
  slices.Insert of one number (printed by gen_intslices.py) at the head: where there is room, by its contract.
-/
namespace Go.Proofs.YticckfioggeaeaaGreatDoor
open Go.RowKit

theorem run_copy_i (w : World) (ty : TypeId) (b o dLen dCap : Nat) (a : Addr) (sLen sCap : Nat) (cs : List Value) (hn : cs.length = Nat.min sLen dLen * 1)
    (hsrc : ∀ j v, cs[j]? = some v → w.cell? (a.add j) = some v) (hc : ∀ j, j < cs.length → (w.cell? ⟨b, o + j, none⟩).isSome = true) (hf : ∀ j, j < cs.length → w.frozen? ⟨b, o + j, none⟩ = false) (h1 : ∀ v ∈ cs, v.oneCell' = true) :
    (Builtin.copy_ #[22, 22] ty #[.slice (some ⟨b, o, none⟩) dLen dCap, .slice (some a) sLen sCap]).run Tryz.prog w = .ok (goInt (Nat.min sLen dLen)) (w.setCells b o cs) := by
  obtain ⟨i0, hi0, hz0, hz1, hz2⟩ := info_parts info_int
  have hfc := run_firstCells_some (P := Tryz.prog) w 1 (Nat.min sLen dLen) a sLen sCap cs hn hsrc
  have hst := run_storeCells_cells (P := Tryz.prog) b o cs 0 w (by simpa using hc) (by simpa using hf) h1
  simp only [Nat.add_zero] at hst
  have hlo : ∀ wx : World, (Builtin.lenOf (.slice (some a) sLen sCap)).run Tryz.prog wx = .ok sLen wx := fun _ => rfl
  simp [Builtin.copy_, run_underlying Tryz.underlying22, sizeOf, typeInfo, hi0, hz1, hlo, hfc, hst]

/-- A slice value holds the frames L, at the head of a block from base on. -/
structure IAt (w : World) (base : Nat) (v : Value) (L : List Int) : Prop where
  row : w.ownsRow base 3 1 v L.length (flat1 L)
theorem IAt.mk_ {w : World} {base g cap : Nat} {L : List Int} {cs : List Value} (hb : base ≤ g) (hc : L.length ≤ cap) (hm : cap ≤ maxLen) (h : Blk w g 3 cs) (hs : cs.length = cap * 1) (ht : cs.take (L.length * 1) = flat1 L) :
    IAt w base (.slice (some ⟨g, 0, none⟩) L.length cap) L := ⟨by rw [flat1_len], .inr ⟨g, cap, cs.toArray, rfl, hb, h, hc, hm, by simpa using hs, ht⟩⟩

def InsI (w : World) (base : Nat) (v : Value) (f : Int) (L : List Int) (e : Ending) (w' : World) : Prop := ∃ v', e = .returned v' ∧ IAt w' base v' (f :: L) ∧ ∃ F, Keep F w w' ∧ (∀ x ∈ F, some x = v.ownBlock) ∧ (v'.ownBlock = v.ownBlock ∨ v'.ownBlock = some w.heap.size)

theorem fr1_one (f : Int) : ∀ v ∈ fr1 f, v.oneCell' = true := by
  intro v hv
  simp only [fr1, List.mem_cons, List.not_mem_nil, or_false] at hv
  subst hv; rfl

set_option maxHeartbeats 2000000 in
set_option maxRecDepth 100000 in
theorem insI_room (g cap n vb base : Nat) (f : Int) (L : List Int) (cs : List Value) (w : World) (hl : L.length = n) (h0 : 0 < n) (hroom : n + 1 ≤ cap) (hcm : cap ≤ maxLen) (hb : base ≤ g) (hblk : Blk w g 3 cs) (hlen : cs.length = cap * 1) (htk : cs.take (n * 1) = flat1 L)
    (hv : Blk w vb 3 (fr1 f)) (hne : vb ≠ g) (hn : n ≤ 1000) :
    Calls Tryz.prog 50 #[.slice (some ⟨g, 0, none⟩) n cap, .int .i64 0, .slice (some ⟨vb, 0, none⟩) 1 1] w (InsI w base (.slice (some ⟨g, 0, none⟩) n cap) f L) := by
  have hfl := flat1_len L
  have hget : ∀ j v, (flat1 L)[j]? = some v → cs[j]? = some v := fun j v hj => by
    have hjl := (List.getElem?_eq_some_iff.1 hj).1
    rw [← htk, List.getElem?_take_of_lt (by omega)] at hj
    exact hj
  have hov : ∀ lb cb, (callFunc 77 #[.slice (some ⟨vb, 0, none⟩) 1 1, .slice (some ⟨g, 1, none⟩) lb cb]).run Tryz.prog w = .ok (.value (.bool false)) w := fun lb cb => by
    rw [run_callFunc_extern Tryz.func77 (by kernel_rfl) (by kernel_rfl) (by kernel_rfl) (e := Extern.SlicesOverlaps.overlaps #[22, 22] #[4]) (by kernel_rfl),
      Lib.run_overlaps_apart w 22 4 3 Tryz.underlying22 1 (fun wx => by obtain ⟨i0, hi0, hz0, hz1, hz2⟩ := info_parts info_int; simp [Go.sizeOf, typeInfo, hi0, hz1]) ⟨vb, 0, none⟩ ⟨g, 1, none⟩ 1 1 lb cb hne _ _ _ _ (blk_shape hv) (blk_shape hblk) (by omega) (hv.free 0) (hv.free _)]
    rfl
  have hsome : ∀ j, j < cap * 1 → (w.cell? ⟨g, j, none⟩).isSome = true := fun j hj => by rw [hblk.cell_ (List.getElem?_eq_getElem (by omega))]; rfl
  have hcp1 : ∀ ty dc sc, (Builtin.copy_ #[22, 22] ty #[.slice (some ⟨g, 1, none⟩) n dc, .slice (some ⟨g, 0, none⟩) (n + 1) sc]).run Tryz.prog w.drew = .ok (goInt n) (w.drew.setCells g 1 (flat1 L)) := fun ty dc sc => by
    have hmin : Nat.min (n + 1) n = n := by simp [Nat.min_def]
    have := run_copy_i w.drew ty g 1 n dc ⟨g, 0, none⟩ (n + 1) sc (flat1 L) (by rw [hmin]; omega) (fun j v hj => by rw [add_addr, Nat.zero_add]; exact hblk.cell_ (hget j v hj)) (fun j hj => hsome _ (by omega)) (fun j _ => hblk.free _) (flat1_one L)
    rwa [hmin] at this
  obtain ⟨W1, hW1⟩ : ∃ W1, W1 = w.drew.setCells g 1 (flat1 L) := ⟨_, rfl⟩
  have hb1 : Blk W1 g 3 (sets cs 1 (flat1 L)) := by rw [hW1]; exact Blk.setCells _ 1 cs _ hblk.drew
  have hk1 : Keep [g] w W1 := by rw [hW1]; exact Keep.setCells (fun _ => by simp) _ _ _ ((Keep.refl _ _).drew)
  have hv1 : Blk W1 vb 3 (fr1 f) := hv.keep hk1 (by simpa using hne)
  have hcp2 : ∀ ty dc, (Builtin.copy_ #[22, 22] ty #[.slice (some ⟨g, 0, none⟩) (n + 1) dc, .slice (some ⟨vb, 0, none⟩) 1 1]).run Tryz.prog W1 = .ok (goInt 1) (W1.setCells g 0 (fr1 f)) := fun ty dc => by
    have hmin : Nat.min 1 (n + 1) = 1 := by simp [Nat.min_def]
    have := run_copy_i W1 ty g 0 (n + 1) dc ⟨vb, 0, none⟩ 1 1 (fr1 f) (by rw [hmin]; rfl) (fun j v hj => by rw [add_addr, Nat.zero_add]; exact hv1.cell_ hj) (fun j hj => by rw [hb1.cell_ (List.getElem?_eq_getElem (by rw [sets_len]; simp [fr1] at hj; omega))]; rfl) (fun j _ => hb1.free _) (fr1_one f)
    rwa [hmin] at this
  have hb2 := Blk.setCells (fr1 f) 0 _ _ hb1
  have hk2 : Keep [g] w (W1.setCells g 0 (fr1 f)) := Keep.setCells (fun _ => by simp) _ _ _ hk1
  have hfin : IAt (W1.setCells g 0 (fr1 f)) base (.slice (some ⟨g, 0, none⟩) (n + 1) cap) (f :: L) := by
    have e : (f :: L).length = n + 1 := by simp [hl]
    rw [← e]
    refine IAt.mk_ hb (by rw [e]; exact hroom) hcm hb2 (by rw [sets_len, sets_len]; exact hlen) ?_
    rw [e]
    apply List.ext_getElem?
    intro q
    by_cases hq : q < (n + 1) * 1
    · rw [List.getElem?_take_of_lt hq, sets_get _ _ _ _ (by rw [sets_len]; simp [fr1]; omega), sets_get _ _ _ _ (by omega)]
      have e2 : flat1 (f :: L) = fr1 f ++ flat1 L := rfl
      have e3 : (fr1 f).length = 1 := rfl
      rw [e2]
      by_cases hq2 : q < 1
      · rw [if_pos (by omega), List.getElem?_append_left (by omega), Nat.sub_zero]
      · rw [if_neg (by omega), if_pos (by omega), List.getElem?_append_right (by omega), e3]
    · rw [List.getElem?_eq_none (by rw [List.length_take]; omega), List.getElem?_eq_none (by rw [flat1_len, e]; omega)]
  have HFIN := Lib.hid hfin; have HK2 := Lib.hid hk2
  have hW : Hid (W1 = w.drew.setCells g 1 (flat1 L)) := hW1
  rw [← hW1] at hcp1
  have hz2 : ¬ ((0 : Int) = (n : Int)) := by omega
  have hz3 : (n : Int) + 1 ≤ (cap : Int) := by omega
  have hz4 : ¬ (cap : Int) < (n : Int) + 1 := by omega
  have hw1 : IntKind.i64.wrap ((n : Int) + 1) = (n : Int) + 1 := IntWalk.i64_in _ (by unfold maxLen at hcm; omega)
  have hw0 : IntKind.i64.wrap 1 = 1 := by decide
  have hb5 : ¬ cap = 1 := by omega
  have hb6 : ¬ cap = 0 := by omega
  have hnt : ((n : Int) + 1).toNat = n + 1 := by omega
  have hn1 : (0 : Int) ≤ (n : Int) + 1 := by omega
  have hn2 : (1 : Int) ≤ (n : Int) + 1 := by omega
  clear hW1 hfin hk2 hb2 hv1 hk1 hb1 hsome hget hfl htk
  go_enter Tryz.func50, Tryz.ntmps50
  go_wp2_with (simp only [hov])
  go_region_law (refine step_copy_runI rfl _ _ 22 22 rfl _ _ (by simp [Act.eval, Act.put]) (by simp [Act.eval, Act.put]) (hcp1 _ _ _) ?_)
  go_wp2_with (at_builtin; refine wpList_copy_runI _ rfl _ _ 22 22 rfl _ _ rfl rfl (hcp2 _ _) ?_)
  go_ret
  exact ⟨_, rfl, HFIN.out, [g], HK2.out, by simp [Value.ownBlock], .inl rfl⟩
end Go.Proofs.YticckfioggeaeaaGreatDoor

/-
  slices.Insert of one number (printed by gen_intslices.py) at the head: where there is no room; of none; both roads in one, by their contracts.
-/
namespace Go.Proofs.YticckfioggeaeaaGreatDoor
open Go.RowKit Go.Lib

set_option maxHeartbeats 2000000 in
set_option maxRecDepth 100000 in
theorem insI_grow (g cap n vb base : Nat) (f : Int) (L : List Int) (cs : List Value) (w : World) (hl : L.length = n) (h0 : 0 < n) (hnc : n ≤ cap) (hroom : cap < n + 1) (hb : base ≤ w.heap.size) (hblk : Blk w g 3 cs) (htk : cs.take (n * 1) = flat1 L)
    (hv : Blk w vb 3 (fr1 f)) (hn : n ≤ 1000) (v : Value) :
    Calls Tryz.prog 50 #[.slice (some ⟨g, 0, none⟩) n cap, .int .i64 0, .slice (some ⟨vb, 0, none⟩) 1 1] w (InsI w base v f L) := by
  obtain ⟨i0, hi0, hz0, hz1, hz2⟩ := info_parts info_int
  have hfl := flat1_len L
  have hgl := hblk.lt
  have hvl := hv.lt
  have hget : ∀ j v, (flat1 L)[j]? = some v → cs[j]? = some v := fun j v hj => by
    have hjl := (List.getElem?_eq_some_iff.1 hj).1
    rw [← htk, List.getElem?_take_of_lt (by omega)] at hj
    exact hj
  obtain ⟨G, hG⟩ : ∃ G, G = grownCap w (n + 1) cap 3 := ⟨_, rfl⟩
  obtain ⟨ROW, hROW⟩ : ∃ ROW : Array Value, ROW = ([] : List Value).toArray ++ Builtin.zeroCells (Value.int .i64 0).cells (n + 1) ++ Builtin.zeroCells (Value.int .i64 0).cells (G - (n + 1)) := ⟨_, rfl⟩
  have hold : (Builtin.firstCells i0.size 0 (.slice (some ⟨g, 0, none⟩) 0 cap)).run Tryz.prog w.drew = .ok ([] : List Value).toArray w.drew := by
    rw [hz1]
    exact run_firstCells_some w.drew 1 0 ⟨g, 0, none⟩ 0 cap [] (by simp) (by simp)
  have hrz : ∀ ty, (Builtin.append_ #[22, 3] ty #[.slice (some ⟨g, 0, none⟩) 0 cap, .int .i64 ((n : Int) + 1)]).run Tryz.prog w = .ok (.slice (some ⟨w.heap.size, 0, none⟩) (n + 1) G) (w.drew.alloc (.cells ROW 3)) := fun ty => by
    have h := Lib.run_append_grow_zeros (P := Tryz.prog) w 22 3 ty 3 i0 _ .i64 .i64 Tryz.underlying22 Tryz.underlying3 hi0 hz0 (some ⟨g, 0, none⟩) 0 cap [] hold (n + 1) (by omega) (by omega) (by omega) (by omega) (by rw [hz2]; omega) (by rw [hz2, Nat.zero_add]; exact growslice_fits hroom (by omega))
    rw [Nat.zero_add, ← hG, ← hROW] at h
    exact h
  have hGn : n + 1 ≤ G := by rw [hG]; exact grownCap_ge w _ _ _
  have hGm : G ≤ maxLen := by rw [hG]; exact grownCap_le_maxLen w (n + 1) cap 3 (by unfold maxLen; omega)
  have hRs : ROW.size = G * 1 := by
    rw [hROW]
    simp [Builtin.zeroCells, Value.cells]
    omega
  obtain ⟨W1, hW1⟩ : ∃ W1, W1 = w.drew.alloc (.cells ROW 3) := ⟨_, rfl⟩
  have hb1 : Blk W1 w.heap.size 3 ROW.toList := by
    rw [hW1]
    have := Blk.new w.drew 3 ROW.toList
    simpa using this
  have hk1 : Keep [] w W1 := by rw [hW1]; exact ((Keep.refl [] w).drew).alloc _
  have hv1 := hv.keep hk1 (by simp)
  have hg1 := hblk.keep hk1 (by simp)
  have hcpA : ∀ (W : World), W.heap = W1.heap → ∀ ty dc, (Builtin.copy_ #[22, 22] ty #[.slice (some ⟨w.heap.size, 0, none⟩) (n + 1) dc, .slice (some ⟨vb, 0, none⟩) 1 1]).run Tryz.prog W = .ok (goInt 1) (W.setCells w.heap.size 0 (fr1 f)) := fun W hW ty dc => by
    have hbW : Blk W w.heap.size 3 ROW.toList := by unfold Blk; rw [hW]; exact hb1
    have hvW : Blk W vb 3 (fr1 f) := by unfold Blk; rw [hW]; exact hv1
    have hmin : Nat.min 1 (n + 1) = 1 := by simp [Nat.min_def]
    have := run_copy_i W ty w.heap.size 0 (n + 1) dc ⟨vb, 0, none⟩ 1 1 (fr1 f) (by rw [hmin]; rfl) (fun j v hj => by rw [add_addr, Nat.zero_add]; exact hvW.cell_ hj) (fun j hj => by rw [hbW.cell_ (List.getElem?_eq_getElem (by simp [fr1] at hj; simp; omega))]; rfl) (fun j _ => hbW.free _) (fr1_one f)
    rwa [hmin] at this
  obtain ⟨W2, hW2⟩ : ∃ W2, W2 = W1.setCells w.heap.size 0 (fr1 f) := ⟨_, rfl⟩
  have hb2 : Blk W2 w.heap.size 3 (sets ROW.toList 0 (fr1 f)) := by rw [hW2]; exact Blk.setCells _ 0 _ _ hb1
  have hk2 : Keep [w.heap.size] W1 W2 := by rw [hW2]; exact Keep.setCells (fun _ => by simp) _ _ _ (Keep.refl _ _)
  have hg2 := hg1.keep hk2 (by simp; omega)
  have hcpB : ∀ (W : World), W.heap = W2.heap → ∀ ty dc sc, (Builtin.copy_ #[22, 22] ty #[.slice (some ⟨w.heap.size, 1, none⟩) n dc, .slice (some ⟨g, 0, none⟩) n sc]).run Tryz.prog W = .ok (goInt n) (W.setCells w.heap.size 1 (flat1 L)) := fun W hW ty dc sc => by
    have hbW : Blk W w.heap.size 3 (sets ROW.toList 0 (fr1 f)) := by unfold Blk; rw [hW]; exact hb2
    have hgW : Blk W g 3 cs := by unfold Blk; rw [hW]; exact hg2
    have hmin : Nat.min n n = n := by simp [Nat.min_def]
    have := run_copy_i W ty w.heap.size 1 n dc ⟨g, 0, none⟩ n sc (flat1 L) (by rw [hmin]; omega) (fun j v hj => by rw [add_addr, Nat.zero_add]; exact hgW.cell_ (hget j v hj)) (fun j hj => by rw [hbW.cell_ (List.getElem?_eq_getElem (by rw [sets_len]; simp; omega))]; rfl) (fun j _ => hbW.free _) (flat1_one L)
    rwa [hmin] at this
  have hfin : ∀ W : World, W.heap = W2.heap → IAt (W.setCells w.heap.size 1 (flat1 L)) base (.slice (some ⟨w.heap.size, 0, none⟩) (n + 1) G) (f :: L) := by
    intro W hW
    have hbW : Blk W w.heap.size 3 (sets ROW.toList 0 (fr1 f)) := by unfold Blk; rw [hW]; exact hb2
    have hb3 := Blk.setCells (flat1 L) 1 _ _ hbW
    have e : (f :: L).length = n + 1 := by simp [hl]
    rw [← e]
    refine IAt.mk_ hb (by rw [e]; exact hGn) hGm hb3 (by rw [sets_len, sets_len]; simpa using hRs) ?_
    rw [e]
    apply List.ext_getElem?
    intro q
    by_cases hq : q < (n + 1) * 1
    · rw [List.getElem?_take_of_lt hq, sets_get _ _ _ _ (by rw [sets_len]; simp; omega), sets_get _ _ _ _ (by simp [fr1]; omega)]
      have e2 : flat1 (f :: L) = fr1 f ++ flat1 L := rfl
      have e3 : (fr1 f).length = 1 := rfl
      rw [e2]
      by_cases hq2 : q < 1
      · rw [if_neg (by omega), if_pos (by omega), List.getElem?_append_left (by omega), Nat.sub_zero]
      · rw [if_pos (by omega), List.getElem?_append_right (by omega), e3]
    · rw [List.getElem?_eq_none (by rw [List.length_take]; omega), List.getElem?_eq_none (by rw [flat1_len, e]; omega)]
  have hkf : ∀ W : World, Keep [w.heap.size] W1 W → Keep [] w (W.setCells w.heap.size 1 (flat1 L)) := fun W hk => Keep.setCells (fun h => absurd h (Nat.lt_irrefl _)) _ _ _ ((hk1.mono (by simp)).trans (hk.mono (fun x hx _ => hx)) |>.mono (fun x hx hlt => by simp at hx; omega))
  subst hW2
  subst hW1
  have HFIN := Lib.hid hfin; have HKF := Lib.hid hkf; have hca : ∀ ty dc, (Builtin.copy_ #[22, 22] ty #[.slice (some ⟨w.heap.size, 0, none⟩) (n + 1) dc, .slice (some ⟨vb, 0, none⟩) 1 1]).run Tryz.prog (w.alloc (.cells ROW 3)).drew = .ok (goInt 1) ((w.alloc (.cells ROW 3)).drew.setCells w.heap.size 0 (fr1 f)) := fun ty dc => hcpA _ rfl ty dc
  have HCB := Lib.hid hcpB
  have hz2 : ¬ ((0 : Int) = (n : Int)) := by omega
  have hz3 : (cap : Int) < (n : Int) + 1 := by omega
  have hw0 : IntKind.i64.wrap 1 = 1 := by decide
  have hw1 : IntKind.i64.wrap ((n : Int) + 1) = (n : Int) + 1 := IntWalk.i64_in _ (by omega)
  have hG1 : ¬ G = 1 := by omega
  have hG0 : ¬ G = 0 := by omega
  have hb6 : ¬ cap = 0 := by omega
  have hn1 : (0 : Int) ≤ (n : Int) + 1 := by omega
  have hn2 : (1 : Int) ≤ (n : Int) + 1 := by omega
  have hHne : g ≠ w.heap.size := by omega
  clear hcpA hcpB hold hROW hG hRs hfin hkf hb1 hk1 hv1 hg1 hb2 hk2 hg2 hget hfl htk
  go_enter Tryz.func50, Tryz.ntmps50
  go_wp2_with (at_builtin; refine Lib.wpList_append_run _ rfl _ _ _ _ rfl _ _ rfl rfl _ _ (hrz _) ?_)
  go_region_law (refine step_copy_runI rfl _ _ 22 22 rfl (.slice (some ⟨w.heap.size, 1, none⟩) n (G - 1)) (.slice (some ⟨g, 0, none⟩) n cap) (by simp [Act.eval, Act.put]) (by simp [Act.eval, Act.put]) (HCB.out _ (by rfl) 3 (G - 1) cap) ?_)
  go_wp2
  go_ret
  exact ⟨_, rfl, HFIN.out _ rfl, [], HKF.out _ ((Keep.setCells (fun _ => by simp) _ _ _ (Keep.refl _ _)).drew), by simp, .inr rfl⟩

set_option maxHeartbeats 1000000 in
set_option maxRecDepth 100000 in
theorem insI_nil (a : Option Addr) (cap vb base : Nat) (f : Int) (w : World) (h : IAt w base (.slice a 0 cap) []) (ha : a = none ∧ cap = 0 ∨ ∃ g, a = some ⟨g, 0, none⟩) (hb : base ≤ w.heap.size)
    (hv : Blk w vb 3 (fr1 f)) :
    Calls Tryz.prog 50 #[.slice a 0 cap, .int .i64 0, .slice (some ⟨vb, 0, none⟩) 1 1] w (InsI w base (.slice a 0 cap) f []) := by
  obtain ⟨i0, hi0, hz0, hz1, hz2⟩ := info_parts info_int
  have hrow : w.ownsRow base 3 1 (.slice a 0 cap) 0 [] := h.row
  have HROW := Lib.hid hrow; have HV := Lib.hid hv
  clear hrow h hv
  rcases ha with ⟨rfl, rfl⟩ | ⟨g, rfl⟩
  all_goals
    go_enter Tryz.func50, Tryz.ntmps50
    go_wp2_with (at_builtin; refine wpList_append_own_at _ rfl _ _ 22 rfl base 3 i0 (.int .i64 0) 1 8 Tryz.underlying22 hi0 hz0 hz1 hz2 rfl (by decide) _ 0 [] rfl HROW.out ⟨vb, 0, none⟩ 1 1 (fr1 f) rfl rfl (fun j u hj => by rw [add_addr, Nat.zero_add]; exact HV.out.cell_ hj) (fr1_one f) (by unfold maxLen; omega) (by omega) hb ?_; intro v' w1 hown hgrow _ hat)
    go_ret
    refine ⟨v', rfl, ⟨hown⟩, ?_⟩
    first
      | exact ⟨[g], (Keep.refl [g] w).grown hgrow (fun k hk _ => by cases hk; simp), by simp [Value.ownBlock], hat⟩
      | exact ⟨[], (Keep.refl [] w).grown hgrow (fun k hk => nomatch hk), by simp, hat⟩

/-- One frame more at the head. -/
theorem insI_any (v : Value) (vb base n : Nat) (f : Int) (L : List Int) (w : World) (h : IAt w base v L) (hl : L.length = n) (hb : base ≤ w.heap.size) (hv : Blk w vb 3 (fr1 f)) (hne : some vb ≠ v.ownBlock) (hn : n ≤ 1000) :
    Calls Tryz.prog 50 #[v, .int .i64 0, .slice (some ⟨vb, 0, none⟩) 1 1] w (InsI w base v f L) := by
  have h' := h
  obtain ⟨hl2, ⟨rfl, hn0⟩ | ⟨g, cap, cur, rfl, hbg, hh, hc, hm, hs, ht⟩⟩ := h
  · have : L = [] := List.length_eq_zero_iff.1 hn0
    subst this
    exact insI_nil none 0 vb base f w h' (.inl ⟨rfl, rfl⟩) hb hv
  · rcases Nat.eq_zero_or_pos L.length with h0 | h0
    · have : L = [] := List.length_eq_zero_iff.1 h0
      subst this
      exact insI_nil _ cap vb base f w h' (.inr ⟨g, rfl⟩) hb hv
    · have hblk : Blk w g 3 cur.toList := by unfold Blk; simpa using hh
      rw [hl]
      rw [hl] at h0 hc ht
      by_cases hr : n + 1 ≤ cap
      · exact insI_room g cap n vb base f L cur.toList w hl h0 hr hm hbg hblk (by simpa using hs) ht hv (fun e => hne (by rw [e]; rfl)) hn
      · exact insI_grow g cap n vb base f L cur.toList w hl h0 hc (by omega) hb hblk ht hv hn _
end Go.Proofs.YticckfioggeaeaaGreatDoor
