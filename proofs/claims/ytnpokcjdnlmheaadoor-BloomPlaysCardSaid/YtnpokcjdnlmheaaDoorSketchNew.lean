/-
  sketch.New, by its contract: so many rows of noughts, all in new memory.
-/
import Derived.Test.YtnpokcjdnlmheaaDoorHash
import Derived.Deep.RegionLaw
import Derived.RegionTactic
namespace Go.Proofs.YtnpokcjdnlmheaaDoor
open Go.RowKit

/-- A sketch at block b: its rows' block g, the rows' blocks L. -/
structure SketchAt (w : World) (b g cap : Nat) (L : List Nat) (width : Nat) (rows : List (List Int)) (sum : Int) : Prop where
  top : Blk w b 65 [.slice (some ⟨g, 0, none⟩) L.length cap, .int .i64 sum]
  lead : ∃ cur, Blk w g 30 cur ∧ ∀ (i r : Nat), L[i]? = some r → cur[i]? = some (.slice (some ⟨r, 0, none⟩) width width)
  len : rows.length = L.length
  nodup : L.Nodup
  row : ∀ (i r : Nat) (x : List Int), L[i]? = some r → rows[i]? = some x → x.length = width ∧ Blk w r 3 (ints x)

def rowsOf (L : List Nat) (width : Nat) : List Value := L.map (fun r => Value.slice (some ⟨r, 0, none⟩) width width)

def NewRel (w : World) (depth width : Nat) (i : Value) (wr : World) : Prop :=
  ∃ (k : Nat) (v : Value) (L : List Nat), k ≤ depth ∧ i = .int .i64 k ∧ L.length = k ∧ Blk wr w.heap.size 65 [v, .int .i64 0] ∧
      wr.ownsRow 0 30 1 v k (rowsOf L width) ∧ (∀ x, v.ownBlock = some x → w.heap.size < x) ∧ L.Nodup ∧ (∀ g ∈ L, w.heap.size < g ∧ Blk wr g 3 (ints (List.replicate width 0))) ∧ Below w.heap.size w wr

theorem newRel_step {w wr w1 : World} {depth width k g cap : Nat} {v : Value} {L : List Nat} (hlt : k < depth) (hL : L.length = k) (hb : Blk wr w.heap.size 65 [v, .int .i64 0])
    (ho : wr.ownsRow 0 30 1 v k (rowsOf L width)) (hv : ∀ x, v.ownBlock = some x → w.heap.size < x) (hn : L.Nodup) (hg : ∀ g ∈ L, w.heap.size < g ∧ Blk wr g 3 (ints (List.replicate width 0))) (hbel : Below w.heap.size w wr)
    (hown : w1.ownsRow 0 30 1 (.slice (some ⟨g, 0, none⟩) (k + 1) cap) (k + 1) (rowsOf L width ++ [.slice (some ⟨wr.heap.size, 0, none⟩) width width]))
    (hgrow : ((wr.alloc (.cells (Array.replicate width (.int .i64 0)) 3)).alloc (.cells #[.slice (some ⟨wr.heap.size, 0, none⟩) width width] 30)).drew.grownBy w1 v.ownBlock)
    (hat : v.ownBlock = some g ∨ g = wr.heap.size + 1 + 1) :
    NewRel w depth width (.int .i64 (k + 1)) (w1.setCell ⟨w.heap.size, 0, none⟩ (.slice (some ⟨g, 0, none⟩) (k + 1) cap)) := by
  have hlt0 := hb.lt
  have hz : (Array.replicate width (Value.int .i64 0)) = (ints (List.replicate width 0)).toArray := by simp [ints]
  have hr0 : Blk ((wr.alloc (.cells (Array.replicate width (.int .i64 0)) 3)).alloc (.cells #[.slice (some ⟨wr.heap.size, 0, none⟩) width width] 30)).drew wr.heap.size 3 (ints (List.replicate width 0)) := by
    rw [hz]; exact ((Blk.new wr _ _).alloc _).drew
  have hb1 := ((hb.alloc (.cells (Array.replicate width (.int .i64 0)) 3)).alloc (.cells #[.slice (some ⟨wr.heap.size, 0, none⟩) width width] 30)).drew
  have hob : ∀ (t : TypeId) (cs : List Value) (x : Nat), Blk wr x t cs → 30 ≠ t → some x ≠ v.ownBlock := fun t cs x hx ht => own_ne ho hx ht
  refine ⟨k + 1, .slice (some ⟨g, 0, none⟩) (k + 1) cap, L ++ [wr.heap.size], hlt, by simp, by simp [hL], ?_, ?_, ?_, ?_, ?_, ?_⟩
  · exact (((hb.alloc _).alloc _).drew.grown hgrow (hob _ _ _ hb (by decide))).set 0 _
  · have : rowsOf (L ++ [wr.heap.size]) width = rowsOf L width ++ [.slice (some ⟨wr.heap.size, 0, none⟩) width width] := by simp [rowsOf]
    rw [this]
    exact ownsRow_setCell_other hown (own_ne hown (hb1.grown hgrow (hob _ _ _ hb (by decide))) (by decide)).symm _
  · intro x hx
    simp [Value.ownBlock] at hx
    rcases hat with h | h
    · exact hv x (by rw [h, hx])
    · omega
  · rw [List.nodup_append]
    refine ⟨hn, by simp, fun a ha b hb' => ?_⟩
    simp at hb'
    have := (hg a ha).2.lt
    omega
  · intro x hx
    rcases List.mem_append.1 hx with h | h
    · obtain ⟨h1, h2⟩ := hg x h
      exact ⟨h1, ((((h2.alloc _).alloc _).drew.grown hgrow (hob _ _ _ h2 (by decide)))).far (by simp; omega) _⟩
    · simp at h
      subst h
      exact ⟨hlt0, (hr0.grown hgrow (by
        intro he
        have := hv wr.heap.size he.symm
        have h2 := ho.lt _ he.symm
        omega)).far (by simp; omega) _⟩
  · exact ((((hbel.alloc hbel.size _).alloc (by simp; have := hbel.size; omega) _).drew).grown hgrow (by simp; have := hbel.size; omega) (fun x hx => by have := hv x hx; omega)).setCell (Nat.le_refl _) _

def NewPost (w : World) (depth width : Nat) (e : Ending) (w' : World) : Prop :=
  ∃ (g cap : Nat) (L : List Nat), e = .returned (.tuple #[.pointer (some ⟨w.heap.size, 0, none⟩), .nilIface]) ∧ SketchAt w' w.heap.size g cap L width (List.replicate depth (List.replicate width 0)) 0 ∧ w.heap.size < g ∧ (∀ x ∈ L, w.heap.size < x) ∧ Below w.heap.size w w'

theorem newPost_of {w wr : World} {depth width k : Nat} {v : Value} {L : List Nat} (h1 : 1 ≤ (depth : Int)) (hk : k ≤ depth) (hlt : ¬ k < depth) (hL : L.length = k) (hb : Blk wr w.heap.size 65 [v, .int .i64 0])
    (ho : wr.ownsRow 0 30 1 v k (rowsOf L width)) (hv : ∀ x, v.ownBlock = some x → w.heap.size < x) (hn : L.Nodup) (hg : ∀ g ∈ L, w.heap.size < g ∧ Blk wr g 3 (ints (List.replicate width 0))) (hbel : Below w.heap.size w wr) :
    NewPost w depth width (.returned (.tuple #[.pointer (some ⟨w.heap.size, 0, none⟩), .nilIface])) wr := by
  obtain rfl : k = depth := by omega
  obtain ⟨g, cap, rfl, _, hgl⟩ := ho.form (by omega)
  refine ⟨g, cap, L, rfl, ⟨by rw [hL]; exact hb, ?_, by simp [hL], hn, ?_⟩, hv g rfl, fun x hx => (hg x hx).1, hbel⟩
  · obtain ⟨hl, h | ⟨g', cap', cur, he, _, hh, _, _, _, ht⟩⟩ := ho
    · simp at h
    · simp at he
      obtain ⟨rfl, rfl⟩ := he
      refine ⟨cur.toList, by unfold Blk; simpa using hh, fun i r hi => ?_⟩
      have hik : i < k := by have := (List.getElem?_eq_some_iff.1 hi).1; omega
      have h2 : (cur.toList.take (k * 1))[i]? = (rowsOf L width)[i]? := by rw [ht]
      rw [List.getElem?_take_of_lt (by omega)] at h2
      rw [h2]
      simp [rowsOf, hi]
  · intro i r x hi hx
    have := List.mem_of_getElem? hx
    rw [List.mem_replicate] at this
    rw [this.2]
    exact ⟨by simp, (hg r (List.mem_of_getElem? hi)).2⟩

theorem sketchNew_yes (depth width : Nat) (w : World) (h1 : 1 ≤ (depth : Int)) (h2 : (depth : Int) ≤ 4) (h3 : 1 ≤ (width : Int)) (h4 : (width : Int) ≤ 16) :
    Calls Tryd.prog 6 #[.int .i64 depth, .int .i64 width] w fun e w' => NewPost w depth width e w' := by
  go_enter Tryd.func6, Tryd.ntmps6
  go_wp2_with (first | (go_at_call 32; refine (within_yes _ _ _ _ (by omega) (by omega)).mono ?_; rintro e w' ⟨rfl, rfl⟩) | fail)
  go_loopw [19] (NewRel w depth width) (fun i _ => depth - (intOf i).toNat)
  case atStart => exact ⟨0, .slice none 0 0, [], Nat.zero_le _, rfl, rfl, Blk.new w _ _, World.ownsRow_nil _ _ _ _, by simp [Value.ownBlock], by simp, by simp, (Below.refl _ _).alloc (Nat.le_refl _) _⟩
  case round =>
    obtain ⟨k, v, L, hk, rfl, hL, hb, ho, hv, hn, hg, hbel⟩ := hrel
    by_cases hlt : k < depth
    · have hc0 := hb.cell_ (i := 0) rfl
      have hf0 := hb.free 0
      have hmk := fun wx => run_make_blk (P := Tryd.prog) 30 3 (.int .i64 0) 8 Tryd.underlying30 info_int rfl width (by omega) (by omega) wx
      obtain ⟨i0, hi, hz0, hz1, hz2⟩ := info_parts info_ints
      have hsz := hb.lt
      have hkl : k ≤ 4 := by omega
      go_wp2
      go_region_law (refine step_append_lies _ rfl (.tmp 25) (.tmp 28) 22 rfl 0 30 i0 (.slice none 0 0) 1 24 Tryd.underlying22 hi hz0 hz1 hz2 rfl (by decide) v k (rowsOf L width) (by simp [Act.eval]) (by exact ((ho.drew).alloc _).alloc _) ⟨wr.heap.size + 1, 0, none⟩ 1 1 [.slice (some ⟨wr.heap.size, 0, none⟩) width width] (by simp [Act.eval]) rfl (by intro j u hj; match j, hj with | 0, hj => simp at hj; subst hj; simp [Addr.add]) (by intro u hu; simp at hu; subst hu; rfl) (by decide) (by unfold maxLen; omega) (by omega) (Nat.zero_le _) _ rfl ?_; intro g cap w1 hown hgrow hat hlt1; have hb1 := (((hb.alloc _).alloc _).drew).grown hgrow (own_ne ho hb (by decide)); have hc1 := hb1.cell_ (i := 0) rfl; have hf1 := hb1.free 0)
      all_goals go_wp2
      all_goals go_roundw
      all_goals first | exact newRel_step hlt hL hb ho hv hn hg hbel hown hgrow (by simpa using hat) | (simp [intOf]; omega)
    · go_wp2
      go_ret2
      exact newPost_of h1 hk hlt hL hb ho hv hn hg hbel
end Go.Proofs.YtnpokcjdnlmheaaDoor
