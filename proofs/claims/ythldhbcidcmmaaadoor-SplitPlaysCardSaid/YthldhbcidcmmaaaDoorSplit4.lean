/-
  split: a page is split in two; by its contract.
-/
import Derived.Test.YthldhbcidcmmaaaDoorSplit3
import Derived.Test.YthldhbcidcmmaaaDoorSplitLaw2
import Derived.Maps.AppendAt
import Derived.Lib.Builder
namespace Go.Proofs.YthldhbcidcmmaaaDoor
open Go.RowKit

theorem info_ptr : (Tryd.prog.info? 60).map (fun i => (i.zero, i.size, i.bytes)) = some (some (.pointer none), 1, 8) := by kernel_rfl
theorem info_page : (Tryd.prog.info? 62).map (fun i => i.size) = some 2 := by kernel_rfl
theorem neq_same (w : World) (a : Addr) : (binOp .neq 60 (.pointer (some a)) (.pointer (some a))).run Tryd.prog w = .ok (.bool false) w := by
  have h := info_page
  rw [Option.map_eq_some_iff] at h
  obtain ⟨j, hj, _⟩ := h
  exact Lib.run_neq_ptr_same (P := Tryd.prog) w a Tryd.underlying60 hj
theorem neq_other (w : World) {p q : Nat} {t u : TypeId} {cs ds : List Value} (hp : Blk w p t cs) (hq : Blk w q u ds) (hne : p ≠ q) :
    (binOp .neq 60 (.pointer (some ⟨p, 0, none⟩)) (.pointer (some ⟨q, 0, none⟩))).run Tryd.prog w = .ok (.bool true) w := by
  have h := info_page
  rw [Option.map_eq_some_iff] at h
  obtain ⟨j, hj, hsz⟩ := h
  have h2 : ∀ d : Nat, (Op.equalIn (d + 1) 60 (.pointer (some ⟨p, 0, none⟩)) (.pointer (some ⟨q, 0, none⟩))).run Tryd.prog w = .ok false w := fun d => by
    simp [Op.equalIn, run_underlying Tryd.underlying60, sizeOf, typeInfo, hj, hsz, run_sameAddr_other (a := ⟨p, 0, none⟩) (b := ⟨q, 0, none⟩) w (fun h => hne (Addr.mk.inj h).1) hp hq]
  simp only [binOp]
  simp [Op.equal, Op.maxDepth, h2 9999]

section
variable {O : Nat → Prop} {w w' : World} {t g cap D : Nat} {pg deep : Nat → Nat} {kv : Nat → Value} {S : List Int}
theorem TAt.own (h : TAt O w t g cap D pg deep kv S) : w.ownsRow 0 60 1 (.slice (some ⟨g, 0, none⟩) (2 ^ D) cap) (2 ^ D) (ptrs pg (2 ^ D)) := by
  obtain ⟨rest, h1, h2⟩ := h.arr
  refine ⟨by rw [ptrs_len, Nat.mul_one], .inr ⟨g, cap, _, rfl, Nat.zero_le _, h1, ?_, h.capm, by simpa using h2, ?_⟩⟩
  · rw [← h2, List.length_append, ptrs_len]; omega
  · simp only [Nat.mul_one]
    rw [List.take_left' (ptrs_len pg _)]
theorem TAt.tg (h : TAt O w t g cap D pg deep kv S) : t ≠ g := by
  obtain ⟨rest, h1, _⟩ := h.arr
  exact h.top.ne h1 (by decide)
theorem TAt.tp (h : TAt O w t g cap D pg deep kv S) (i : Nat) : t ≠ pg i := h.top.ne (h.pgs i) (by decide)
theorem TAt.pgg (h : TAt O w t g cap D pg deep kv S) (i : Nat) : pg i ≠ g := by
  obtain ⟨rest, h1, _⟩ := h.arr
  exact (h.pgs i).ne h1 (by decide)
theorem TAt.kt (h : TAt O w t g cap D pg deep kv S) (i x : Nat) (hx : (kv i).ownBlock = some x) : x ≠ t := fun e => own_ne (h.key i) h.top (by decide) (by rw [hx, e])
theorem TAt.kg (h : TAt O w t g cap D pg deep kv S) (i x : Nat) (hx : (kv i).ownBlock = some x) : x ≠ g := fun e => by
  obtain ⟨rest, h1, _⟩ := h.arr
  exact own_ne (h.key i) h1 (by decide) (by rw [hx, e])
theorem TAt.kp (h : TAt O w t g cap D pg deep kv S) (i j x : Nat) (hx : (kv i).ownBlock = some x) : x ≠ pg j := fun e => own_ne (h.key i) (h.pgs j) (by decide) (by rw [hx, e])
theorem TAt.kl (h : TAt O w t g cap D pg deep kv S) (i x : Nat) (hx : (kv i).ownBlock = some x) : x < w.heap.size := (World.ownsRow.lt (h.key i) x hx).2
theorem ptrs_twice (hone : ∀ i j : Nat, pg i = pg j ↔ (i : Int) % 2 ^ deep j = (j : Int) % 2 ^ deep j) (hle : ∀ i, deep i ≤ D) : ptrs pg (2 ^ D) ++ ptrs pg (2 ^ D) = ptrs pg (2 ^ (D + 1)) := by
  apply List.ext_getElem?
  intro j
  have hp : 2 ^ (D + 1) = 2 ^ D + 2 ^ D := by rw [Nat.pow_succ]; omega
  by_cases h1 : j < 2 ^ D
  · rw [List.getElem?_append_left (by rw [ptrs_len]; exact h1), ptrs_get pg h1, ptrs_get pg (by omega)]
  · rw [List.getElem?_append_right (by rw [ptrs_len]; omega), ptrs_len]
    by_cases h2 : j < 2 ^ (D + 1)
    · rw [ptrs_get pg (by omega), ptrs_get pg h2]
      have e : pg (j - 2 ^ D) = pg j := by
        rw [hone]
        obtain ⟨q, hq⟩ := Nat.exists_eq_add_of_le (hle j)
        have e1 : (j : Int) = ((j - 2 ^ D : Nat) : Int) + 2 ^ deep j * 2 ^ q := by
          have e2 : (2 : Int) ^ deep j * 2 ^ q = ((2 ^ D : Nat) : Int) := by rw [← Int.pow_add, ← hq]; simp
          rw [e2]; omega
        rw [e1, Int.add_mul_emod_self_left]
      rw [e]
    · rw [List.getElem?_eq_none (by rw [ptrs_len]; omega), List.getElem?_eq_none (by rw [ptrs_len]; omega)]
/-- The directory is twice as great. -/
theorem TAt.grow (h : TAt O w t g cap D pg deep kv S) (hle : ∀ i, deep i ≤ D) (h5 : D < 6) {w1 : World} {g1 cap1 : Nat}
    (hown : w1.ownsRow 0 60 1 (.slice (some ⟨g1, 0, none⟩) (2 ^ D + 2 ^ D) cap1) (2 ^ D + 2 ^ D) (ptrs pg (2 ^ D) ++ ptrs pg (2 ^ D))) (hgrow : w.drew.grownBy w1 (some g)) (hg1 : some g = some g1 ∨ g1 = w.heap.size) :
    TAt O ((w1.setCell ⟨t, 1, none⟩ (.slice (some ⟨g1, 0, none⟩) (2 ^ D + 2 ^ D) cap1)).setCell ⟨t, 0, none⟩ (.int .i64 ((D : Int) + 1))) t g1 cap1 (D + 1) pg deep kv S ∧
      KeepP O w ((w1.setCell ⟨t, 1, none⟩ (.slice (some ⟨g1, 0, none⟩) (2 ^ D + 2 ^ D) cap1)).setCell ⟨t, 0, none⟩ (.int .i64 ((D : Int) + 1))) := by
  have hp : 2 ^ (D + 1) = 2 ^ D + 2 ^ D := by rw [Nat.pow_succ]; omega
  have hk : ∀ x, x < w.heap.size → x ≠ g → w1.heap[x]? = w.heap[x]? := fun x hx hne => hgrow.block x hx (by simpa using hne)
  have hsz : w.heap.size ≤ w1.heap.size := hgrow.size
  have htop : Blk w1 t 65 [.int .i64 D, .slice (some ⟨g, 0, none⟩) (2 ^ D) cap] := (hk t h.top.lt h.tg).trans h.top
  obtain ⟨hl, ⟨hv, _⟩ | ⟨g', cap', cur, hv, _, hh, hc, hm, hs, ht⟩⟩ := hown
  · cases hv
  simp only [Value.slice.injEq, Option.some.injEq, Addr.mk.injEq, true_and, and_true] at hv
  obtain ⟨rfl, rfl⟩ := hv
  have hg : Blk w1 g1 60 cur.toList := by unfold Blk; simpa using hh
  rw [Nat.mul_one, ptrs_twice h.one hle, ← hp] at ht
  have hcur : cur.toList = ptrs pg (2 ^ (D + 1)) ++ cur.toList.drop (2 ^ (D + 1)) := by rw [← ht, List.take_append_drop]
  have htg : t ≠ g1 := htop.ne hg (by decide)
  obtain ⟨W, hW⟩ : ∃ W, W = (w1.setCell ⟨t, 1, none⟩ (.slice (some ⟨g1, 0, none⟩) (2 ^ D + 2 ^ D) cap1)).setCell ⟨t, 0, none⟩ (.int .i64 ((D : Int) + 1)) := ⟨_, rfl⟩
  have hW1 : ∀ x, x ≠ t → W.heap[x]? = w1.heap[x]? := fun x hx => by
    rw [hW]
    exact (Below.heap_setCell _ ⟨t, 0, none⟩ _ x hx).trans (Below.heap_setCell _ ⟨t, 1, none⟩ _ x hx)
  have hWs : W.heap.size = w1.heap.size := by rw [hW]; simp
  rw [← hW]
  refine ⟨{ top := ?_, arr := ⟨cur.toList.drop (2 ^ (D + 1)), ?_, ?_⟩, capm := hm, d6 := by omega, pgs := fun i => ?_, key := fun i => ?_, one := h.one, sep := h.sep, ot := h.ot, og := ?_, op := h.op, ok := h.ok, on := fun x hx => h.on x (by omega) }, ?_⟩
  · have := (htop.set 1 (.slice (some ⟨g1, 0, none⟩) (2 ^ D + 2 ^ D) cap1)).set 0 (.int .i64 ((D : Int) + 1))
    rw [hW, hp]
    simpa using this
  · rw [← hcur]; exact (hW1 g1 (Ne.symm htg)).trans hg
  · rw [← hcur]; simpa using hs
  · exact (hW1 _ (Ne.symm (h.tp i))).trans ((hk _ (h.pgs i).lt (h.pgg i)).trans (h.pgs i))
  · exact (h.key i).keep fun x hx => (hW1 x (h.kt i x hx)).trans (hk x (h.kl i x hx) (h.kg i x hx))
  · rcases hg1 with e | e
    · obtain rfl : g = g1 := by simpa using e
      exact h.og
    · rw [e]; exact h.on _ (Nat.le_refl _)
  · refine ⟨?_, ?_, ?_, by omega, fun x hx hO => (hW1 x (fun e => hO (e ▸ h.ot))).trans (hk x hx (fun e => hO (e ▸ h.og)))⟩
    · rw [hW]; exact hgrow.os
    · rw [hW]; exact hgrow.tape
    · rw [hW]; exact hgrow.output
end

/-- Behind the keys' parting, up to j of them. -/
structure SpAt (w wr : World) (hb rb e : Nat) (vh vr : Value) (L : List Int) : Prop where
  half : Blk wr hb 62 [.int .i64 ((e : Int) + 1), vh]
  rest : Blk wr rb 62 [.int .i64 ((e : Int) + 1), vr]
  hk : OwnInts wr w.heap.size vh (L.filter fun x => bitN e x == true)
  rk : OwnInts wr w.heap.size vr (L.filter fun x => bitN e x == false)
  sep : ∀ x, vh.ownBlock = some x → vr.ownBlock ≠ some x
  ne : hb ≠ rb
  lo : w.heap.size ≤ hb ∧ w.heap.size ≤ rb
  bel : Below w.heap.size w wr
section
variable {w wr w2 : World} {hb rb e : Nat} {vh vr v' : Value} {L : List Int} {x : Int} {o : Obj}
theorem SpAt.blkH (h : SpAt w wr hb rb e vh vr L) (hgrow : (wr.alloc o).grownBy w2 vh.ownBlock) : Blk w2 hb 62 [.int .i64 ((e : Int) + 1), vh] := (h.half.alloc _).grown hgrow (own_ne h.hk h.half (by decide))
theorem SpAt.blkR (h : SpAt w wr hb rb e vh vr L) (hgrow : (wr.alloc o).grownBy w2 vr.ownBlock) : Blk w2 rb 62 [.int .i64 ((e : Int) + 1), vr] := (h.rest.alloc _).grown hgrow (own_ne h.rk h.rest (by decide))
theorem SpAt.putH (h : SpAt w wr hb rb e vh vr L) (hx : bitN e x = true)
    (hown : OwnInts w2 w.heap.size v' (L.filter (fun x => bitN e x == true) ++ [x])) (hgrow : (wr.alloc o).grownBy w2 vh.ownBlock) (hat : v'.ownBlock = vh.ownBlock ∨ v'.ownBlock = some (wr.alloc o).heap.size) :
    SpAt w (w2.setCell ⟨hb, 1, none⟩ v') hb rb e v' vr (L ++ [x]) := by
  have b1 := h.blkH hgrow
  have b2 : Blk w2 rb 62 [.int .i64 ((e : Int) + 1), vr] := (h.rest.alloc _).grown hgrow (own_ne h.hk h.rest (by decide))
  have hrk : OwnInts w2 w.heap.size vr (L.filter fun x => bitN e x == false) := h.rk.keep fun g hg => by
    have hl := (World.ownsRow.lt h.rk g hg).2
    exact (hgrow.block g (by simp; omega) (fun e2 => h.sep g e2.symm hg)).trans (Below.heap_alloc _ _ g hl)
  have f1 : (L ++ [x]).filter (fun x => bitN e x == true) = L.filter (fun x => bitN e x == true) ++ [x] := by rw [List.filter_append]; simp [hx]
  have f2 : (L ++ [x]).filter (fun x => bitN e x == false) = L.filter (fun x => bitN e x == false) := by rw [List.filter_append]; simp [hx]
  have hfar : ∀ g, g ≠ hb → (w2.setCell ⟨hb, 1, none⟩ v').heap[g]? = w2.heap[g]? := fun g hg => Below.heap_setCell _ ⟨hb, 1, none⟩ _ g hg
  refine { half := by simpa using b1.set 1 v', rest := b2.far (p := ⟨hb, 1, none⟩) (Ne.symm h.ne) v', hk := ?_, rk := ?_, sep := fun g hg => ?_, ne := h.ne, lo := h.lo, bel := ?_ }
  · rw [f1]
    exact hown.keep fun g hg => hfar g (fun e2 => own_ne hown b1 (by decide) (by rw [hg, e2]))
  · rw [f2]
    exact hrk.keep fun g hg => hfar g (fun e2 => own_ne hrk b1 (by decide) (by rw [hg, e2]))
  · rcases hat with e2 | e2
    · exact h.sep g (by rw [← e2]; exact hg)
    · rw [e2] at hg
      simp only [Option.some.injEq] at hg
      intro h3
      have := (World.ownsRow.lt h.rk g h3).2
      simp at hg
      omega
  · exact (((h.bel.alloc h.bel.size _).grown hgrow (by have := h.bel.size; simp; omega) (fun g hg => (World.ownsRow.lt h.hk g hg).1))).setCell (p := ⟨hb, 1, none⟩) h.lo.1 _
theorem SpAt.putR (h : SpAt w wr hb rb e vh vr L) (hx : bitN e x = false)
    (hown : OwnInts w2 w.heap.size v' (L.filter (fun x => bitN e x == false) ++ [x])) (hgrow : (wr.alloc o).grownBy w2 vr.ownBlock) (hat : v'.ownBlock = vr.ownBlock ∨ v'.ownBlock = some (wr.alloc o).heap.size) :
    SpAt w (w2.setCell ⟨rb, 1, none⟩ v') hb rb e vh v' (L ++ [x]) := by
  have b1 := h.blkR hgrow
  have b2 : Blk w2 hb 62 [.int .i64 ((e : Int) + 1), vh] := (h.half.alloc _).grown hgrow (own_ne h.rk h.half (by decide))
  have hhk : OwnInts w2 w.heap.size vh (L.filter fun x => bitN e x == true) := h.hk.keep fun g hg => by
    have hl := (World.ownsRow.lt h.hk g hg).2
    exact (hgrow.block g (by simp; omega) (fun e2 => h.sep g hg e2.symm)).trans (Below.heap_alloc _ _ g hl)
  have f1 : (L ++ [x]).filter (fun x => bitN e x == false) = L.filter (fun x => bitN e x == false) ++ [x] := by rw [List.filter_append]; simp [hx]
  have f2 : (L ++ [x]).filter (fun x => bitN e x == true) = L.filter (fun x => bitN e x == true) := by rw [List.filter_append]; simp [hx]
  have hfar : ∀ g, g ≠ rb → (w2.setCell ⟨rb, 1, none⟩ v').heap[g]? = w2.heap[g]? := fun g hg => Below.heap_setCell _ ⟨rb, 1, none⟩ _ g hg
  refine { half := b2.far (p := ⟨rb, 1, none⟩) h.ne v', rest := by simpa using b1.set 1 v', hk := ?_, rk := ?_, sep := fun g hg => ?_, ne := h.ne, lo := h.lo, bel := ?_ }
  · rw [f2]
    exact hhk.keep fun g hg => hfar g (fun e2 => own_ne hhk b1 (by decide) (by rw [hg, e2]))
  · rw [f1]
    exact hown.keep fun g hg => hfar g (fun e2 => own_ne hown b1 (by decide) (by rw [hg, e2]))
  · rcases hat with e2 | e2
    · rw [e2]; exact h.sep g hg
    · rw [e2]
      intro h3
      simp only [Option.some.injEq] at h3
      have := (World.ownsRow.lt h.hk g hg).2
      have h4 : wr.heap.size + 1 = (wr.alloc o).heap.size := by simp
      have h5 : wr.heap.size < (wr.alloc o).heap.size := by simp
      omega
  · exact (((h.bel.alloc h.bel.size _).grown hgrow (by have := h.bel.size; simp; omega) (fun g hg => (World.ownsRow.lt h.rk g hg).1))).setCell (p := ⟨rb, 1, none⟩) h.lo.2 _
end

/-- The directory behind i places of the second loop. -/
def ptrsTo (pg pg' : Nat → Nat) (i n : Nat) : List Value := ptrs (fun q => if q < i then pg' q else pg q) n
theorem ptrsTo_zero (pg pg' : Nat → Nat) (n : Nat) : ptrsTo pg pg' 0 n = ptrs pg n := by unfold ptrsTo ptrs; apply List.map_congr_left; intro q _; simp
theorem ptrsTo_all (pg pg' : Nat → Nat) (n : Nat) : ptrsTo pg pg' n n = ptrs pg' n := by unfold ptrsTo ptrs; apply List.map_congr_left; intro q hq; rw [List.mem_range] at hq; simp [hq]
theorem ptrsTo_set {pg pg' : Nat → Nat} {i n : Nat} (hi : i < n) : (ptrsTo pg pg' i n).set i (.pointer (some ⟨pg' i, 0, none⟩)) = ptrsTo pg pg' (i + 1) n := by
  apply List.ext_getElem?
  intro j
  unfold ptrsTo
  rw [List.getElem?_set, ptrs_len]
  by_cases hj : j < n
  · rw [ptrs_get _ hj]
    by_cases e : i = j
    · subst e
      rw [if_pos rfl, if_pos hi, ptrs_get _ hi]; simp
    · rw [if_neg e, ptrs_get _ hj]
      by_cases h1 : j < i
      · simp [h1, show j < i + 1 by omega]
      · simp [h1, show ¬ j < i + 1 by omega]
  · rw [List.getElem?_eq_none (by rw [ptrs_len]; omega : (ptrs (fun q => if q < i + 1 then pg' q else pg q) n).length ≤ j)]
    by_cases e : i = j
    · omega
    · rw [if_neg e, List.getElem?_eq_none (by rw [ptrs_len]; omega)]
theorem ptrsTo_old {pg pg' : Nat → Nat} {i n : Nat} (hi : i < n) (h : pg' i = pg i) : ptrsTo pg pg' i n = ptrsTo pg pg' (i + 1) n := by
  unfold ptrsTo ptrs
  apply List.map_congr_left
  intro q _
  by_cases h1 : q < i
  · simp [h1, show q < i + 1 by omega]
  · by_cases h2 : q = i
    · subst h2; simp [h]
    · simp [h1, show ¬ q < i + 1 by omega]

/-- The table, when a page has been split. -/
theorem TAt.splitted {O : Nat → Prop} {w wr w6 : World} {t g cap D a hb rb : Nat} {pg deep : Nat → Nat} {kv : Nat → Value} {S : List Int} {vh vr : Value} (h : TAt O w t g cap D pg deep kv S)
    (hsame : ∀ i j : Nat, ((i : Int) % 2 ^ deep j = (j : Int) % 2 ^ deep j) → deep i = deep j) (hS : ∀ x ∈ S, 0 ≤ x)
    (hsp : SpAt w wr hb rb (deep a) vh vr (cls S a (deep a))) (hk : Keep [g] wr w6) (harr : ∃ rest, Blk w6 g 60 (ptrs (splitTo pg a (deep a) hb rb) (2 ^ D) ++ rest) ∧ (ptrs (splitTo pg a (deep a) hb rb) (2 ^ D) ++ rest).length = cap) :
    TAt O w6 t g cap D (splitTo pg a (deep a) hb rb) (splitAt deep a (deep a)) (splitTo kv a (deep a) vh vr) S := by
  have hold : ∀ x, x < w.heap.size → x ≠ g → w6.heap[x]? = w.heap[x]? := fun x hx hne => (hk.block x (Nat.lt_of_lt_of_le hx hsp.bel.size) (by simpa using hne)).trans (hsp.bel.block x hx)
  have hpl : ∀ q, pg q < w.heap.size := fun q => (h.pgs q).lt
  obtain ⟨rest0, hg0, _⟩ := h.arr
  have hgl := hg0.lt
  have hnew : ∀ x, w.heap.size ≤ x → x < wr.heap.size → w6.heap[x]? = wr.heap[x]? := fun x hx hl => hk.block x hl (by simp; omega)
  have hvh : ∀ x, vh.ownBlock = some x → w.heap.size ≤ x ∧ x < wr.heap.size := fun x hx => World.ownsRow.lt hsp.hk x hx
  have hvr : ∀ x, vr.ownBlock = some x → w.heap.size ≤ x ∧ x < wr.heap.size := fun x hx => World.ownsRow.lt hsp.rk x hx
  have hlk : ∀ {v : Value} {L : List Int} {b : Nat}, OwnInts wr b v L → OwnInts wr 0 v L := fun {v L b} ho => by
    obtain ⟨hl, h2⟩ := ho
    refine ⟨hl, ?_⟩
    rcases h2 with h2 | ⟨g, cap, cur, e, hbb, r⟩
    · exact .inl h2
    · exact .inr ⟨g, cap, cur, e, Nat.zero_le _, r⟩
  refine { top := (hold t h.top.lt h.tg).trans h.top, arr := harr, capm := h.capm, d6 := h.d6, pgs := fun q => ?_, key := fun q => ?_, one := splitTo_one h.one hsame hsp.ne (fun q => by have := hpl q; have := hsp.lo; omega) (fun q => by have := hpl q; have := hsp.lo; omega), sep := fun i j x hi hj => ?_, ot := h.ot, og := h.og, op := fun q => ?_, ok := fun q x hx => ?_, on := fun x hx => h.on x (Nat.le_trans (Nat.le_trans hsp.bel.size hk.size) hx) }
  · by_cases hq : (q : Int) % 2 ^ deep a = (a : Int) % 2 ^ deep a
    · rw [splitAt_in hq]
      by_cases hb2 : q / 2 ^ deep a % 2 = 1
      · rw [splitTo_half hq hb2, splitTo_half hq hb2]
        exact (hnew hb hsp.lo.1 hsp.half.lt).trans (by have := hsp.half; push_cast; exact this)
      · rw [splitTo_rest hq hb2, splitTo_rest hq hb2]
        exact (hnew rb hsp.lo.2 hsp.rest.lt).trans (by have := hsp.rest; push_cast; exact this)
    · rw [splitAt_out hq, splitTo_old hq, splitTo_old hq]
      exact (hold _ (hpl q) (h.pgg q)).trans (h.pgs q)
  · by_cases hq : (q : Int) % 2 ^ deep a = (a : Int) % 2 ^ deep a
    · rw [splitAt_in hq]
      by_cases hb2 : q / 2 ^ deep a % 2 = 1
      · rw [splitTo_half hq hb2, ← cls_bit (b := true) hS hq (by simpa using hb2)]
        exact (hlk hsp.hk).keep fun x hx => hnew x (hvh x hx).1 (hvh x hx).2
      · rw [splitTo_rest hq hb2, ← cls_bit (b := false) hS hq (by simpa using hb2)]
        exact (hlk hsp.rk).keep fun x hx => hnew x (hvr x hx).1 (hvr x hx).2
    · rw [splitAt_out hq, splitTo_old hq]
      exact (h.key q).keep fun x hx => hold x (h.kl q x hx) (h.kg q x hx)
  · by_cases hqi : (i : Int) % 2 ^ deep a = (a : Int) % 2 ^ deep a <;> by_cases hqj : (j : Int) % 2 ^ deep a = (a : Int) % 2 ^ deep a
    · by_cases bi : i / 2 ^ deep a % 2 = 1 <;> by_cases bj : j / 2 ^ deep a % 2 = 1
      · rw [splitTo_half hqi bi, splitTo_half hqj bj]
      · rw [splitTo_half hqi bi] at hi; rw [splitTo_rest hqj bj] at hj
        exact absurd hj (hsp.sep x hi)
      · rw [splitTo_rest hqi bi] at hi; rw [splitTo_half hqj bj] at hj
        exact absurd hi (hsp.sep x hj)
      · rw [splitTo_rest hqi bi, splitTo_rest hqj bj]
    · rw [splitTo_old hqj] at hj
      have h1 := h.kl j x hj
      by_cases bi : i / 2 ^ deep a % 2 = 1
      · rw [splitTo_half hqi bi] at hi; have := hvh x hi; omega
      · rw [splitTo_rest hqi bi] at hi; have := hvr x hi; omega
    · rw [splitTo_old hqi] at hi
      have h1 := h.kl i x hi
      by_cases bj : j / 2 ^ deep a % 2 = 1
      · rw [splitTo_half hqj bj] at hj; have := hvh x hj; omega
      · rw [splitTo_rest hqj bj] at hj; have := hvr x hj; omega
    · rw [splitTo_old hqi] at hi ⊢; rw [splitTo_old hqj] at hj ⊢
      exact h.sep i j x hi hj
  · by_cases hq : (q : Int) % 2 ^ deep a = (a : Int) % 2 ^ deep a
    · by_cases hb2 : q / 2 ^ deep a % 2 = 1
      · rw [splitTo_half hq hb2]; exact h.on _ hsp.lo.1
      · rw [splitTo_rest hq hb2]; exact h.on _ hsp.lo.2
    · rw [splitTo_old hq]; exact h.op q
  · by_cases hq : (q : Int) % 2 ^ deep a = (a : Int) % 2 ^ deep a
    · by_cases hb2 : q / 2 ^ deep a % 2 = 1
      · rw [splitTo_half hq hb2] at hx; exact h.on _ (hvh x hx).1
      · rw [splitTo_rest hq hb2] at hx; exact h.on _ (hvr x hx).1
    · rw [splitTo_old hq] at hx; exact h.ok q x hx

def SplitPost (O : Nat → Prop) (w : World) (t D a : Nat) (deep : Nat → Nat) (S : List Int) (e : Ending) (w' : World) : Prop :=
  e = .returned (.tuple #[]) ∧ ∃ g cap pg kv, TAt O w' t g cap (if deep a = D then D + 1 else D) pg (splitAt deep a (deep a)) kv S ∧ KeepP O w w'
def Sp1Rel (w : World) (hb rb e : Nat) (L : List Int) (i : Value) (wr : World) : Prop := ∃ (j : Nat) (vh vr : Value), j ≤ L.length ∧ i = .int .i64 j ∧ SpAt w wr hb rb e vh vr (L.take j)
def Sp2Rel (w5 : World) (g cap n : Nat) (pg pg' : Nat → Nat) (i : Value) (wr : World) : Prop :=
  ∃ j : Nat, j ≤ n ∧ i = .int .i64 j ∧ Keep [g] w5 wr ∧ ∃ rest, Blk wr g 60 (ptrsTo pg pg' j n ++ rest) ∧ (ptrsTo pg pg' j n ++ rest).length = cap
end Go.Proofs.YthldhbcidcmmaaaDoor
