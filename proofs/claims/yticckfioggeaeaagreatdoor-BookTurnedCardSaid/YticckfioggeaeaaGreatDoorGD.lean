/-
  Several texts in one (merged by wip/mergefix.py): BookKeys, BookKeysWalk, BookStr.
-/
import Derived.Test.YticckfioggeaeaaGreatDoorBookSort
import Derived.StillTailTactics
import Derived.Deep.DeepCutAuto
import Derived.Lib.FrozenHead
import Derived.Lib.UnsafeStr
import Derived.Lib.Strings
import Derived.Shelf.RegionOpenPlain
import Derived.Laws.Externs
import Derived.BigRegion
set_option linter.unusedVariables false
set_option linter.unusedSimpArgs false
set_option linter.unnecessarySimpa false
/-
  book.keys: what its loop has collected.
-/
namespace Go.Proofs.YticckfioggeaeaaGreatDoor
open Go.RowKit

theorem taken_step {M left left' taken : List Ent} {x : Ent} (h : (taken ++ left).Perm M) (hx : left.Perm (x :: left')) : (taken ++ [x] ++ left').Perm M := by
  rw [List.append_assoc]
  exact ((List.Perm.refl taken).append hx.symm).trans h
/-- The keys by falling turns are the model's. -/
theorem sorted_keys {M : List Ent} (hn : (M.map (·.1)).Nodup) (hs : M.Pairwise fun p q => q.2.2 < p.2.2) {xs : List Int} (hp : xs.Perm (M.map (·.1))) (ho : SortedTo (turnOf M) xs xs.length) : xs = M.map (·.1) := by
  have h1 : xs.Pairwise fun a b => turnOf M b ≤ turnOf M a := by
    rw [List.pairwise_iff_getElem]
    intro i j hi hj hij
    exact ho i j hi hj hij hj
  have h2 : (M.map (·.1)).Pairwise fun a b => turnOf M b < turnOf M a := by
    rw [List.pairwise_map]
    exact hs.imp_of_mem fun {p q} hp hq h => by rw [turnOf_mem hn hp, turnOf_mem hn hq]; exact h
  have h3 : (M.map (·.1)).Pairwise fun a b => turnOf M b ≤ turnOf M a := h2.imp fun h => Int.le_of_lt h
  have hinj : ∀ a b, a ∈ M.map (·.1) → b ∈ M.map (·.1) → turnOf M a = turnOf M b → a = b := by
    intro a b ha hb he
    obtain ⟨i, hi, rfl⟩ := List.getElem_of_mem ha
    obtain ⟨j, hj, rfl⟩ := List.getElem_of_mem hb
    rcases Nat.lt_trichotomy i j with h | h | h
    · have := List.pairwise_iff_getElem.1 h2 i j hi hj h; omega
    · subst h; rfl
    · have := List.pairwise_iff_getElem.1 h2 j i hj hi h; omega
  exact List.Perm.eq_of_pairwise (fun a b ha hb h4 h5 => hinj a b (hp.mem_iff.1 ha) hb (Int.le_antisymm h5 h4)) h1 h3 hp
end Go.Proofs.YticckfioggeaeaaGreatDoor

/-
  book.keys, by its contract.
-/
namespace Go.Proofs.YticckfioggeaeaaGreatDoor
open Go.RowKit

theorem own_front {w : World} {base : Nat} {v : Value} {l : List Int} (h : OwnInts w base v l) (hp : 0 < l.length) : ∃ g cap rest, v = .slice (some ⟨g, 0, none⟩) l.length cap ∧ base ≤ g ∧ Blk w g 3 (ints l ++ rest) ∧ (ints l ++ rest).length = cap ∧ cap ≤ maxLen := by
  obtain ⟨hl, ⟨rfl, hn⟩ | ⟨g, cap, cur, rfl, hb, hh, hc, hm, hs, ht⟩⟩ := h
  · omega
  · refine ⟨g, cap, cur.toList.drop (l.length * 1), rfl, hb, ?_, ?_, hm⟩
    · unfold Blk
      rw [← ht, List.take_append_drop]; simpa using hh
    · rw [← ht, List.take_append_drop]; simpa using hs
theorem own_low {w : World} {b b' : Nat} {v : Value} {xs : List Int} (h : OwnInts w b v xs) (hb : b' ≤ b) : OwnInts w b' v xs := by
  obtain ⟨hl, h2⟩ := h
  refine ⟨hl, ?_⟩
  rcases h2 with h2 | ⟨g, cap, cur, e, hg, r⟩
  · exact .inl h2
  · exact .inr ⟨g, cap, cur, e, Nat.le_trans hb hg, r⟩
theorem own_back {w : World} {base g cap : Nat} {l : List Int} {rest : List Value} (hb : base ≤ g) (h : Blk w g 3 (ints l ++ rest)) (hc : (ints l ++ rest).length = cap) (hm : cap ≤ maxLen) : OwnInts w base (.slice (some ⟨g, 0, none⟩) l.length cap) l := by
  refine ⟨by simp [ints], .inr ⟨g, cap, (ints l ++ rest).toArray, rfl, hb, h, ?_, hm, ?_, ?_⟩⟩
  · rw [← hc, List.length_append, ints_len]; omega
  · simpa using hc
  · rw [Nat.mul_one]
    simp [ints]
set_option maxHeartbeats 1000000 in
set_option maxRecDepth 100000 in
theorem sort_empty (a : Option Addr) (c : Nat) (ad : Addr) (w : World) :
    Calls Tryz.prog 63 #[.slice a 0 c, .func (.func 64) #[] #[.pointer (some ad)]] w fun e w' => e = .returned (.tuple #[]) ∧ w = w' := by
  have h3 : ∀ w : World, Calls Tryz.prog 108 #[.slice a 0 c, .int .i64 0, .int .i64 0, .func (.func 64) #[] #[.pointer (some ad)]] w fun e w' => e = .returned (.tuple #[]) ∧ w = w' := by
    intro w
    go_enter Tryz.func108, Tryz.ntmps108
    go_wp2
    go_loopw [8, 9] (fun i _ wr => i = .int .i64 1 ∧ w = wr) (fun _ _ _ => 0)
    case atStart => exact ⟨rfl, rfl⟩
    case round =>
      obtain ⟨rfl, rfl⟩ := hrel
      go_wp2
      go_end0
      exact ⟨rfl, rfl⟩
  have H3 := Lib.hid h3; clear h3
  have h2 : ∀ (lim : Int) (w : World), Calls Tryz.prog 92 #[.slice a 0 c, .int .i64 0, .int .i64 0, .int .i64 lim, .func (.func 64) #[] #[.pointer (some ad)]] w fun e w' => e = .returned (.tuple #[]) ∧ w = w' := by
    intro lim w
    go_enter Tryz.func92, Tryz.ntmps92
    go_wp2
    refine wp_loop_rounds 1 ?_
    rw [rounds_succ]
    go_wp2_with fail
    refine (H3.out _).mono ?_
    rintro e w2 ⟨rfl, rfl⟩
    go_wp2
    first
      | (refine bodyPost_ret (results_none _ _ _ _) rfl ?_; exact ⟨rfl, rfl⟩)
      | (refine bodyPost_ret (v := .tuple #[]) (by simp [results, go_sem]) rfl ?_; exact ⟨rfl, rfl⟩)
  have H2 := Lib.hid h2; clear h2
  go_enter Tryz.func63, Tryz.ntmps63
  go_wp2_with fail
  refine (len_some 0 _ (by omega)).mono ?_
  rintro e w' ⟨⟨v, rfl⟩, rfl⟩
  go_wp2_with fail
  refine (H2.out v _).mono ?_
  rintro e w2 ⟨rfl, rfl⟩
  go_wp2
  go_end0
  exact ⟨rfl, rfl⟩


/-- How a store's map lies. -/
structure EntAt (w : World) (b gm : Nat) (E : List Ent) : Prop where
  at_ : w.cell? ⟨b, 1, none⟩ = some (.map (some gm))
  map : MapAt w gm E
  srt : E.Pairwise fun p q => q.2.2 < p.2.2
  n8 : E.length ≤ 8
theorem EntAt.lt {w : World} {b gm : Nat} {E : List Ent} (h : EntAt w b gm E) : b < w.heap.size ∧ gm < w.heap.size := ⟨World.block_lt_of_cell? w _ h.at_, h.map.lt⟩
theorem EntAt.keep {w w' : World} {b gm : Nat} {E : List Ent} (h : EntAt w b gm E) (hb : w'.heap[b]? = w.heap[b]?) (hg : w'.heap[gm]? = w.heap[gm]?) : EntAt w' b gm E :=
  { h with at_ := (World.cell?_of_block (w := w) hb).trans h.at_, map := h.map.keep hg }

/-- What the loop has taken. -/
structure KR (w wr : World) (bx b g r : Nat) (M left taken : List Ent) (v : Value) : Prop where
  rng : RangeAt wr g r M left
  prm : (taken ++ left).Perm M
  own : OwnInts wr (r + 1) v (taken.map (·.1))
  cmp : CmpAt wr bx b g M
  bel : Below w.heap.size w wr
  bx0 : w.heap.size ≤ bx
  bxr : bx < r
  lb : b < w.heap.size
  lg : g < w.heap.size
section
variable {w wr w1 w4 : World} {bx b g r : Nat} {M left left' taken : List Ent} {v v' : Value} {x : Ent}
theorem KR.own1 (h : KR w wr bx b g r M left taken v) (hg : wr.grownBy w1 (some r)) (o : Obj) : OwnInts (w1.alloc o) (r + 1) v (taken.map (·.1)) :=
  h.own.keep fun y hy => by
    have hl := World.ownsRow.lt h.own y hy
    exact (Below.heap_alloc w1 o y (Nat.lt_of_lt_of_le hl.2 hg.size)).trans (hg.block y hl.2 (by intro e; injection e with e; omega))
theorem KR.step (h : KR w wr bx b g r M left taken v) (hp : left.Perm (x :: left')) (hr : RangeAt w1 g r M left') (hg : wr.grownBy w1 (some r)) {o : Obj} (ho : OwnInts w4 (r + 1) v' (taken.map (·.1) ++ [x.1])) (hg4 : (w1.alloc o).grownBy w4 v.ownBlock) : KR w w4 bx b g r M left' (taken ++ [x]) v' := by
  have hv : ∀ y, v.ownBlock = some y → r + 1 ≤ y := fun y hy => (World.ownsRow.lt h.own y hy).1
  have hrl := h.rng.lt
  have hk4 : ∀ y, y ≤ r → w4.heap[y]? = w1.heap[y]? := fun y hy => by
    have hlt : y < w1.heap.size := by have := hg.size; omega
    exact (hg4.block y (by simp; omega) (fun e => by have := hv y e.symm; omega)).trans (Below.heap_alloc w1 o y hlt)
  have hk1 : ∀ y, y < r → w1.heap[y]? = wr.heap[y]? := fun y hy => hg.block y (by omega) (by intro e; injection e with e; omega)
  have hbxr := h.bxr; have hbx0 := h.bx0; have hlb := h.lb; have hlg := h.lg
  have hb1 : Below w.heap.size wr w1 := (Below.refl w.heap.size wr).grown hg h.bel.size (by intro k e; injection e with e; omega)
  have hb4 : Below w.heap.size wr w4 := (hb1.alloc (Nat.le_trans h.bel.size hg.size) o).grown hg4 (by have := h.bel.size; have := hg.size; simp; omega) (fun k e => by have := hv k e; omega)
  refine ⟨hr.keep (hk4 g (by omega)) (hk4 r (Nat.le_refl _)), taken_step h.prm hp, by rw [List.map_append]; exact ho, ?_, h.bel.trans hb4, hbx0, hbxr, hlb, hlg⟩
  exact ⟨(World.cell?_of_block (w := wr) ((hk4 bx (by omega)).trans (hk1 bx (by omega)))).trans h.cmp.box, (World.cell?_of_block (w := wr) ((hk4 b (by omega)).trans (hk1 b (by omega)))).trans h.cmp.at_, h.cmp.map.keep ((hk4 g (by omega)).trans (hk1 g (by omega)))⟩
theorem KR.start {t : TypeId} {E : List Ent} (h : EntAt w b g E) (hr : RangeAt w1 g (w.alloc (.cells #[.pointer (some ⟨b, 0, none⟩)] t)).heap.size E E) (hg : (w.alloc (.cells #[.pointer (some ⟨b, 0, none⟩)] t)).grownBy w1 none) : KR w w1 w.heap.size b g (w.heap.size + 1) E E [] (.slice none 0 0) := by
  obtain ⟨h1, h2⟩ := h.lt
  rw [World.size_alloc] at hr
  have hk : ∀ y, y < w.heap.size + 1 → w1.heap[y]? = (w.alloc (.cells #[.pointer (some ⟨b, 0, none⟩)] t)).heap[y]? := fun y hy => hg.block y (by simpa using hy) (by simp)
  have hk0 : ∀ y, y < w.heap.size → w1.heap[y]? = w.heap[y]? := fun y hy => (hk y (by omega)).trans (Below.heap_alloc w _ y hy)
  refine ⟨hr, by simp, OwnInts.nil _ _, ⟨?_, (World.cell?_of_block (w := w) (hk0 b h1)).trans h.at_, h.map.keep (hk0 g h2)⟩, ((Below.refl _ w).alloc (Nat.le_refl _) _).grown hg (by simp) (by simp), Nat.le_refl _, by omega, h1, h2⟩
  exact (World.cell?_of_block (w := w.alloc (.cells #[.pointer (some ⟨b, 0, none⟩)] t)) (hk w.heap.size (by omega))).trans (by simp)
theorem KR.len (h : KR w wr bx b g r M left taken v) : taken.length + left.length = M.length := by have := h.prm.length_eq; simpa using this
end

def KeysPost (w : World) (E : List Ent) (e : Ending) (w' : World) : Prop := ∃ v, e = .returned v ∧ OwnInts w' w.heap.size v (E.map (·.1)) ∧ Below w.heap.size w w'
def KLoop (w : World) (bx b g r : Nat) (M : List Ent) (n : Nat) (v : Value) (wr : World) : Prop := ∃ left taken, left.length = n ∧ KR w wr bx b g r M left taken v

set_option maxHeartbeats 2000000 in
set_option maxRecDepth 100000 in
theorem keys_any (b gm : Nat) (E : List Ent) (w : World) (h : EntAt w b gm E) :
    Calls Tryz.prog 36 #[.pointer (some ⟨b, 0, none⟩)] w (KeysPost w E) := by
  obtain ⟨i0, hi, hz0, hz1, hz2⟩ := info_parts info_int
  have H := Lib.hid h
  obtain ⟨hlb, hlg⟩ := h.lt
  have hat := h.at_
  have HM0 : Hid (∀ o : Obj, MapAt (w.alloc o) gm E) := Lib.hid fun o => H.out.map.keep (Below.heap_alloc w o gm hlg)
  clear h
  go_enter Tryz.func36, Tryz.ntmps36
  go_wp2_with (at_range; refine wpList_range_map rfl (.tmp 8) rfl gm E rfl (HM0.out _) ?_; intro w1 hr1 hg1 hs1; have HKR := Lib.hid (KR.start H.out hr1 hg1); clear hr1 hg1 hs1; rw [World.size_alloc])
  go_frame
  go_loopg [3, 4] E.length (fun n v _ wr => KLoop w w.heap.size b gm (w.heap.size + 1) E n v wr)
  case atStart => exact ⟨E, [], rfl, HKR.out⟩
  case round =>
    clear HKR
    obtain ⟨left, taken, hlen, hkr⟩ := hrel
    have HK := Lib.hid hkr; have HL := Lib.hid hlen
    clear hkr hlen
    have hle := HK.out.len
    have h8 := H.out.n8
    obtain ⟨ta, tc, hv, _⟩ := HK.out.own.shape
    rw [List.length_map] at hv
    obtain ⟨m, hm⟩ : ∃ m, m = taken.length := ⟨_, rfl⟩
    rw [← hm] at hv
    have HM := Lib.hid hm; have HV := Lib.hid hv
    clear hm hv
    have hmv : OwnInts wr (w.heap.size + 1 + 1) (.slice ta m tc) (taken.map (·.1)) := by rw [← HV.out]; exact HK.out.own
    have HOWN := Lib.hid hmv
    clear hmv
    have hsz := HK.out.bel.size
    have hm8 : m ≤ 8 := by have := HM.out; omega
    have ht8 : (taken.map (·.1)).length ≤ 8 := by rw [List.length_map]; omega
    have HO1 : Hid (∀ (w1 : World) (o : Obj), wr.grownBy w1 (some (w.heap.size + 1)) → (w1.alloc o).ownsRow (w.heap.size + 1 + 1) 3 1 (.slice ta m tc) (taken.map (·.1)).length (ints (taken.map (·.1)))) := Lib.hid fun w1 o hg => by rw [← HV.out]; exact HK.out.own1 hg o
    clear hle
    rw [HV.out]
    have HLE : Hid (taken.length + left.length = E.length) := Lib.hid HK.out.len
    go_wp2_with (first
      | (at_next; refine wpList_next_map rfl (.tmp 9) rfl gm (w.heap.size + 1) E left rfl HK.out.rng (fun hl0 => ?_) (fun x left' w1 hp hr hg hs hen => ?_))
      | (at_builtin; refine wpList_append_own_at _ rfl (.tmp 14) (.tmp 16) 22 rfl (w.heap.size + 1 + 1) 3 i0 (.int .i64 0) 1 8 Tryz.underlying22 hi hz0 hz1 hz2 rfl (by decide) _ _ _ rfl (HO1.out _ _ hg) ⟨wr.heap.size, 0, none⟩ 1 1 [.int .i64 x.1] rfl rfl (by intro p u hp; match p, hp with | 0, hp => simp at hp; subst hp; rw [← hs]; simp [Addr.add]) (by intro u hu; simp at hu; subst hu; rfl) (by unfold maxLen; omega) (by omega) (by have := HK.out.rng.lt; have := hg.size; simp; omega) ?_; intro v' w4 hown' hgrow _ _; have HST := Lib.hid (HK.out.step hp hr hg (by unfold OwnInts; simpa [ints] using hown') (by rw [HV.out]; exact hgrow)); clear hown' hgrow; have HP := Lib.hid hp; clear hp))
    · have HL0 := Lib.hid hl0
      clear hl0
      have HPM : Hid (taken.Perm E) := Lib.hid (by have := HK.out.prm; rw [HL0.out, List.append_nil] at this; exact this)
      by_cases h0 : m = 0
      · have HE : Hid (E = []) := Lib.hid (List.length_eq_zero_iff.1 (by rw [← HPM.out.length_eq, ← HM.out]; exact h0))
        subst h0
        refine (sort_empty ta tc _ _).mono ?_
        rintro e' w3 ⟨rfl, rfl⟩
        go_wp2
        go_ret
        refine ⟨_, rfl, ?_, HK.out.bel⟩
        have h1 := HOWN.out
        rw [List.length_eq_zero_iff.1 HM.out.symm] at h1
        rw [HE.out]
        exact own_low h1 (by omega)
      · obtain ⟨g, cap, rest, hv, hg, hblk, hcap, hmax⟩ := own_front HOWN.out (by rw [List.length_map, ← HM.out]; omega)
        injection hv with e1 e2 e3
        subst e1 e3
        have HBLK := Lib.hid hblk; have HCAP := Lib.hid hcap
        have had : w.heap.size ≠ g ∧ b ≠ g ∧ gm ≠ g := ⟨by omega, by omega, by omega⟩
        clear e2 hblk hcap
        refine (sortFunc_any g m tc (turnOf E) w.heap.size b gm E (taken.map (·.1)) rest _ (by rw [List.length_map]; exact HM.out.symm) HBLK.out HK.out.cmp had rfl (fun x hx => (HPM.out.map (·.1)).mem_iff.1 hx) (by omega)).mono ?_
        rintro e' w3 ⟨rfl, xs, hp, hs, hb3, hk3⟩
        have HP := Lib.hid hp; have HS := Lib.hid hs; have HB3 := Lib.hid hb3; have HK3 := Lib.hid hk3; clear hp hs hb3 hk3
        go_wp2
        go_ret
        have hxl : xs.length = m := by rw [HP.out.length_eq, List.length_map]; exact HM.out.symm
        have hxs : xs = E.map (·.1) := sorted_keys H.out.map.nodup H.out.srt (HP.out.trans (HPM.out.map (·.1))) (by rw [hxl, show m = (taken.map (·.1)).length by rw [List.length_map]; exact HM.out]; exact HS.out)
        refine ⟨_, rfl, ?_, HK.out.bel.trans (HK3.out.below HK.out.bel.size (by simp; omega))⟩
        have hob := own_back (base := w.heap.size) (by omega) HB3.out (cap := tc) (by rw [← HCAP.out, List.length_append, List.length_append, ints_len, ints_len, HP.out.length_eq]) hmax
        rw [← hxs]
        rw [hxl] at hob
        exact hob
    · go_roundg left'.length
      case measure => have := HP.out.length_eq; simp at this; have := HL.out; omega
      case rel => exact ⟨left', taken ++ [x], rfl, HST.out⟩
end Go.Proofs.YticckfioggeaeaaGreatDoor

/-
  A Builder that lies in a store: copyCheck, WriteString, String, by their contracts.
-/
namespace Go.Proofs.YticckfioggeaeaaGreatDoor
open Go.RowKit

/-- Bytes that a builder owns: the head of their row may be frozen. -/
def OwnB (w : World) (v : Value) (l : List UInt8) : Prop := w.ownsRowF 0 5 1 v l.length (Lib.byteCells l)
theorem OwnB.nil (w : World) : OwnB w (.slice none 0 0) [] := World.ownsRowF_nil w 0 _ 1
theorem OwnB.lt {w : World} {v : Value} {l : List UInt8} (h : OwnB w v l) : ∀ x, v.ownBlock = some x → x < w.heap.size := fun x hx => (World.ownsRowF.lt h x hx).2
theorem OwnB.keep {w w' : World} {v : Value} {l : List UInt8} (h : OwnB w v l) (hk : ∀ g, v.ownBlock = some g → w'.heap[g]? = w.heap[g]?) : OwnB w' v l := by
  obtain ⟨hl, h2⟩ := h
  refine ⟨hl, ?_⟩
  rcases h2 with h2 | ⟨g, cap, cur, fz, e, hb, hh, r⟩
  · exact .inl h2
  · exact .inr ⟨g, cap, cur, fz, e, hb, (hk g (by rw [e]; rfl)).trans hh, r⟩
theorem OwnB.ne {w : World} {v : Value} {l : List UInt8} {g : Nat} {t : TypeId} {cs : List Value} (h : OwnB w v l) (hb : Blk w g t cs) (ht : t ≠ 5) : v.ownBlock ≠ some g := Lib.ownBlock_neF h hb ht
theorem OwnB.shape {w : World} {v : Value} {l : List UInt8} (h : OwnB w v l) : ∃ a c, v = .slice a l.length c := by
  rcases h.2 with ⟨hv, h0⟩ | ⟨g, cap, cur, fz, hv, _⟩
  · exact ⟨none, 0, by rw [hv, h0]⟩
  · exact ⟨_, _, hv⟩
theorem shape_app {w : World} {v : Value} {l : List UInt8} {s : ByteArray} (h : OwnB w v (l ++ s.data.toList)) : ∃ a c, v = .slice a (l.length + s.size) c := by
  obtain ⟨a, c, e⟩ := h.shape
  exact ⟨a, c, by rw [e, List.length_append, Lib.size_eq s]⟩
theorem strCells_bytes (s : ByteArray) : Lib.strCells s = Lib.byteCells s.data.toList := rfl
theorem byteCells_append (l r : List UInt8) : Lib.byteCells (l ++ r) = Lib.byteCells l ++ Lib.byteCells r := by simp [Lib.byteCells]
theorem info_byte : (Tryz.prog.info? 5).map (fun i => (i.zero, i.size, i.bytes)) = some (some (.int .u8 0), 1, 1) := by kernel_rfl

set_option maxRecDepth 100000 in
/-- append(buf, s...): what comes out, and where it lies. -/
theorem append_str (ty : TypeId) {w : World} {v : Value} {l : List UInt8} (h : OwnB w v l) (s : ByteArray) (hlen : l.length + s.size ≤ 140737488355328) :
    ∃ v' w', (Builtin.append_ #[41, 9] ty #[v, .string s]).run Tryz.prog w = .ok v' w' ∧ OwnB w' v' (l ++ s.data.toList) ∧ w.grownBy w' v.ownBlock ∧ (∀ x, v'.ownBlock = some x → v.ownBlock = some x ∨ w.heap.size ≤ x) := by
  obtain ⟨i0, hi, hz0, hz1, hz2⟩ := info_parts info_byte
  obtain ⟨v', w', hr, h2, h3, h4⟩ := Lib.run_append_own_stringF (P := Tryz.prog) w 0 41 9 ty 5 i0 Tryz.underlying41 Tryz.underlying9 hi hz0 hz1 hz2 v l.length _ h s (by unfold maxLen; omega) hlen (Nat.zero_le _)
  refine ⟨v', w', hr, ?_, h3, ?_⟩
  · unfold OwnB
    rw [byteCells_append, List.length_append, ← strCells_bytes, show s.data.toList.length = s.size from (Lib.size_eq s).symm]
    exact h2
  · intro x hx
    rcases h.2 with ⟨rfl, h0⟩ | ⟨g, cap, cur, fz, rfl, hbg, hg, hfz, hnc, hcm, hcs, htake⟩
    · right
      have hl : l = [] := List.length_eq_zero_iff.1 h0
      subst hl
      obtain ⟨v2, w2, hr2, k2, _⟩ := Lib.run_append_own_stringF (P := Tryz.prog) w w.heap.size 41 9 ty 5 i0 Tryz.underlying41 Tryz.underlying9 hi hz0 hz1 hz2 (.slice none 0 0) 0 [] (World.ownsRowF_nil _ _ _ _) s (by unfold maxLen; simp at hlen; omega) (by simpa using hlen) (Nat.le_refl _)
      rw [hr] at hr2
      injection hr2 with e1 _
      subst e1
      exact (World.ownsRowF.lt k2 x hx).1
    · by_cases hroom : l.length + s.size ≤ cap
      · left
        have hr2 := Lib.run_append_room_stringF (P := Tryz.prog) w 41 9 ty 5 i0 Tryz.underlying41 Tryz.underlying9 hi hz1 g l.length cap cur fz hg (by simpa using hfz) s hroom (by simp at hcs; omega)
        rw [hr] at hr2
        injection hr2 with e1 _
        subst e1
        exact hx
      · right
        have hr2 := Lib.run_append_grow_string (P := Tryz.prog) w 41 9 ty 5 i0 (.int .u8 0) Tryz.underlying41 Tryz.underlying9 hi hz0 ⟨g, 0, none⟩ l.length cap (Lib.byteCells l) (by rw [hz1]; simp [Lib.byteCells]) (World.ownsRowF.cells h (g := g) rfl) s (by omega) (by omega) (by rw [hz2]; exact growslice_fits (by omega) (by omega))
        rw [hr] at hr2
        injection hr2 with e1 _
        subst e1
        simp only [Value.ownBlock, Option.some.injEq] at hx
        omega
section
variable {w : World} {ops : Array Oper} {rest : List Oper} {o : Oper} {a : Act} {Q : Exit → Act → World → Prop}
theorem wpList_append_str (hg : o.guard = none) (sl x : Operand) (hop : o.op = Op.call { callee := Callee.builtin Builtin.append, args := #[sl, x], argTypes := #[41, 9] }) (v : Value) (l : List UInt8) (hs : a.eval sl = v) (hown : OwnB w v l) (s : ByteArray) (hx : a.eval x = .string s) (hlen : l.length + s.size ≤ 140737488355328)
    (hK : ∀ v' w', OwnB w' v' (l ++ s.data.toList) → w.grownBy w' v.ownBlock → (∀ x, v'.ownBlock = some x → v.ownBlock = some x ∨ w.heap.size ≤ x) → wpList Tryz.prog ops Q rest (a.put o.dst v') w') :
    wpList Tryz.prog ops Q (o :: rest) a w := by
  refine wpList_plain hg fun K' hK' => ?_
  obtain ⟨v', w', hrun, r1, r2, r3⟩ := append_str o.type hown s hlen
  unfold Oper.wp
  simp [execOp, hop, resolve, invoke, builtin, hs, hx, hrun, Result.andThen]
  exact hK' _ _ (hK v' w' r1 r2 r3)
end

/-! ### copyCheck -/
theorem size_builder : (Tryz.prog.info? 70).map (·.size) = some 2 := by kernel_rfl
theorem lies_builder : liesAt Tryz.prog Tryz.prog.depth 72 (6 / Tryz.prog.cellsOf 72) 3 70 1 = true := by kernel_rfl
set_option maxHeartbeats 1000000 in
set_option maxRecDepth 100000 in
theorem copyCheck_used (b : Nat) (w : World) (h0 : w.cell? ⟨b, 3, none⟩ = some (.pointer (some ⟨b, 3, none⟩))) :
    Calls Tryz.prog 67 #[.pointer (some ⟨b, 3, none⟩)] w fun e w' => e = .returned (.tuple #[]) ∧ w = w' := by
  obtain ⟨j, hj, _⟩ := Option.map_eq_some_iff.1 size_builder
  go_enter Tryz.func67, Tryz.ntmps67
  go_wp2
  rw [Lib.run_neq_ptr_same w _ Tryz.underlying68 hj]
  go_wp2
  go_end0
  exact ⟨rfl, rfl⟩
set_option maxHeartbeats 1000000 in
set_option maxRecDepth 100000 in
theorem copyCheck_fresh (b : Nat) (w : World) (h0 : w.cell? ⟨b, 3, none⟩ = some (.pointer none)) (hsh : w.shape? b = some (72, 6)) (hfz : w.frozen? ⟨b, 3, none⟩ = false) :
    Calls Tryz.prog 67 #[.pointer (some ⟨b, 3, none⟩)] w fun e w' => e = .returned (.tuple #[]) ∧ w' = w.setCell ⟨b, 3, none⟩ (.pointer (some ⟨b, 3, none⟩)) := by
  obtain ⟨j, hj, hjs⟩ := Option.map_eq_some_iff.1 size_builder
  go_enter Tryz.func67, Tryz.ntmps67
  go_wp2
  rw [Lib.run_to_unsafe w ⟨b, 3, none⟩ Tryz.underlying68 Tryz.underlying122 hj (by rw [hjs]; decide) hsh (by show 3 < 6; decide)]
  simp only [Result.andThen]
  rw [Oper.upon_value]
  go_wp2
  rw [run_callFunc_extern Tryz.func95 (by kernel_rfl) (by kernel_rfl) (by kernel_rfl) (e := Extern.AbiNoEscape.same) (by kernel_rfl)]
  rw [Lib.run_noEscape]
  simp only [Result.andThen]
  rw [Oper.upon_value]
  go_wp2
  rw [Lib.run_from_unsafe w ⟨b, 3, none⟩ Tryz.underlying122 Tryz.underlying68 hj hsh lies_builder]
  simp only [Result.andThen]
  rw [Oper.upon_value]
  go_wp2
  go_end0
  exact ⟨rfl, rfl⟩

/-- A store's block. -/
abbrev stCells (slots : Int) (gm : Nat) (turn : Int) (p bv : Value) (many : Int) : List Value := [.int .i64 slots, .map (some gm), .int .i64 turn, p, bv, .int .i64 many]
def CheckPost (w : World) (b gm : Nat) (slots turn : Int) (bv : Value) (many : Int) (e : Ending) (w' : World) : Prop :=
  e = .returned (.tuple #[]) ∧ Blk w' b 72 (stCells slots gm turn (.pointer (some ⟨b, 3, none⟩)) bv many) ∧ Keep [b] w w'
theorem copyCheck_any (b gm : Nat) (slots turn : Int) (p bv : Value) (many : Int) (w : World) (h : Blk w b 72 (stCells slots gm turn p bv many)) (hp : p = .pointer none ∨ p = .pointer (some ⟨b, 3, none⟩)) :
    Calls Tryz.prog 67 #[.pointer (some ⟨b, 3, none⟩)] w (CheckPost w b gm slots turn bv many) := by
  rcases hp with rfl | rfl
  · have hsh : w.shape? b = some (72, 6) := by unfold Blk at h; simp [World.shape?, h]
    refine (copyCheck_fresh b w (h.cell_ (i := 3) rfl) hsh (h.free 3)).mono ?_
    rintro e w' ⟨rfl, rfl⟩
    exact ⟨rfl, h.set 3 _, (Keep.refl _ w).set (fun _ => by simp) _⟩
  · refine (copyCheck_used b w (h.cell_ (i := 3) rfl)).mono ?_
    rintro e w' ⟨rfl, rfl⟩
    exact ⟨rfl, h, Keep.refl _ _⟩

/-! ### WriteString -/
def WritePost (w : World) (b gm : Nat) (slots turn : Int) (bv : Value) (many : Int) (l : List UInt8) (s : ByteArray) (e : Ending) (w' : World) : Prop :=
  ∃ bv', e = .returned (.tuple #[.int .i64 s.size, .nilIface]) ∧ Blk w' b 72 (stCells slots gm turn (.pointer (some ⟨b, 3, none⟩)) bv' many) ∧ OwnB w' bv' (l ++ s.data.toList) ∧ Keep (b :: bv.ownBlock.toList) w w' ∧ (∀ x, bv'.ownBlock = some x → bv.ownBlock = some x ∨ w.heap.size ≤ x)
set_option maxHeartbeats 1000000 in
set_option maxRecDepth 100000 in
theorem writeString_any (b gm : Nat) (slots turn : Int) (p bv : Value) (many : Int) (l : List UInt8) (s : ByteArray) (w : World) (h : Blk w b 72 (stCells slots gm turn p bv many)) (hp : p = .pointer none ∨ p = .pointer (some ⟨b, 3, none⟩)) (ho : OwnB w bv l) (hlen : l.length + s.size ≤ 140737488355328) :
    Calls Tryz.prog 39 #[.pointer (some ⟨b, 3, none⟩), .string s] w (WritePost w b gm slots turn bv many l s) := by
  have H := Lib.hid h; have HO := Lib.hid ho; have HP := Lib.hid hp
  clear h ho hp
  go_enter Tryz.func39, Tryz.ntmps39
  go_wp2_with fail
  refine (copyCheck_any b gm slots turn p bv many _ H.out HP.out).mono ?_
  rintro e w1 ⟨rfl, hb1, hk1⟩
  have c4 := hb1.cell_ (i := 4) rfl
  have HB1 := Lib.hid hb1; have HK1 := Lib.hid hk1
  have ho1 := HO.out.keep (w' := w1) (fun g hg => hk1.block g (HO.out.lt g hg) (by simp; rintro rfl; exact HO.out.ne H.out (by decide) hg))
  have HO1 := Lib.hid ho1
  clear hb1 hk1 ho1
  go_wp2_with (at_builtin; refine wpList_append_str rfl (.tmp 12) (.tmp 13) rfl bv l rfl HO1.out s rfl hlen ?_; intro bv' w2 hown2 hgrow2 hlies; have hb2 : Blk w2 b 72 (stCells slots gm turn (.pointer (some ⟨b, 3, none⟩)) bv many) := HB1.out.grown hgrow2 (fun e => HO1.out.ne HB1.out (by decide) e.symm); have f4 := hb2.free 4; have d4 := hb2.cell_ (i := 4) rfl; have HB2 := Lib.hid hb2; have HO2 := Lib.hid hown2; have HG2 := Lib.hid hgrow2; have HL2 := Lib.hid hlies; clear hb2 hown2 hgrow2 hlies; (obtain ⟨a', c', hv'⟩ := shape_app HO2.out); have HV' := Lib.hid hv'; rw [hv']; clear hv')
  go_ret2
  refine ⟨bv', rfl, ?_, ?_, ?_, ?_⟩
  · rw [HV'.out]
    exact HB2.out.set 4 _
  · rw [← HV'.out]
    refine HO2.out.keep fun g hg => ?_
    refine Below.heap_setCell _ _ _ g ?_
    rintro rfl
    exact HO2.out.ne HB2.out (by decide) hg
  · have h1 : Keep (b :: bv.ownBlock.toList) w w2 := ((HK1.out.mono (by simp)).grown HG2.out (fun k hk _ => by rw [hk]; simp))
    exact h1.set (fun _ => by simp) _
  · intro x hx
    rcases HL2.out x hx with h | h
    · exact .inl h
    · exact .inr (Nat.le_trans HK1.out.size h)

/-! ### String -/
theorem freeze_other (w : World) (g n k : Nat) (hk : k ≠ g) : (w.freeze ⟨g, 0, none⟩ n).heap[k]? = w.heap[k]? := by
  unfold World.freeze
  split
  · rfl
  · simp only [Array.getElem?_modify]
    rw [if_neg (fun e => hk e.symm)]
theorem freeze_keep (w : World) (g n : Nat) : Keep [g] w (w.freeze ⟨g, 0, none⟩ n) := by
  refine ⟨?_, ?_, ?_, ?_, fun k _ hk => freeze_other w g n k (by simpa using hk)⟩
  all_goals (unfold World.freeze; split <;> simp)
theorem OwnB.froze {w : World} {g cap : Nat} {l : List UInt8} (h : OwnB w (.slice (some ⟨g, 0, none⟩) l.length cap) l) : OwnB (w.freeze ⟨g, 0, none⟩ l.length) (.slice (some ⟨g, 0, none⟩) l.length cap) l := by
  unfold World.freeze
  split
  · exact h
  · obtain ⟨hl, h2⟩ := h
    refine ⟨hl, ?_⟩
    rcases h2 with ⟨hv, _⟩ | ⟨g', cap', cur, fz, hv, hb, hh, hfz, r⟩
    · cases hv
    · injection hv with ha _ hcap
      injection ha with ha
      injection ha with hgg _ _
      subst hgg
      subst hcap
      obtain ⟨lo, hi⟩ := fz
      refine .inr ⟨g, _, cur, (if lo == hi then (0, 0 + l.length) else (min lo 0, max hi (0 + l.length))), rfl, hb, ?_, ?_, r⟩
      · simp [Array.getElem?_modify, hh]
      · simp only at hfz
        split <;> simp <;> omega
theorem cells_byte : Tryz.prog.cellsOf 5 = 1 := by kernel_rfl
def StringPost (w : World) (b gm : Nat) (slots turn : Int) (p bv : Value) (many : Int) (l : List UInt8) (e : Ending) (w' : World) : Prop :=
  e = .returned (.string ⟨l.toArray⟩) ∧ Blk w' b 72 (stCells slots gm turn p bv many) ∧ OwnB w' bv l ∧ Keep bv.ownBlock.toList w w'
set_option maxHeartbeats 2000000 in
set_option maxRecDepth 100000 in
theorem string_some (b gm : Nat) (slots turn : Int) (p bv : Value) (many : Int) (l : List UInt8) (w : World) (h : Blk w b 72 (stCells slots gm turn p bv many)) (ho : OwnB w bv l) (h0 : l ≠ []) :
    Calls Tryz.prog 35 #[.pointer (some ⟨b, 3, none⟩)] w (StringPost w b gm slots turn p bv many l) := by
  have hl0 : l.length ≠ 0 := by simpa using h0
  have HO := Lib.hid ho; have H := Lib.hid h
  obtain ⟨g, cap, cur, fz, hv, hg, hfz, hnc, hcm, hcs⟩ : ∃ g cap cur fz, bv = .slice (some ⟨g, 0, none⟩) l.length cap ∧ w.heap[g]? = some (.cells cur 5 fz) ∧ fz.2 ≤ l.length * 1 ∧ l.length ≤ cap ∧ cap ≤ maxLen ∧ cur.size = cap * 1 := by
    rcases ho.2 with ⟨_, hz⟩ | ⟨g, cap, cur, fz, hv, _, hg, r1, r2, r3, r4, _⟩
    · exact absurd hz hl0
    · exact ⟨g, cap, cur, fz, hv, hg, r1, r2, r3, r4⟩
  subst hv
  have c1 := h.cell_ (i := 4) rfl
  have hne := ho.ne h (by decide)
  simp only [Value.ownBlock, ne_eq, Option.some.injEq] at hne
  have hSD : (Builtin.unsafeSliceData_ #[41] 103 #[.slice (some ⟨g, 0, none⟩) l.length cap]).run Tryz.prog w.drew = .ok (.pointer (some ⟨g, 0, none⟩)) w.drew :=
    Lib.run_unsafeSliceData_row _ _ _ _ _ _ (by omega)
  have hUS : (Builtin.unsafeString_ #[103, 3] 9 #[.pointer (some ⟨g, 0, none⟩), .int .i64 l.length]).run Tryz.prog w.drew = .ok (.string ⟨l.toArray⟩) (w.drew.freeze ⟨g, 0, none⟩ l.length) := by
    refine Lib.run_unsafeString_row w.drew 103 3 9 5 Tryz.underlying103 cells_byte g cur.size (by have hg' : w.drew.heap[g]? = some (.cells cur 5 fz) := hg; simp [World.shape?, hg']) l h0 (by omega) (by unfold maxLen at hcm; omega) ?_
    intro j x hx
    exact World.ownsRowF.cells ho (g := g) rfl j (.int .u8 x.toNat) (by simp [Lib.byteCells, hx])
  have HW : Hid (Blk (w.drew.freeze ⟨g, 0, none⟩ l.length) b 72 (stCells slots gm turn p (.slice (some ⟨g, 0, none⟩) l.length cap) many)) := Lib.hid (h.drew.keep (freeze_keep _ g _) (by simpa using Ne.symm hne))
  have HF : Hid (OwnB (w.drew.freeze ⟨g, 0, none⟩ l.length) (.slice (some ⟨g, 0, none⟩) l.length cap) l) := Lib.hid (OwnB.froze (w := w.drew) ho)
  have HK : Hid (Keep [g] w (w.drew.freeze ⟨g, 0, none⟩ l.length)) := Lib.hid ((Keep.refl _ w).drew.trans (freeze_keep _ g _))
  clear h ho hg hfz hnc hcm hcs hne h0
  obtain ⟨n, hn⟩ : ∃ n, n = l.length := ⟨_, rfl⟩
  have HN := Lib.hid hn
  go_enter Tryz.func35, Tryz.ntmps35
  go_wp2
  go_region
  all_goals (go_wp2; go_ret; exact ⟨rfl, HW.out, HF.out, HK.out⟩)
set_option maxHeartbeats 2000000 in
set_option maxRecDepth 100000 in
theorem string_none (b gm : Nat) (slots turn : Int) (p : Value) (many : Int) (w : World) (h : Blk w b 72 (stCells slots gm turn p (.slice none 0 0) many)) :
    Calls Tryz.prog 35 #[.pointer (some ⟨b, 3, none⟩)] w (StringPost w b gm slots turn p (.slice none 0 0) many []) := by
  have H := Lib.hid h
  have c1 := h.cell_ (i := 4) rfl
  have hSD : (Builtin.unsafeSliceData_ #[41] 103 #[.slice none 0 0]).run Tryz.prog w.drew = .ok (.pointer none) w.drew := rfl
  have hUS := fun (W : World) (q : Option Addr) => Lib.run_unsafeString_none (P := Tryz.prog) W 103 3 9 q
  clear h
  go_enter Tryz.func35, Tryz.ntmps35
  go_wp2
  go_region
  all_goals (go_wp2; go_ret; exact ⟨rfl, H.out.drew, OwnB.nil _, (Keep.refl _ w).drew⟩)
theorem string_any (b gm : Nat) (slots turn : Int) (p bv : Value) (many : Int) (l : List UInt8) (w : World) (h : Blk w b 72 (stCells slots gm turn p bv many)) (ho : OwnB w bv l) (h0 : l = [] → bv = .slice none 0 0) :
    Calls Tryz.prog 35 #[.pointer (some ⟨b, 3, none⟩)] w (StringPost w b gm slots turn p bv many l) := by
  by_cases e : l = []
  · obtain rfl := h0 e
    subst e
    exact string_none b gm slots turn p many w h
  · exact string_some b gm slots turn p bv many l w h ho e
end Go.Proofs.YticckfioggeaeaaGreatDoor
