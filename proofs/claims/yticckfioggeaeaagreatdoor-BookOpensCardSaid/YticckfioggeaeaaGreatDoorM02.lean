/-
  Several texts in one (merged by wip/merge.py): BookKeys, BookKeysWalk, BookStr, BookNum, BookLaw, BookParse, BookSum, LiftBookK, BookNumber.
-/
import Derived.Test.YticckfioggeaeaaGreatDoorBookSort
import Derived.StillTailTactics
import Derived.Deep.DeepCutAuto
import Derived.Lib.FrozenHead
import Derived.Lib.UnsafeStr
import Derived.Lib.Strings
import Derived.Shelf.RegionOpenPlain
import Derived.Laws.Externs
import Derived.BigRegion
import Derived.Lib.AtoiAll
import Derived.Lib.ItoaLen
import Derived.Test.YticckfioggeaeaaGreatDoorShelf
import Derived.Lib.SmallJoins
import Derived.Lib.AppendIntMem
import Derived.Test.YticckfioggeaeaaGreatDoorM00
import Derived.Test.YticckfioggeaeaaGreatDoorTie
import Derived.Test.YticckfioggeaeaaGreatDoorCards
import Derived.ChangeSame
import Derived.ChangeVars
import Derived.JoinedOf
import Derived.RowKit
import Derived.RowKitTokens
import Derived.LaidLaws
import Derived.LaidHandle
import Derived.Lay
import Derived.MakeChecks
import Derived.Stop.Joined
import Derived.Stop.LaidErr
import Derived.Lib.LaidTab
set_option linter.unusedVariables false
/-
  book.keys: what its loop has collected.
-/
namespace Go.Proofs.YticckfioggeaeaaGreatDoor
open Go.RowKit

theorem taken_step {M left left' taken : List Ent} {x : Ent} (h : (taken ++ left).Perm M) (hx : left.Perm (x :: left')) : (taken ++ [x] ++ left').Perm M := by
  rw [List.append_assoc]
  exact ((List.Perm.refl taken).append hx.symm).trans h
/-- The keys by falling turns are the model's. -/
theorem sorted_keys {M : List Ent} (hn : (M.map (·.1)).Nodup) (hs : M.Pairwise fun p q => q.2.2 < p.2.2) {xs : List Int} (hp : xs.Perm (M.map (·.1))) (ho : SortedTo (turnOf M) xs xs.length) : xs = M.map (·.1) := by
  have h1 : xs.Pairwise fun a b => turnOf M b ≤ turnOf M a := by
    rw [List.pairwise_iff_getElem]
    intro i j hi hj hij
    exact ho i j hi hj hij hj
  have h2 : (M.map (·.1)).Pairwise fun a b => turnOf M b < turnOf M a := by
    rw [List.pairwise_map]
    exact hs.imp_of_mem fun {p q} hp hq h => by rw [turnOf_mem hn hp, turnOf_mem hn hq]; exact h
  have h3 : (M.map (·.1)).Pairwise fun a b => turnOf M b ≤ turnOf M a := h2.imp fun h => Int.le_of_lt h
  have hinj : ∀ a b, a ∈ M.map (·.1) → b ∈ M.map (·.1) → turnOf M a = turnOf M b → a = b := by
    intro a b ha hb he
    obtain ⟨i, hi, rfl⟩ := List.getElem_of_mem ha
    obtain ⟨j, hj, rfl⟩ := List.getElem_of_mem hb
    rcases Nat.lt_trichotomy i j with h | h | h
    · have := List.pairwise_iff_getElem.1 h2 i j hi hj h; omega
    · subst h; rfl
    · have := List.pairwise_iff_getElem.1 h2 j i hj hi h; omega
  exact List.Perm.eq_of_pairwise (fun a b ha hb h4 h5 => hinj a b (hp.mem_iff.1 ha) hb (Int.le_antisymm h5 h4)) h1 h3 hp
end Go.Proofs.YticckfioggeaeaaGreatDoor

/-
  book.keys, by its contract.
-/
namespace Go.Proofs.YticckfioggeaeaaGreatDoor
open Go.RowKit

theorem own_front {w : World} {base : Nat} {v : Value} {l : List Int} (h : OwnInts w base v l) (hp : 0 < l.length) : ∃ g cap rest, v = .slice (some ⟨g, 0, none⟩) l.length cap ∧ base ≤ g ∧ Blk w g 3 (ints l ++ rest) ∧ (ints l ++ rest).length = cap ∧ cap ≤ maxLen := by
  obtain ⟨hl, ⟨rfl, hn⟩ | ⟨g, cap, cur, rfl, hb, hh, hc, hm, hs, ht⟩⟩ := h
  · omega
  · refine ⟨g, cap, cur.toList.drop (l.length * 1), rfl, hb, ?_, ?_, hm⟩
    · unfold Blk
      rw [← ht, List.take_append_drop]; simpa using hh
    · rw [← ht, List.take_append_drop]; simpa using hs
theorem own_low {w : World} {b b' : Nat} {v : Value} {xs : List Int} (h : OwnInts w b v xs) (hb : b' ≤ b) : OwnInts w b' v xs := by
  obtain ⟨hl, h2⟩ := h
  refine ⟨hl, ?_⟩
  rcases h2 with h2 | ⟨g, cap, cur, e, hg, r⟩
  · exact .inl h2
  · exact .inr ⟨g, cap, cur, e, Nat.le_trans hb hg, r⟩
theorem own_back {w : World} {base g cap : Nat} {l : List Int} {rest : List Value} (hb : base ≤ g) (h : Blk w g 3 (ints l ++ rest)) (hc : (ints l ++ rest).length = cap) (hm : cap ≤ maxLen) : OwnInts w base (.slice (some ⟨g, 0, none⟩) l.length cap) l := by
  refine ⟨by simp [ints], .inr ⟨g, cap, (ints l ++ rest).toArray, rfl, hb, h, ?_, hm, ?_, ?_⟩⟩
  · rw [← hc, List.length_append, ints_len]; omega
  · simpa using hc
  · rw [Nat.mul_one]
    simp [ints]
set_option maxHeartbeats 1000000 in
set_option maxRecDepth 100000 in
theorem sort_empty (a : Option Addr) (c : Nat) (ad : Addr) (w : World) :
    Calls Tryz.prog 63 #[.slice a 0 c, .func (.func 64) #[] #[.pointer (some ad)]] w fun e w' => e = .returned (.tuple #[]) ∧ w = w' := by
  have h3 : ∀ w : World, Calls Tryz.prog 108 #[.slice a 0 c, .int .i64 0, .int .i64 0, .func (.func 64) #[] #[.pointer (some ad)]] w fun e w' => e = .returned (.tuple #[]) ∧ w = w' := by
    intro w
    go_enter Tryz.func108, Tryz.ntmps108
    go_wp2
    go_loopw [8, 9] (fun i _ wr => i = .int .i64 1 ∧ w = wr) (fun _ _ _ => 0)
    case atStart => exact ⟨rfl, rfl⟩
    case round =>
      obtain ⟨rfl, rfl⟩ := hrel
      go_wp2
      go_end0
      exact ⟨rfl, rfl⟩
  have H3 := Lib.hid h3; clear h3
  have h2 : ∀ (lim : Int) (w : World), Calls Tryz.prog 92 #[.slice a 0 c, .int .i64 0, .int .i64 0, .int .i64 lim, .func (.func 64) #[] #[.pointer (some ad)]] w fun e w' => e = .returned (.tuple #[]) ∧ w = w' := by
    intro lim w
    go_enter Tryz.func92, Tryz.ntmps92
    go_wp2
    refine wp_loop_rounds 1 ?_
    rw [rounds_succ]
    go_wp2_with fail
    refine (H3.out _).mono ?_
    rintro e w2 ⟨rfl, rfl⟩
    go_wp2
    first
      | (refine bodyPost_ret (results_none _ _ _ _) rfl ?_; exact ⟨rfl, rfl⟩)
      | (refine bodyPost_ret (v := .tuple #[]) (by simp [results, go_sem]) rfl ?_; exact ⟨rfl, rfl⟩)
  have H2 := Lib.hid h2; clear h2
  go_enter Tryz.func63, Tryz.ntmps63
  go_wp2_with fail
  refine (len_some 0 _ (by omega)).mono ?_
  rintro e w' ⟨⟨v, rfl⟩, rfl⟩
  go_wp2_with fail
  refine (H2.out v _).mono ?_
  rintro e w2 ⟨rfl, rfl⟩
  go_wp2
  go_end0
  exact ⟨rfl, rfl⟩


/-- How a store's map lies. -/
structure EntAt (w : World) (b gm : Nat) (E : List Ent) : Prop where
  at_ : w.cell? ⟨b, 1, none⟩ = some (.map (some gm))
  map : MapAt w gm E
  srt : E.Pairwise fun p q => q.2.2 < p.2.2
  n8 : E.length ≤ 8
theorem EntAt.lt {w : World} {b gm : Nat} {E : List Ent} (h : EntAt w b gm E) : b < w.heap.size ∧ gm < w.heap.size := ⟨World.block_lt_of_cell? w _ h.at_, h.map.lt⟩
theorem EntAt.keep {w w' : World} {b gm : Nat} {E : List Ent} (h : EntAt w b gm E) (hb : w'.heap[b]? = w.heap[b]?) (hg : w'.heap[gm]? = w.heap[gm]?) : EntAt w' b gm E :=
  { h with at_ := (World.cell?_of_block (w := w) hb).trans h.at_, map := h.map.keep hg }

/-- What the loop has taken. -/
structure KR (w wr : World) (bx b g r : Nat) (M left taken : List Ent) (v : Value) : Prop where
  rng : RangeAt wr g r M left
  prm : (taken ++ left).Perm M
  own : OwnInts wr (r + 1) v (taken.map (·.1))
  cmp : CmpAt wr bx b g M
  bel : Below w.heap.size w wr
  bx0 : w.heap.size ≤ bx
  bxr : bx < r
  lb : b < w.heap.size
  lg : g < w.heap.size
section
variable {w wr w1 w4 : World} {bx b g r : Nat} {M left left' taken : List Ent} {v v' : Value} {x : Ent}
theorem KR.own1 (h : KR w wr bx b g r M left taken v) (hg : wr.grownBy w1 (some r)) (o : Obj) : OwnInts (w1.alloc o) (r + 1) v (taken.map (·.1)) :=
  h.own.keep fun y hy => by
    have hl := World.ownsRow.lt h.own y hy
    exact (Below.heap_alloc w1 o y (Nat.lt_of_lt_of_le hl.2 hg.size)).trans (hg.block y hl.2 (by intro e; injection e with e; omega))
theorem KR.step (h : KR w wr bx b g r M left taken v) (hp : left.Perm (x :: left')) (hr : RangeAt w1 g r M left') (hg : wr.grownBy w1 (some r)) {o : Obj} (ho : OwnInts w4 (r + 1) v' (taken.map (·.1) ++ [x.1])) (hg4 : (w1.alloc o).grownBy w4 v.ownBlock) : KR w w4 bx b g r M left' (taken ++ [x]) v' := by
  have hv : ∀ y, v.ownBlock = some y → r + 1 ≤ y := fun y hy => (World.ownsRow.lt h.own y hy).1
  have hrl := h.rng.lt
  have hk4 : ∀ y, y ≤ r → w4.heap[y]? = w1.heap[y]? := fun y hy => by
    have hlt : y < w1.heap.size := by have := hg.size; omega
    exact (hg4.block y (by simp; omega) (fun e => by have := hv y e.symm; omega)).trans (Below.heap_alloc w1 o y hlt)
  have hk1 : ∀ y, y < r → w1.heap[y]? = wr.heap[y]? := fun y hy => hg.block y (by omega) (by intro e; injection e with e; omega)
  have hbxr := h.bxr; have hbx0 := h.bx0; have hlb := h.lb; have hlg := h.lg
  have hb1 : Below w.heap.size wr w1 := (Below.refl w.heap.size wr).grown hg h.bel.size (by intro k e; injection e with e; omega)
  have hb4 : Below w.heap.size wr w4 := (hb1.alloc (Nat.le_trans h.bel.size hg.size) o).grown hg4 (by have := h.bel.size; have := hg.size; simp; omega) (fun k e => by have := hv k e; omega)
  refine ⟨hr.keep (hk4 g (by omega)) (hk4 r (Nat.le_refl _)), taken_step h.prm hp, by rw [List.map_append]; exact ho, ?_, h.bel.trans hb4, hbx0, hbxr, hlb, hlg⟩
  exact ⟨(World.cell?_of_block (w := wr) ((hk4 bx (by omega)).trans (hk1 bx (by omega)))).trans h.cmp.box, (World.cell?_of_block (w := wr) ((hk4 b (by omega)).trans (hk1 b (by omega)))).trans h.cmp.at_, h.cmp.map.keep ((hk4 g (by omega)).trans (hk1 g (by omega)))⟩
theorem KR.start {t : TypeId} {E : List Ent} (h : EntAt w b g E) (hr : RangeAt w1 g (w.alloc (.cells #[.pointer (some ⟨b, 0, none⟩)] t)).heap.size E E) (hg : (w.alloc (.cells #[.pointer (some ⟨b, 0, none⟩)] t)).grownBy w1 none) : KR w w1 w.heap.size b g (w.heap.size + 1) E E [] (.slice none 0 0) := by
  obtain ⟨h1, h2⟩ := h.lt
  rw [World.size_alloc] at hr
  have hk : ∀ y, y < w.heap.size + 1 → w1.heap[y]? = (w.alloc (.cells #[.pointer (some ⟨b, 0, none⟩)] t)).heap[y]? := fun y hy => hg.block y (by simpa using hy) (by simp)
  have hk0 : ∀ y, y < w.heap.size → w1.heap[y]? = w.heap[y]? := fun y hy => (hk y (by omega)).trans (Below.heap_alloc w _ y hy)
  refine ⟨hr, by simp, OwnInts.nil _ _, ⟨?_, (World.cell?_of_block (w := w) (hk0 b h1)).trans h.at_, h.map.keep (hk0 g h2)⟩, ((Below.refl _ w).alloc (Nat.le_refl _) _).grown hg (by simp) (by simp), Nat.le_refl _, by omega, h1, h2⟩
  exact (World.cell?_of_block (w := w.alloc (.cells #[.pointer (some ⟨b, 0, none⟩)] t)) (hk w.heap.size (by omega))).trans (by simp)
theorem KR.len (h : KR w wr bx b g r M left taken v) : taken.length + left.length = M.length := by have := h.prm.length_eq; simpa using this
end

def KeysPost (w : World) (E : List Ent) (e : Ending) (w' : World) : Prop := ∃ v, e = .returned v ∧ OwnInts w' w.heap.size v (E.map (·.1)) ∧ Below w.heap.size w w'
def KLoop (w : World) (bx b g r : Nat) (M : List Ent) (n : Nat) (v : Value) (wr : World) : Prop := ∃ left taken, left.length = n ∧ KR w wr bx b g r M left taken v

set_option maxHeartbeats 2000000 in
set_option maxRecDepth 100000 in
theorem keys_any (b gm : Nat) (E : List Ent) (w : World) (h : EntAt w b gm E) :
    Calls Tryz.prog 36 #[.pointer (some ⟨b, 0, none⟩)] w (KeysPost w E) := by
  obtain ⟨i0, hi, hz0, hz1, hz2⟩ := info_parts info_int
  have H := Lib.hid h
  obtain ⟨hlb, hlg⟩ := h.lt
  have hat := h.at_
  have HM0 : Hid (∀ o : Obj, MapAt (w.alloc o) gm E) := Lib.hid fun o => H.out.map.keep (Below.heap_alloc w o gm hlg)
  clear h
  go_enter Tryz.func36, Tryz.ntmps36
  go_wp2_with (at_range; refine wpList_range_map rfl (.tmp 8) rfl gm E rfl (HM0.out _) ?_; intro w1 hr1 hg1 hs1; have HKR := Lib.hid (KR.start H.out hr1 hg1); clear hr1 hg1 hs1; rw [World.size_alloc])
  go_frame
  go_loopg [3, 4] E.length (fun n v _ wr => KLoop w w.heap.size b gm (w.heap.size + 1) E n v wr)
  case atStart => exact ⟨E, [], rfl, HKR.out⟩
  case round =>
    clear HKR
    obtain ⟨left, taken, hlen, hkr⟩ := hrel
    have HK := Lib.hid hkr; have HL := Lib.hid hlen
    clear hkr hlen
    have hle := HK.out.len
    have h8 := H.out.n8
    obtain ⟨ta, tc, hv, _⟩ := HK.out.own.shape
    rw [List.length_map] at hv
    obtain ⟨m, hm⟩ : ∃ m, m = taken.length := ⟨_, rfl⟩
    rw [← hm] at hv
    have HM := Lib.hid hm; have HV := Lib.hid hv
    clear hm hv
    have hmv : OwnInts wr (w.heap.size + 1 + 1) (.slice ta m tc) (taken.map (·.1)) := by rw [← HV.out]; exact HK.out.own
    have HOWN := Lib.hid hmv
    clear hmv
    have hsz := HK.out.bel.size
    have hm8 : m ≤ 8 := by have := HM.out; omega
    have ht8 : (taken.map (·.1)).length ≤ 8 := by rw [List.length_map]; omega
    have HO1 : Hid (∀ (w1 : World) (o : Obj), wr.grownBy w1 (some (w.heap.size + 1)) → (w1.alloc o).ownsRow (w.heap.size + 1 + 1) 3 1 (.slice ta m tc) (taken.map (·.1)).length (ints (taken.map (·.1)))) := Lib.hid fun w1 o hg => by rw [← HV.out]; exact HK.out.own1 hg o
    clear hle
    rw [HV.out]
    have HLE : Hid (taken.length + left.length = E.length) := Lib.hid HK.out.len
    go_wp2_with (first
      | (at_next; refine wpList_next_map rfl (.tmp 9) rfl gm (w.heap.size + 1) E left rfl HK.out.rng (fun hl0 => ?_) (fun x left' w1 hp hr hg hs hen => ?_))
      | (at_builtin; refine wpList_append_own_at _ rfl (.tmp 14) (.tmp 16) 22 rfl (w.heap.size + 1 + 1) 3 i0 (.int .i64 0) 1 8 Tryz.underlying22 hi hz0 hz1 hz2 rfl (by decide) _ _ _ rfl (HO1.out _ _ hg) ⟨wr.heap.size, 0, none⟩ 1 1 [.int .i64 x.1] rfl rfl (by intro p u hp; match p, hp with | 0, hp => simp at hp; subst hp; rw [← hs]; simp [Addr.add]) (by intro u hu; simp at hu; subst hu; rfl) (by unfold maxLen; omega) (by omega) (by have := HK.out.rng.lt; have := hg.size; simp; omega) ?_; intro v' w4 hown' hgrow _ _; have HST := Lib.hid (HK.out.step hp hr hg (by unfold OwnInts; simpa [ints] using hown') (by rw [HV.out]; exact hgrow)); clear hown' hgrow; have HP := Lib.hid hp; clear hp))
    · have HL0 := Lib.hid hl0
      clear hl0
      have HPM : Hid (taken.Perm E) := Lib.hid (by have := HK.out.prm; rw [HL0.out, List.append_nil] at this; exact this)
      by_cases h0 : m = 0
      · have HE : Hid (E = []) := Lib.hid (List.length_eq_zero_iff.1 (by rw [← HPM.out.length_eq, ← HM.out]; exact h0))
        subst h0
        refine (sort_empty ta tc _ _).mono ?_
        rintro e' w3 ⟨rfl, rfl⟩
        go_wp2
        go_ret
        refine ⟨_, rfl, ?_, HK.out.bel⟩
        have h1 := HOWN.out
        rw [List.length_eq_zero_iff.1 HM.out.symm] at h1
        rw [HE.out]
        exact own_low h1 (by omega)
      · obtain ⟨g, cap, rest, hv, hg, hblk, hcap, hmax⟩ := own_front HOWN.out (by rw [List.length_map, ← HM.out]; omega)
        injection hv with e1 e2 e3
        subst e1 e3
        have HBLK := Lib.hid hblk; have HCAP := Lib.hid hcap
        have had : w.heap.size ≠ g ∧ b ≠ g ∧ gm ≠ g := ⟨by omega, by omega, by omega⟩
        clear e2 hblk hcap
        refine (sortFunc_any g m tc (turnOf E) w.heap.size b gm E (taken.map (·.1)) rest _ (by rw [List.length_map]; exact HM.out.symm) HBLK.out HK.out.cmp had rfl (fun x hx => (HPM.out.map (·.1)).mem_iff.1 hx) (by omega)).mono ?_
        rintro e' w3 ⟨rfl, xs, hp, hs, hb3, hk3⟩
        have HP := Lib.hid hp; have HS := Lib.hid hs; have HB3 := Lib.hid hb3; have HK3 := Lib.hid hk3; clear hp hs hb3 hk3
        go_wp2
        go_ret
        have hxl : xs.length = m := by rw [HP.out.length_eq, List.length_map]; exact HM.out.symm
        have hxs : xs = E.map (·.1) := sorted_keys H.out.map.nodup H.out.srt (HP.out.trans (HPM.out.map (·.1))) (by rw [hxl, show m = (taken.map (·.1)).length by rw [List.length_map]; exact HM.out]; exact HS.out)
        refine ⟨_, rfl, ?_, HK.out.bel.trans (HK3.out.below HK.out.bel.size (by simp; omega))⟩
        have hob := own_back (base := w.heap.size) (by omega) HB3.out (cap := tc) (by rw [← HCAP.out, List.length_append, List.length_append, ints_len, ints_len, HP.out.length_eq]) hmax
        rw [← hxs]
        rw [hxl] at hob
        exact hob
    · go_roundg left'.length
      case measure => have := HP.out.length_eq; simp at this; have := HL.out; omega
      case rel => exact ⟨left', taken ++ [x], rfl, HST.out⟩
end Go.Proofs.YticckfioggeaeaaGreatDoor

/-
  A Builder that lies in a store: copyCheck, WriteString, String, by their contracts.
-/
namespace Go.Proofs.YticckfioggeaeaaGreatDoor
open Go.RowKit

/-- Bytes that a builder owns: the head of their row may be frozen. -/
def OwnB (w : World) (v : Value) (l : List UInt8) : Prop := w.ownsRowF 0 5 1 v l.length (Lib.byteCells l)
theorem OwnB.nil (w : World) : OwnB w (.slice none 0 0) [] := World.ownsRowF_nil w 0 _ 1
theorem OwnB.lt {w : World} {v : Value} {l : List UInt8} (h : OwnB w v l) : ∀ x, v.ownBlock = some x → x < w.heap.size := fun x hx => (World.ownsRowF.lt h x hx).2
theorem OwnB.keep {w w' : World} {v : Value} {l : List UInt8} (h : OwnB w v l) (hk : ∀ g, v.ownBlock = some g → w'.heap[g]? = w.heap[g]?) : OwnB w' v l := by
  obtain ⟨hl, h2⟩ := h
  refine ⟨hl, ?_⟩
  rcases h2 with h2 | ⟨g, cap, cur, fz, e, hb, hh, r⟩
  · exact .inl h2
  · exact .inr ⟨g, cap, cur, fz, e, hb, (hk g (by rw [e]; rfl)).trans hh, r⟩
theorem OwnB.ne {w : World} {v : Value} {l : List UInt8} {g : Nat} {t : TypeId} {cs : List Value} (h : OwnB w v l) (hb : Blk w g t cs) (ht : t ≠ 5) : v.ownBlock ≠ some g := Lib.ownBlock_neF h hb ht
theorem OwnB.shape {w : World} {v : Value} {l : List UInt8} (h : OwnB w v l) : ∃ a c, v = .slice a l.length c := by
  rcases h.2 with ⟨hv, h0⟩ | ⟨g, cap, cur, fz, hv, _⟩
  · exact ⟨none, 0, by rw [hv, h0]⟩
  · exact ⟨_, _, hv⟩
theorem shape_app {w : World} {v : Value} {l : List UInt8} {s : ByteArray} (h : OwnB w v (l ++ s.data.toList)) : ∃ a c, v = .slice a (l.length + s.size) c := by
  obtain ⟨a, c, e⟩ := h.shape
  exact ⟨a, c, by rw [e, List.length_append, Lib.size_eq s]⟩
theorem strCells_bytes (s : ByteArray) : Lib.strCells s = Lib.byteCells s.data.toList := rfl
theorem byteCells_append (l r : List UInt8) : Lib.byteCells (l ++ r) = Lib.byteCells l ++ Lib.byteCells r := by simp [Lib.byteCells]
theorem info_byte : (Tryz.prog.info? 5).map (fun i => (i.zero, i.size, i.bytes)) = some (some (.int .u8 0), 1, 1) := by kernel_rfl

set_option maxRecDepth 100000 in
/-- append(buf, s...): what comes out, and where it lies. -/
theorem append_str (ty : TypeId) {w : World} {v : Value} {l : List UInt8} (h : OwnB w v l) (s : ByteArray) (hlen : l.length + s.size ≤ 140737488355328) :
    ∃ v' w', (Builtin.append_ #[41, 9] ty #[v, .string s]).run Tryz.prog w = .ok v' w' ∧ OwnB w' v' (l ++ s.data.toList) ∧ w.grownBy w' v.ownBlock ∧ (∀ x, v'.ownBlock = some x → v.ownBlock = some x ∨ w.heap.size ≤ x) := by
  obtain ⟨i0, hi, hz0, hz1, hz2⟩ := info_parts info_byte
  obtain ⟨v', w', hr, h2, h3, h4⟩ := Lib.run_append_own_stringF (P := Tryz.prog) w 0 41 9 ty 5 i0 Tryz.underlying41 Tryz.underlying9 hi hz0 hz1 hz2 v l.length _ h s (by unfold maxLen; omega) hlen (Nat.zero_le _)
  refine ⟨v', w', hr, ?_, h3, ?_⟩
  · unfold OwnB
    rw [byteCells_append, List.length_append, ← strCells_bytes, show s.data.toList.length = s.size from (Lib.size_eq s).symm]
    exact h2
  · intro x hx
    rcases h.2 with ⟨rfl, h0⟩ | ⟨g, cap, cur, fz, rfl, hbg, hg, hfz, hnc, hcm, hcs, htake⟩
    · right
      have hl : l = [] := List.length_eq_zero_iff.1 h0
      subst hl
      obtain ⟨v2, w2, hr2, k2, _⟩ := Lib.run_append_own_stringF (P := Tryz.prog) w w.heap.size 41 9 ty 5 i0 Tryz.underlying41 Tryz.underlying9 hi hz0 hz1 hz2 (.slice none 0 0) 0 [] (World.ownsRowF_nil _ _ _ _) s (by unfold maxLen; simp at hlen; omega) (by simpa using hlen) (Nat.le_refl _)
      rw [hr] at hr2
      injection hr2 with e1 _
      subst e1
      exact (World.ownsRowF.lt k2 x hx).1
    · by_cases hroom : l.length + s.size ≤ cap
      · left
        have hr2 := Lib.run_append_room_stringF (P := Tryz.prog) w 41 9 ty 5 i0 Tryz.underlying41 Tryz.underlying9 hi hz1 g l.length cap cur fz hg (by simpa using hfz) s hroom (by simp at hcs; omega)
        rw [hr] at hr2
        injection hr2 with e1 _
        subst e1
        exact hx
      · right
        have hr2 := Lib.run_append_grow_string (P := Tryz.prog) w 41 9 ty 5 i0 (.int .u8 0) Tryz.underlying41 Tryz.underlying9 hi hz0 ⟨g, 0, none⟩ l.length cap (Lib.byteCells l) (by rw [hz1]; simp [Lib.byteCells]) (World.ownsRowF.cells h (g := g) rfl) s (by omega) (by omega) (by rw [hz2]; exact growslice_fits (by omega) (by omega))
        rw [hr] at hr2
        injection hr2 with e1 _
        subst e1
        simp only [Value.ownBlock, Option.some.injEq] at hx
        omega
section
variable {w : World} {ops : Array Oper} {rest : List Oper} {o : Oper} {a : Act} {Q : Exit → Act → World → Prop}
theorem wpList_append_str (hg : o.guard = none) (sl x : Operand) (hop : o.op = Op.call { callee := Callee.builtin Builtin.append, args := #[sl, x], argTypes := #[41, 9] }) (v : Value) (l : List UInt8) (hs : a.eval sl = v) (hown : OwnB w v l) (s : ByteArray) (hx : a.eval x = .string s) (hlen : l.length + s.size ≤ 140737488355328)
    (hK : ∀ v' w', OwnB w' v' (l ++ s.data.toList) → w.grownBy w' v.ownBlock → (∀ x, v'.ownBlock = some x → v.ownBlock = some x ∨ w.heap.size ≤ x) → wpList Tryz.prog ops Q rest (a.put o.dst v') w') :
    wpList Tryz.prog ops Q (o :: rest) a w := by
  refine wpList_plain hg fun K' hK' => ?_
  obtain ⟨v', w', hrun, r1, r2, r3⟩ := append_str o.type hown s hlen
  unfold Oper.wp
  simp [execOp, hop, resolve, invoke, builtin, hs, hx, hrun, Result.andThen]
  exact hK' _ _ (hK v' w' r1 r2 r3)
end

/-! ### copyCheck -/
theorem size_builder : (Tryz.prog.info? 70).map (·.size) = some 2 := by kernel_rfl
theorem lies_builder : liesAt Tryz.prog Tryz.prog.depth 72 (6 / Tryz.prog.cellsOf 72) 3 70 1 = true := by kernel_rfl
set_option maxHeartbeats 1000000 in
set_option maxRecDepth 100000 in
theorem copyCheck_used (b : Nat) (w : World) (h0 : w.cell? ⟨b, 3, none⟩ = some (.pointer (some ⟨b, 3, none⟩))) :
    Calls Tryz.prog 67 #[.pointer (some ⟨b, 3, none⟩)] w fun e w' => e = .returned (.tuple #[]) ∧ w = w' := by
  obtain ⟨j, hj, _⟩ := Option.map_eq_some_iff.1 size_builder
  go_enter Tryz.func67, Tryz.ntmps67
  go_wp2
  rw [Lib.run_neq_ptr_same w _ Tryz.underlying68 hj]
  go_wp2
  go_end0
  exact ⟨rfl, rfl⟩
set_option maxHeartbeats 1000000 in
set_option maxRecDepth 100000 in
theorem copyCheck_fresh (b : Nat) (w : World) (h0 : w.cell? ⟨b, 3, none⟩ = some (.pointer none)) (hsh : w.shape? b = some (72, 6)) (hfz : w.frozen? ⟨b, 3, none⟩ = false) :
    Calls Tryz.prog 67 #[.pointer (some ⟨b, 3, none⟩)] w fun e w' => e = .returned (.tuple #[]) ∧ w' = w.setCell ⟨b, 3, none⟩ (.pointer (some ⟨b, 3, none⟩)) := by
  obtain ⟨j, hj, hjs⟩ := Option.map_eq_some_iff.1 size_builder
  go_enter Tryz.func67, Tryz.ntmps67
  go_wp2
  rw [Lib.run_to_unsafe w ⟨b, 3, none⟩ Tryz.underlying68 Tryz.underlying122 hj (by rw [hjs]; decide) hsh (by show 3 < 6; decide)]
  simp only [Result.andThen]
  rw [Oper.upon_value]
  go_wp2
  rw [run_callFunc_extern Tryz.func95 (by kernel_rfl) (by kernel_rfl) (by kernel_rfl) (e := Extern.AbiNoEscape.same) (by kernel_rfl)]
  rw [Lib.run_noEscape]
  simp only [Result.andThen]
  rw [Oper.upon_value]
  go_wp2
  rw [Lib.run_from_unsafe w ⟨b, 3, none⟩ Tryz.underlying122 Tryz.underlying68 hj hsh lies_builder]
  simp only [Result.andThen]
  rw [Oper.upon_value]
  go_wp2
  go_end0
  exact ⟨rfl, rfl⟩

/-- A store's block. -/
abbrev stCells (slots : Int) (gm : Nat) (turn : Int) (p bv : Value) (many : Int) : List Value := [.int .i64 slots, .map (some gm), .int .i64 turn, p, bv, .int .i64 many]
def CheckPost (w : World) (b gm : Nat) (slots turn : Int) (bv : Value) (many : Int) (e : Ending) (w' : World) : Prop :=
  e = .returned (.tuple #[]) ∧ Blk w' b 72 (stCells slots gm turn (.pointer (some ⟨b, 3, none⟩)) bv many) ∧ Keep [b] w w'
theorem copyCheck_any (b gm : Nat) (slots turn : Int) (p bv : Value) (many : Int) (w : World) (h : Blk w b 72 (stCells slots gm turn p bv many)) (hp : p = .pointer none ∨ p = .pointer (some ⟨b, 3, none⟩)) :
    Calls Tryz.prog 67 #[.pointer (some ⟨b, 3, none⟩)] w (CheckPost w b gm slots turn bv many) := by
  rcases hp with rfl | rfl
  · have hsh : w.shape? b = some (72, 6) := by unfold Blk at h; simp [World.shape?, h]
    refine (copyCheck_fresh b w (h.cell_ (i := 3) rfl) hsh (h.free 3)).mono ?_
    rintro e w' ⟨rfl, rfl⟩
    exact ⟨rfl, h.set 3 _, (Keep.refl _ w).set (fun _ => by simp) _⟩
  · refine (copyCheck_used b w (h.cell_ (i := 3) rfl)).mono ?_
    rintro e w' ⟨rfl, rfl⟩
    exact ⟨rfl, h, Keep.refl _ _⟩

/-! ### WriteString -/
def WritePost (w : World) (b gm : Nat) (slots turn : Int) (bv : Value) (many : Int) (l : List UInt8) (s : ByteArray) (e : Ending) (w' : World) : Prop :=
  ∃ bv', e = .returned (.tuple #[.int .i64 s.size, .nilIface]) ∧ Blk w' b 72 (stCells slots gm turn (.pointer (some ⟨b, 3, none⟩)) bv' many) ∧ OwnB w' bv' (l ++ s.data.toList) ∧ Keep (b :: bv.ownBlock.toList) w w' ∧ (∀ x, bv'.ownBlock = some x → bv.ownBlock = some x ∨ w.heap.size ≤ x)
set_option maxHeartbeats 1000000 in
set_option maxRecDepth 100000 in
theorem writeString_any (b gm : Nat) (slots turn : Int) (p bv : Value) (many : Int) (l : List UInt8) (s : ByteArray) (w : World) (h : Blk w b 72 (stCells slots gm turn p bv many)) (hp : p = .pointer none ∨ p = .pointer (some ⟨b, 3, none⟩)) (ho : OwnB w bv l) (hlen : l.length + s.size ≤ 140737488355328) :
    Calls Tryz.prog 39 #[.pointer (some ⟨b, 3, none⟩), .string s] w (WritePost w b gm slots turn bv many l s) := by
  have H := Lib.hid h; have HO := Lib.hid ho; have HP := Lib.hid hp
  clear h ho hp
  go_enter Tryz.func39, Tryz.ntmps39
  go_wp2_with fail
  refine (copyCheck_any b gm slots turn p bv many _ H.out HP.out).mono ?_
  rintro e w1 ⟨rfl, hb1, hk1⟩
  have c4 := hb1.cell_ (i := 4) rfl
  have HB1 := Lib.hid hb1; have HK1 := Lib.hid hk1
  have ho1 := HO.out.keep (w' := w1) (fun g hg => hk1.block g (HO.out.lt g hg) (by simp; rintro rfl; exact HO.out.ne H.out (by decide) hg))
  have HO1 := Lib.hid ho1
  clear hb1 hk1 ho1
  go_wp2_with (at_builtin; refine wpList_append_str rfl (.tmp 12) (.tmp 13) rfl bv l rfl HO1.out s rfl hlen ?_; intro bv' w2 hown2 hgrow2 hlies; have hb2 : Blk w2 b 72 (stCells slots gm turn (.pointer (some ⟨b, 3, none⟩)) bv many) := HB1.out.grown hgrow2 (fun e => HO1.out.ne HB1.out (by decide) e.symm); have f4 := hb2.free 4; have d4 := hb2.cell_ (i := 4) rfl; have HB2 := Lib.hid hb2; have HO2 := Lib.hid hown2; have HG2 := Lib.hid hgrow2; have HL2 := Lib.hid hlies; clear hb2 hown2 hgrow2 hlies; (obtain ⟨a', c', hv'⟩ := shape_app HO2.out); have HV' := Lib.hid hv'; rw [hv']; clear hv')
  go_ret2
  refine ⟨bv', rfl, ?_, ?_, ?_, ?_⟩
  · rw [HV'.out]
    exact HB2.out.set 4 _
  · rw [← HV'.out]
    refine HO2.out.keep fun g hg => ?_
    refine Below.heap_setCell _ _ _ g ?_
    rintro rfl
    exact HO2.out.ne HB2.out (by decide) hg
  · have h1 : Keep (b :: bv.ownBlock.toList) w w2 := ((HK1.out.mono (by simp)).grown HG2.out (fun k hk _ => by rw [hk]; simp))
    exact h1.set (fun _ => by simp) _
  · intro x hx
    rcases HL2.out x hx with h | h
    · exact .inl h
    · exact .inr (Nat.le_trans HK1.out.size h)

/-! ### String -/
theorem freeze_other (w : World) (g n k : Nat) (hk : k ≠ g) : (w.freeze ⟨g, 0, none⟩ n).heap[k]? = w.heap[k]? := by
  unfold World.freeze
  split
  · rfl
  · simp only [Array.getElem?_modify]
    rw [if_neg (fun e => hk e.symm)]
theorem freeze_keep (w : World) (g n : Nat) : Keep [g] w (w.freeze ⟨g, 0, none⟩ n) := by
  refine ⟨?_, ?_, ?_, ?_, fun k _ hk => freeze_other w g n k (by simpa using hk)⟩
  all_goals (unfold World.freeze; split <;> simp)
theorem OwnB.froze {w : World} {g cap : Nat} {l : List UInt8} (h : OwnB w (.slice (some ⟨g, 0, none⟩) l.length cap) l) : OwnB (w.freeze ⟨g, 0, none⟩ l.length) (.slice (some ⟨g, 0, none⟩) l.length cap) l := by
  unfold World.freeze
  split
  · exact h
  · obtain ⟨hl, h2⟩ := h
    refine ⟨hl, ?_⟩
    rcases h2 with ⟨hv, _⟩ | ⟨g', cap', cur, fz, hv, hb, hh, hfz, r⟩
    · cases hv
    · injection hv with ha _ hcap
      injection ha with ha
      injection ha with hgg _ _
      subst hgg
      subst hcap
      obtain ⟨lo, hi⟩ := fz
      refine .inr ⟨g, _, cur, (if lo == hi then (0, 0 + l.length) else (min lo 0, max hi (0 + l.length))), rfl, hb, ?_, ?_, r⟩
      · simp [Array.getElem?_modify, hh]
      · simp only at hfz
        split <;> simp <;> omega
theorem cells_byte : Tryz.prog.cellsOf 5 = 1 := by kernel_rfl
def StringPost (w : World) (b gm : Nat) (slots turn : Int) (p bv : Value) (many : Int) (l : List UInt8) (e : Ending) (w' : World) : Prop :=
  e = .returned (.string ⟨l.toArray⟩) ∧ Blk w' b 72 (stCells slots gm turn p bv many) ∧ OwnB w' bv l ∧ Keep bv.ownBlock.toList w w'
set_option maxHeartbeats 2000000 in
set_option maxRecDepth 100000 in
theorem string_some (b gm : Nat) (slots turn : Int) (p bv : Value) (many : Int) (l : List UInt8) (w : World) (h : Blk w b 72 (stCells slots gm turn p bv many)) (ho : OwnB w bv l) (h0 : l ≠ []) :
    Calls Tryz.prog 35 #[.pointer (some ⟨b, 3, none⟩)] w (StringPost w b gm slots turn p bv many l) := by
  have hl0 : l.length ≠ 0 := by simpa using h0
  have HO := Lib.hid ho; have H := Lib.hid h
  obtain ⟨g, cap, cur, fz, hv, hg, hfz, hnc, hcm, hcs⟩ : ∃ g cap cur fz, bv = .slice (some ⟨g, 0, none⟩) l.length cap ∧ w.heap[g]? = some (.cells cur 5 fz) ∧ fz.2 ≤ l.length * 1 ∧ l.length ≤ cap ∧ cap ≤ maxLen ∧ cur.size = cap * 1 := by
    rcases ho.2 with ⟨_, hz⟩ | ⟨g, cap, cur, fz, hv, _, hg, r1, r2, r3, r4, _⟩
    · exact absurd hz hl0
    · exact ⟨g, cap, cur, fz, hv, hg, r1, r2, r3, r4⟩
  subst hv
  have c1 := h.cell_ (i := 4) rfl
  have hne := ho.ne h (by decide)
  simp only [Value.ownBlock, ne_eq, Option.some.injEq] at hne
  have hSD : (Builtin.unsafeSliceData_ #[41] 103 #[.slice (some ⟨g, 0, none⟩) l.length cap]).run Tryz.prog w.drew = .ok (.pointer (some ⟨g, 0, none⟩)) w.drew :=
    Lib.run_unsafeSliceData_row _ _ _ _ _ _ (by omega)
  have hUS : (Builtin.unsafeString_ #[103, 3] 9 #[.pointer (some ⟨g, 0, none⟩), .int .i64 l.length]).run Tryz.prog w.drew = .ok (.string ⟨l.toArray⟩) (w.drew.freeze ⟨g, 0, none⟩ l.length) := by
    refine Lib.run_unsafeString_row w.drew 103 3 9 5 Tryz.underlying103 cells_byte g cur.size (by have hg' : w.drew.heap[g]? = some (.cells cur 5 fz) := hg; simp [World.shape?, hg']) l h0 (by omega) (by unfold maxLen at hcm; omega) ?_
    intro j x hx
    exact World.ownsRowF.cells ho (g := g) rfl j (.int .u8 x.toNat) (by simp [Lib.byteCells, hx])
  have HW : Hid (Blk (w.drew.freeze ⟨g, 0, none⟩ l.length) b 72 (stCells slots gm turn p (.slice (some ⟨g, 0, none⟩) l.length cap) many)) := Lib.hid (h.drew.keep (freeze_keep _ g _) (by simpa using Ne.symm hne))
  have HF : Hid (OwnB (w.drew.freeze ⟨g, 0, none⟩ l.length) (.slice (some ⟨g, 0, none⟩) l.length cap) l) := Lib.hid (OwnB.froze (w := w.drew) ho)
  have HK : Hid (Keep [g] w (w.drew.freeze ⟨g, 0, none⟩ l.length)) := Lib.hid ((Keep.refl _ w).drew.trans (freeze_keep _ g _))
  clear h ho hg hfz hnc hcm hcs hne h0
  obtain ⟨n, hn⟩ : ∃ n, n = l.length := ⟨_, rfl⟩
  have HN := Lib.hid hn
  go_enter Tryz.func35, Tryz.ntmps35
  go_wp2
  go_region
  all_goals (go_wp2; go_ret; exact ⟨rfl, HW.out, HF.out, HK.out⟩)
set_option maxHeartbeats 2000000 in
set_option maxRecDepth 100000 in
theorem string_none (b gm : Nat) (slots turn : Int) (p : Value) (many : Int) (w : World) (h : Blk w b 72 (stCells slots gm turn p (.slice none 0 0) many)) :
    Calls Tryz.prog 35 #[.pointer (some ⟨b, 3, none⟩)] w (StringPost w b gm slots turn p (.slice none 0 0) many []) := by
  have H := Lib.hid h
  have c1 := h.cell_ (i := 4) rfl
  have hSD : (Builtin.unsafeSliceData_ #[41] 103 #[.slice none 0 0]).run Tryz.prog w.drew = .ok (.pointer none) w.drew := rfl
  have hUS := fun (W : World) (q : Option Addr) => Lib.run_unsafeString_none (P := Tryz.prog) W 103 3 9 q
  clear h
  go_enter Tryz.func35, Tryz.ntmps35
  go_wp2
  go_region
  all_goals (go_wp2; go_ret; exact ⟨rfl, H.out.drew, OwnB.nil _, (Keep.refl _ w).drew⟩)
theorem string_any (b gm : Nat) (slots turn : Int) (p bv : Value) (many : Int) (l : List UInt8) (w : World) (h : Blk w b 72 (stCells slots gm turn p bv many)) (ho : OwnB w bv l) (h0 : l = [] → bv = .slice none 0 0) :
    Calls Tryz.prog 35 #[.pointer (some ⟨b, 3, none⟩)] w (StringPost w b gm slots turn p bv many l) := by
  by_cases e : l = []
  · obtain rfl := h0 e
    subst e
    exact string_none b gm slots turn p many w h
  · exact string_some b gm slots turn p bv many l w h ho e
end Go.Proofs.YticckfioggeaeaaGreatDoor

/-
  Decimal numbers as bytes, plain.
-/
namespace Go.Proofs.YticckfioggeaeaaGreatDoor

/-- What digits spell. -/
def stepD (acc : Nat) (c : UInt8) : Nat := acc * 10 + (c.toNat - 48)
def valD (acc : Nat) (l : List UInt8) : Nat := l.foldl stepD acc
theorem valD_nil (acc : Nat) : valD acc [] = acc := rfl
theorem valD_cons' (acc : Nat) (c : UInt8) (l : List UInt8) : valD acc (c :: l) = valD (stepD acc c) l := by simp only [valD, List.foldl_cons]
def digs (l : List UInt8) : Prop := ∀ c ∈ l, 48 ≤ c.toNat ∧ c.toNat ≤ 57
theorem dig_toNat (d : Nat) (h : d < 10) : (UInt8.ofNat (48 + d)).toNat = 48 + d := by
  rw [UInt8.toNat_ofNat']; omega
theorem dec_small {u : Nat} (h : u < 10) : Lib.decDigits u = [UInt8.ofNat (48 + u)] := by rw [Lib.decDigits, dif_pos h]
theorem dec_big {u : Nat} (h : ¬ u < 10) : Lib.decDigits u = Lib.decDigits (u / 10) ++ [UInt8.ofNat (48 + u % 10)] := by rw [Lib.decDigits, dif_neg h]
theorem dec_dig (u : Nat) : digs (Lib.decDigits u) := by
  induction u using Nat.strongRecOn with
  | _ u ih =>
    intro c hc
    by_cases h : u < 10
    · rw [dec_small h, List.mem_singleton] at hc
      rw [hc, dig_toNat u h]; omega
    · rw [dec_big h, List.mem_append, List.mem_singleton] at hc
      rcases hc with hc | hc
      · exact ih (u / 10) (by omega) c hc
      · rw [hc, dig_toNat _ (by omega)]; omega
theorem dec_len (u : Nat) : (Lib.decDigits u).length = Lib.nDigits u := Lib.decDigits_length u
theorem dec_pos (u : Nat) : 1 ≤ (Lib.decDigits u).length := by rw [dec_len]; exact Lib.nDigits_pos u
theorem dec_ne (u : Nat) : Lib.decDigits u ≠ [] := fun h => by have := dec_pos u; rw [h] at this; simp at this
theorem valD_cons (acc : Nat) (c : UInt8) (l : List UInt8) : valD acc (c :: l) = valD (acc * 10 + (c.toNat - 48)) l := valD_cons' acc c l
theorem valD_one (acc : Nat) (c : UInt8) : valD acc [c] = acc * 10 + (c.toNat - 48) := by rw [valD_cons, valD_nil]
theorem valD_append (l r : List UInt8) (acc : Nat) : valD acc (l ++ r) = valD (valD acc l) r := by simp only [valD, List.foldl_append]
theorem valD_dec (u : Nat) : valD 0 (Lib.decDigits u) = u := by
  induction u using Nat.strongRecOn with
  | _ u ih =>
    by_cases h : u < 10
    · rw [dec_small h]
      rw [valD_one, dig_toNat u h]; omega
    · rw [dec_big h, valD_append, ih (u / 10) (by omega), valD_one, dig_toNat _ (show u % 10 < 10 by omega)]; omega
theorem dec_inj {u v : Nat} (h : Lib.decDigits u = Lib.decDigits v) : u = v := by rw [← valD_dec u, h, valD_dec]
theorem nDig_le {u k : Nat} (hk : 1 ≤ k) (h : u < 10 ^ k) : Lib.nDigits u ≤ k := by
  induction k generalizing u with
  | zero => omega
  | succ k ih =>
    by_cases h2 : u < 10
    · rw [Lib.nDigits_small h2]; omega
    · rw [Lib.nDigits_big h2]
      by_cases hk0 : k = 0
      · subst hk0; omega
      · have := ih (u := u / 10) (by omega) (by rw [Nat.pow_succ] at h; omega)
        omega
theorem dec_len_le {u k : Nat} (hk : 1 ≤ k) (h : u < 10 ^ k) : (Lib.decDigits u).length ≤ k := by rw [dec_len]; exact nDig_le hk h
theorem dec_len_gt {u k : Nat} (h : 10 ^ k ≤ u) : k + 1 ≤ (Lib.decDigits u).length := by
  rw [dec_len]
  have h1 := Lib.lt_pow_nDigits u
  rcases Nat.lt_or_ge k (Lib.nDigits u) with h2 | h2
  · exact h2
  · have := Nat.pow_le_pow_right (show 1 ≤ 10 by decide) h2; omega
theorem valD_mono : ∀ (l : List UInt8) (acc : Nat), acc ≤ valD acc l
  | [], _ => Nat.le_refl _
  | c :: l, acc => by
    have := valD_mono l (acc * 10 + (c.toNat - 48))
    rw [valD_cons]
    omega
theorem valD_lt : ∀ (l : List UInt8) (acc : Nat), digs l → valD acc l < (acc + 1) * 10 ^ l.length
  | [], acc, _ => by rw [valD_nil]; simp
  | c :: l, acc, h => by
    have h1 := h c (by simp)
    rw [valD_cons]
    obtain ⟨d, hd⟩ : ∃ d, d = c.toNat - 48 := ⟨_, rfl⟩
    rw [← hd]
    have h2 := valD_lt l (acc * 10 + d) (fun x hx => h x (by simp [hx]))
    have h4 : acc * 10 + d + 1 ≤ (acc + 1) * 10 := by omega
    have h3 := Nat.mul_le_mul_right (10 ^ l.length) h4
    rw [List.length_cons, Nat.pow_succ, Nat.mul_comm (10 ^ l.length) 10, ← Nat.mul_assoc]
    exact Nat.lt_of_lt_of_le h2 h3

/-- The number that a text is, if it is one, of 0 or more. -/
def numberM (l : List UInt8) : Option Int := if Lib.decDigits (valD 0 l) = l ∧ valD 0 l < 9223372036854775808 then some (valD 0 l : Nat) else none
theorem numberM_dec {u : Nat} (h : u < 9223372036854775808) : numberM (Lib.decDigits u) = some (u : Int) := by
  unfold numberM
  rw [valD_dec, if_pos ⟨rfl, h⟩]
theorem numberM_some {l : List UInt8} {n : Int} (h : numberM l = some n) : ∃ u : Nat, n = u ∧ u < 9223372036854775808 ∧ l = Lib.decDigits u := by
  unfold numberM at h
  split at h
  · rename_i hc
    injection h with h
    exact ⟨_, h.symm, hc.2, hc.1.symm⟩
  · cases h

/-! ### strconv.Atoi -/
theorem parse_digs : ∀ (l : List UInt8) (acc : Nat), digs l → valD acc l < 18446744073709551616 → Lib.parseUint10 acc l = .ok (valD acc l)
  | [], _, _, _ => rfl
  | c :: l, acc, h, hv => by
    have h1 := h c (by simp)
    have h2 := valD_mono l (acc * 10 + (c.toNat - 48))
    rw [valD_cons] at hv ⊢
    rw [Lib.parseUint10, if_pos h1, if_neg (by omega), if_neg (by omega)]
    exact parse_digs l _ (fun x hx => h x (by simp [hx])) hv
theorem atoi_digs {l : List UInt8} (hl : l ≠ []) (h : digs l) (hv : valD 0 l < 9223372036854775808) : Lib.atoiAll l = .ok (valD 0 l : Nat) := by
  cases l with
  | nil => exact absurd rfl hl
  | cons c r =>
    have h1 := h c (by simp)
    have h2 : Lib.parseMag (c :: r) = .ok (valD 0 (c :: r)) := by
      unfold Lib.parseMag
      rw [if_neg (by simp)]
      exact parse_digs _ _ h (by omega)
    unfold Lib.atoiAll
    simp only [if_neg (show ¬ (c.toNat = 43 ∨ c.toNat = 45) by omega), h2]
    rw [if_neg (by omega), if_neg (by omega), if_neg (by omega)]
theorem atoi_dec {u : Nat} (h : u < 9223372036854775808) : Lib.atoiAll (Lib.decDigits u) = .ok (u : Int) := by
  have := atoi_digs (dec_ne u) (dec_dig u) (by rw [valD_dec]; exact h)
  rw [valD_dec] at this
  exact this
theorem itoa_nat (u : Nat) : Lib.itoa (u : Int) = Lib.decDigits u := Lib.itoa_nonneg u
theorem numberM_atoi {l : List UInt8} {v : Int} (h : Lib.atoiAll l = .ok v) : numberM l = if 0 ≤ v ∧ Lib.itoa v = l then some v else none := by
  by_cases hc : 0 ≤ v ∧ Lib.itoa v = l
  · rw [if_pos hc]
    obtain ⟨h0, h1⟩ := hc
    obtain ⟨u, rfl⟩ := Int.eq_ofNat_of_zero_le h0
    have h63 : u < 9223372036854775808 := by
      unfold Lib.atoiAll at h
      split at h
      · cases h
      · simp only at h
        split at h
        · cases h
        · cases h
        · split at h
          · cases h
          · split at h
            · cases h
            · injection h with h
              split at h <;> omega
    rw [← h1, itoa_nat, numberM_dec h63]
  · rw [if_neg hc]
    cases hn : numberM l with
    | none => rfl
    | some n =>
      obtain ⟨u, rfl, h63, rfl⟩ := numberM_some hn
      rw [atoi_dec h63] at h
      injection h with h
      subst h
      exact absurd ⟨by omega, itoa_nat u⟩ hc
theorem numberM_atoi_no {l : List UInt8} (h : ∀ v, Lib.atoiAll l ≠ .ok v) : numberM l = none := by
  cases hn : numberM l with
  | none => rfl
  | some n =>
    obtain ⟨u, rfl, h63, rfl⟩ := numberM_some hn
    exact absurd (atoi_dec h63) (h _)
/-- A number of so many digits. -/
theorem numberM_len {l : List UInt8} {n : Int} (h : numberM l = some n) : 1 ≤ l.length ∧ l.length ≤ 19 := by
  obtain ⟨u, rfl, h63, rfl⟩ := numberM_some h
  exact ⟨dec_pos u, dec_len_le (by decide) (by omega)⟩
theorem numberM_digs {l : List UInt8} {n : Int} (h : numberM l = some n) : digs l ∧ n = (valD 0 l : Nat) := by
  obtain ⟨u, rfl, h63, rfl⟩ := numberM_some h
  exact ⟨dec_dig u, by rw [valD_dec]⟩
end Go.Proofs.YticckfioggeaeaaGreatDoor

/-
  A store that puts down what is put into it: plain.
-/
namespace Go.Proofs.YticckfioggeaeaaGreatDoor

/-! ### A line -/
def wsum (i : Nat) : List UInt8 → Nat
  | [] => 0
  | c :: r => (i + 1) * c.toNat + wsum (i + 1) r
def sumB (l : List UInt8) : Nat := wsum 0 l % 9973
def lineOf (word : List UInt8) : List UInt8 := word ++ (32 :: (Lib.itoa (sumB word) ++ [10]))
def wordP (k v : Int) : List UInt8 := 112 :: 32 :: (Lib.itoa k ++ (32 :: Lib.itoa v))
def wordG (k : Int) : List UInt8 := 103 :: 32 :: Lib.itoa k
theorem wsum_append : ∀ (l r : List UInt8) (i : Nat), wsum i (l ++ r) = wsum i l + wsum (i + l.length) r
  | [], r, i => by simp [wsum]
  | c :: l, r, i => by
    rw [List.cons_append, wsum, wsum, wsum_append l r (i + 1), List.length_cons, show i + (l.length + 1) = i + 1 + l.length by omega]
    omega
theorem wsum_le (b : Nat) : ∀ (l : List UInt8) (i : Nat), (∀ c ∈ l, c.toNat ≤ b) → wsum i l ≤ (i + l.length) * l.length * b
  | [], i, _ => by simp [wsum]
  | c :: l, i, h => by
    have h1 := h c (by simp)
    have h2 := wsum_le b l (i + 1) (fun x hx => h x (by simp [hx]))
    rw [wsum, List.length_cons]
    have h3 : (i + 1) * c.toNat ≤ (i + 1) * b := Nat.mul_le_mul_left _ h1
    have h4 : (i + 1) * b ≤ (i + 1 + l.length) * b := Nat.mul_le_mul_right _ (by omega)
    have h5 : (i + (l.length + 1)) * (l.length + 1) * b = (i + 1 + l.length) * l.length * b + (i + 1 + l.length) * b := by
      rw [show i + (l.length + 1) = i + 1 + l.length by omega, Nat.mul_succ, Nat.add_mul]
    omega

/-! ### The store -/
structure Bk where
  M : List (Int × Int)
  text : List UInt8
  many : Nat
def bk0 : Bk := ⟨[], [], 0⟩
def Bk.keys (s : Bk) : List Int := s.M.map (·.1)
def okPut (k v : Int) : Prop := (0 ≤ k ∧ k ≤ 1000000) ∧ 0 ≤ v ∧ v ≤ 1000
instance (k v : Int) : Decidable (okPut k v) := by unfold okPut; infer_instance
/-- Is there no room for a key? -/
def fullFor (slots : Nat) (s : Bk) (k : Int) : Prop := k ∉ s.keys ∧ s.M.length = slots
instance (slots : Nat) (s : Bk) (k : Int) : Decidable (fullFor slots s k) := by unfold fullFor; infer_instance
def outM (slots : Nat) (s : Bk) (k : Int) : List (Int × Int) := if fullFor slots s k then s.M.dropLast else s.M
def letGo (slots : Nat) (s : Bk) (k : Int) : Int := if fullFor slots s k then (s.keys.getLast?).getD 0 else -1
def putB (slots : Nat) (s : Bk) (k v : Int) : Bk := ⟨(k, v) :: (outM slots s k).filter (fun p => p.1 != k), s.text ++ lineOf (wordP k v), s.many + 1⟩
def putE (s : Bk) (k v : Int) : Int := if ¬ okPut k v then 1 else if s.many = 60 then 4 else 0
def putS (slots : Nat) (s : Bk) (k v : Int) : Bk := if putE s k v = 0 then putB slots s k v else s
def putV (slots : Nat) (s : Bk) (k v : Int) : Int := if putE s k v = 0 then letGo slots s k else 0
def valOf (s : Bk) (k : Int) : Int := ((s.M.find? (fun p => p.1 == k)).map (·.2)).getD 0
def getB (s : Bk) (k : Int) : Bk := ⟨(k, valOf s k) :: s.M.filter (fun p => p.1 != k), s.text ++ lineOf (wordG k), s.many + 1⟩
def getE (s : Bk) (k : Int) : Int := if k ∉ s.keys then 5 else if s.many = 60 then 4 else 0
def getS (s : Bk) (k : Int) : Bk := if getE s k = 0 then getB s k else s
def getV (s : Bk) (k : Int) : Int := if getE s k = 0 then valOf s k else 0

structure BkOk (slots : Nat) (s : Bk) : Prop where
  nod : s.keys.Nodup
  len : s.M.length ≤ slots
  many : s.many ≤ 60
  rng : ∀ p ∈ s.M, okPut p.1 p.2
  text : s.text.length ≤ 20 * s.many
theorem bk0_ok (slots : Nat) : BkOk slots bk0 := ⟨by simp [bk0, Bk.keys], by simp [bk0], by simp [bk0], by simp [bk0], by simp [bk0]⟩
theorem itoa_len {n : Int} {k : Nat} (h0 : 0 ≤ n) (hk : 1 ≤ k) (h : n < (10 ^ k : Nat)) : (Lib.itoa n).length ≤ k := by
  obtain ⟨u, rfl⟩ := Int.eq_ofNat_of_zero_le h0
  rw [itoa_nat]
  exact dec_len_le hk (by omega)
theorem itoa_dig {n : Int} (h0 : 0 ≤ n) : digs (Lib.itoa n) := by
  obtain ⟨u, rfl⟩ := Int.eq_ofNat_of_zero_le h0
  rw [itoa_nat]
  exact dec_dig u
theorem sumB_lt (l : List UInt8) : sumB l < 9973 := Nat.mod_lt _ (by decide)
theorem lineOf_len (l : List UInt8) : (lineOf l).length ≤ l.length + 6 := by
  have := itoa_len (n := (sumB l : Nat)) (k := 4) (by omega) (by decide) (by have := sumB_lt l; omega)
  unfold lineOf
  simp only [List.length_append, List.length_cons, List.length_nil]
  omega
theorem wordP_len {k v : Int} (h : okPut k v) : (wordP k v).length ≤ 14 := by
  have h1 := itoa_len (n := k) (k := 7) h.1.1 (by decide) (by have := h.1.2; omega)
  have h2 := itoa_len (n := v) (k := 4) h.2.1 (by decide) (by have := h.2.2; omega)
  unfold wordP
  simp only [List.length_append, List.length_cons]
  omega
theorem wordG_len {k : Int} (h : 0 ≤ k ∧ k ≤ 1000000) : (wordG k).length ≤ 14 := by
  have h1 := itoa_len (n := k) (k := 7) h.1 (by decide) (by have := h.2; omega)
  unfold wordG
  simp only [List.length_cons]
  omega
theorem filter_keys (M : List (Int × Int)) (k : Int) : (M.filter fun p => p.1 != k).map (·.1) = (M.map (·.1)).filter (fun x => x != k) := by
  rw [List.filter_map]; rfl
theorem filter_nodup {M : List (Int × Int)} {k : Int} (h : (M.map (·.1)).Nodup) (v : Int) : (((k, v) :: M.filter fun p => p.1 != k).map (·.1)).Nodup := by
  rw [List.map_cons, filter_keys, List.nodup_cons]
  exact ⟨by simp, h.filter _⟩
theorem filter_len {M : List (Int × Int)} {k : Int} (hm : k ∈ M.map (·.1)) : (M.filter fun p => p.1 != k).length + 1 ≤ M.length := by
  obtain ⟨p, hp, rfl⟩ := List.mem_map.1 hm
  have h1 : (M.filter fun q => q.1 != p.1).length < M.length := by
    rcases Nat.lt_or_ge (M.filter fun q => q.1 != p.1).length M.length with h | h
    · exact h
    · have h2 := List.filter_sublist (p := fun q : Int × Int => q.1 != p.1) (l := M)
      have h3 := h2.eq_of_length_le h
      have h4 := List.filter_eq_self.1 h3 p hp
      simp at h4
  omega
theorem BkOk.put {slots : Nat} {s : Bk} (h : BkOk slots s) (h1 : 1 ≤ slots) {k v : Int} (he : putE s k v = 0) : BkOk slots (putB slots s k v) := by
  unfold putE at he
  split at he
  · cases he
  split at he
  · cases he
  rename_i hk hm
  have hk : okPut k v := by simpa using hk
  have hsub : (outM slots s k).Sublist s.M := by
    unfold outM; split
    · exact List.dropLast_sublist _
    · exact List.Sublist.refl _
  refine ⟨filter_nodup ((hsub.map _).nodup h.nod) v, ?_, ?_, ?_, ?_⟩
  · show (List.filter _ _).length + 1 ≤ slots
    by_cases hf : fullFor slots s k
    · have := List.length_filter_le (fun p : Int × Int => p.1 != k) (outM slots s k)
      unfold outM at this ⊢
      rw [if_pos hf] at this ⊢
      rw [List.length_dropLast] at this
      have := hf.2
      omega
    · by_cases hm : k ∈ s.keys
      · have := filter_len (M := s.M) (k := k) hm
        unfold outM
        rw [if_neg hf]
        have := h.len
        omega
      · have := List.length_filter_le (fun p : Int × Int => p.1 != k) (outM slots s k)
        unfold outM at this ⊢
        rw [if_neg hf] at this ⊢
        have h2 : s.M.length ≠ slots := fun e => hf ⟨hm, e⟩
        have := h.len
        omega
  · have := h.many
    show s.many + 1 ≤ 60
    omega
  · intro p hp
    rcases List.mem_cons.1 hp with rfl | hp
    · exact hk
    · exact h.rng p (hsub.subset (List.mem_filter.1 hp).1)
  · show (s.text ++ lineOf (wordP k v)).length ≤ 20 * (s.many + 1)
    have h2 := lineOf_len (wordP k v)
    have h3 := wordP_len hk
    have h4 := h.text
    rw [List.length_append]
    omega
theorem valOf_mem {s : Bk} {k : Int} (hk : k ∈ s.keys) : (k, valOf s k) ∈ s.M := by
  unfold valOf
  obtain ⟨p, hp, rfl⟩ := List.mem_map.1 hk
  cases hf : s.M.find? (fun q => q.1 == p.1) with
  | none =>
    have := List.find?_eq_none.1 hf p hp
    simp at this
  | some q =>
    have h1 := List.mem_of_find?_eq_some hf
    have h2 := List.find?_some hf
    simp at h2
    simp only [Option.map_some, Option.getD_some]
    rw [← h2]
    exact h1
theorem BkOk.get {slots : Nat} {s : Bk} (h : BkOk slots s) {k : Int} (he : getE s k = 0) : BkOk slots (getB s k) := by
  unfold getE at he
  split at he
  · cases he
  split at he
  · cases he
  rename_i hk hm
  have hk : k ∈ s.keys := by simpa using hk
  have hv := h.rng _ (valOf_mem hk)
  refine ⟨filter_nodup h.nod _, ?_, ?_, ?_, ?_⟩
  · show (List.filter _ _).length + 1 ≤ slots
    have := filter_len (M := s.M) (k := k) hk
    have := h.len
    omega
  · have := h.many
    show s.many + 1 ≤ 60
    omega
  · intro p hp
    rcases List.mem_cons.1 hp with rfl | hp
    · exact hv
    · exact h.rng p (List.mem_filter.1 hp).1
  · show (s.text ++ lineOf (wordG k)).length ≤ 20 * (s.many + 1)
    have h2 := lineOf_len (wordG k)
    have h3 : (wordG k).length ≤ 14 := wordG_len hv.1
    have h4 := h.text
    rw [List.length_append]
    omega
theorem BkOk.putS {slots : Nat} {s : Bk} (h : BkOk slots s) (h1 : 1 ≤ slots) (k v : Int) : BkOk slots (putS slots s k v) := by
  unfold Go.Proofs.YticckfioggeaeaaGreatDoor.putS
  split
  · rename_i he; exact h.put h1 he
  · exact h
theorem BkOk.getS {slots : Nat} {s : Bk} (h : BkOk slots s) (k : Int) : BkOk slots (getS s k) := by
  unfold Go.Proofs.YticckfioggeaeaaGreatDoor.getS
  split
  · rename_i he; exact h.get he
  · exact h

/-! ### Steps -/
def stepB (slots : Nat) (s : Bk) (l : List Int) : Bk := match l with
  | [k, v] => putS slots s k v
  | [k] => getS s k
  | _ => s
def runB (slots : Nat) (steps : List (List Int)) : Bk := steps.foldl (stepB slots) bk0
theorem runB_snoc (slots : Nat) (steps : List (List Int)) (l : List Int) : runB slots (steps ++ [l]) = stepB slots (runB slots steps) l := by simp [runB]
theorem stepB_ok {slots : Nat} {s : Bk} (h : BkOk slots s) (h1 : 1 ≤ slots) (l : List Int) : BkOk slots (stepB slots s l) := by
  unfold stepB
  split
  · exact h.putS h1 _ _
  · exact h.getS _
  · exact h
theorem runB_ok {slots : Nat} (h1 : 1 ≤ slots) (steps : List (List Int)) : BkOk slots (runB slots steps) := by
  have : ∀ (l : List (List Int)) (s : Bk), BkOk slots s → BkOk slots (l.foldl (stepB slots) s) := by
    intro l
    induction l with
    | nil => intro s h; exact h
    | cons x l ih => intro s h; exact ih _ (stepB_ok h h1 x)
  exact this steps _ (bk0_ok slots)
end Go.Proofs.YticckfioggeaeaaGreatDoor

/-
  What was put down, read again: plain.
-/
namespace Go.Proofs.YticckfioggeaeaaGreatDoor

def lastCut : List UInt8 → Option (List UInt8 × List UInt8)
  | [] => none
  | c :: r => match lastCut r with
    | some p => some (c :: p.1, p.2)
    | none => if c = 32 then some ([], r) else none
theorem lastCut_no : ∀ {l : List UInt8}, 32 ∉ l → lastCut l = none
  | [], _ => rfl
  | c :: l, h => by
    have h1 := lastCut_no (l := l) (fun hm => h (by simp [hm]))
    rw [lastCut, h1]
    simp only
    rw [if_neg (fun e => h (by simp [e]))]
theorem lastCut_mk : ∀ (a b : List UInt8), 32 ∉ b → lastCut (a ++ 32 :: b) = some (a, b)
  | [], b, h => by rw [List.nil_append, lastCut, lastCut_no h]; simp
  | c :: a, b, h => by rw [List.cons_append, lastCut, lastCut_mk a b h]
theorem lastCut_some : ∀ {l a b : List UInt8}, lastCut l = some (a, b) → l = a ++ 32 :: b ∧ 32 ∉ b
  | [], a, b, h => by simp [lastCut] at h
  | c :: l, a, b, h => by
    rw [lastCut] at h
    cases hl : lastCut l with
    | some p =>
      rw [hl] at h
      simp only [Option.some.injEq, Prod.mk.injEq] at h
      obtain ⟨rfl, rfl⟩ := h
      obtain ⟨e, hn⟩ := lastCut_some (l := l) (a := p.1) (b := p.2) hl
      exact ⟨by rw [List.cons_append, ← e], hn⟩
    | none =>
      rw [hl] at h
      simp only at h
      split at h
      · rename_i hc
        simp only [Option.some.injEq, Prod.mk.injEq] at h
        obtain ⟨rfl, rfl⟩ := h
        refine ⟨by rw [hc]; rfl, fun hm => ?_⟩
        obtain ⟨a, b, e⟩ := List.append_of_mem hm
        have : ∀ (b : List UInt8) (a : List UInt8), ∃ p, lastCut (a ++ 32 :: b) = some p := by
          intro b a
          induction a with
          | nil =>
            rw [List.nil_append, lastCut]
            cases lastCut b with
            | some p => exact ⟨_, rfl⟩
            | none => exact ⟨([], b), by simp⟩
          | cons x a ih =>
            obtain ⟨p, hp⟩ := ih
            exact ⟨(x :: p.1, p.2), by rw [List.cons_append, lastCut, hp]⟩
        obtain ⟨p, hp⟩ := this b a
        rw [← e, hl] at hp
        cases hp
      · cases h
theorem lastCut_none {l : List UInt8} (h : lastCut l = none) : 32 ∉ l := fun hm => by
  have key : ∀ l : List UInt8, 32 ∈ l → ∃ p, lastCut l = some p := by
    intro l
    induction l with
    | nil => intro h; simp at h
    | cons x l ih =>
      intro h
      rw [lastCut]
      cases hl : lastCut l with
      | some p => exact ⟨_, rfl⟩
      | none =>
        simp only
        by_cases e : x = 32
        · exact ⟨_, by rw [if_pos e]⟩
        · obtain ⟨p, hp⟩ := ih (by simpa [show ¬ 32 = x from fun h => e h.symm] using h)
          rw [hl] at hp; cases hp
  obtain ⟨p, hp⟩ := key l hm
  rw [h] at hp; cases hp

def cutAt (c : UInt8) : List UInt8 → List (List UInt8)
  | [] => [[]]
  | x :: r => if x = c then [] :: cutAt c r else (x :: (cutAt c r).headD []) :: (cutAt c r).tail
theorem cutAt_ne (c : UInt8) (l : List UInt8) : cutAt c l ≠ [] := by
  cases l with
  | nil => simp [cutAt]
  | cons x r => rw [cutAt]; split <;> simp
theorem cutAt_parts (c : UInt8) (l : List UInt8) : ∃ w ws, cutAt c l = w :: ws := List.exists_cons_of_ne_nil (cutAt_ne c l)
theorem cutAt_no {c : UInt8} : ∀ {l : List UInt8}, c ∉ l → cutAt c l = [l]
  | [], _ => rfl
  | x :: l, h => by
    have h1 := cutAt_no (c := c) (l := l) (fun hm => h (by simp [hm]))
    rw [cutAt, if_neg (fun e => h (by simp [e])), h1]
    rfl
theorem cutAt_app {c : UInt8} : ∀ {l : List UInt8} (r : List UInt8), c ∉ l → cutAt c (l ++ c :: r) = l :: cutAt c r
  | [], r, _ => by rw [List.nil_append, cutAt, if_pos rfl]
  | x :: l, r, h => by
    have h1 := cutAt_app (c := c) (l := l) r (fun hm => h (by simp [hm]))
    rw [List.cons_append, cutAt, if_neg (fun e => h (by simp [e])), h1]
    rfl
theorem dropLast_snoc {α : Type} (l : List α) (x : α) : (l ++ [x]).dropLast = l := by simp
theorem cutAt_append (c : UInt8) : ∀ (a b : List UInt8), ∃ x y t, cutAt c a = (cutAt c a).dropLast ++ [x] ∧ cutAt c b = y :: t ∧ cutAt c (a ++ b) = (cutAt c a).dropLast ++ ((x ++ y) :: t)
  | [], b => by
    obtain ⟨w, ws, h⟩ := cutAt_parts c b
    exact ⟨[], w, ws, rfl, h, by simp [cutAt, h]⟩
  | z :: a, b => by
    obtain ⟨x, y, t, h1, h2, h3⟩ := cutAt_append c a b
    obtain ⟨D, hD⟩ : ∃ D, D = (cutAt c a).dropLast := ⟨_, rfl⟩
    rw [← hD] at h1 h3
    by_cases e : z = c
    · have h4 : cutAt c (z :: a) = ([] :: D) ++ [x] := by rw [cutAt, if_pos e, h1]; rfl
      have h5 : cutAt c (z :: (a ++ b)) = ([] :: D) ++ ((x ++ y) :: t) := by rw [cutAt, if_pos e, h3]; rfl
      refine ⟨x, y, t, ?_, h2, ?_⟩
      · rw [h4, dropLast_snoc]
      · rw [List.cons_append, h5, h4, dropLast_snoc]
    · cases D with
      | nil =>
        have h4 : cutAt c (z :: a) = [] ++ [z :: x] := by rw [cutAt, if_neg e, h1]; rfl
        have h5 : cutAt c (z :: (a ++ b)) = [] ++ ((z :: x ++ y) :: t) := by rw [cutAt, if_neg e, h3]; rfl
        refine ⟨z :: x, y, t, ?_, h2, ?_⟩
        · rw [h4, dropLast_snoc]
        · rw [List.cons_append, h5, h4, dropLast_snoc]
      | cons d ds =>
        have h4 : cutAt c (z :: a) = ((z :: d) :: ds) ++ [x] := by rw [cutAt, if_neg e, h1]; rfl
        have h5 : cutAt c (z :: (a ++ b)) = ((z :: d) :: ds) ++ ((x ++ y) :: t) := by rw [cutAt, if_neg e, h3]; rfl
        refine ⟨x, y, t, ?_, h2, ?_⟩
        · rw [h4, dropLast_snoc]
        · rw [List.cons_append, h5, h4, dropLast_snoc]
theorem cutAt_len (c : UInt8) : ∀ l : List UInt8, (cutAt c l).length = l.count c + 1
  | [] => by simp [cutAt]
  | x :: l => by
    have := cutAt_len c l
    rw [cutAt]
    by_cases e : x = c
    · subst e; rw [if_pos rfl, List.length_cons, this, List.count_cons_self]
    · rw [if_neg e, List.length_cons, List.length_tail, this, List.count_cons_of_ne (fun h => e h)]
      omega
/-- The whole lines of a text. -/
def lns (l : List UInt8) : List (List UInt8) := (cutAt 10 l).dropLast
theorem lns_prefix (a b : List UInt8) : ∃ r, lns (a ++ b) = lns a ++ r := by
  obtain ⟨x, y, t, h1, h2, h3⟩ := cutAt_append 10 a b
  refine ⟨((x ++ y) :: t).dropLast, ?_⟩
  unfold lns
  rw [h3, List.dropLast_append_of_ne_nil (by simp)]
theorem lns_len (l : List UInt8) : (lns l).length = l.count 10 := by
  unfold lns; rw [List.length_dropLast, cutAt_len]; omega
theorem lns_take (l : List UInt8) (n : Nat) : lns (l.take n) = (lns l).take ((l.take n).count 10) := by
  obtain ⟨r, hr⟩ := lns_prefix (l.take n) (l.drop n)
  rw [List.take_append_drop] at hr
  rw [hr, ← lns_len, List.take_left]
theorem lns_line {l : List UInt8} (h : 10 ∉ l) (r : List UInt8) : lns (l ++ 10 :: r) = l :: lns r := by
  unfold lns
  rw [cutAt_app r h]
  obtain ⟨w, ws, e⟩ := cutAt_parts 10 r
  rw [e]
  rfl

/-! ### A line read -/
def numsM : List (List UInt8) → Option (List Int)
  | [] => some []
  | w :: r => match numberM w with
    | none => none
    | some n => match numsM r with
      | none => none
      | some ns => some (n :: ns)
def opM (slots : Nat) (s : Bk) (w : List UInt8) (nums : List Int) : Bk × Int :=
  if w = [112] ∧ nums.length = 2 then (putS slots s (nums.getD 0 0) (nums.getD 1 0), putE s (nums.getD 0 0) (nums.getD 1 0))
  else if w = [103] ∧ nums.length = 1 then (getS s (nums.getD 0 0), getE s (nums.getD 0 0)) else (s, 2)
def lineM (slots : Nat) (s : Bk) (l : List UInt8) : Bk × Int :=
  match lastCut l with
  | none => (s, 2)
  | some p => match numberM p.2 with
    | none => (s, 2)
    | some n => if n ≠ (sumB p.1 : Nat) then (s, 6) else
      match numsM (cutAt 32 p.1).tail with
      | none => (s, 2)
      | some nums => opM slots s ((cutAt 32 p.1).headD []) nums
/-- The store behind some lines; how many lines, or in which one something is wrong; what is wrong. -/
def openL (slots : Nat) : Bk → List (List UInt8) → Bk × Int × Int
  | s, [] => (s, (s.many : Nat), 0)
  | s, l :: r => if (lineM slots s l).2 ≠ 0 then (s, (s.many : Nat) + 1, (lineM slots s l).2) else openL slots (lineM slots s l).1 r

theorem digs_no {l : List UInt8} (h : digs l) (c : UInt8) (hc : c.toNat < 48) : c ∉ l := fun hm => by have := h c hm; omega
def putLine (k v : Int) : List UInt8 := wordP k v ++ (32 :: Lib.itoa (sumB (wordP k v) : Nat))
def getLine (k : Int) : List UInt8 := wordG k ++ (32 :: Lib.itoa (sumB (wordG k) : Nat))
theorem lineOf_nl (w : List UInt8) : lineOf w = (w ++ (32 :: Lib.itoa (sumB w : Nat))) ++ [10] := by simp [lineOf]
theorem lineM_word (slots : Nat) (s : Bk) (w : List UInt8) (nums : List Int) (h : numsM (cutAt 32 w).tail = some nums) : lineM slots s (w ++ (32 :: Lib.itoa (sumB w : Nat))) = opM slots s ((cutAt 32 w).headD []) nums := by
  have h1 := lastCut_mk w (Lib.itoa (sumB w : Nat)) (digs_no (itoa_dig (by omega)) 32 (by decide))
  have h2 : numberM (Lib.itoa (sumB w : Nat)) = some (sumB w : Nat) := by rw [itoa_nat]; exact numberM_dec (by have := sumB_lt w; omega)
  unfold lineM
  rw [h1]
  show (match numberM (Lib.itoa ↑(sumB w)) with
    | none => (s, 2)
    | some n => if n ≠ (sumB w : Nat) then (s, 6) else
      match numsM (cutAt 32 w).tail with
      | none => (s, 2)
      | some nums => opM slots s ((cutAt 32 w).headD []) nums) = _
  rw [h2]
  show (if ((sumB w : Nat) : Int) ≠ (sumB w : Nat) then (s, 6) else
      match numsM (cutAt 32 w).tail with
      | none => (s, 2)
      | some nums => opM slots s ((cutAt 32 w).headD []) nums) = _
  rw [if_neg (by simp), h]
theorem numberM_itoa {n : Int} (h0 : 0 ≤ n) (h : n < 9223372036854775808) : numberM (Lib.itoa n) = some n := by
  obtain ⟨u, rfl⟩ := Int.eq_ofNat_of_zero_le h0
  rw [itoa_nat]
  exact numberM_dec (by omega)
theorem cut_wordP {k v : Int} (hk : 0 ≤ k) (hv : 0 ≤ v) : cutAt 32 (wordP k v) = [[112], Lib.itoa k, Lib.itoa v] := by
  have h1 := cutAt_app (c := 32) (l := [112]) (Lib.itoa k ++ (32 :: Lib.itoa v)) (by decide)
  have h2 := cutAt_app (c := 32) (l := Lib.itoa k) (Lib.itoa v) (digs_no (itoa_dig hk) 32 (by decide))
  have h3 := cutAt_no (c := 32) (l := Lib.itoa v) (digs_no (itoa_dig hv) 32 (by decide))
  unfold wordP
  rw [show (112 :: 32 :: (Lib.itoa k ++ (32 :: Lib.itoa v)) : List UInt8) = [112] ++ 32 :: (Lib.itoa k ++ (32 :: Lib.itoa v)) from rfl, h1, h2, h3]
theorem cut_wordG {k : Int} (hk : 0 ≤ k) : cutAt 32 (wordG k) = [[103], Lib.itoa k] := by
  have h1 := cutAt_app (c := 32) (l := [103]) (Lib.itoa k) (by decide)
  have h3 := cutAt_no (c := 32) (l := Lib.itoa k) (digs_no (itoa_dig hk) 32 (by decide))
  unfold wordG
  rw [show (103 :: 32 :: Lib.itoa k : List UInt8) = [103] ++ 32 :: Lib.itoa k from rfl, h1, h3]
theorem line_put (slots : Nat) (s : Bk) {k v : Int} (h : okPut k v) : lineM slots s (putLine k v) = (putS slots s k v, putE s k v) := by
  have hn : numsM (cutAt 32 (wordP k v)).tail = some [k, v] := by
    rw [cut_wordP h.1.1 h.2.1]
    simp only [List.tail_cons, numsM, numberM_itoa h.1.1 (by have := h.1.2; omega), numberM_itoa h.2.1 (by have := h.2.2; omega)]
  unfold putLine
  rw [lineM_word slots s _ _ hn, cut_wordP h.1.1 h.2.1]
  simp [opM]
theorem line_get (slots : Nat) (s : Bk) {k : Int} (h : 0 ≤ k ∧ k ≤ 1000000) : lineM slots s (getLine k) = (getS s k, getE s k) := by
  have hn : numsM (cutAt 32 (wordG k)).tail = some [k] := by
    rw [cut_wordG h.1]
    simp only [List.tail_cons, numsM, numberM_itoa h.1 (by have := h.2; omega)]
  unfold getLine
  rw [lineM_word slots s _ _ hn, cut_wordG h.1]
  simp [opM]

/-! ### What was done, as a list of what succeeded -/
def errStep (s : Bk) (l : List Int) : Int := match l with
  | [k, v] => putE s k v
  | [k] => getE s k
  | _ => 1
def stepLine (l : List Int) : List UInt8 := match l with
  | [k, v] => putLine k v
  | [k] => getLine k
  | _ => []
theorem errStep_none {slots : Nat} {s : Bk} {l : List Int} (h : errStep s l ≠ 0) : stepB slots s l = s := by
  unfold stepB
  split
  · simp only [errStep] at h; unfold putS; rw [if_neg h]
  · simp only [errStep] at h; unfold getS; rw [if_neg h]
  · rfl
theorem line_nl {l : List UInt8} {w : List UInt8} (e : l = w ++ (32 :: Lib.itoa (sumB w : Nat))) (hw : 10 ∉ w) : 10 ∉ l := by
  rw [e, List.mem_append, List.mem_cons]
  rintro (h | h | h)
  · exact hw h
  · exact absurd h (by decide)
  · exact digs_no (itoa_dig (by omega)) 10 (by decide) h
theorem wordP_nl {k v : Int} (hk : 0 ≤ k) (hv : 0 ≤ v) : 10 ∉ wordP k v := by
  have h1 := digs_no (itoa_dig hk) 10 (by decide)
  have h2 := digs_no (itoa_dig hv) 10 (by decide)
  unfold wordP
  simp [h1, h2]
theorem wordG_nl {k : Int} (hk : 0 ≤ k) : 10 ∉ wordG k := by
  have h1 := digs_no (itoa_dig hk) 10 (by decide)
  unfold wordG
  simp [h1]
theorem step_ok {slots : Nat} {s : Bk} (hok : BkOk slots s) {l : List Int} (h : errStep s l = 0) :
    (stepB slots s l).text = s.text ++ (stepLine l ++ [10]) ∧ (stepB slots s l).many = s.many + 1 ∧ lineM slots s (stepLine l) = (stepB slots s l, 0) ∧ 10 ∉ stepLine l := by
  match l, h with
  | [k, v], h =>
    have h' : putE s k v = 0 := h
    have hk : okPut k v := by
      unfold putE at h'
      split at h'
      · cases h'
      · rename_i h2; simpa using h2
    refine ⟨?_, ?_, ?_, line_nl rfl (wordP_nl hk.1.1 hk.2.1)⟩
    · show (putS slots s k v).text = _
      unfold putS
      rw [if_pos h']
      show s.text ++ lineOf (wordP k v) = _
      rw [lineOf_nl]; rfl
    · show (putS slots s k v).many = _
      unfold putS
      rw [if_pos h']; rfl
    · show lineM slots s (putLine k v) = _
      rw [line_put slots s hk, h']; rfl
  | [k], h =>
    have h' : getE s k = 0 := h
    have hk : 0 ≤ k ∧ k ≤ 1000000 := by
      unfold getE at h'
      split at h'
      · cases h'
      · rename_i h2
        have h3 : k ∈ s.keys := by simpa using h2
        obtain ⟨p, hp, rfl⟩ := List.mem_map.1 h3
        exact (hok.rng p hp).1
    refine ⟨?_, ?_, ?_, line_nl rfl (wordG_nl hk.1)⟩
    · show (getS s k).text = _
      unfold getS
      rw [if_pos h']
      show s.text ++ lineOf (wordG k) = _
      rw [lineOf_nl]; rfl
    · show (getS s k).many = _
      unfold getS
      rw [if_pos h']; rfl
    · show lineM slots s (getLine k) = _
      rw [line_get slots s hk, h']; rfl
  | [], h => simp [errStep] at h
  | a :: b :: c :: r, h => simp [errStep] at h
def foldB (slots : Nat) (s : Bk) (steps : List (List Int)) : Bk := steps.foldl (stepB slots) s
theorem foldB_cons (slots : Nat) (s : Bk) (l : List Int) (r : List (List Int)) : foldB slots s (l :: r) = foldB slots (stepB slots s l) r := rfl
def logB (slots : Nat) (s : Bk) : List (List Int) → List (List Int)
  | [] => []
  | l :: r => if errStep s l = 0 then l :: logB slots (stepB slots s l) r else logB slots s r
def good (slots : Nat) (s : Bk) : List (List Int) → Prop
  | [] => True
  | l :: r => errStep s l = 0 ∧ good slots (stepB slots s l) r
theorem log_fold (slots : Nat) : ∀ (r : List (List Int)) (s : Bk), foldB slots s (logB slots s r) = foldB slots s r ∧ good slots s (logB slots s r)
  | [], s => ⟨rfl, trivial⟩
  | l :: r, s => by
    rw [logB]
    by_cases h : errStep s l = 0
    · rw [if_pos h]
      obtain ⟨h1, h2⟩ := log_fold slots r (stepB slots s l)
      exact ⟨by rw [foldB_cons, foldB_cons, h1], h, h2⟩
    · rw [if_neg h]
      obtain ⟨h1, h2⟩ := log_fold slots r s
      exact ⟨by rw [foldB_cons, errStep_none h, h1], h2⟩
theorem good_take {slots : Nat} : ∀ (r : List (List Int)) (s : Bk) (n : Nat), good slots s r → good slots s (r.take n)
  | [], s, n, _ => by simp [good]
  | l :: r, s, 0, _ => by simp [good]
  | l :: r, s, n + 1, h => ⟨h.1, good_take r _ n h.2⟩
theorem good_text {slots : Nat} (h1 : 1 ≤ slots) : ∀ (r : List (List Int)) (s : Bk), BkOk slots s → good slots s r →
    (foldB slots s r).text = s.text ++ (r.map fun l => stepLine l ++ [10]).flatten ∧ (foldB slots s r).many = s.many + r.length ∧ openL slots s (r.map stepLine) = (foldB slots s r, ((s.many + r.length : Nat) : Int), 0) ∧ ∀ l ∈ r, 10 ∉ stepLine l
  | [], s, _, _ => by simp [foldB, openL]
  | l :: r, s, hok, h => by
    obtain ⟨a1, a2, a3, a4⟩ := step_ok hok h.1
    obtain ⟨b1, b2, b3, b4⟩ := good_text h1 r (stepB slots s l) (stepB_ok hok h1 l) h.2
    refine ⟨?_, ?_, ?_, ?_⟩
    · rw [foldB_cons, b1, a1]; simp
    · rw [foldB_cons, b2, a2, List.length_cons]; omega
    · rw [List.map_cons, openL, a3]
      simp only
      rw [if_neg (by simp), b3, foldB_cons, a2, List.length_cons, show s.many + 1 + r.length = s.many + (r.length + 1) by omega]
    · intro x hx
      rcases List.mem_cons.1 hx with rfl | hx
      · exact a4
      · exact b4 x hx
theorem lns_lines : ∀ (r : List (List Int)), (∀ l ∈ r, 10 ∉ stepLine l) → lns ((r.map fun l => stepLine l ++ [10]).flatten) = r.map stepLine
  | [], _ => rfl
  | l :: r, h => by
    rw [List.map_cons, List.flatten_cons, List.append_assoc, List.singleton_append, lns_line (h l (by simp)), lns_lines r (fun x hx => h x (by simp [hx])), List.map_cons]
/-- Of any beginning of what was put down just the whole lines are done. -/
theorem open_torn {slots : Nat} (h1 : 1 ≤ slots) (steps : List (List Int)) (n : Nat) :
    openL slots bk0 (lns ((runB slots steps).text.take n)) = (foldB slots bk0 ((logB slots bk0 steps).take (((runB slots steps).text.take n).count 10)), ((((runB slots steps).text.take n).count 10 : Nat) : Int), 0) ∧ ((runB slots steps).text.take n).count 10 ≤ (logB slots bk0 steps).length := by
  obtain ⟨e1, hg⟩ := log_fold slots steps bk0
  obtain ⟨t1, t2, t3, t4⟩ := good_text h1 _ bk0 (bk0_ok slots) hg
  have ht : (runB slots steps).text = ((logB slots bk0 steps).map fun l => stepLine l ++ [10]).flatten := by
    have : runB slots steps = foldB slots bk0 steps := rfl
    rw [this, ← e1, t1]; rfl
  have hl := lns_lines _ t4
  rw [← ht] at hl
  have hlen : ((runB slots steps).text.take n).count 10 ≤ (logB slots bk0 steps).length := by
    have h2 := (List.take_sublist n (runB slots steps).text).count_le 10
    have h3 := lns_len (runB slots steps).text
    rw [hl, List.length_map] at h3
    omega
  refine ⟨?_, hlen⟩
  rw [lns_take, hl, ← List.map_take]
  obtain ⟨_, _, u3, _⟩ := good_text h1 _ bk0 (bk0_ok slots) (good_take _ _ (((runB slots steps).text.take n).count 10) hg)
  rw [u3, List.length_take, Nat.min_eq_left hlen]
  simp [bk0]
theorem open_again {slots : Nat} (h1 : 1 ≤ slots) (steps : List (List Int)) : openL slots bk0 (lns (runB slots steps).text) = (runB slots steps, (((runB slots steps).many : Nat) : Int), 0) := by
  obtain ⟨e1, hg⟩ := log_fold slots steps bk0
  obtain ⟨t1, t2, t3, t4⟩ := good_text h1 _ bk0 (bk0_ok slots) hg
  have hr : runB slots steps = foldB slots bk0 (logB slots bk0 steps) := by rw [e1]; rfl
  have ht : (runB slots steps).text = ((logB slots bk0 steps).map fun l => stepLine l ++ [10]).flatten := by rw [hr, t1]; rfl
  rw [ht, lns_lines _ t4, t3, hr, t2]
end Go.Proofs.YticckfioggeaeaaGreatDoor

/-
  book.sum, strconv.Itoa, by their contracts.
-/
namespace Go.Proofs.YticckfioggeaeaaGreatDoor
open Go.RowKit

/-- The table that strconv.Itoa reads. -/
def Tab (w : World) : Prop := Lib.TabIs Tryz.prog w "internal/strconv.uint64pow10" .u64 Lib.pow10Tab
theorem global_tab : Tryz.prog.globalNamed "internal/strconv.uint64pow10" = some 4 := by kernel_rfl
theorem Tab.below {w w' : World} {B : Nat} (h : Tab w) (hb : Below B w w') (hB : w.heap.size ≤ B) : Tab w' := Joins.tab_stays global_tab h hb hB
theorem itoa_any (n : Int) (h0 : -9223372036854775808 ≤ n) (h1 : n ≤ 9223372036854775807) (w : World) (ht : Tab w) :
    Calls Tryz.prog 75 #[.int .i64 n] w fun e w' => e = .returned (.string ⟨(Lib.itoa n).toArray⟩) ∧ Below w.heap.size w w' :=
  (Tryz.strconv_Itoa n h0 h1 w ht).mono fun e w' ⟨he, k, os, hw⟩ => ⟨he, by rw [hw]; exact Lib.below_grow _ w (Nat.le_refl _) k os⟩

theorem bytes_below (w : World) (e : TypeId) (s : ByteArray) : Below w.heap.size w (Lib.bytesWorld w e s) := by
  refine ⟨?_, ?_, ?_, by rw [Lib.bytesWorld_size]; omega, fun k hk => Lib.bytesWorld_at_old w e s k hk⟩
  all_goals (unfold Lib.bytesWorld World.freeze; split <;> rfl)
theorem wsum_snoc (l : List UInt8) (k : Nat) (hk : k < l.length) : wsum 0 (l.take (k + 1)) = wsum 0 (l.take k) + (k + 1) * l[k].toNat := by
  rw [List.take_succ_eq_append_getElem hk, wsum_append, List.length_take, Nat.min_eq_left (by omega)]
  simp [wsum]
theorem wsum_bd (l : List UInt8) (h : l.length ≤ 100000) (k : Nat) : wsum 0 (l.take k) ≤ 2550000000000 := by
  have h1 := wsum_le 255 (l.take k) 0 (fun c _ => by have := c.toNat_lt; omega)
  have h2 : (l.take k).length ≤ 100000 := by rw [List.length_take]; omega
  have h3 : (0 + (l.take k).length) * (l.take k).length ≤ 100000 * 100000 := Nat.mul_le_mul (by omega) h2
  have h4 := Nat.mul_le_mul_right 255 h3
  omega
set_option maxHeartbeats 1000000 in
set_option maxRecDepth 100000 in
theorem sum_any (s : ByteArray) (w : World) (hs : s.size ≤ 100000) :
    Calls Tryz.prog 60 #[.string s] w fun e w' => e = .returned (.int .i64 (sumB s.data.toList : Nat)) ∧ Below w.heap.size w w' := by
  have hcv := fun W => Lib.run_convert_string_bytes (P := Tryz.prog) W 9 41 5 s Tryz.underlying9 Tryz.underlying41 Tryz.underlying5
  have hsz := Lib.size_eq s
  obtain ⟨n, hn⟩ : ∃ n, n = s.size := ⟨_, rfl⟩
  have HBW := Lib.hid (bytes_below w 5 s)
  have HC : Hid (∀ j, j < n → (Lib.bytesWorld w 5 s).cell? ⟨w.heap.size, j, none⟩ = some (.int .u8 (s.data.toList.getD j 0).toNat)) := Lib.hid fun j hj => Lib.bytesWorld_cell w _ s j (by omega)
  have HL : Hid (s.data.toList.length = n) := Lib.hid (by omega)
  have HW : Hid (∀ k, wsum 0 (s.data.toList.take k) ≤ 2550000000000) := Lib.hid fun k => wsum_bd _ (by omega) k
  have hn5 : n ≤ 100000 := by omega
  have HN := Lib.hid hn
  clear hsz hs
  go_enter Tryz.func60, Tryz.ntmps60
  go_wp2
  rw [← HN.out]
  clear hcv hn
  generalize Lib.bytesWorld w 5 s = w1 at HBW HC ⊢
  go_loop [3, 9] (fun t i => ∃ k : Nat, k ≤ n ∧ i = .int .i64 k ∧ t = .int .i64 (wsum 0 (s.data.toList.take k) : Nat)) (fun _ i => n - (intOf i).toNat)
  case atStart => exact ⟨0, Nat.zero_le _, rfl, rfl⟩
  case round =>
    obtain ⟨k, hk, rfl, rfl⟩ := hrel
    have hw := HW.out k
    by_cases hlt : k < n
    · have hc := HC.out k hlt
      have hst := wsum_snoc s.data.toList k (by rw [HL.out]; exact hlt)
      have hgd : s.data.toList.getD k 0 = s.data.toList[k]'(by rw [HL.out]; exact hlt) := by rw [List.getD_eq_getElem?_getD, List.getElem?_eq_getElem (by rw [HL.out]; exact hlt), Option.getD_some]
      rw [hgd] at hc
      obtain ⟨c, hcc⟩ : ∃ c, c = (s.data.toList[k]'(by rw [HL.out]; exact hlt)).toNat := ⟨_, rfl⟩
      have hc255 : c < 256 := by rw [hcc]; exact UInt8.toNat_lt _
      rw [← hcc] at hc hst
      obtain ⟨t, ht⟩ : ∃ t, t = wsum 0 (s.data.toList.take k) := ⟨_, rfl⟩
      rw [← ht] at hst hw ⊢
      obtain ⟨m, hm⟩ : ∃ m, m = (k + 1) * c := ⟨_, rfl⟩
      have hmb : m ≤ 25600000 := by rw [hm]; exact Nat.le_trans (Nat.mul_le_mul (show k + 1 ≤ 100000 by omega) (show c ≤ 256 by omega)) (by decide)
      rw [← hm] at hst
      have HST := Lib.hid hst
      have hmi : ((k : Int) + 1) * (c : Int) = (m : Int) := by rw [hm]; simp
      clear hst ht hcc hgd hm
      have hki : (k : Int) < (n : Int) := by omega
      have hk0 : (0 : Int) ≤ (k : Int) := by omega
      have hwm : IntKind.i64.wrap (m : Int) = (m : Int) := IntWalk.i64_in _ (by omega)
      have hwt : IntKind.i64.wrap ((t : Int) + (m : Int)) = (t : Int) + (m : Int) := IntWalk.i64_in _ (by omega)
      go_wp2
      go_round
      case rel => exact ⟨k + 1, hlt, by go_num, congrArg (Value.int .i64) (by rw [HST.out]; simp)⟩
      case measure => simp [intOf]; omega
    · obtain rfl : k = n := by omega
      have HT : Hid (sumB s.data.toList = wsum 0 (s.data.toList.take k) % 9973) := Lib.hid (by unfold sumB; rw [List.take_of_length_le (by rw [HL.out]; omega)])
      obtain ⟨t, ht⟩ : ∃ t, t = wsum 0 (s.data.toList.take k) := ⟨_, rfl⟩
      rw [← ht] at HT hw ⊢
      clear ht
      go_wp2
      go_ret
      exact ⟨ret_int (by rw [HT.out]; omega), HBW.out⟩
end Go.Proofs.YticckfioggeaeaaGreatDoor

/-
  What the listed package-level variables give a walk; a world that meets the condition (three tables).
-/
namespace Go.Proofs.YticckfioggeaeaaGreatDoor
open Go.ChangeShapes Go.WideShapes Go.RowKit

def laidK : List (String × DataW Unit) := [("math/bits.deBruijn32tab", Rows.laid_math_bits_deBruijn32tab), ("math/bits.deBruijn64tab", Rows.laid_math_bits_deBruijn64tab), ("internal/strconv.uint64pow10", Rows.laid_internal_strconv_uint64pow10)]
theorem pow_data : (Rows.laid_internal_strconv_uint64pow10 : DataW Unit) = Lib.tabData .u64 Lib.pow10Tab := by kernel_rfl
theorem pow_type : (Tryz.prog.globals[4]?).map (·.type) = some 196 := by kernel_rfl
theorem cells_u64 : Tryz.prog.cellsOf 166 = 1 := by kernel_rfl
theorem cells_pow : Tryz.prog.cellsOf 196 = 20 := by kernel_rfl
theorem tab_of_head {W : World} {r : List (String × DataW Unit)} (h : laidMet Tryz.prog (("internal/strconv.uint64pow10", Rows.laid_internal_strconv_uint64pow10) :: r) W) : Tab W := by
  rw [pow_data] at h
  exact Lib.tabIs_of_head global_tab pow_type Tryz.underlying196 Tryz.underlying166 cells_u64 cells_pow h
theorem tab_of_laidK {W : World} (h : laidMetH Tryz.prog laidK W) : Tab W := by
  rw [MakeChecks.laidMetH_plain _ _ _ (by kernel_rfl)] at h
  exact tab_of_head h.tail.tail
noncomputable def laidWorldK (os : Os) : World := World.laidAll Tryz.prog os laidK
theorem laidWorldK_os (os : Os) : (laidWorldK os).os = os := World.laidAll_os _ _ _
set_option maxRecDepth 100000 in
theorem laidWorldK_shaped (os : Os) : (laidWorldK os).Shaped Tryz.prog := World.shaped_of_ZipB (by kernel_rfl) (by kernel_rfl)
set_option maxRecDepth 100000 in
theorem laidWorldK_met (os : Os) (args : Array Value) : laidMetH Tryz.prog laidK ((laidWorldK os).forCall (fun _ _ => 0) ⟨#[], args, []⟩).memory := by
  rw [MakeChecks.laidMetH_plain _ _ _ (by kernel_rfl)]
  exact laidMet_laidAll _ (by kernel_rfl) (by kernel_rfl)
end Go.Proofs.YticckfioggeaeaaGreatDoor

/-
  book.number, by its contract.
-/
set_option linter.unusedVariables false
namespace Go.Proofs.YticckfioggeaeaaGreatDoor
open Go.RowKit

/-- The package-level errors that strconv hands back are laid. -/
def Errs (w : World) : Prop := (∃ tp p, w.var? Tryz.prog "strconv.ErrSyntax" = some #[.iface tp p]) ∧ ∃ tp p, w.var? Tryz.prog "strconv.ErrRange" = some #[.iface tp p]
theorem var_below {w w' : World} {B : Nat} {nm : String} {v : Value} (h : w.var? Tryz.prog nm = some #[v]) (hb : Below B w w') (hB : ∀ g, Tryz.prog.globalNamed nm = some g → g < B) : w'.var? Tryz.prog nm = some #[v] := by
  unfold World.var? at *
  cases hg : Tryz.prog.globalNamed nm with
  | none => rw [hg] at h; simp at h
  | some g =>
    rw [hg] at h
    simp only [Option.bind_some] at h ⊢
    rw [hb.block g (hB g hg)]
    exact h
theorem global_syn : Tryz.prog.globalNamed "strconv.ErrSyntax" = some 2 := by kernel_rfl
theorem global_rng : Tryz.prog.globalNamed "strconv.ErrRange" = some 3 := by kernel_rfl
theorem var_lt {w : World} {nm : String} {g : Nat} {cs : Array Value} (h : w.var? Tryz.prog nm = some cs) (hg : Tryz.prog.globalNamed nm = some g) : g < w.heap.size := by
  unfold World.var? at h
  rw [hg] at h
  simp only [Option.bind_some] at h
  rcases Nat.lt_or_ge g w.heap.size with h1 | h1
  · exact h1
  · rw [Array.getElem?_eq_none h1] at h; simp at h
theorem Errs.below {w w' : World} {B : Nat} (h : Errs w) (hb : Below B w w') (hB : w.heap.size ≤ B) : Errs w' := by
  obtain ⟨⟨t1, p1, h1⟩, ⟨t2, p2, h2⟩⟩ := h
  have l1 := var_lt h1 global_syn
  have l2 := var_lt h2 global_rng
  exact ⟨⟨t1, p1, var_below h1 hb (fun g hg => by rw [global_syn] at hg; injection hg with hg; omega)⟩, ⟨t2, p2, var_below h2 hb (fun g hg => by rw [global_rng] at hg; injection hg with hg; omega)⟩⟩
def AtoiPost (w : World) (l : List UInt8) (e : Ending) (w' : World) : Prop :=
  ((∃ v, Lib.atoiAll l = .ok v ∧ e = .returned (.tuple #[.int .i64 v, .nilIface])) ∨ ((∀ v, Lib.atoiAll l ≠ .ok v) ∧ ∃ v tp N, e = .returned (.tuple #[.int .i64 v, .iface tp (.pointer (some ⟨N, 0, none⟩))]))) ∧ Below w.heap.size w w'
theorem atoi_any (l : List UInt8) (hl : l.length ≤ 100000) (w : World) (he : Errs w) : Calls Tryz.prog 86 #[.string ⟨l.toArray⟩] w (AtoiPost w l) := by
  have hsz : (⟨l.toArray⟩ : ByteArray).size = l.length := by simp [ByteArray.size]
  obtain ⟨⟨t1, p1, h1⟩, ⟨t2, p2, h2⟩⟩ := he
  have hd : (⟨l.toArray⟩ : ByteArray).data.toList = l := by simp
  cases ha : Lib.atoiAll l with
  | ok v =>
    refine (Tryz.strconv_Atoi_ok ⟨l.toArray⟩ (by omega) v (by rw [hd]; exact ha) w).mono ?_
    rintro e w' ⟨rfl, rfl | ⟨t, rfl⟩⟩
    · exact ⟨.inl ⟨v, ha, rfl⟩, Below.refl _ _⟩
    · exact ⟨.inl ⟨v, ha, rfl⟩, bytes_below w _ t⟩
  | «syntax» =>
    refine (Tryz.strconv_Atoi_syntax_var ⟨l.toArray⟩ (by omega) (by rw [hd]; exact ha) t1 p1 w h1).mono ?_
    rintro e w' ⟨N, rfl, _, _, hb⟩
    exact ⟨.inr ⟨fun v hv => (by rw [ha] at hv; cases hv), _, _, _, rfl⟩, hb⟩
  | range =>
    refine (Tryz.strconv_Atoi_range_var ⟨l.toArray⟩ (by omega) (by rw [hd]; exact ha) t2 p2 w h2).mono ?_
    rintro e w' ⟨N, rfl, _, _, hb⟩
    exact ⟨.inr ⟨fun v hv => (by rw [ha] at hv; cases hv), _, _, _, rfl⟩, hb⟩
def NumberPost (w : World) (l : List UInt8) (e : Ending) (w' : World) : Prop := ∃ v, e = .returned (.tuple #[.int .i64 v, .bool (numberM l).isSome]) ∧ (∀ n, numberM l = some n → v = n) ∧ Below w.heap.size w w'
theorem bytes_inj {a b : List UInt8} (h : (⟨a.toArray⟩ : ByteArray) = ⟨b.toArray⟩) : a = b := by
  injection h with h
  simpa using h
theorem atoi_bounds {l : List UInt8} {v : Int} (h : Lib.atoiAll l = .ok v) : -9223372036854775808 ≤ v ∧ v ≤ 9223372036854775807 := by
  unfold Lib.atoiAll at h
  split at h
  · cases h
  · simp only at h
    split at h
    · cases h
    · cases h
    · split at h
      · cases h
      · split at h
        · cases h
        · injection h with h
          split at h <;> omega
theorem ret_nb {v : Int} {b c : Bool} (h : b = c) : Ending.returned (.tuple #[.int .i64 v, .bool b]) = .returned (.tuple #[.int .i64 v, .bool c]) := by rw [h]
set_option maxHeartbeats 1000000 in
set_option maxRecDepth 100000 in
theorem number_any (l : List UInt8) (hl : l.length ≤ 100000) (w : World) (he : Errs w) (ht : Tab w) : Calls Tryz.prog 59 #[.string ⟨l.toArray⟩] w (NumberPost w l) := by
  have HE := Lib.hid he; have HT := Lib.hid ht
  clear he ht
  go_enter Tryz.func59, Tryz.ntmps59
  go_wp2_with fail
  refine (atoi_any l hl _ HE.out).mono ?_
  rintro e w1 ⟨hc, hb⟩
  have HB := Lib.hid hb
  have HT1 := Lib.hid (HT.out.below hb (Nat.le_refl _))
  clear hb
  rcases hc with ⟨v, ha, rfl⟩ | ⟨ha, v, tp, N, rfl⟩
  · have hbd := atoi_bounds ha
    have HN := Lib.hid (numberM_atoi ha)
    clear ha
    by_cases h0 : 0 ≤ v
    · by_cases hs : Lib.itoa v = l
      · have HR : Hid (numberM l = some v) := Lib.hid (by rw [HN.out, if_pos ⟨h0, hs⟩])
        clear HN
        go_wp2_with fail
        refine (itoa_any v (by omega) (by omega) _ HT1.out).mono ?_
        rintro e w2 ⟨rfl, hb2⟩
        have HB2 := Lib.hid hb2
        clear hb2
        rw [hs]
        go_wp2
        go_ret2
        exact ⟨v, ret_nb (by rw [HR.out]; rfl), fun n hn => (by rw [HR.out] at hn; exact Option.some.inj hn), HB.out.trans (HB2.out.mono HB.out.size)⟩
      · have HR : Hid (numberM l = none) := Lib.hid (by rw [HN.out, if_neg (fun h => hs h.2)])
        have hse : (Lib.itoa v == l) = false := beq_eq_false_iff_ne.2 hs
        clear HN hs
        go_wp2_with fail
        refine (itoa_any v (by omega) (by omega) _ HT1.out).mono ?_
        rintro e w2 ⟨rfl, hb2⟩
        have HB2 := Lib.hid hb2
        clear hb2
        go_wp2
        go_ret2
        exact ⟨v, ret_nb (by rw [HR.out]; rfl), fun n hn => (by rw [HR.out] at hn; cases hn), HB.out.trans (HB2.out.mono HB.out.size)⟩
    · have HR : Hid (numberM l = none) := Lib.hid (by rw [HN.out, if_neg (fun h => h0 h.1)])
      clear HN
      go_wp2
      go_ret2
      exact ⟨v, ret_nb (by rw [HR.out]; rfl), fun n hn => (by rw [HR.out] at hn; cases hn), HB.out⟩
  · have HR : Hid (numberM l = none) := Lib.hid (numberM_atoi_no ha)
    clear ha
    go_wp2
    go_ret2
    exact ⟨v, ret_nb (by rw [HR.out]; rfl), fun n hn => (by rw [HR.out] at hn; cases hn), HB.out⟩
end Go.Proofs.YticckfioggeaeaaGreatDoor
