/-
  book.Put where it puts, by its contract (printed by wip/gen_bookput.py).
-/
import Derived.Test.YticckfioggeaeaaGreatDoorBookPut
import Derived.StillTailTactics
set_option linter.unusedVariables false
namespace Go.Proofs.YticckfioggeaeaaGreatDoor
open Go.RowKit

theorem run_len_map {w : World} {g : Nat} {M : List Ent} (h : MapAt w g M) : (Builtin.len_ #[67] 3 #[.map (some g)]).run Tryz.prog w = .ok (.int .i64 M.length) w := len_map law_T 3 h
/-- A store between two of its turns: its map holds E. -/
structure Mid (w0 w : World) (b gm : Nat) (slots turn : Int) (E : List Ent) (p bv : Value) (many : Int) (text : List UInt8) : Prop where
  top : Blk w b 72 (stCells slots gm turn p bv many)
  hp : p = .pointer none ∨ p = .pointer (some ⟨b, 3, none⟩)
  map : MapAt w gm E
  txt : OwnB w bv text
  tab : Tab w
  keep : Keep [b, gm] w0 w
section
variable {w0 w w' : World} {b gm : Nat} {slots turn many : Int} {E E' : List Ent} {p bv : Value} {text : List UInt8}
theorem Mid.drew (h : Mid w0 w b gm slots turn E p bv many text) : Mid w0 w.drew b gm slots turn E p bv many text := ⟨h.top, h.hp, h.map.keep rfl, h.txt, h.tab, h.keep.drew⟩
theorem Mid.alloc (h : Mid w0 w b gm slots turn E p bv many text) (o : Obj) : Mid w0 (w.alloc o) b gm slots turn E p bv many text :=
  ⟨h.top.alloc o, h.hp, h.map.keep (Below.heap_alloc w o gm h.map.lt), h.txt.keep fun x hx => Below.heap_alloc w o x (h.txt.lt x hx), h.tab.keep ((Keep.refl [] w).alloc o) (by simp), h.keep.alloc o⟩
theorem Mid.below (h : Mid w0 w b gm slots turn E p bv many text) (hb : Below w.heap.size w w') : Mid w0 w' b gm slots turn E p bv many text :=
  ⟨h.top.below hb h.top.lt, h.hp, h.map.keep (hb.block gm h.map.lt), h.txt.keep fun x hx => hb.block x (h.txt.lt x hx), h.tab.below hb (Nat.le_refl _), h.keep.trans (Keep.of_below hb (Nat.le_refl _))⟩
theorem Mid.setTurn (h : Mid w0 w b gm slots turn E p bv many text) (t : Int) : Mid w0 (w.setCell ⟨b, 2, none⟩ (.int .i64 t)) b gm slots t E p bv many text :=
  ⟨h.top.set 2 _, h.hp, h.map.keep (Below.heap_setCell _ _ _ _ (h.map.ne h.top)), h.txt.keep fun x hx => Below.heap_setCell _ _ _ x (by rintro rfl; exact h.txt.ne h.top (by decide) hx),
    h.tab.keep (F := [b]) ((Keep.refl _ w).set (fun _ => by simp) _) (by simpa using Ne.symm (h.tab.ne_st h.top)), h.keep.set (fun _ => by simp) _⟩
theorem Mid.setMap (h : Mid w0 w b gm slots turn E p bv many text) (hm : MapAt w' gm E') (hg : w.grownBy w' (some gm)) : Mid w0 w' b gm slots turn E' p bv many text :=
  ⟨h.top.grown hg (by intro e; injection e with e; exact h.map.ne h.top e.symm), h.hp, hm, h.txt.keep fun x hx => hg.block x (h.txt.lt x hx) (by intro e; injection e with e; subst e; exact h.map.ne_own h.txt hx),
    h.tab.keep (F := [gm]) ((Keep.refl _ w).grown hg (by intro k e; injection e with e; simp [e])) (by simpa using Ne.symm (h.tab.ne_map h.map)), h.keep.grown hg (by intro k e; injection e with e; simp [e])⟩
theorem Mid.ent (h : Mid w0 w b gm slots turn E p bv many text) (hs : E.Pairwise fun p q => q.2.2 < p.2.2) (h8 : E.length ≤ 8) : EntAt w b gm E := ⟨h.top.cell_ (i := 1) rfl, h.map, hs, h8⟩
theorem Mid.cells (h : Mid w0 w b gm slots turn E p bv many text) : w.cell? ⟨b, 0, none⟩ = some (.int .i64 slots) ∧ w.cell? ⟨b, 1, none⟩ = some (.map (some gm)) ∧ w.cell? ⟨b, 2, none⟩ = some (.int .i64 turn) ∧ w.frozen? ⟨b, 2, none⟩ = false :=
  ⟨h.top.cell_ (i := 0) rfl, h.top.cell_ (i := 1) rfl, h.top.cell_ (i := 2) rfl, h.top.free 2⟩
end
theorem BAt.mid {O : Nat → Prop} {w : World} {b slots gm : Nat} {E : List Ent} {p bv : Value} {s : Bk} (h : BAt O w b slots gm E p bv s) (ht : Tab w) : Mid w w b gm slots s.many E p bv s.many s.text := ⟨h.top, h.hp, h.map, h.txt, ht, Keep.refl _ _⟩
theorem pair_in (w : World) (x y : Int) : IntsIn (w.alloc (.cells #[.int .i64 x, .int .i64 y] 3)) (w.alloc (.cells #[.int .i64 x, .int .i64 y] 3)).heap.size (some ⟨w.heap.size, 0, none⟩) [x, y] := fun _ =>
  ⟨w.heap.size, 0, rfl, by simp, fun i z hz => by
    have hb := Blk.new w 3 [.int .i64 x, .int .i64 y]
    rw [Nat.zero_add]
    exact hb.cell_ (i := i) (by match i, hz with | 0, hz => simpa using hz | 1, hz => simpa using hz)⟩
theorem one_in (w : World) (x : Int) : IntsIn (w.alloc (.cells #[.int .i64 x] 3)) (w.alloc (.cells #[.int .i64 x] 3)).heap.size (some ⟨w.heap.size, 0, none⟩) [x] := fun _ =>
  ⟨w.heap.size, 0, rfl, by simp, fun i z hz => by
    have hb := Blk.new w 3 [.int .i64 x]
    rw [Nat.zero_add]
    exact hb.cell_ (i := i) (by match i, hz with | 0, hz => simpa using hz)⟩

set_option maxHeartbeats 4000000 in
set_option maxRecDepth 100000 in
theorem put_some {O : Nat → Prop} (b slots gm : Nat) (E : List Ent) (p bv : Value) (s : Bk) (k v : Int) (w : World) (h : BAt O w b slots gm E p bv s) (hr : okPut k v) (hm : s.many ≠ 60) (ht : Tab w) (v0 t0 : Int) (hx : (k, v0, t0) ∈ E) :
    Calls Tryz.prog 24 #[.pointer (some ⟨b, 0, none⟩), .int .i64 k, .int .i64 v] w (PutPost O w b slots s k v) := by
  have HE : Hid (putE s k v = 0) := Lib.hid (by unfold putE; rw [if_neg (by simpa using hr), if_neg hm])
  have hmany := h.ok.many
  have htext : s.text.length ≤ 2000 := by have := h.ok.text; omega
  obtain ⟨⟨hk0, hk1⟩, hv0, hv1⟩ := hr
  have H := Lib.hid h; have HT := Lib.hid ht
  have HFU : Hid (¬ fullFor slots s k) := Lib.hid (fun hf => hf.1 (by rw [← h.keys]; exact List.mem_map.2 ⟨_, hx, rfl⟩))
  have HPV : Hid (putV slots s k v = -1) := Lib.hid (by unfold putV letGo; rw [HE.out, if_pos rfl]; rw [if_neg HFU.out])
  have HOM : Hid (E.map (fun e => (e.1, e.2.1)) = outM slots s k ∧ E.Sublist E) := Lib.hid (by unfold outM; rw [if_neg HFU.out]; exact ⟨H.out.mod, List.Sublist.refl _⟩)
  have c1 := h.top.cell_ (i := 1) rfl
  have c5 := h.top.cell_ (i := 5) rfl
  have hlb := h.lt.1
  have hlk := (look_is h.map hx).1
  skip
  obtain ⟨m, hmm⟩ : ∃ m, m = s.many := ⟨_, rfl⟩
  rw [← hmm] at hmany c5 hm
  have HMM := Lib.hid hmm
  have hme : ((m : Int) == 60) = false := beq_eq_false_iff_ne.2 (by omega)
  clear h ht hx hmm hm
  go_enter Tryz.func24, Tryz.ntmps24
  go_wp2_with (go_at_call 44; refine (within_yes _ _ _ _ (by omega) (by omega)).mono ?_; rintro e w' ⟨rfl, rfl⟩)
  have HMID : Hid (∀ (o : Obj) (q : Nat), Mid w ((w.alloc o).drewN q) b gm slots m E p bv m s.text) := Lib.hid fun o q => by
    have h1 := (H.out.mid HT.out).alloc o
    rw [← HMM.out] at h1
    exact ⟨h1.top, h1.hp, h1.map.keep rfl, h1.txt, h1.tab, h1.keep.drewN q⟩
  obtain ⟨w1, hw1⟩ : ∃ w1, w1 = w.alloc (.cells #[.int .i64 v0, .int .i64 t0] 86) := ⟨_, rfl⟩
  rw [← hw1]
  have HM1 : Hid (∀ q : Nat, Mid w (w1.drewN q) b gm slots m E p bv m s.text) := Lib.hid fun q => by rw [hw1]; exact HMID.out _ q
  clear HMID hw1 c1 c5 hlk
  have HM0 : Hid (Mid w w1 b gm slots m E p bv m s.text) := HM1.out 0
  go_quiet (fail)
  have hm2 := HM1.out nq
  generalize w1.drewN nq = w2 at hm2 ⊢
  have HM2 := Lib.hid hm2
  clear hm2 HM1 HM0
  have e2 := HM2.out.cells.2.2.1
  have f2 := HM2.out.cells.2.2.2
  have hinc : IntKind.i64.wrap ((m : Int) + 1) = (m : Int) + 1 := IntWalk.i64_in _ (by omega)
  go_wp2
  have HM3 := Lib.hid ((HM2.out.setTurn ((m : Int) + 1)).drew)
  clear e2 f2
  obtain ⟨w3, hw3⟩ : ∃ w3, w3 = w2.setCell ⟨b, 2, none⟩ (.int .i64 ((m : Int) + 1)) := ⟨_, rfl⟩
  rw [← hw3] at HM3 ⊢
  clear hw3
  have e1 := HM3.out.cells.2.1
  have e2 := HM3.out.cells.2.2.1
  go_still_tail 11, (by kernel_rfl)
  go_wp2_with (at_mapUpdate; refine wpList_put_map rfl (.tmp 66) (.tmp 67) (.tmp 73) rfl gm E rfl HM3.out.map k v ((m : Int) + 1) rfl rfl ?_; intro w4 hm4 hg4 hs4; have HM4 := Lib.hid (HM3.out.setMap hm4 hg4); clear hm4 hg4 hs4 e1 e2)
  have HM5 := Lib.hid (HM4.out.alloc (.cells #[.int .i64 k, .int .i64 v] 3))
  refine (down_any b gm slots ((m : Int) + 1) p bv m s.text [112] (some ⟨w4.heap.size, 0, none⟩) 2 2 [k, v] _ HM5.out.top HM5.out.hp HM5.out.txt HM5.out.tab rfl (pair_in w4 k v) (by intro x hx; simp at hx; rcases hx with rfl | rfl <;> omega) (by omega) rfl htext (by omega) (by omega)).mono ?_
  rintro e w6 ⟨bv', rfl, hb6, ho6, hk6, hl6⟩
  rw [foldW_put] at ho6
  have HB6 := Lib.hid hb6; have HO6 := Lib.hid ho6; have HK6 := Lib.hid hk6; have HL6 := Lib.hid hl6
  have hgm6 : w6.heap[gm]? = (w4.alloc (.cells #[.int .i64 k, .int .i64 v] 3)).heap[gm]? := hk6.block gm HM5.out.map.lt (by
    have h1 := HM5.out.map.ne HM5.out.top
    have h2 := HM5.out.map.ne_own HM5.out.txt
    intro hm
    rcases List.mem_cons.1 hm with hm | hm
    · exact h1 hm
    · cases e : bv.ownBlock with
      | none => rw [e] at hm; simp at hm
      | some z => rw [e] at hm h2; simp at hm; rw [hm] at h2; exact h2 rfl)
  have HM6 := Lib.hid (HM5.out.map.keep hgm6)
  clear hb6 ho6 hk6 hl6 hgm6
  go_wp2
  go_ret2
  have hmc : ((s.many + 1 : Nat) : Int) = (m : Int) + 1 := by rw [HMM.out]; simp
  have hsz : w.heap.size ≤ w6.heap.size := Nat.le_trans HM5.out.keep.size HK6.out.size
  have hfin := H.out.putB (E2 := E) (w' := w6) (bv' := bv') HE.out HOM.out.1 HOM.out.2 (by rw [hmc]; exact HB6.out) (by rw [hmc]; exact HM6.out) HO6.out hsz (fun x hx => by
    rcases HL6.out x hx with h1 | h1
    · exact .inl h1
    · exact .inr (Nat.le_trans HM5.out.keep.size h1))
  have hfin2 : BookAt O w6 b slots (putS slots s k v) := ⟨gm, _, _, _, by unfold putS; rw [if_pos HE.out]; exact hfin⟩
  refine ⟨?_, hfin2, (HM5.out.keep.toP ?_).trans (HK6.out.toP ?_)⟩
  · rw [HPV.out, HE.out]; rfl
  · intro x hx
    simp at hx
    rcases hx with rfl | rfl
    · exact H.out.ob
    · exact H.out.og
  · intro x hx
    rcases List.mem_cons.1 hx with rfl | hx
    · exact H.out.ob
    · cases e : bv.ownBlock with
      | none => rw [e] at hx; simp at hx
      | some z => rw [e] at hx; simp at hx; rw [hx]; exact H.out.ov z e

set_option maxHeartbeats 4000000 in
set_option maxRecDepth 100000 in
theorem put_room {O : Nat → Prop} (b slots gm : Nat) (E : List Ent) (p bv : Value) (s : Bk) (k v : Int) (w : World) (h : BAt O w b slots gm E p bv s) (hr : okPut k v) (hm : s.many ≠ 60) (ht : Tab w) (hx : ∀ p ∈ E, p.1 ≠ k) (hlen : s.M.length ≠ slots) :
    Calls Tryz.prog 24 #[.pointer (some ⟨b, 0, none⟩), .int .i64 k, .int .i64 v] w (PutPost O w b slots s k v) := by
  have HE : Hid (putE s k v = 0) := Lib.hid (by unfold putE; rw [if_neg (by simpa using hr), if_neg hm])
  have hmany := h.ok.many
  have htext : s.text.length ≤ 2000 := by have := h.ok.text; omega
  obtain ⟨⟨hk0, hk1⟩, hv0, hv1⟩ := hr
  have H := Lib.hid h; have HT := Lib.hid ht
  have HFU : Hid (¬ fullFor slots s k) := Lib.hid (fun hf => hlen hf.2)
  have HPV : Hid (putV slots s k v = -1) := Lib.hid (by unfold putV letGo; rw [HE.out, if_pos rfl]; rw [if_neg HFU.out])
  have HOM : Hid (E.map (fun e => (e.1, e.2.1)) = outM slots s k ∧ E.Sublist E) := Lib.hid (by unfold outM; rw [if_neg HFU.out]; exact ⟨H.out.mod, List.Sublist.refl _⟩)
  have c1 := h.top.cell_ (i := 1) rfl
  have c5 := h.top.cell_ (i := 5) rfl
  have hlb := h.lt.1
  have hlk := look_no h.map hx
  have hleq : ((E.length : Int) == (slots : Int)) = false := beq_eq_false_iff_ne.2 (by rw [h.len]; omega)
  obtain ⟨m, hmm⟩ : ∃ m, m = s.many := ⟨_, rfl⟩
  rw [← hmm] at hmany c5 hm
  have HMM := Lib.hid hmm
  have hme : ((m : Int) == 60) = false := beq_eq_false_iff_ne.2 (by omega)
  clear h ht hx hlen hmm hm
  go_enter Tryz.func24, Tryz.ntmps24
  go_wp2_with (go_at_call 44; refine (within_yes _ _ _ _ (by omega) (by omega)).mono ?_; rintro e w' ⟨rfl, rfl⟩)
  have HMID : Hid (∀ (o : Obj) (q : Nat), Mid w ((w.alloc o).drewN q) b gm slots m E p bv m s.text) := Lib.hid fun o q => by
    have h1 := (H.out.mid HT.out).alloc o
    rw [← HMM.out] at h1
    exact ⟨h1.top, h1.hp, h1.map.keep rfl, h1.txt, h1.tab, h1.keep.drewN q⟩
  obtain ⟨w1, hw1⟩ : ∃ w1, w1 = w.alloc (.cells #[.int .i64 0, .int .i64 0] 86) := ⟨_, rfl⟩
  rw [← hw1]
  have HM1 : Hid (∀ q : Nat, Mid w (w1.drewN q) b gm slots m E p bv m s.text) := Lib.hid fun q => by rw [hw1]; exact HMID.out _ q
  clear HMID hw1 c1 c5 hlk
  have HM0 : Hid (Mid w w1 b gm slots m E p bv m s.text) := HM1.out 0
  have e0 := HM0.out.cells.1
  have e1 := HM0.out.cells.2.1
  have hlen := fun q => run_len_map (HM1.out q).map
  have hlen0 := run_len_map HM0.out.map
  skip
  go_quiet (fail)
  have hm2 := HM1.out nq
  generalize w1.drewN nq = w2 at hm2 ⊢
  have HM2 := Lib.hid hm2
  clear hm2 HM1 HM0 e0 e1 hlen hlen0 hleq
  have e2 := HM2.out.cells.2.2.1
  have f2 := HM2.out.cells.2.2.2
  have hinc : IntKind.i64.wrap ((m : Int) + 1) = (m : Int) + 1 := IntWalk.i64_in _ (by omega)
  go_wp2
  have HM3 := Lib.hid ((HM2.out.setTurn ((m : Int) + 1)).drew)
  clear e2 f2
  obtain ⟨w3, hw3⟩ : ∃ w3, w3 = w2.setCell ⟨b, 2, none⟩ (.int .i64 ((m : Int) + 1)) := ⟨_, rfl⟩
  rw [← hw3] at HM3 ⊢
  clear hw3
  have e1 := HM3.out.cells.2.1
  have e2 := HM3.out.cells.2.2.1
  go_still_tail 11, (by kernel_rfl)
  go_wp2_with (at_mapUpdate; refine wpList_put_map rfl (.tmp 66) (.tmp 67) (.tmp 73) rfl gm E rfl HM3.out.map k v ((m : Int) + 1) rfl rfl ?_; intro w4 hm4 hg4 hs4; have HM4 := Lib.hid (HM3.out.setMap hm4 hg4); clear hm4 hg4 hs4 e1 e2)
  have HM5 := Lib.hid (HM4.out.alloc (.cells #[.int .i64 k, .int .i64 v] 3))
  refine (down_any b gm slots ((m : Int) + 1) p bv m s.text [112] (some ⟨w4.heap.size, 0, none⟩) 2 2 [k, v] _ HM5.out.top HM5.out.hp HM5.out.txt HM5.out.tab rfl (pair_in w4 k v) (by intro x hx; simp at hx; rcases hx with rfl | rfl <;> omega) (by omega) rfl htext (by omega) (by omega)).mono ?_
  rintro e w6 ⟨bv', rfl, hb6, ho6, hk6, hl6⟩
  rw [foldW_put] at ho6
  have HB6 := Lib.hid hb6; have HO6 := Lib.hid ho6; have HK6 := Lib.hid hk6; have HL6 := Lib.hid hl6
  have hgm6 : w6.heap[gm]? = (w4.alloc (.cells #[.int .i64 k, .int .i64 v] 3)).heap[gm]? := hk6.block gm HM5.out.map.lt (by
    have h1 := HM5.out.map.ne HM5.out.top
    have h2 := HM5.out.map.ne_own HM5.out.txt
    intro hm
    rcases List.mem_cons.1 hm with hm | hm
    · exact h1 hm
    · cases e : bv.ownBlock with
      | none => rw [e] at hm; simp at hm
      | some z => rw [e] at hm h2; simp at hm; rw [hm] at h2; exact h2 rfl)
  have HM6 := Lib.hid (HM5.out.map.keep hgm6)
  clear hb6 ho6 hk6 hl6 hgm6
  go_wp2
  go_ret2
  have hmc : ((s.many + 1 : Nat) : Int) = (m : Int) + 1 := by rw [HMM.out]; simp
  have hsz : w.heap.size ≤ w6.heap.size := Nat.le_trans HM5.out.keep.size HK6.out.size
  have hfin := H.out.putB (E2 := E) (w' := w6) (bv' := bv') HE.out HOM.out.1 HOM.out.2 (by rw [hmc]; exact HB6.out) (by rw [hmc]; exact HM6.out) HO6.out hsz (fun x hx => by
    rcases HL6.out x hx with h1 | h1
    · exact .inl h1
    · exact .inr (Nat.le_trans HM5.out.keep.size h1))
  have hfin2 : BookAt O w6 b slots (putS slots s k v) := ⟨gm, _, _, _, by unfold putS; rw [if_pos HE.out]; exact hfin⟩
  refine ⟨?_, hfin2, (HM5.out.keep.toP ?_).trans (HK6.out.toP ?_)⟩
  · rw [HPV.out, HE.out]; rfl
  · intro x hx
    simp at hx
    rcases hx with rfl | rfl
    · exact H.out.ob
    · exact H.out.og
  · intro x hx
    rcases List.mem_cons.1 hx with rfl | hx
    · exact H.out.ob
    · cases e : bv.ownBlock with
      | none => rw [e] at hx; simp at hx
      | some z => rw [e] at hx; simp at hx; rw [hx]; exact H.out.ov z e

set_option maxHeartbeats 4000000 in
set_option maxRecDepth 100000 in
theorem put_full {O : Nat → Prop} (b slots gm : Nat) (E : List Ent) (p bv : Value) (s : Bk) (k v : Int) (w : World) (h : BAt O w b slots gm E p bv s) (hr : okPut k v) (hm : s.many ≠ 60) (ht : Tab w) (hx : ∀ p ∈ E, p.1 ≠ k) (hlen : s.M.length = slots) :
    Calls Tryz.prog 24 #[.pointer (some ⟨b, 0, none⟩), .int .i64 k, .int .i64 v] w (PutPost O w b slots s k v) := by
  have HE : Hid (putE s k v = 0) := Lib.hid (by unfold putE; rw [if_neg (by simpa using hr), if_neg hm])
  have hmany := h.ok.many
  have htext : s.text.length ≤ 2000 := by have := h.ok.text; omega
  obtain ⟨⟨hk0, hk1⟩, hv0, hv1⟩ := hr
  have H := Lib.hid h; have HT := Lib.hid ht
  have HFU : Hid (fullFor slots s k) := Lib.hid (⟨fun hk => by rw [← h.keys] at hk; obtain ⟨q, hq, hqe⟩ := List.mem_map.1 hk; exact hx q hq hqe, hlen⟩)
  have HPV : Hid (putV slots s k v = (s.keys.getLast?).getD 0) := Lib.hid (by unfold putV letGo; rw [HE.out, if_pos rfl]; rw [if_pos HFU.out])
  have HOM : Hid (E.dropLast.map (fun e => (e.1, e.2.1)) = outM slots s k ∧ E.dropLast.Sublist E) := Lib.hid (by unfold outM; rw [if_pos HFU.out, mod_drop, H.out.mod]; exact ⟨rfl, List.dropLast_sublist _⟩)
  have c1 := h.top.cell_ (i := 1) rfl
  have c5 := h.top.cell_ (i := 5) rfl
  have hlb := h.lt.1
  have hlk := look_no h.map hx
  have hleq : ((E.length : Int) == (slots : Int)) = true := by rw [h.len, hlen]; simp
  obtain ⟨m, hmm⟩ : ∃ m, m = s.many := ⟨_, rfl⟩
  rw [← hmm] at hmany c5 hm
  have HMM := Lib.hid hmm
  have hme : ((m : Int) == 60) = false := beq_eq_false_iff_ne.2 (by omega)
  clear h ht hx hlen hmm hm
  go_enter Tryz.func24, Tryz.ntmps24
  go_wp2_with (go_at_call 44; refine (within_yes _ _ _ _ (by omega) (by omega)).mono ?_; rintro e w' ⟨rfl, rfl⟩)
  have HMID : Hid (∀ (o : Obj) (q : Nat), Mid w ((w.alloc o).drewN q) b gm slots m E p bv m s.text) := Lib.hid fun o q => by
    have h1 := (H.out.mid HT.out).alloc o
    rw [← HMM.out] at h1
    exact ⟨h1.top, h1.hp, h1.map.keep rfl, h1.txt, h1.tab, h1.keep.drewN q⟩
  obtain ⟨w1, hw1⟩ : ∃ w1, w1 = w.alloc (.cells #[.int .i64 0, .int .i64 0] 86) := ⟨_, rfl⟩
  rw [← hw1]
  have HM1 : Hid (∀ q : Nat, Mid w (w1.drewN q) b gm slots m E p bv m s.text) := Lib.hid fun q => by rw [hw1]; exact HMID.out _ q
  clear HMID hw1 c1 c5 hlk
  have HM0 : Hid (Mid w w1 b gm slots m E p bv m s.text) := HM1.out 0
  have e0 := HM0.out.cells.1
  have e1 := HM0.out.cells.2.1
  have hlen := fun q => run_len_map (HM1.out q).map
  have hlen0 := run_len_map HM0.out.map
  skip
  go_quiet (fail)
  have hm2 := HM1.out nq
  generalize w1.drewN nq = w2 at hm2 ⊢
  have HM2 := Lib.hid hm2
  clear hm2 HM1 HM0 e0 e1 hlen hlen0 hleq
  obtain ⟨y, hy⟩ : ∃ y, (E.map (·.1)).getLast? = some y := by
    cases hl : (E.map (·.1)).getLast? with
    | some y => exact ⟨y, rfl⟩
    | none =>
      rw [List.getLast?_eq_none_iff] at hl
      have h1 := H.out.keys
      rw [hl] at h1
      have h2 := H.out.s1
      have h3 := HFU.out.2
      have h4 : s.keys.length = s.M.length := by unfold Bk.keys; rw [List.length_map]
      rw [← h1] at h4
      simp at h4
      omega
  have HY := Lib.hid hy
  have HYO : Hid ((s.keys.getLast?).getD 0 = y) := Lib.hid (by rw [← H.out.keys, hy]; rfl)
  have HED : Hid (E.filter (fun p => p.1 != y) = E.dropLast) := Lib.hid (last_key H.out.map.nodup y hy)
  clear hy
  go_wp2_with fail
  refine (oldest_any b gm E y _ (HM2.out.ent H.out.srt (by have := H.out.len; have := HFU.out.2; have := H.out.s8; omega)) HY.out).mono ?_
  rintro e w2b ⟨rfl, hb2⟩
  have hm2 := HM2.out.below hb2
  have HM2 := Lib.hid hm2
  have g1 := HM2.out.cells.2.1
  clear hm2 hb2
  go_wp2_with (at_delete; refine wpList_del_map rfl (.tmp 54) (.tmp 55) rfl gm E rfl HM2.out.map y rfl ?_; intro w2c hm2c hg2c hs2c; rw [HED.out] at hm2c; have HM2 := Lib.hid (HM2.out.setMap hm2c hg2c); clear hm2c hg2c hs2c g1; have e2 := HM2.out.cells.2.2.1; have f2 := HM2.out.cells.2.2.2; have hinc : IntKind.i64.wrap ((m : Int) + 1) = (m : Int) + 1 := IntWalk.i64_in _ (by omega))
  have HM3 := Lib.hid ((HM2.out.setTurn ((m : Int) + 1)).drew)
  clear e2 f2
  obtain ⟨w3, hw3⟩ : ∃ w3, w3 = w2c.setCell ⟨b, 2, none⟩ (.int .i64 ((m : Int) + 1)) := ⟨_, rfl⟩
  rw [← hw3] at HM3 ⊢
  clear hw3
  have e1 := HM3.out.cells.2.1
  have e2 := HM3.out.cells.2.2.1
  go_still_tail 11, (by kernel_rfl)
  go_wp2_with (at_mapUpdate; refine wpList_put_map rfl (.tmp 66) (.tmp 67) (.tmp 73) rfl gm E.dropLast rfl HM3.out.map k v ((m : Int) + 1) rfl rfl ?_; intro w4 hm4 hg4 hs4; have HM4 := Lib.hid (HM3.out.setMap hm4 hg4); clear hm4 hg4 hs4 e1 e2)
  have HM5 := Lib.hid (HM4.out.alloc (.cells #[.int .i64 k, .int .i64 v] 3))
  refine (down_any b gm slots ((m : Int) + 1) p bv m s.text [112] (some ⟨w4.heap.size, 0, none⟩) 2 2 [k, v] _ HM5.out.top HM5.out.hp HM5.out.txt HM5.out.tab rfl (pair_in w4 k v) (by intro x hx; simp at hx; rcases hx with rfl | rfl <;> omega) (by omega) rfl htext (by omega) (by omega)).mono ?_
  rintro e w6 ⟨bv', rfl, hb6, ho6, hk6, hl6⟩
  rw [foldW_put] at ho6
  have HB6 := Lib.hid hb6; have HO6 := Lib.hid ho6; have HK6 := Lib.hid hk6; have HL6 := Lib.hid hl6
  have hgm6 : w6.heap[gm]? = (w4.alloc (.cells #[.int .i64 k, .int .i64 v] 3)).heap[gm]? := hk6.block gm HM5.out.map.lt (by
    have h1 := HM5.out.map.ne HM5.out.top
    have h2 := HM5.out.map.ne_own HM5.out.txt
    intro hm
    rcases List.mem_cons.1 hm with hm | hm
    · exact h1 hm
    · cases e : bv.ownBlock with
      | none => rw [e] at hm; simp at hm
      | some z => rw [e] at hm h2; simp at hm; rw [hm] at h2; exact h2 rfl)
  have HM6 := Lib.hid (HM5.out.map.keep hgm6)
  clear hb6 ho6 hk6 hl6 hgm6
  go_wp2
  go_ret2
  have hmc : ((s.many + 1 : Nat) : Int) = (m : Int) + 1 := by rw [HMM.out]; simp
  have hsz : w.heap.size ≤ w6.heap.size := Nat.le_trans HM5.out.keep.size HK6.out.size
  have hfin := H.out.putB (E2 := E.dropLast) (w' := w6) (bv' := bv') HE.out HOM.out.1 HOM.out.2 (by rw [hmc]; exact HB6.out) (by rw [hmc]; exact HM6.out) HO6.out hsz (fun x hx => by
    rcases HL6.out x hx with h1 | h1
    · exact .inl h1
    · exact .inr (Nat.le_trans HM5.out.keep.size h1))
  have hfin2 : BookAt O w6 b slots (putS slots s k v) := ⟨gm, _, _, _, by unfold putS; rw [if_pos HE.out]; exact hfin⟩
  refine ⟨?_, hfin2, (HM5.out.keep.toP ?_).trans (HK6.out.toP ?_)⟩
  · rw [HPV.out, HE.out, HYO.out]; rfl
  · intro x hx
    simp at hx
    rcases hx with rfl | rfl
    · exact H.out.ob
    · exact H.out.og
  · intro x hx
    rcases List.mem_cons.1 hx with rfl | hx
    · exact H.out.ob
    · cases e : bv.ownBlock with
      | none => rw [e] at hx; simp at hx
      | some z => rw [e] at hx; simp at hx; rw [hx]; exact H.out.ov z e

theorem put_any {O : Nat → Prop} (b slots : Nat) (s : Bk) (k v : Int) (w : World) (h : BookAt O w b slots s) (ht : Tab w) :
    Calls Tryz.prog 24 #[.pointer (some ⟨b, 0, none⟩), .int .i64 k, .int .i64 v] w (PutPost O w b slots s k v) := by
  by_cases hr : okPut k v
  · by_cases hm : s.many = 60
    · exact put_log b slots s k v w h hr hm
    · obtain ⟨gm, E, p, bv, h⟩ := h
      by_cases hx : ∃ q ∈ E, q.1 = k
      · obtain ⟨⟨k', v0, t0⟩, hq, rfl⟩ := hx
        exact put_some b slots gm E p bv s _ v w h hr hm ht v0 t0 hq
      · have hx' : ∀ q ∈ E, q.1 ≠ k := fun q hq e => hx ⟨q, hq, e⟩
        by_cases hlen : s.M.length = slots
        · exact put_full b slots gm E p bv s k v w h hr hm ht hx' hlen
        · exact put_room b slots gm E p bv s k v w h hr hm ht hx' hlen
  · exact put_range b slots s k v w h hr
end Go.Proofs.YticckfioggeaeaaGreatDoor
