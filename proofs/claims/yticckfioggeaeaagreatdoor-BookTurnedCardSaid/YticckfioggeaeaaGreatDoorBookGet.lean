/-
  book.Get, by its contract.
-/
import Derived.Test.YticckfioggeaeaaGreatDoorBookPut2
import Derived.Deep.DeepCutAuto
set_option linter.unusedVariables false
namespace Go.Proofs.YticckfioggeaeaaGreatDoor
open Go.RowKit

theorem Mid.far {w0 w : World} {b gm eb : Nat} {slots turn many x y : Int} {E : List Ent} {p bv : Value} {text : List UInt8} (h : Mid w0 w b gm slots turn E p bv many text) (he : Blk w eb 86 [.int .i64 x, .int .i64 y]) (hlo : w0.heap.size ≤ eb) (i : Nat) (v : Value) : Mid w0 (w.setCell ⟨eb, i, none⟩ v) b gm slots turn E p bv many text := by
  have h1 : b ≠ eb := h.top.ne he (by decide)
  have h2 : gm ≠ eb := h.map.ne he
  have h3 : 4 ≠ eb := by
    rintro rfl
    have := h.tab.cells
    rw [he.cell 0] at this
    simp at this
  exact ⟨h.top.far h1 v, h.hp, h.map.keep (Below.heap_setCell _ _ _ _ h2), h.txt.keep fun z hz => Below.heap_setCell _ _ _ z (by rintro rfl; exact h.txt.ne he (by decide) hz), h.tab.keep (F := [eb]) ((Keep.refl _ w).set (fun _ => by simp) _) (by simpa using h3), h.keep.set (fun hlt => by have : eb < w0.heap.size := hlt; omega) _⟩
def GetPost (O : Nat → Prop) (w : World) (b slots : Nat) (s : Bk) (k : Int) (e : Ending) (w' : World) : Prop :=
  e = .returned (.tuple #[.int .i64 (getV s k), errw (getE s k)]) ∧ BookAt O w' b slots (getS s k) ∧ KeepP O w w'
theorem get_none {O : Nat → Prop} (b slots gm : Nat) (E : List Ent) (p bv : Value) (s : Bk) (k : Int) (w : World) (h : BAt O w b slots gm E p bv s) (hx : ∀ q ∈ E, q.1 ≠ k) :
    Calls Tryz.prog 37 #[.pointer (some ⟨b, 0, none⟩), .int .i64 k] w (GetPost O w b slots s k) := by
  have HE : Hid (getE s k = 5) := Lib.hid (by
    unfold getE
    rw [if_pos]
    intro hk
    rw [← h.keys] at hk
    obtain ⟨q, hq, rfl⟩ := List.mem_map.1 hk
    exact hx q hq rfl)
  have H := Lib.hid h
  have c1 := h.top.cell_ (i := 1) rfl
  have hlk := look_no h.map hx
  clear h hx
  go_enter Tryz.func37, Tryz.ntmps37
  go_wp2
  go_ret2
  have hb : Below w.heap.size w (w.alloc (.cells #[.int .i64 0, .int .i64 0] 86)) := (Below.refl _ w).alloc (Nat.le_refl _) _
  refine ⟨?_, ?_, KeepP.of_below hb (Nat.le_refl _)⟩
  · unfold getV; rw [HE.out, if_neg (by decide)]; rfl
  · unfold getS; rw [HE.out, if_neg (by decide)]; exact ⟨gm, E, p, bv, H.out.below hb⟩
theorem get_log {O : Nat → Prop} (b slots gm : Nat) (E : List Ent) (p bv : Value) (s : Bk) (k v0 t0 : Int) (w : World) (h : BAt O w b slots gm E p bv s) (hx : (k, v0, t0) ∈ E) (hm : s.many = 60) :
    Calls Tryz.prog 37 #[.pointer (some ⟨b, 0, none⟩), .int .i64 k] w (GetPost O w b slots s k) := by
  have hk : k ∈ s.keys := by rw [← h.keys]; exact List.mem_map.2 ⟨_, hx, rfl⟩
  have HE : Hid (getE s k = 4) := Lib.hid (by unfold getE; rw [if_neg (by simpa using hk), if_pos hm])
  have H := Lib.hid h
  have c1 := h.top.cell_ (i := 1) rfl
  have c5 := h.top.cell_ (i := 5) rfl
  have hlb := h.lt.1
  have hlk := (look_is h.map hx).1
  have hme : (((s.many : Nat) : Int) == 60) = true := by rw [hm]; rfl
  clear h hx hm hk
  go_enter Tryz.func37, Tryz.ntmps37
  go_wp2
  go_ret2
  have hb : Below w.heap.size w (w.alloc (.cells #[.int .i64 v0, .int .i64 t0] 86)) := (Below.refl _ w).alloc (Nat.le_refl _) _
  refine ⟨?_, ?_, KeepP.of_below hb (Nat.le_refl _)⟩
  · unfold getV; rw [HE.out, if_neg (by decide)]; rfl
  · unfold getS; rw [HE.out, if_neg (by decide)]; exact ⟨gm, E, p, bv, H.out.below hb⟩
theorem valOf_ent {O : Nat → Prop} {w : World} {b slots gm : Nat} {E : List Ent} {p bv : Value} {s : Bk} (h : BAt O w b slots gm E p bv s) {k v0 t0 : Int} (hx : (k, v0, t0) ∈ E) : valOf s k = v0 := by
  have hk : k ∈ s.keys := by rw [← h.keys]; exact List.mem_map.2 ⟨_, hx, rfl⟩
  have h1 := valOf_mem hk
  rw [← h.mod] at h1
  obtain ⟨q, hq, hqe⟩ := List.mem_map.1 h1
  simp only [Prod.mk.injEq] at hqe
  have h2 := ent_one h.map.nodup hq hx hqe.1
  rw [← hqe.2, h2]
set_option maxHeartbeats 4000000 in
set_option maxRecDepth 100000 in
theorem get_some {O : Nat → Prop} (b slots gm : Nat) (E : List Ent) (p bv : Value) (s : Bk) (k v0 t0 : Int) (w : World) (h : BAt O w b slots gm E p bv s) (hx : (k, v0, t0) ∈ E) (hm : s.many ≠ 60) (ht : Tab w) :
    Calls Tryz.prog 37 #[.pointer (some ⟨b, 0, none⟩), .int .i64 k] w (GetPost O w b slots s k) := by
  have hk : k ∈ s.keys := by rw [← h.keys]; exact List.mem_map.2 ⟨_, hx, rfl⟩
  have HE : Hid (getE s k = 0) := Lib.hid (by unfold getE; rw [if_neg (by simpa using hk), if_neg hm])
  have HV := Lib.hid (valOf_ent h hx)
  have hrng := (h.ok.rng _ (valOf_mem hk)).1
  have hmany := h.ok.many
  have htext : s.text.length ≤ 2000 := by have := h.ok.text; omega
  have H := Lib.hid h; have HT := Lib.hid ht
  have c1 := h.top.cell_ (i := 1) rfl
  have c5 := h.top.cell_ (i := 5) rfl
  have hlb := h.lt.1
  have hlk := (look_is h.map hx).1
  obtain ⟨m, hmm⟩ : ∃ m, m = s.many := ⟨_, rfl⟩
  rw [← hmm] at hmany c5 hm
  have HMM := Lib.hid hmm
  have hme : ((m : Int) == 60) = false := beq_eq_false_iff_ne.2 (by omega)
  have HM1 : Hid (Mid w (w.alloc (.cells #[.int .i64 v0, .int .i64 t0] 86)) b gm slots m E p bv m s.text) := Lib.hid (by
    have h1 := (h.mid ht).alloc (.cells #[.int .i64 v0, .int .i64 t0] 86)
    rw [← hmm] at h1
    exact h1)
  have hbe : b ≠ w.heap.size := by omega
  have hinc : IntKind.i64.wrap ((m : Int) + 1) = (m : Int) + 1 := IntWalk.i64_in _ (by omega)
  obtain ⟨hk0, hk1⟩ := hrng
  have hk0 : 0 ≤ k := hk0
  have hk1 : k ≤ 1000000 := hk1
  have HEB : Hid (Blk (w.alloc (.cells #[.int .i64 v0, .int .i64 t0] 86)) w.heap.size 86 [.int .i64 v0, .int .i64 t0]) := Lib.hid (Blk.new w _ _)
  clear h ht hx hmm hm hk
  go_enter Tryz.func37, Tryz.ntmps37
  go_upto_region 6 with fail
  obtain ⟨w1, hw1⟩ : ∃ w1, w1 = w.alloc (.cells #[.int .i64 v0, .int .i64 t0] 86) := ⟨_, rfl⟩
  obtain ⟨eb, heb⟩ : ∃ eb, eb = w.heap.size := ⟨_, rfl⟩
  rw [← heb] at HEB hbe ⊢
  rw [← hw1] at HM1 HEB ⊢
  clear hw1 c1 c5 hlk
  have HM2 := Lib.hid (HM1.out.setTurn ((m : Int) + 1))
  have HEB2 : Hid (Blk (w1.setCell ⟨b, 2, none⟩ (.int .i64 ((m : Int) + 1))) eb 86 [.int .i64 v0, .int .i64 t0]) := Lib.hid (HEB.out.far (Ne.symm hbe) _)
  have HEO : Hid (∃ k, eb = k ∧ w.heap.size = k) := Lib.hid ⟨_, rfl, heb.symm⟩
  have e2 := HM1.out.cells.2.2.1
  have f2 := HM1.out.cells.2.2.2
  clear heb
  go_upto_region 7 with fail
  obtain ⟨w2, hw2⟩ : ∃ w2, w2 = w1.setCell ⟨b, 2, none⟩ (.int .i64 ((m : Int) + 1)) := ⟨_, rfl⟩
  rw [← hw2] at HM2 HEB2 ⊢
  clear hw2 e2 f2
  have e2 := HM2.out.cells.2.2.1
  have e1 := HM2.out.cells.2.1
  have g1 := HEB2.out.cell_ (i := 1) rfl
  have g1f := HEB2.out.free 1
  have hlo : w.heap.size ≤ eb := by obtain ⟨z, h1, h2⟩ := HEO.out; omega
  have HM3 := Lib.hid (HM2.out.far HEB2.out hlo 1 (.int .i64 ((m : Int) + 1)))
  have HEB3 := Lib.hid (HEB2.out.set 1 (.int .i64 ((m : Int) + 1)))
  clear hlo
  go_wp2
  obtain ⟨w3, hw3⟩ : ∃ w3, w3 = w2.setCell ⟨eb, 1, none⟩ (.int .i64 ((m : Int) + 1)) := ⟨_, rfl⟩
  rw [← hw3] at HM3 HEB3 ⊢
  clear hw3 e2 e1 g1 g1f
  have HM3 := Lib.hid HM3.out.drew
  have HEB3 := Lib.hid (HEB3.out.drew)
  have e1 := HM3.out.cells.2.1
  have g0 := HEB3.out.cell_ (i := 0) rfl
  have g1 := HEB3.out.cell_ (i := 1) rfl
  go_still_tail 6, (by kernel_rfl)
  go_wp2_with (at_mapUpdate; refine wpList_put_map rfl (.tmp 41) (.tmp 42) (.tmp 43) rfl gm E rfl HM3.out.map k v0 ((m : Int) + 1) rfl rfl ?_; intro w4 hm4 hg4 hs4; have HM4 := Lib.hid (HM3.out.setMap hm4 hg4); have HEB4 := Lib.hid (HEB3.out.grown hg4 (by intro e; injection e with e; exact HM3.out.map.ne HEB3.out e.symm)); clear hm4 hg4 hs4 e1 g0 g1)
  have HM5 := Lib.hid (HM4.out.alloc (.cells #[.int .i64 k] 3))
  have HEB5 := Lib.hid (HEB4.out.alloc (.cells #[.int .i64 k] 3))
  refine (down_any b gm slots ((m : Int) + 1) p bv m s.text [103] (some ⟨w4.heap.size, 0, none⟩) 1 1 [k] _ HM5.out.top HM5.out.hp HM5.out.txt HM5.out.tab rfl (one_in w4 k) (by intro x hx; simp at hx; subst hx; omega) (by omega) rfl htext (by omega) (by omega)).mono ?_
  rintro e w6 ⟨bv', rfl, hb6, ho6, hk6, hl6⟩
  rw [foldW_get] at ho6
  have HB6 := Lib.hid hb6; have HO6 := Lib.hid ho6; have HK6 := Lib.hid hk6; have HL6 := Lib.hid hl6
  have hgm6 : w6.heap[gm]? = (w4.alloc (.cells #[.int .i64 k] 3)).heap[gm]? := hk6.block gm HM5.out.map.lt (by
    have h1 := HM5.out.map.ne HM5.out.top
    have h2 := HM5.out.map.ne_own HM5.out.txt
    intro hm
    rcases List.mem_cons.1 hm with hm | hm
    · exact h1 hm
    · cases e : bv.ownBlock with
      | none => rw [e] at hm; simp at hm
      | some z => rw [e] at hm h2; simp at hm; rw [hm] at h2; exact h2 rfl)
  have HM6 := Lib.hid (HM5.out.map.keep hgm6)
  have hb6' : Blk w6 eb 86 [.int .i64 v0, .int .i64 ((m : Int) + 1)] := HEB5.out.keep hk6 (by
    intro hm
    rcases List.mem_cons.1 hm with hm | hm
    · exact HM5.out.top.ne HEB5.out (by decide) hm.symm
    · cases e : bv.ownBlock with
      | none => rw [e] at hm; simp at hm
      | some z => rw [e] at hm; simp at hm; exact HM5.out.txt.ne HEB5.out (by decide) (by rw [e, hm]))
  have z0 := hb6'.cell_ (i := 0) rfl
  clear hb6 ho6 hk6 hl6 hgm6 hb6'
  go_wp2
  go_ret2
  have hmc : ((s.many + 1 : Nat) : Int) = (m : Int) + 1 := by rw [HMM.out]; simp
  have hsz : w.heap.size ≤ w6.heap.size := Nat.le_trans HM5.out.keep.size HK6.out.size
  have hfin := H.out.getB (k := k) (w' := w6) (bv' := bv') HE.out (by rw [hmc]; exact HB6.out) (by rw [hmc, HV.out]; exact HM6.out) HO6.out hsz (fun x hx => by
    rcases HL6.out x hx with h1 | h1
    · exact .inl h1
    · exact .inr (Nat.le_trans HM5.out.keep.size h1))
  have hfin2 : BookAt O w6 b slots (getS s k) := ⟨gm, _, _, _, by unfold getS; rw [if_pos HE.out]; exact hfin⟩
  refine ⟨?_, hfin2, (HM5.out.keep.toP ?_).trans (HK6.out.toP ?_)⟩
  · unfold getV; rw [HE.out, if_pos rfl, HV.out]; rfl
  · intro x hx
    simp at hx
    rcases hx with rfl | rfl
    · exact H.out.ob
    · exact H.out.og
  · intro x hx
    rcases List.mem_cons.1 hx with rfl | hx
    · exact H.out.ob
    · cases e : bv.ownBlock with
      | none => rw [e] at hx; simp at hx
      | some z => rw [e] at hx; simp at hx; rw [hx]; exact H.out.ov z e
theorem get_any {O : Nat → Prop} (b slots : Nat) (s : Bk) (k : Int) (w : World) (h : BookAt O w b slots s) (ht : Tab w) :
    Calls Tryz.prog 37 #[.pointer (some ⟨b, 0, none⟩), .int .i64 k] w (GetPost O w b slots s k) := by
  obtain ⟨gm, E, p, bv, h⟩ := h
  by_cases hx : ∃ q ∈ E, q.1 = k
  · obtain ⟨⟨k', v0, t0⟩, hq, rfl⟩ := hx
    by_cases hm : s.many = 60
    · exact get_log b slots gm E p bv s _ v0 t0 w h hq hm
    · exact get_some b slots gm E p bv s _ v0 t0 w h hq hm ht
  · exact get_none b slots gm E p bv s k w h (fun q hq e => hx ⟨q, hq, e⟩)
end Go.Proofs.YticckfioggeaeaaGreatDoor
