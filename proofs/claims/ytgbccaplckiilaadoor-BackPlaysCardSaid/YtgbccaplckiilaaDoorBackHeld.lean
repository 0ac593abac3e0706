/-
  back: Held, by its contract.
-/
import Derived.Test.YtgbccaplckiilaaDoorBackDisk
import Derived.Deep.AppendLies
import Derived.Deep.RegionLaw
import Derived.BigRegion
namespace Go.Proofs.YtgbccaplckiilaaDoor
open Go.RowKit

def bools (l : List Bool) : List Value := l.map Value.bool
def OwnBools (w : World) (base : Nat) (v : Value) (l : List Bool) : Prop := w.ownsRow base 4 1 v l.length (bools l)
theorem info_bool : (Tryd.prog.info? 4).map (fun i => (i.zero, i.size, i.bytes)) = some (some (.bool false), 1, 1) := by kernel_rfl
theorem OwnBools.keep {w w' : World} {base : Nat} {v : Value} {l : List Bool} (h : OwnBools w base v l) (hk : ∀ g, v.ownBlock = some g → w'.heap[g]? = w.heap[g]?) : OwnBools w' base v l := by
  obtain ⟨hl, h2⟩ := h
  refine ⟨hl, ?_⟩
  rcases h2 with h2 | ⟨g, cap, cur, e, hb, hh, r⟩
  · exact .inl h2
  · exact .inr ⟨g, cap, cur, e, hb, (hk g (by rw [e]; rfl)).trans hh, r⟩

theorem keepNew {wr p1 w1 : World} {v : Value} (hg : p1.grownBy w1 v.ownBlock) (hl : ∀ g, v.ownBlock = some g → g < wr.heap.size) : ∀ (p : Addr) (u : Value), wr.heap.size ≤ p.block → p1.cell? p = some u → w1.cell? p = some u := fun p u h1 h2 =>
  (hg.cell_far p (World.block_lt_of_cell? p1 p h2) (fun e => by have := hl _ e.symm; omega)).trans h2
theorem keepOwn {wr p1 w1 : World} {v vO : Value} (hk : Keep [] wr p1) (hg : p1.grownBy w1 v.ownBlock) (hne : ∀ g, v.ownBlock = some g → vO.ownBlock = some g → False) (hl : ∀ g, vO.ownBlock = some g → g < wr.heap.size) :
    ∀ wx : World, Keep [] w1 wx → ∀ g, vO.ownBlock = some g → wx.heap[g]? = wr.heap[g]? := fun wx hx g h => by
  have h1 := hl g h
  have h2 := hk.size
  have h3 := hg.size
  exact (hx.block g (by omega) (by simp)).trans ((hg.block g (by omega) (fun e => hne g e.symm h)).trans (hk.block g h1 (by simp)))

theorem cellA {w : World} {o : Obj} {p : Addr} {v : Value} (h : w.cell? p = some v) : (w.alloc o).cell? p = some v :=
  (World.cell?_alloc_lt _ _ _ (World.block_lt_of_cell? w p h)).trans h
theorem cellD {w : World} {p : Addr} {v : Value} (h : w.cell? p = some v) : w.drew.cell? p = some v := h
theorem cellNew {w : World} {n : Nat} (h : w.heap.size = n) (v : Value) (t : TypeId) : (w.alloc (.cells #[v] t)).cell? ⟨n, 0, none⟩ = some v := by
  subst h; exact (Blk.new w t [v]).cell_ (i := 0) rfl
theorem news1 {w : World} {b : Nat} {v : Value} (h : w.cell? ⟨b, 0, none⟩ = some v) : ∀ j u, [v][j]? = some u → w.cell? ((⟨b, 0, none⟩ : Addr).add j) = some u := fun j u hu => by
  match j, hu with
  | 0, hu => simp at hu; subst hu; rw [add_addr]; exact h
theorem first_below {w wr p1 wX : World} {v : Value} (hb : Below w.heap.size w wr) (hk : Keep [] wr p1) (hg : p1.grownBy wX v.ownBlock) (hge : ∀ g, v.ownBlock = some g → w.heap.size ≤ g) : Below w.heap.size w wX :=
  hb.trans (((hk.mono (G := v.ownBlock.toList) (by simp)).grown hg (fun g h _ => by rw [h]; simp)).below hb.size (fun x hx => by cases e : v.ownBlock with | none => (rw [e] at hx; cases hx) | some y => (rw [e] at hx; simp at hx; subst hx; exact hge _ e)))
theorem first_lies {wr p1 : World} {v : Value} {g : Nat} (hk : Keep [] wr p1) (h : v.ownBlock = some g ∨ g = p1.heap.size) : v.ownBlock = some g ∨ wr.heap.size ≤ g :=
  h.imp id (fun e => by have := hk.size; omega)
theorem second_own {wr wO p2 wX : World} {base n gO cO gX : Nat} {vO vX : Value} {eO : TypeId} {ys : List Value} (hO : wO.ownsRow base eO 1 (.slice (some ⟨gO, 0, none⟩) n cO) n ys) (hlO : vO.ownBlock = some gO ∨ wr.heap.size ≤ gO) (hlt : gO < wO.heap.size)
    (hne : ∀ g, vX.ownBlock = some g → vO.ownBlock = some g → False) (hlX : ∀ g, vX.ownBlock = some g → g < wr.heap.size) (hk : Keep [] wO p2) (hg : p2.grownBy wX vX.ownBlock) (hl : vX.ownBlock = some gX ∨ gX = p2.heap.size) :
    wX.ownsRow base eO 1 (.slice (some ⟨gO, 0, none⟩) n cO) n ys ∧ gO ≠ gX := by
  have hsz := hk.size
  have hX : vX.ownBlock ≠ some gO := fun e => by
    rcases hlO with h | h
    · exact hne _ e h
    · have := hlX _ e; omega
  have hb : wX.heap[gO]? = wO.heap[gO]? := (hg.block gO (by omega) (fun e => hX e.symm)).trans (hk.block gO hlt (by simp))
  refine ⟨?_, fun e => ?_⟩
  · obtain ⟨hl0, h2⟩ := hO
    refine ⟨hl0, ?_⟩
    rcases h2 with h2 | ⟨g, cap, cur, e, hb2, hh, r⟩
    · exact .inl h2
    · have : g = gO := by injection e with e1 _ _; injection e1 with e1; injection e1 with e1; exact e1.symm
      subst this
      exact .inr ⟨g, cap, cur, e, hb2, hb.trans hh, r⟩
  · subst e
    rcases hl with h | h
    · exact hX h
    · omega

def HdRel (w : World) (L : List Fr) (n : Nat) (a b i : Value) (wr : World) : Prop :=
  ∃ (k : Nat) (vA vB : Value), k ≤ n ∧ i = .int .i64 k ∧ vA = a ∧ vB = b ∧ OwnInts wr w.heap.size vA ((L.take k).map (·.1)) ∧ OwnBools wr w.heap.size vB ((L.take k).map (·.2.2)) ∧ (∀ g, vA.ownBlock = some g → vB.ownBlock = some g → False) ∧ Below w.heap.size w wr
def HdPost (w : World) (L : List Fr) (e : Ending) (w' : World) : Prop :=
  ∃ vA vB, e = .returned (.tuple #[vA, vB]) ∧ OwnInts w' w.heap.size vA (L.map (·.1)) ∧ OwnBools w' w.heap.size vB (L.map (·.2.2)) ∧ Below w.heap.size w w'

set_option maxHeartbeats 2000000 in
set_option maxRecDepth 100000 in
theorem bHeld_any (b slots : Nat) (v : Value) (s : BSt) (w : World) (h : BAt w b v slots s) (hle : s.fr.length ≤ 8) :
    Calls Tryd.prog 15 #[.pointer (some ⟨b, 0, none⟩)] w (HdPost w s.fr) := by
  obtain ⟨a, g, cap, hv, hag, hg, hkin, hmore⟩ := h.fr.view b h.top.lt
  obtain ⟨n, hn⟩ : ∃ n, n = s.fr.length := ⟨_, rfl⟩
  rw [← hn] at hv hag hmore hle
  subst hv
  have hx8 := h.top.cell_ (ctop_rest h.dl).1
  have H := Lib.hid h; have HN := Lib.hid hn; have HAG := Lib.hid hag; have HKIN := Lib.hid hkin
  clear h hn hag hkin hmore
  go_enter Tryd.func15, Tryd.ntmps15
  go_wp2
  go_loopw [2, 3, 5, 11] (fun vA vB _ i wr => HdRel w s.fr n vA vB i wr) (fun _ _ _ i _ => n - (intOf i).toNat)
  case atStart => exact ⟨0, _, _, Nat.zero_le _, rfl, rfl, rfl, OwnInts.nil _ _, World.ownsRow_nil _ _ _ _, fun g h => (by cases h), Below.refl _ _⟩
  case round =>
    obtain ⟨k, vA, vB, hk, rfl, rfl, rfl, hA, hB, hne, hbel⟩ := hrel
    by_cases hlt : k < n
    · obtain rfl := HAG.out (by omega)
      have hkl : k < s.fr.length := by rw [← HN.out]; exact hlt
      obtain ⟨x, hx⟩ : ∃ x, x = s.fr[k] := ⟨_, rfl⟩
      have hxg : s.fr[k]? = some x := by rw [hx]; exact List.getElem?_eq_getElem hkl
      obtain ⟨hc0, hc1, hc2⟩ := HKIN.out k x hxg
      have hd0 := (hbel.cell (p := ⟨g, k * 3, none⟩) hg).trans hc0
      have hd1 := (hbel.cell (p := ⟨g, k * 3 + 1, none⟩) hg).trans hc1
      have hd2 := (hbel.cell (p := ⟨g, k * 3 + 2, none⟩) hg).trans hc2
      have HA := Lib.hid hA; have HB := Lib.hid hB; have HNE := Lib.hid hne; have HBEL := Lib.hid hbel; have HX := Lib.hid hxg
      clear hA hB hne hbel hx hxg hc0 hc1 hc2 hx8
      have hki : (k : Int) < (n : Int) := by omega
      have hk0 : (0 : Int) ≤ (k : Int) := by omega
      have hlA : ∀ g, vA.ownBlock = some g → g < wr.heap.size := fun g hg => (World.ownsRow.lt HA.out g hg).2
      have hlB : ∀ g, vB.ownBlock = some g → g < wr.heap.size := fun g hg => (World.ownsRow.lt HB.out g hg).2
      have ekA : ((s.fr.take k).map (·.1)).length = k := by simp; omega
      have ekB : ((s.fr.take k).map (·.2.2)).length = k := by simp; omega
      have hkA3 : ∀ wx : World, (∀ g, vA.ownBlock = some g → wx.heap[g]? = wr.heap[g]?) → World.ownsRow wx w.heap.size 3 1 vA k (ints ((s.fr.take k).map (·.1))) := fun wx hk => by have := HA.out.keep hk; unfold OwnInts at this; rwa [ekA] at this
      have hkB3 : ∀ wx : World, (∀ g, vB.ownBlock = some g → wx.heap[g]? = wr.heap[g]?) → World.ownsRow wx w.heap.size 4 1 vB k (bools ((s.fr.take k).map (·.2.2))) := fun wx hk => by have := HB.out.keep hk; unfold OwnBools at this; rwa [ekB] at this
      have HLA := Lib.hid hlA; have HLB := Lib.hid hlB; have HKA3 := Lib.hid hkA3; have HKB3 := Lib.hid hkB3
      have HKA : Hid (∀ wx : World, Keep [] wr wx → World.ownsRow wx w.heap.size 3 1 vA k (ints ((s.fr.take k).map (·.1)))) := Lib.hid fun wx hk => hkA3 wx fun g hg => hk.block g (hlA g hg) (by simp)
      have HKB : Hid (∀ wx : World, Keep [] wr wx → World.ownsRow wx w.heap.size 4 1 vB k (bools ((s.fr.take k).map (·.2.2)))) := Lib.hid fun wx hk => hkB3 wx fun g hg => hk.block g (hlB g hg) (by simp)
      have HNEA : Hid (∀ g, vA.ownBlock = some g → vB.ownBlock = some g → False) := Lib.hid HNE.out
      have HNEB : Hid (∀ g, vB.ownBlock = some g → vA.ownBlock = some g → False) := Lib.hid fun g h1 h2 => HNE.out g h2 h1
      have HGEA : Hid (∀ g, vA.ownBlock = some g → w.heap.size ≤ g) := Lib.hid fun g hg => (World.ownsRow.lt HA.out g hg).1
      have HGEB : Hid (∀ g, vB.ownBlock = some g → w.heap.size ≤ g) := Lib.hid fun g hg => (World.ownsRow.lt HB.out g hg).1
      have HF0 : Hid (((wr.alloc (.cells #[.int .i64 x.1, .int .i64 x.2.1, .bool x.2.2] 59))).cell? ⟨wr.heap.size, 0, none⟩ = some (.int .i64 x.1)) := Lib.hid ((Blk.new wr 59 (fr3 x)).cell_ (i := 0) rfl)
      have HF2 : Hid (((wr.alloc (.cells #[.int .i64 x.1, .int .i64 x.2.1, .bool x.2.2] 59))).cell? ⟨wr.heap.size, 2, none⟩ = some (.bool x.2.2)) := Lib.hid ((Blk.new wr 59 (fr3 x)).cell_ (i := 2) rfl)
      clear hlA hlB hkA3 hkB3 ekA ekB
      obtain ⟨iA, hiA, hzA0, hzA1, hzA2⟩ := info_parts info_int
      obtain ⟨iB, hiB, hzB0, hzB1, hzB2⟩ := info_parts info_bool
      go_wp2
      go_region_law (first
        | (refine step_append_lies _ rfl (.tmp 15) (.tmp 18) 30 rfl w.heap.size 3 iA (.int .i64 0) 1 8 Tryd.underlying30 hiA hzA0 hzA1 hzA2 rfl (by decide) vA k (ints ((s.fr.take k).map (·.1))) rfl (HKA2.out _ ((Keep.refl [] wB).alloc _)) _ 1 1 [.int .i64 x.1] rfl rfl (news1 (cellNew (n := wB.heap.size) rfl _ _)) (by intro u hu; simp at hu; subst hu; rfl) (by decide) (by unfold maxLen; omega) (by omega) (Nat.le_trans HBWB.out.size ((Keep.refl [] wB).alloc _).size) _ rfl ?_; intro gA cA wA hownA hgrowA hliesA hltA; have HBWA := Lib.hid (first_below HBWB.out ((Keep.refl [] wB).alloc _) hgrowA HGEA.out); have HFINB := Lib.hid (second_own HOB.out HLIB.out HLTB.out HNEA.out HLA.out ((Keep.refl [] wB).alloc _) hgrowA hliesA); have HOA := Lib.hid hownA; clear hownA hgrowA hliesA hltA)
        | (refine step_append_lies _ rfl (.tmp 15) (.tmp 18) 30 rfl w.heap.size 3 iA (.int .i64 0) 1 8 Tryd.underlying30 hiA hzA0 hzA1 hzA2 rfl (by decide) vA k (ints ((s.fr.take k).map (·.1))) rfl (HKA2.out _ (Keep.refl [] wB)) _ 1 1 [.int .i64 x.1] rfl rfl (news1 (HNA.out)) (by intro u hu; simp at hu; subst hu; rfl) (by decide) (by unfold maxLen; omega) (by omega) (Nat.le_trans HBWB.out.size (Keep.refl [] wB).size) _ rfl ?_; intro gA cA wA hownA hgrowA hliesA hltA; have HBWA := Lib.hid (first_below HBWB.out (Keep.refl [] wB) hgrowA HGEA.out); have HFINB := Lib.hid (second_own HOB.out HLIB.out HLTB.out HNEA.out HLA.out (Keep.refl [] wB) hgrowA hliesA); have HOA := Lib.hid hownA; clear hownA hgrowA hliesA hltA)
        | (refine step_append_lies _ rfl (.tmp 15) (.tmp 18) 30 rfl w.heap.size 3 iA (.int .i64 0) 1 8 Tryd.underlying30 hiA hzA0 hzA1 hzA2 rfl (by decide) vA k (ints ((s.fr.take k).map (·.1))) rfl (HKA.out _ ((((Keep.refl [] wr).alloc _).alloc _).drew)) _ 1 1 [.int .i64 x.1] rfl rfl (news1 (cellD (cellNew (n := wr.heap.size + 1) (by simp) _ _))) (by intro u hu; simp at hu; subst hu; rfl) (by decide) (by unfold maxLen; omega) (by omega) (Nat.le_trans HBEL.out.size ((((Keep.refl [] wr).alloc _).alloc _).drew).size) _ rfl ?_; intro gA cA wA hownA hgrowA hliesA hltA; have HBWA := Lib.hid (first_below HBEL.out ((((Keep.refl [] wr).alloc _).alloc _).drew) hgrowA HGEA.out); have HCA := Lib.hid (keepNew hgrowA HLA.out); have hf0A : wA.cell? ⟨wr.heap.size, 0, none⟩ = some (.int .i64 x.1) := HCA.out _ _ (Nat.le_refl _) (cellD (cellA HF0.out)); have hf2A : wA.cell? ⟨wr.heap.size, 2, none⟩ = some (.bool x.2.2) := HCA.out _ _ (Nat.le_refl _) (cellD (cellA HF2.out)); have HKB2 : Hid (∀ wx : World, Keep [] wA wx → World.ownsRow wx w.heap.size 4 1 vB k (bools ((s.fr.take k).map (·.2.2)))) := Lib.hid (fun wx hk => HKB3.out _ (keepOwn ((((Keep.refl [] wr).alloc _).alloc _).drew) hgrowA HNEA.out HLB.out wx hk)); have HOA := Lib.hid hownA; have HLIA := Lib.hid (first_lies ((((Keep.refl [] wr).alloc _).alloc _).drew) hliesA); have HLTA := Lib.hid hltA; clear hownA hgrowA hliesA hltA)
        | (refine step_append_lies _ rfl (.tmp 15) (.tmp 18) 30 rfl w.heap.size 3 iA (.int .i64 0) 1 8 Tryd.underlying30 hiA hzA0 hzA1 hzA2 rfl (by decide) vA k (ints ((s.fr.take k).map (·.1))) rfl (HKA.out _ (((((Keep.refl [] wr).alloc _).alloc _).alloc _).drew)) _ 1 1 [.int .i64 x.1] rfl rfl (news1 (cellD (cellA (cellNew (n := wr.heap.size + 1) (by simp) _ _)))) (by intro u hu; simp at hu; subst hu; rfl) (by decide) (by unfold maxLen; omega) (by omega) (Nat.le_trans HBEL.out.size (((((Keep.refl [] wr).alloc _).alloc _).alloc _).drew).size) _ rfl ?_; intro gA cA wA hownA hgrowA hliesA hltA; have HBWA := Lib.hid (first_below HBEL.out (((((Keep.refl [] wr).alloc _).alloc _).alloc _).drew) hgrowA HGEA.out); have HCA := Lib.hid (keepNew hgrowA HLA.out); have hf0A : wA.cell? ⟨wr.heap.size, 0, none⟩ = some (.int .i64 x.1) := HCA.out _ _ (Nat.le_refl _) (cellD (cellA (cellA HF0.out))); have hf2A : wA.cell? ⟨wr.heap.size, 2, none⟩ = some (.bool x.2.2) := HCA.out _ _ (Nat.le_refl _) (cellD (cellA (cellA HF2.out))); have HNB := Lib.hid (HCA.out _ _ (by simp) (cellD (cellNew (n := wr.heap.size + 2) (by simp) _ _) : World.cell? _ _ = some (.bool x.2.2))); have HKB2 : Hid (∀ wx : World, Keep [] wA wx → World.ownsRow wx w.heap.size 4 1 vB k (bools ((s.fr.take k).map (·.2.2)))) := Lib.hid (fun wx hk => HKB3.out _ (keepOwn (((((Keep.refl [] wr).alloc _).alloc _).alloc _).drew) hgrowA HNEA.out HLB.out wx hk)); have HOA := Lib.hid hownA; have HLIA := Lib.hid (first_lies (((((Keep.refl [] wr).alloc _).alloc _).alloc _).drew) hliesA); have HLTA := Lib.hid hltA; clear hownA hgrowA hliesA hltA)
        | (refine step_append_lies _ rfl (.tmp 15) (.tmp 18) 30 rfl w.heap.size 3 iA (.int .i64 0) 1 8 Tryd.underlying30 hiA hzA0 hzA1 hzA2 rfl (by decide) vA k (ints ((s.fr.take k).map (·.1))) rfl (HKA.out _ (((((Keep.refl [] wr).alloc _).alloc _).alloc _).drew)) _ 1 1 [.int .i64 x.1] rfl rfl (news1 (cellD (cellNew (n := wr.heap.size + 2) (by simp) _ _))) (by intro u hu; simp at hu; subst hu; rfl) (by decide) (by unfold maxLen; omega) (by omega) (Nat.le_trans HBEL.out.size (((((Keep.refl [] wr).alloc _).alloc _).alloc _).drew).size) _ rfl ?_; intro gA cA wA hownA hgrowA hliesA hltA; have HBWA := Lib.hid (first_below HBEL.out (((((Keep.refl [] wr).alloc _).alloc _).alloc _).drew) hgrowA HGEA.out); have HCA := Lib.hid (keepNew hgrowA HLA.out); have hf0A : wA.cell? ⟨wr.heap.size, 0, none⟩ = some (.int .i64 x.1) := HCA.out _ _ (Nat.le_refl _) (cellD (cellA (cellA HF0.out))); have hf2A : wA.cell? ⟨wr.heap.size, 2, none⟩ = some (.bool x.2.2) := HCA.out _ _ (Nat.le_refl _) (cellD (cellA (cellA HF2.out))); have HNB := Lib.hid (HCA.out _ _ (by simp) (cellD (cellA (cellNew (n := wr.heap.size + 1) (by simp) _ _)) : World.cell? _ _ = some (.bool x.2.2))); have HKB2 : Hid (∀ wx : World, Keep [] wA wx → World.ownsRow wx w.heap.size 4 1 vB k (bools ((s.fr.take k).map (·.2.2)))) := Lib.hid (fun wx hk => HKB3.out _ (keepOwn (((((Keep.refl [] wr).alloc _).alloc _).alloc _).drew) hgrowA HNEA.out HLB.out wx hk)); have HOA := Lib.hid hownA; have HLIA := Lib.hid (first_lies (((((Keep.refl [] wr).alloc _).alloc _).alloc _).drew) hliesA); have HLTA := Lib.hid hltA; clear hownA hgrowA hliesA hltA)
        | (refine step_append_lies _ rfl (.tmp 20) (.tmp 23) 40 rfl w.heap.size 4 iB (.bool false) 1 1 Tryd.underlying40 hiB hzB0 hzB1 hzB2 rfl (by decide) vB k (bools ((s.fr.take k).map (·.2.2))) rfl (HKB2.out _ ((Keep.refl [] wA).alloc _)) _ 1 1 [.bool x.2.2] rfl rfl (news1 (cellNew (n := wA.heap.size) rfl _ _)) (by intro u hu; simp at hu; subst hu; rfl) (by decide) (by unfold maxLen; omega) (by omega) (Nat.le_trans HBWA.out.size ((Keep.refl [] wA).alloc _).size) _ rfl ?_; intro gB cB wB hownB hgrowB hliesB hltB; have HBWB := Lib.hid (first_below HBWA.out ((Keep.refl [] wA).alloc _) hgrowB HGEB.out); have HFINA := Lib.hid (second_own HOA.out HLIA.out HLTA.out HNEB.out HLB.out ((Keep.refl [] wA).alloc _) hgrowB hliesB); have HOB := Lib.hid hownB; clear hownB hgrowB hliesB hltB)
        | (refine step_append_lies _ rfl (.tmp 20) (.tmp 23) 40 rfl w.heap.size 4 iB (.bool false) 1 1 Tryd.underlying40 hiB hzB0 hzB1 hzB2 rfl (by decide) vB k (bools ((s.fr.take k).map (·.2.2))) rfl (HKB2.out _ (Keep.refl [] wA)) _ 1 1 [.bool x.2.2] rfl rfl (news1 (HNB.out)) (by intro u hu; simp at hu; subst hu; rfl) (by decide) (by unfold maxLen; omega) (by omega) (Nat.le_trans HBWA.out.size (Keep.refl [] wA).size) _ rfl ?_; intro gB cB wB hownB hgrowB hliesB hltB; have HBWB := Lib.hid (first_below HBWA.out (Keep.refl [] wA) hgrowB HGEB.out); have HFINA := Lib.hid (second_own HOA.out HLIA.out HLTA.out HNEB.out HLB.out (Keep.refl [] wA) hgrowB hliesB); have HOB := Lib.hid hownB; clear hownB hgrowB hliesB hltB)
        | (refine step_append_lies _ rfl (.tmp 20) (.tmp 23) 40 rfl w.heap.size 4 iB (.bool false) 1 1 Tryd.underlying40 hiB hzB0 hzB1 hzB2 rfl (by decide) vB k (bools ((s.fr.take k).map (·.2.2))) rfl (HKB.out _ ((((Keep.refl [] wr).alloc _).alloc _).drew)) _ 1 1 [.bool x.2.2] rfl rfl (news1 (cellD (cellNew (n := wr.heap.size + 1) (by simp) _ _))) (by intro u hu; simp at hu; subst hu; rfl) (by decide) (by unfold maxLen; omega) (by omega) (Nat.le_trans HBEL.out.size ((((Keep.refl [] wr).alloc _).alloc _).drew).size) _ rfl ?_; intro gB cB wB hownB hgrowB hliesB hltB; have HBWB := Lib.hid (first_below HBEL.out ((((Keep.refl [] wr).alloc _).alloc _).drew) hgrowB HGEB.out); have HCB := Lib.hid (keepNew hgrowB HLB.out); have hf0B : wB.cell? ⟨wr.heap.size, 0, none⟩ = some (.int .i64 x.1) := HCB.out _ _ (Nat.le_refl _) (cellD (cellA HF0.out)); have hf2B : wB.cell? ⟨wr.heap.size, 2, none⟩ = some (.bool x.2.2) := HCB.out _ _ (Nat.le_refl _) (cellD (cellA HF2.out)); have HKA2 : Hid (∀ wx : World, Keep [] wB wx → World.ownsRow wx w.heap.size 3 1 vA k (ints ((s.fr.take k).map (·.1)))) := Lib.hid (fun wx hk => HKA3.out _ (keepOwn ((((Keep.refl [] wr).alloc _).alloc _).drew) hgrowB HNEB.out HLA.out wx hk)); have HOB := Lib.hid hownB; have HLIB := Lib.hid (first_lies ((((Keep.refl [] wr).alloc _).alloc _).drew) hliesB); have HLTB := Lib.hid hltB; clear hownB hgrowB hliesB hltB)
        | (refine step_append_lies _ rfl (.tmp 20) (.tmp 23) 40 rfl w.heap.size 4 iB (.bool false) 1 1 Tryd.underlying40 hiB hzB0 hzB1 hzB2 rfl (by decide) vB k (bools ((s.fr.take k).map (·.2.2))) rfl (HKB.out _ (((((Keep.refl [] wr).alloc _).alloc _).alloc _).drew)) _ 1 1 [.bool x.2.2] rfl rfl (news1 (cellD (cellA (cellNew (n := wr.heap.size + 1) (by simp) _ _)))) (by intro u hu; simp at hu; subst hu; rfl) (by decide) (by unfold maxLen; omega) (by omega) (Nat.le_trans HBEL.out.size (((((Keep.refl [] wr).alloc _).alloc _).alloc _).drew).size) _ rfl ?_; intro gB cB wB hownB hgrowB hliesB hltB; have HBWB := Lib.hid (first_below HBEL.out (((((Keep.refl [] wr).alloc _).alloc _).alloc _).drew) hgrowB HGEB.out); have HCB := Lib.hid (keepNew hgrowB HLB.out); have hf0B : wB.cell? ⟨wr.heap.size, 0, none⟩ = some (.int .i64 x.1) := HCB.out _ _ (Nat.le_refl _) (cellD (cellA (cellA HF0.out))); have hf2B : wB.cell? ⟨wr.heap.size, 2, none⟩ = some (.bool x.2.2) := HCB.out _ _ (Nat.le_refl _) (cellD (cellA (cellA HF2.out))); have HNA := Lib.hid (HCB.out _ _ (by simp) (cellD (cellNew (n := wr.heap.size + 2) (by simp) _ _) : World.cell? _ _ = some (.int .i64 x.1))); have HKA2 : Hid (∀ wx : World, Keep [] wB wx → World.ownsRow wx w.heap.size 3 1 vA k (ints ((s.fr.take k).map (·.1)))) := Lib.hid (fun wx hk => HKA3.out _ (keepOwn (((((Keep.refl [] wr).alloc _).alloc _).alloc _).drew) hgrowB HNEB.out HLA.out wx hk)); have HOB := Lib.hid hownB; have HLIB := Lib.hid (first_lies (((((Keep.refl [] wr).alloc _).alloc _).alloc _).drew) hliesB); have HLTB := Lib.hid hltB; clear hownB hgrowB hliesB hltB)
        | (refine step_append_lies _ rfl (.tmp 20) (.tmp 23) 40 rfl w.heap.size 4 iB (.bool false) 1 1 Tryd.underlying40 hiB hzB0 hzB1 hzB2 rfl (by decide) vB k (bools ((s.fr.take k).map (·.2.2))) rfl (HKB.out _ (((((Keep.refl [] wr).alloc _).alloc _).alloc _).drew)) _ 1 1 [.bool x.2.2] rfl rfl (news1 (cellD (cellNew (n := wr.heap.size + 2) (by simp) _ _))) (by intro u hu; simp at hu; subst hu; rfl) (by decide) (by unfold maxLen; omega) (by omega) (Nat.le_trans HBEL.out.size (((((Keep.refl [] wr).alloc _).alloc _).alloc _).drew).size) _ rfl ?_; intro gB cB wB hownB hgrowB hliesB hltB; have HBWB := Lib.hid (first_below HBEL.out (((((Keep.refl [] wr).alloc _).alloc _).alloc _).drew) hgrowB HGEB.out); have HCB := Lib.hid (keepNew hgrowB HLB.out); have hf0B : wB.cell? ⟨wr.heap.size, 0, none⟩ = some (.int .i64 x.1) := HCB.out _ _ (Nat.le_refl _) (cellD (cellA (cellA HF0.out))); have hf2B : wB.cell? ⟨wr.heap.size, 2, none⟩ = some (.bool x.2.2) := HCB.out _ _ (Nat.le_refl _) (cellD (cellA (cellA HF2.out))); have HNA := Lib.hid (HCB.out _ _ (by simp) (cellD (cellA (cellNew (n := wr.heap.size + 1) (by simp) _ _)) : World.cell? _ _ = some (.int .i64 x.1))); have HKA2 : Hid (∀ wx : World, Keep [] wB wx → World.ownsRow wx w.heap.size 3 1 vA k (ints ((s.fr.take k).map (·.1)))) := Lib.hid (fun wx hk => HKA3.out _ (keepOwn (((((Keep.refl [] wr).alloc _).alloc _).alloc _).drew) hgrowB HNEB.out HLA.out wx hk)); have HOB := Lib.hid hownB; have HLIB := Lib.hid (first_lies (((((Keep.refl [] wr).alloc _).alloc _).alloc _).drew) hliesB); have HLTB := Lib.hid hltB; clear hownB hgrowB hliesB hltB)
        | fail)
      -- behind the region
      all_goals
        go_wp2
        go_roundw
        case rel =>
          have htA : (s.fr.take (k + 1)).map (·.1) = (s.fr.take k).map (·.1) ++ [x.1] := by rw [List.take_add_one, HX.out]; simp
          have htB : (s.fr.take (k + 1)).map (·.2.2) = (s.fr.take k).map (·.2.2) ++ [x.2.2] := by rw [List.take_add_one, HX.out]; simp
          have hkA : ((s.fr.take (k + 1)).map (·.1)).length = k + 1 := by simp; omega
          have hkB : ((s.fr.take (k + 1)).map (·.2.2)).length = k + 1 := by simp; omega
          first
            | exact ⟨k + 1, _, _, hlt, by simp, rfl, rfl, by unfold OwnInts; rw [hkA, htA]; simpa [ints] using HFINA.out.1, by unfold OwnBools; rw [hkB, htB]; simpa [bools] using HOB.out, fun g h1 h2 => by cases h1; cases h2; exact HFINA.out.2 rfl, HBWB.out⟩
            | exact ⟨k + 1, _, _, hlt, by simp, rfl, rfl, by unfold OwnInts; rw [hkA, htA]; simpa [ints] using HOA.out, by unfold OwnBools; rw [hkB, htB]; simpa [bools] using HFINB.out.1, fun g h1 h2 => by cases h1; cases h2; exact HFINB.out.2 rfl, HBWA.out⟩
            | fail
        case measure => simp [intOf]; omega
    · obtain rfl : k = n := by omega
      have HA := Lib.hid hA; have HB := Lib.hid hB; have HBEL := Lib.hid hbel
      clear hA hB hbel hne
      go_wp2
      go_ret2
      have e : s.fr.take k = s.fr := List.take_of_length_le (by rw [← HN.out]; exact Nat.le_refl _)
      have h1 := HA.out; have h2 := HB.out
      rw [e] at h1 h2
      exact ⟨_, _, rfl, h1, h2, HBEL.out⟩
end Go.Proofs.YtgbccaplckiilaaDoor
