/-
  The reference's AddPage: its state in memory.
-/
import Derived.Test.YthldhbcidcmmaaaDoorPageRef
import Derived.Test.YthldhbcidcmmaaaDoorResCell
import Derived.Test.YthldhbcidcmmaaaDoorSplitLaw3
import Derived.Deep.Onto
namespace Go.Proofs.YthldhbcidcmmaaaDoor
open Go.RowKit

def deepL (n : Nat) (deep : Nat → Nat) : List Int := (List.range n).map fun (i : Nat) => (deep i : Int)
def keysL (n : Nat) (S : List Int) (deep : Nat → Nat) : List (List Int) := (List.range n).map fun (i : Nat) => cls S i (deep i)
theorem deepL_len (n : Nat) (deep : Nat → Nat) : (deepL n deep).length = n := by simp [deepL]
theorem keysL_len (n : Nat) (S : List Int) (deep : Nat → Nat) : (keysL n S deep).length = n := by simp [keysL]
theorem deepL_get {n : Nat} {deep : Nat → Nat} {i : Nat} (h : i < n) : (deepL n deep)[i]? = some (deep i : Int) := by simp [deepL, h]
theorem keysL_get {n : Nat} {S : List Int} {deep : Nat → Nat} {i : Nat} (h : i < n) : (keysL n S deep)[i]? = some (cls S i (deep i)) := by simp [keysL, h]
theorem deepL_succ (n : Nat) (deep : Nat → Nat) : deepL (n + 1) deep = deepL n deep ++ [(deep n : Int)] := by simp [deepL, List.range_succ]
theorem keysL_succ (n : Nat) (S : List Int) (deep : Nat → Nat) : keysL (n + 1) S deep = keysL n S deep ++ [cls S n (deep n)] := by simp [keysL, List.range_succ]
theorem twice {α : Type} (f : Nat → α) (n : Nat) (h : ∀ i, i < n → f (n + i) = f i) : (List.range n).map f ++ (List.range n).map f = (List.range (n + n)).map f := by
  rw [List.range_add, List.map_append, List.map_map]
  congr 1
  apply List.map_congr_left
  intro i hi
  rw [List.mem_range] at hi
  exact (h i hi).symm
theorem Dir.fold {S S' : List Int} {D : Nat} {deep : Nat → Nat} (h : Dir S S' D deep) (i : Nat) : deep (2 ^ D + i) = deep i ∧ (((2 ^ D + i : Nat) : Int) % 2 ^ deep i = (i : Int) % 2 ^ deep i) := by
  have e : ((2 ^ D + i : Nat) : Int) % 2 ^ deep i = (i : Int) % 2 ^ deep i := by
    obtain ⟨q, hq⟩ := Nat.exists_eq_add_of_le (h.le i)
    rw [hq, Nat.pow_add]
    push_cast
    rw [Int.add_comm, Int.add_mul_emod_self_left]
  exact ⟨h.same _ _ e, e⟩
theorem deepL_twice {S S' : List Int} {D : Nat} {deep : Nat → Nat} (h : Dir S S' D deep) {n : Nat} (hn : n = 2 ^ D) : deepL n deep ++ deepL n deep = deepL (n + n) deep := by
  unfold deepL
  exact twice _ n fun i _ => by simp only [hn, (h.fold i).1]
theorem keysL_twice {S S' : List Int} {D : Nat} {deep : Nat → Nat} (h : Dir S S' D deep) {n : Nat} (hn : n = 2 ^ D) : keysL n S deep ++ keysL n S deep = keysL (n + n) S deep := by
  unfold keysL
  exact twice _ n fun i _ => by simp only [hn, (h.fold i).1]; exact cls_congr (h.fold i).2

/-- Pages by value. -/
structure PgV (w : World) (n : Nat) (S : List Int) (deep : Nat → Nat) (bD cD bK cK : Nat) (vals : List Value) : Prop where
  d : OwnInts w 0 (.slice (some ⟨bD, 0, none⟩) n cD) (deepL n deep)
  k : OwnV w 0 (.slice (some ⟨bK, 0, none⟩) n cK) vals
  r : ValsOf w vals (keysL n S deep)
section
variable {w w' : World} {n : Nat} {S : List Int} {deep : Nat → Nat} {bD cD bK cK : Nat} {vals : List Value}
theorem OwnV.keep {base : Nat} {v : Value} (h : OwnV w base v vals) (hk : ∀ g, v.ownBlock = some g → w'.heap[g]? = w.heap[g]?) : OwnV w' base v vals := by
  obtain ⟨hl, h2⟩ := h
  refine ⟨hl, ?_⟩
  rcases h2 with h2 | ⟨g, cap, cur, e, hb, hh, r⟩
  · exact .inl h2
  · exact .inr ⟨g, cap, cur, e, hb, (hk g (by rw [e]; rfl)).trans hh, r⟩
theorem OwnV.low {base : Nat} {v : Value} (h : OwnV w base v vals) : OwnV w 0 v vals := h.mono (Nat.zero_le _)
theorem PgV.keep (h : PgV w n S deep bD cD bK cK vals) (hk : ∀ g t cs, Blk w g t cs → (t = 3 ∨ t = 22) → w'.heap[g]? = w.heap[g]?) : PgV w' n S deep bD cD bK cK vals := by
  have hi : ∀ {v : Value} {l : List Int}, OwnInts w 0 v l → OwnInts w' 0 v l := fun {v l} ho => ho.keep fun g hg => by
    rcases ho.2 with ⟨rfl, _⟩ | ⟨g', cap, cur, rfl, _, hh, _⟩
    · simp [Value.ownBlock] at hg
    · obtain rfl : g' = g := by simpa [Value.ownBlock] using hg
      exact hk g' 3 cur.toList (by unfold Blk; simpa using hh) (.inl rfl)
  refine ⟨hi h.d, h.k.keep fun g hg => ?_, h.r.1, fun i xs hx => ?_⟩
  · rcases h.k.2 with ⟨e, _⟩ | ⟨g', cap, cur, e, _, hh, _⟩
    · rw [e] at hg; simp [Value.ownBlock] at hg
    · rw [e] at hg
      obtain rfl : g' = g := by simpa [Value.ownBlock] using hg
      exact hk g' 22 cur.toList (by unfold Blk; simpa using hh) (.inr rfl)
  · obtain ⟨v, h1, h2⟩ := h.r.2 i xs hx
    exact ⟨v, h1, hi h2⟩
theorem PgV.bel (h : PgV w n S deep bD cD bK cK vals) (hb : Below w.heap.size w w') : PgV w' n S deep bD cD bK cK vals := h.keep fun g _ _ hg _ => hb.block g hg.lt
theorem PgV.blk (h : PgV w n S deep bD cD bK cK vals) {b : Nat} {t : TypeId} {cs : List Value} (hb : Blk w b t cs) (h1 : t ≠ 3) (h2 : t ≠ 22) (hk : ∀ g, g < w.heap.size → g ≠ b → w'.heap[g]? = w.heap[g]?) : PgV w' n S deep bD cD bK cK vals :=
  h.keep fun g t' cs' hg ht => hk g hg.lt (hg.ne hb (by rcases ht with rfl | rfl <;> exact fun e => by first | exact h1 e.symm | exact h2 e.symm))
theorem PgV.at_ (h : PgV w n S deep bD cD bK cK vals) {i : Nat} (hi : i < n) : ∃ a m c, w.cell? ⟨bD, i, none⟩ = some (.int .i64 (deep i)) ∧ w.cell? ⟨bK, i, none⟩ = some (.slice a m c) ∧ m = (cls S i (deep i)).length ∧ OwnInts w 0 (.slice a m c) (cls S i (deep i)) ∧ vals[i]? = some (.slice a m c) := by
  have h1 := World.ownsRow.cells h.d (g := bD) rfl i _ (ints_get (deepL_get hi))
  have hk : i < (keysL n S deep).length := by rw [keysL_len]; exact hi
  obtain ⟨a, c, h2, h3⟩ := h.r.at_ hk
  have h4 := World.ownsRow.cells h.k (g := bK) rfl i _ h2
  have e : (keysL n S deep)[i] = cls S i (deep i) := by simp [keysL]
  rw [e] at h2 h3 h4
  rw [add_addr, Nat.zero_add] at h1 h4
  exact ⟨a, _, c, h1, h4, rfl, h3, h2⟩
theorem PgV.mk_ {base : Nat} {vD vK : Value} (hn : 0 < n) (hd : OwnInts w base vD (deepL n deep)) (hk : OwnV w base vK vals) (hr : ValsOf w vals (keysL n S deep)) :
    ∃ bD cD bK cK, vD = .slice (some ⟨bD, 0, none⟩) n cD ∧ vK = .slice (some ⟨bK, 0, none⟩) n cK ∧ PgV w n S deep bD cD bK cK vals := by
  have hd0 : OwnInts w 0 vD (deepL n deep) := World.ownsRow.mono hd (Nat.zero_le _)
  have hk0 := hk.low
  have hl : vals.length = n := by rw [hr.1, keysL_len]
  obtain ⟨bD, cD, e1, _⟩ := World.ownsRow.form hd0 (by rw [deepL_len]; exact hn)
  obtain ⟨bK, cK, e2, _⟩ := World.ownsRow.form hk0 (by rw [hl]; exact hn)
  rw [deepL_len] at e1
  rw [hl] at e2
  subst e1; subst e2
  exact ⟨bD, cD, bK, cK, rfl, rfl, hd0, hk0, hr⟩
end

abbrev set3 (w : World) (b : Nat) (v0 v1 v2 : Value) : World := ((w.setCell ⟨b, 0, none⟩ v0).setCell ⟨b, 1, none⟩ v1).setCell ⟨b, 2, none⟩ v2
theorem blk3 {w : World} {b : Nat} {t : TypeId} {a0 a1 a2 : Value} (h : Blk w b t [a0, a1, a2]) (v0 v1 v2 : Value) : Blk (set3 w b v0 v1 v2) b t [v0, v1, v2] := ((h.set 0 v0).set 1 v1).set 2 v2
theorem keep3 (w : World) (b : Nat) (v0 v1 v2 : Value) : Keep [b] w (set3 w b v0 v1 v2) := (((Keep.refl [b] w).set (p := ⟨b, 0, none⟩) (fun _ => by simp) _).set (p := ⟨b, 1, none⟩) (fun _ => by simp) _).set (p := ⟨b, 2, none⟩) (fun _ => by simp) _
theorem info_pages : (Tryd.prog.info? 35).map (·.size) = some 3 := by kernel_rfl

/-- AddPage's frame: p, what is returned, and what was. -/
structure AP (w wr : World) (B : Nat) (S : List Int) (n0 D0 : Nat) (deep0 : Nat → Nat) (bD0 cD0 bK0 cK0 : Nat) (vals0 : List Value) (n D : Nat) (deep : Nat → Nat) (bD cD bK cK : Nat) (vals : List Value) : Prop where
  p : Blk wr B 35 [.int .i64 D, .slice (some ⟨bD, 0, none⟩) n cD, .slice (some ⟨bK, 0, none⟩) n cK]
  res : Blk wr (B + 1) 35 [.int .i64 0, .slice none 0 0, .slice none 0 0]
  was : Blk wr (B + 2) 35 [.int .i64 D0, .slice (some ⟨bD0, 0, none⟩) n0 cD0, .slice (some ⟨bK0, 0, none⟩) n0 cK0]
  pg : PgV wr n S deep bD cD bK cK vals
  pg0 : PgV wr n0 S deep0 bD0 cD0 bK0 cK0 vals0
  bel : Below w.heap.size w wr
  hB : B = w.heap.size
section
variable {w wr w' : World} {B : Nat} {S : List Int} {n0 D0 : Nat} {deep0 : Nat → Nat} {bD0 cD0 bK0 cK0 : Nat} {vals0 : List Value} {n D : Nat} {deep : Nat → Nat} {bD cD bK cK : Nat} {vals : List Value}
theorem AP.below (h : AP w wr B S n0 D0 deep0 bD0 cD0 bK0 cK0 vals0 n D deep bD cD bK cK vals) (hb : Below wr.heap.size wr w') : AP w w' B S n0 D0 deep0 bD0 cD0 bK0 cK0 vals0 n D deep bD cD bK cK vals :=
  ⟨h.p.below hb h.p.lt, h.res.below hb h.res.lt, h.was.below hb h.was.lt, h.pg.bel hb, h.pg0.bel hb, h.bel.trans (hb.mono h.bel.size), h.hB⟩
theorem AP.put (h : AP w wr B S n0 D0 deep0 bD0 cD0 bK0 cK0 vals0 n D deep bD cD bK cK vals) {n' D' : Nat} {deep' : Nat → Nat} {bD' cD' bK' cK' : Nat} {vals' : List Value} (hp : PgV wr n' S deep' bD' cD' bK' cK' vals') :
    AP w (set3 wr B (.int .i64 D') (.slice (some ⟨bD', 0, none⟩) n' cD') (.slice (some ⟨bK', 0, none⟩) n' cK')) B S n0 D0 deep0 bD0 cD0 bK0 cK0 vals0 n' D' deep' bD' cD' bK' cK' vals' := by
  have hk := keep3 wr B (.int .i64 D') (.slice (some ⟨bD', 0, none⟩) n' cD') (.slice (some ⟨bK', 0, none⟩) n' cK')
  have hk2 : ∀ g, g < wr.heap.size → g ≠ B → (set3 wr B (.int .i64 D') (.slice (some ⟨bD', 0, none⟩) n' cD') (.slice (some ⟨bK', 0, none⟩) n' cK')).heap[g]? = wr.heap[g]? := fun g hg hne => hk.block g hg (by simpa using hne)
  exact ⟨blk3 h.p _ _ _, h.res.keep hk (by simp), h.was.keep hk (by simp), hp.blk h.p (by decide) (by decide) hk2, h.pg0.blk h.p (by decide) (by decide) hk2, h.bel.trans (hk.below h.bel.size (by simp; have := h.hB; omega)), h.hB⟩
theorem AP.cells (h : AP w wr B S n0 D0 deep0 bD0 cD0 bK0 cK0 vals0 n D deep bD cD bK cK vals) : wr.cell? ⟨B, 0, none⟩ = some (.int .i64 D) ∧ wr.cell? ⟨B, 1, none⟩ = some (.slice (some ⟨bD, 0, none⟩) n cD) ∧ wr.cell? ⟨B, 2, none⟩ = some (.slice (some ⟨bK, 0, none⟩) n cK) ∧ wr.frozen? ⟨B, 0, none⟩ = false ∧ wr.frozen? ⟨B, 1, none⟩ = false ∧ wr.frozen? ⟨B, 2, none⟩ = false :=
  ⟨h.p.cell_ (i := 0) rfl, h.p.cell_ (i := 1) rfl, h.p.cell_ (i := 2) rfl, h.p.free 0, h.p.free 1, h.p.free 2⟩
theorem AP.rcells (h : AP w wr B S n0 D0 deep0 bD0 cD0 bK0 cK0 vals0 n D deep bD cD bK cK vals) : wr.cell? ⟨B + 1, 0, none⟩ = some (.int .i64 0) ∧ wr.cell? ⟨B + 1, 1, none⟩ = some (.slice none 0 0) ∧ wr.cell? ⟨B + 1, 2, none⟩ = some (.slice none 0 0) ∧ wr.frozen? ⟨B + 1, 0, none⟩ = false ∧ wr.frozen? ⟨B + 1, 1, none⟩ = false ∧ wr.frozen? ⟨B + 1, 2, none⟩ = false :=
  ⟨h.res.cell_ (i := 0) rfl, h.res.cell_ (i := 1) rfl, h.res.cell_ (i := 2) rfl, h.res.free 0, h.res.free 1, h.res.free 2⟩
theorem AP.wcells (h : AP w wr B S n0 D0 deep0 bD0 cD0 bK0 cK0 vals0 n D deep bD cD bK cK vals) : wr.cell? ⟨B + 2, 0, none⟩ = some (.int .i64 D0) ∧ wr.cell? ⟨B + 2, 1, none⟩ = some (.slice (some ⟨bD0, 0, none⟩) n0 cD0) ∧ wr.cell? ⟨B + 2, 2, none⟩ = some (.slice (some ⟨bK0, 0, none⟩) n0 cK0) :=
  ⟨h.was.cell_ (i := 0) rfl, h.was.cell_ (i := 1) rfl, h.was.cell_ (i := 2) rfl⟩
/-- What is returned: a copy of p. -/
theorem AP.done (h : AP w wr B S n0 D0 deep0 bD0 cD0 bK0 cK0 vals0 n D deep bD cD bK cK vals) (v0 v1 v2 : Value) : (∀ {n' : Nat} {deep' : Nat → Nat} {bD' cD' bK' cK' : Nat} {S' : List Int} {vals' : List Value}, PgV wr n' S' deep' bD' cD' bK' cK' vals' → PgV (set3 wr (B + 1) v0 v1 v2) n' S' deep' bD' cD' bK' cK' vals') ∧ Below w.heap.size w (set3 wr (B + 1) v0 v1 v2) := by
  have hk := keep3 wr (B + 1) v0 v1 v2
  exact ⟨fun hp => hp.blk h.res (by decide) (by decide) (fun g hg hne => hk.block g hg (by simpa using hne)), h.bel.trans (hk.below h.bel.size (by simp; have := h.hB; omega))⟩
end

/-- Where the pages' blocks lie. -/
def AllP (P : Nat → Prop) (vals : List Value) : Prop := ∀ v ∈ vals, ∀ x, v.ownBlock = some x → P x
def PIn (P : Nat → Prop) (bD bK : Nat) (vals : List Value) : Prop := P bD ∧ P bK ∧ AllP P vals
theorem AllP.snoc {P : Nat → Prop} {vals : List Value} {v : Value} (h : AllP P vals) (hv : ∀ x, v.ownBlock = some x → P x) : AllP P (vals ++ [v]) := fun u hu => by
  rw [List.mem_append, List.mem_singleton] at hu
  rcases hu with hu | rfl
  · exact h u hu
  · exact hv
theorem AllP.twice {P : Nat → Prop} {vals : List Value} (h : AllP P vals) : AllP P (vals ++ vals) := fun u hu => by
  rw [List.mem_append] at hu
  exact h u (hu.elim id id)
def AddPost2 (w : World) (P : Nat → Prop) (S : List Int) (x : Int) (e : Ending) (w' : World) : Prop :=
  ∃ (n D : Nat) (deep : Nat → Nat) (bD cD bK cK : Nat) (vals : List Value), e = .returned (.tuple #[.agg #[.int .i64 D, .slice (some ⟨bD, 0, none⟩) n cD, .slice (some ⟨bK, 0, none⟩) n cK], .int .i64 (addE S x)]) ∧ n = 2 ^ D ∧ D ≤ 6 ∧ PgV w' n (addS S x) deep bD cD bK cK vals ∧ Dir (addS S x) (addS S x) D deep ∧ Below w.heap.size w w' ∧ PIn P bD bK vals

/-- The rows of a split, up to jd and jk of them. -/
structure SL (w5 wr : World) (a e : Nat) (S : List Int) (deep : Nat → Nat) (jd jk : Nat) (vd vk : Value) (vals : List Value) : Prop where
  d : OwnInts wr w5.heap.size vd (deepL jd (splitAt deep a e))
  k : OwnV wr w5.heap.size vk vals
  r : ValsOf wr vals (keysL jk S (splitAt deep a e))
  sep : ∀ v ∈ vals, ∀ x, v.ownBlock = some x → vd.ownBlock ≠ some x
  bel : Below w5.heap.size w5 wr
section
variable {w5 wr w2 : World} {a e : Nat} {S : List Int} {deep : Nat → Nat} {jd jk : Nat} {vd vk vd' vk' v : Value} {vals : List Value} {o : Obj}
theorem SL.start (w5 : World) (a e : Nat) (S : List Int) (deep : Nat → Nat) : SL w5 w5 a e S deep 0 0 (.slice none 0 0) (.slice none 0 0) [] :=
  ⟨OwnInts.nil _ _, World.ownsRow_nil _ _ _ _, ValsOf.nil _, by simp, Below.refl _ _⟩
theorem SL.below (h : SL w5 wr a e S deep jd jk vd vk vals) (hb : Below wr.heap.size wr w2) : SL w5 w2 a e S deep jd jk vd vk vals :=
  ⟨h.d.keep fun g hg => hb.block g (World.ownsRow.lt h.d g hg).2, h.k.keep fun g hg => hb.block g (World.ownsRow.lt h.k g hg).2, h.r.bel hb, h.sep, h.bel.trans (hb.mono h.bel.size)⟩
theorem own_block {w : World} {b : Nat} {v : Value} {l : List Int} (h : OwnInts w b v l) {g : Nat} (hg : v.ownBlock = some g) : ∃ cs, Blk w g 3 cs := by
  rcases h.2 with ⟨rfl, _⟩ | ⟨g', cap, cur, rfl, _, hh, _⟩
  · simp [Value.ownBlock] at hg
  · obtain rfl : g' = g := by simpa [Value.ownBlock] using hg
    exact ⟨cur.toList, by unfold Blk; simpa using hh⟩
theorem ownv_block {w : World} {b : Nat} {v : Value} {l : List Value} (h : OwnV w b v l) {g : Nat} (hg : v.ownBlock = some g) : ∃ cs, Blk w g 22 cs := by
  rcases h.2 with ⟨e, _⟩ | ⟨g', cap, cur, e, _, hh, _⟩
  · rw [e] at hg; simp [Value.ownBlock] at hg
  · rw [e] at hg
    obtain rfl : g' = g := by simpa [Value.ownBlock] using hg
    exact ⟨cur.toList, by unfold Blk; simpa using hh⟩
theorem SL.stepD (h : SL w5 wr a e S deep jd jk vd vk vals) {val : Int} (hval : val = (splitAt deep a e jd : Int)) (hown : OwnInts w2 w5.heap.size vd' (deepL jd (splitAt deep a e) ++ [val])) (hgrow : (wr.alloc o).grownBy w2 vd.ownBlock) (hat : vd'.ownBlock = vd.ownBlock ∨ vd'.ownBlock = some (wr.alloc o).heap.size) :
    SL w5 w2 a e S deep (jd + 1) jk vd' vk vals := by
  have hk : ∀ g, g < wr.heap.size → some g ≠ vd.ownBlock → w2.heap[g]? = wr.heap[g]? := fun g hg hne => (hgrow.block g (by simp; omega) hne).trans (Below.heap_alloc _ _ g hg)
  refine ⟨by rw [deepL_succ, ← hval]; exact hown, h.k.keep fun g hg => ?_, h.r.keepG fun g hg v hv hvg => hk g hg (fun e2 => h.sep v hv g hvg e2.symm), fun v hv x hx hd => ?_, (h.bel.alloc h.bel.size _).grown hgrow (by have := h.bel.size; simp; omega) (fun y hy => (World.ownsRow.lt h.d y hy).1)⟩
  · obtain ⟨cs, hcs⟩ := ownv_block h.k hg
    exact hk g hcs.lt (own_ne h.d hcs (by decide))
  · obtain ⟨i, hi, hiv⟩ := List.getElem_of_mem hv
    have hx2 : x < wr.heap.size := by
      obtain ⟨v', h1, h2⟩ := h.r.2 i _ (List.getElem?_eq_getElem (by rw [← h.r.1]; exact hi))
      rw [List.getElem?_eq_getElem hi, hiv] at h1
      obtain rfl := Option.some.inj h1
      exact (World.ownsRow.lt h2 x hx).2
    rcases hat with e2 | e2
    · exact h.sep v hv x hx (by rw [← e2]; exact hd)
    · rw [e2] at hd
      simp only [Option.some.injEq] at hd
      have : wr.heap.size < (wr.alloc o).heap.size := by simp
      omega
theorem SL.stepK (h : SL w5 wr a e S deep jd jk vd vk vals) (hv : OwnInts wr 0 v (cls S jk (splitAt deep a e jk))) (hvd : ∀ x, v.ownBlock = some x → vd.ownBlock ≠ some x) (hown : OwnV w2 w5.heap.size vk' (vals ++ [v])) (hgrow : (wr.alloc o).grownBy w2 vk.ownBlock) :
    SL w5 w2 a e S deep jd (jk + 1) vd vk' (vals ++ [v]) := by
  have hk : ∀ g, g < wr.heap.size → some g ≠ vk.ownBlock → w2.heap[g]? = wr.heap[g]? := fun g hg hne => (hgrow.block g (by simp; omega) hne).trans (Below.heap_alloc _ _ g hg)
  have hkI : ∀ {b : Nat} {u : Value} {l : List Int}, OwnInts wr b u l → OwnInts w2 b u l := fun {b u l} hu => hu.keep fun g hg => by
    obtain ⟨cs, hcs⟩ := own_block hu hg
    exact hk g hcs.lt (fun e2 => by
      obtain ⟨ds, hds⟩ := ownv_block h.k e2.symm
      exact hcs.ne hds (by decide) rfl)
  refine ⟨hkI h.d, hown, ?_, fun u hu x hx => ?_, (h.bel.alloc h.bel.size _).grown hgrow (by have := h.bel.size; simp; omega) (fun y hy => (World.ownsRow.lt h.k y hy).1)⟩
  · rw [keysL_succ]
    refine ValsOf.snoc ⟨h.r.1, fun i xs hx => ?_⟩ (hkI hv)
    obtain ⟨u, h1, h2⟩ := h.r.2 i xs hx
    exact ⟨u, h1, hkI h2⟩
  · rw [List.mem_append, List.mem_singleton] at hu
    rcases hu with hu | rfl
    · exact h.sep u hu x hx
    · exact hvd x hx
end
end Go.Proofs.YthldhbcidcmmaaaDoor
