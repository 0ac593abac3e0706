/-
  What Held tells, kept over what is done next.
-/
import Derived.Test.YtgbccaplckiilaaBackFact
namespace Go.Proofs.Ytgbccaplckiilaa
open Go.RowKit

/-- A slice value's address leads to the booleans l, at the head of a block from lo on. -/
def NewBools (w : World) (lo : Nat) (a : Option Addr) (l : List Bool) : Prop :=
  0 < l.length → ∃ b, a = some ⟨b, 0, none⟩ ∧ lo ≤ b ∧ b < w.heap.size ∧ ∀ (i : Nat) (x : Bool), l[i]? = some x → w.cell? ⟨b, i, none⟩ = some (.bool x)
theorem OwnBools.new {w : World} {base : Nat} {v : Value} {l : List Bool} (h : OwnBools w base v l) : ∃ a c, v = .slice a l.length c ∧ NewBools w base a l := by
  obtain ⟨hl, ⟨rfl, hn⟩ | ⟨g, cap, cur, rfl, hb, hh, hc, hm, _, ht⟩⟩ := h
  · exact ⟨none, 0, by rw [hn], fun h0 => by omega⟩
  · refine ⟨_, _, rfl, fun _ => ⟨g, rfl, hb, ?_, fun i x hx => ?_⟩⟩
    · rcases Nat.lt_or_ge g w.heap.size with h | h
      · exact h
      · rw [Array.getElem?_eq_none h] at hh; cases hh
    · have hi : i < l.length := (List.getElem?_eq_some_iff.1 hx).1
      have h2 : (cur.toList.take (l.length * 1))[i]? = (bools l)[i]? := by rw [ht]
      rw [List.getElem?_take_of_lt (by omega)] at h2
      simp only [World.cell?, hh]
      simpa [bools, hx] using h2
theorem NewBools.keep {w w' : World} {F : List Nat} {B : Nat} {a : Option Addr} {l : List Bool} (h : NewBools w B a l) (hk : Keep F w w') (hF : ∀ x ∈ F, x < B) : NewBools w' B a l := fun hn => by
  obtain ⟨b, e, hb, hb2, hc⟩ := h hn
  exact ⟨b, e, hb, Nat.lt_of_lt_of_le hb2 hk.size, fun i x hx => (hk.cell (p := ⟨b, i, none⟩) hb2 (fun hm => by have := hF b hm; omega)).trans (hc i x hx)⟩
theorem NewBools.keepO {w w' : World} {b B : Nat} {v : Value} {a : Option Addr} {l : List Bool} (h : NewBools w B a l) (hk : KeepO b v w w') (hb : b < B) (hv : ∀ g, v.ownBlock = some g → g < B) : NewBools w' B a l := by
  obtain ⟨F, hF, hx⟩ := hk
  exact h.keep hF fun x hm => by
    rcases hx x hm with e | e
    · omega
    · exact hv x e.symm
theorem NewInts.keepO {w w' : World} {b B : Nat} {v : Value} {a : Option Addr} {l : List Int} (h : NewInts w B a l) (hk : KeepO b v w w') (hb : b < B) (hv : ∀ g, v.ownBlock = some g → g < B) : NewInts w' B a l := by
  obtain ⟨F, hF, hx⟩ := hk
  exact h.keep hF fun x hm => by
    rcases hx x hm with e | e
    · omega
    · exact hv x e.symm
theorem NewInts.keep0 {w w' : World} {B : Nat} {a : Option Addr} {l : List Int} (h : NewInts w B a l) (hk : Keep [] w w') : NewInts w' B a l := h.keep hk (by simp)
theorem NewBools.keep0 {w w' : World} {B : Nat} {a : Option Addr} {l : List Bool} (h : NewBools w B a l) (hk : Keep [] w w') : NewBools w' B a l := h.keep hk (by simp)

/-- The cache stands, in old blocks (below m), all of them from B on. -/
structure BK (w0 : World) (B m b : Nat) (v : Value) (slots : Nat) (wr : World) (s : BSt) : Prop where
  at_ : BAt wr b v slots s
  bel : Below B w0 wr
  le : m ≤ wr.heap.size
  Bm : B ≤ m
  hB : B ≤ b
  hb : b < m
  hv0 : ∀ g, v.ownBlock = some g → B ≤ g
  hv : ∀ g, v.ownBlock = some g → g < m
section
variable {w0 wr w' : World} {B m b slots : Nat} {v : Value} {s s' : BSt}
theorem BK.keep (h : BK w0 B m b v slots wr s) (hk : Keep [] wr w') : BK w0 B m b v slots w' s :=
  ⟨h.at_.frame_keep hk, h.bel.trans (hk.below (by have := h.le; have := h.Bm; omega) (by simp)), by have := hk.size; have := h.le; omega, h.Bm, h.hB, h.hb, h.hv0, h.hv⟩
theorem BK.keepF {F : List Nat} (h : BK w0 B m b v slots wr s) (hk : Keep F wr w') (hF : ∀ x ∈ F, m ≤ x) : BK w0 B m b v slots w' s :=
  ⟨⟨h.at_.top.keep hk (fun hm => by have := hF b hm; have := h.hb; omega), h.at_.dl, h.at_.fr.keepF hk (fun x hx e => by have := hF x hx; have := h.hv x e.symm; omega)⟩,
    h.bel.trans (hk.below (by have := h.le; have := h.Bm; omega) (fun x hx => by have := hF x hx; have := h.Bm; omega)), by have := hk.size; have := h.le; omega, h.Bm, h.hB, h.hb, h.hv0, h.hv⟩
theorem BK.step (h : BK w0 B m b v slots wr s) (ha : BAt w' b v slots s') (hk : KeepO b v wr w') : BK w0 B m b v slots w' s' :=
  ⟨ha, h.bel.trans (hk.old (by have := h.le; have := h.Bm; omega) h.hB h.hv0), by have := hk.size; have := h.le; omega, h.Bm, h.hB, h.hb, h.hv0, h.hv⟩
theorem BK.crash (h : BK w0 B m b v slots wr s) (ha : BAt w' b (.slice none 0 0) slots s') (hk : Keep [b] wr w') : BK w0 B m b (.slice none 0 0) slots w' s' :=
  ⟨ha, h.bel.trans (hk.below (by have := h.le; have := h.Bm; omega) (by have := h.hB; simpa using this)), by have := hk.size; have := h.le; omega, h.Bm, h.hB, h.hb, fun g hg => by simp [Value.ownBlock] at hg, fun g hg => by simp [Value.ownBlock] at hg⟩
theorem BK.ints {a : Option Addr} {l : List Int} (h : BK w0 B m b v slots wr s) (hn : NewInts wr m a l) (hk : KeepO b v wr w') : NewInts w' m a l := hn.keepO hk h.hb h.hv
theorem BK.bools {a : Option Addr} {l : List Bool} (h : BK w0 B m b v slots wr s) (hn : NewBools wr m a l) (hk : KeepO b v wr w') : NewBools w' m a l := hn.keepO hk h.hb h.hv
theorem BK.newInts {a : Option Addr} {l : List Int} (h : BK w0 B m b v slots wr s) (hn : NewInts w' wr.heap.size a l) : NewInts w' m a l := hn.more h.le
theorem NewBools.more {w : World} {B B' : Nat} {a : Option Addr} {l : List Bool} (h : NewBools w B a l) (hB : B' ≤ B) : NewBools w B' a l := fun hn => by
  obtain ⟨b, e, hb, r⟩ := h hn
  exact ⟨b, e, by omega, r⟩
theorem BK.newBools {a : Option Addr} {l : List Bool} (h : BK w0 B m b v slots wr s) (hn : NewBools w' wr.heap.size a l) : NewBools w' m a l := hn.more h.le
end
theorem BK.of_used {w0 w2 w3 : World} {b slots q : Nat} {v : Value} {u : Us} (hb1 : Below w0.heap.size w0 w2) (h : UsAt w2 b (.slice none 0 0) slots u w3 v q) (hB : w0.heap.size ≤ b) : BK w0 w0.heap.size w3.heap.size b v slots w3 u.s :=
  have hv0 : ∀ g, v.ownBlock = some g → w0.heap.size ≤ g := fun g hg => by
    rcases h.2.2.1 g hg with e | e
    · simp [Value.ownBlock] at e
    · have := hb1.size; omega
  have hbel := hb1.trans (h.below hb1.size hB (by simp [Value.ownBlock]))
  ⟨h.1, hbel, Nat.le_refl _, hbel.size, hB, h.1.top.lt, hv0, fun g hg => (h.1.fr.lt _ hg).2⟩

theorem unD_clean {L : List Fr} (h : ∀ x ∈ L, x.2.2 = false) : L.map unD = L := by
  induction L with
  | nil => rfl
  | cons f L ih =>
    rw [List.map_cons, ih fun x hx => h x (List.mem_cons_of_mem _ hx)]
    have := h f (by simp)
    obtain ⟨a, b, c⟩ := f
    simp only at this
    subst this; rfl
theorem fold_clean {L : List Fr} (h : ∀ x ∈ L, x.2.2 = false) (d : List Int) : L.foldl cleanD d = d := by
  induction L generalizing d with
  | nil => rfl
  | cons f L ih =>
    show L.foldl cleanD (cleanD d f) = d
    have e : cleanD d f = d := by unfold cleanD; rw [h f (by simp)]; rfl
    rw [e]; exact ih (fun x hx => h x (List.mem_cons_of_mem _ hx)) d
theorem flush_clean {s : BSt} (h : AllClean s) : flushB s = s := by
  rw [flushB_eq, unD_clean h, fold_clean h]
  have : s.fr.countP (fun x => x.2.2) = 0 := by
    rw [List.countP_eq_zero]; intro x hx; simp [h x hx]
  rw [this]; simp
theorem flush_keys (s : BSt) : (flushB s).fr.map (·.1) = s.fr.map (·.1) := by
  rw [flushB_eq]; simp [unD, Function.comp_def]
theorem flush_len (s : BSt) : (flushB s).fr.length = s.fr.length := by
  rw [flushB_eq]; simp
end Go.Proofs.Ytgbccaplckiilaa
