/-
  BloomPlays: the state, and the plain law (a bit is set just if it is among the bits of what was added).
-/
import Derived.Test.YtnpokcjdnlmheaaDoorBloomRef
import Derived.Test.YtnpokcjdnlmheaaDoorBloom2
import Derived.Test.YtnpokcjdnlmheaaDoorErrIs
import Derived.Test.YtnpokcjdnlmheaaDoorIn
namespace Go.Proofs.YtnpokcjdnlmheaaDoor
open Go.RowKit

theorem getD_true (l : List Bool) (i : Nat) : l.getD i false = true ↔ l[i]? = some true := by
  rw [List.getD_eq_getElem?_getD]
  cases l[i]? with
  | none => simp
  | some x => simp

theorem setK_iff (key : Int) (n k : Nat) (bits : List Bool) (i : Nat) (hi : i < bits.length) (hn : 0 < n) : (setK key n k bits).getD i false = true ↔ bits.getD i false = true ∨ ∃ j, j < k ∧ hashN key j n = i := by
  induction k with
  | zero => simp [setK]
  | succ k ih =>
    have hl : i < (setK key n k bits).length := by rw [setK_len]; exact hi
    rw [getD_true] at ih ⊢
    simp only [setK, List.getElem?_set]
    by_cases e : hashN key k n = i
    · rw [if_pos e, if_pos (by rw [e]; exact hl)]
      exact ⟨fun _ => .inr ⟨k, by omega, e⟩, fun _ => rfl⟩
    · rw [if_neg e, ih]
      constructor
      · rintro (h | ⟨j, hj, h⟩)
        · exact .inl h
        · exact .inr ⟨j, by omega, h⟩
      · rintro (h | ⟨j, hj, h⟩)
        · exact .inl h
        · refine .inr ⟨j, ?_, h⟩
          rcases Nat.lt_or_ge j k with h' | h'
          · exact h'
          · exact absurd (show hashN key k n = i by rw [← h]; congr 1; omega) e

theorem mem_bitsOf (key : Int) (n h i : Nat) : ((i : Nat) : Int) ∈ bitsOf key n h ↔ ∃ j, j < h ∧ hashN key j n = i := by
  unfold bitsOf
  rw [List.mem_map]
  constructor
  · rintro ⟨j, hj, e⟩
    exact ⟨j, List.mem_range.1 hj, by exact_mod_cast e⟩
  · rintro ⟨j, hj, e⟩
    exact ⟨j, List.mem_range.2 hj, by rw [e]⟩

/-- What goes with what was added. -/
structure FI (n h : Nat) (bl : List Bool) (set : List Int) (k : Nat) : Prop where
  len : bl.length = n
  mem : ∀ i : Nat, i < n → (bl.getD i false = true ↔ ((i : Nat) : Int) ∈ set)
  sl : set.length ≤ h * k
theorem fi0 (n h : Nat) : FI n h (List.replicate n false) [] 0 where
  len := by simp
  mem := fun i hi => by simp [List.getD, List.getElem?_replicate, hi]
  sl := by simp
theorem FI.mono {n h k : Nat} {bl : List Bool} {set : List Int} (hf : FI n h bl set k) : FI n h bl set (k + 1) :=
  { hf with sl := by have := hf.sl; rw [Nat.mul_add]; omega }
theorem FI.add {n h k : Nat} {bl : List Bool} {set : List Int} (hf : FI n h bl set k) (hn : 0 < n) (key : Int) : FI n h (setK key n h bl) (set ++ bitsOf key n h) (k + 1) where
  len := by rw [setK_len]; exact hf.len
  mem := fun i hi => by rw [setK_iff key n h bl i (by rw [hf.len]; exact hi) hn, List.mem_append, hf.mem i hi, mem_bitsOf]
  sl := by have := hf.sl; rw [List.length_append, bitsOf_len, Nat.mul_add]; omega
theorem FI.has {n h k : Nat} {bl : List Bool} {set : List Int} (hf : FI n h bl set k) {i : Nat} (hi : i < n) : decide (((i : Nat) : Int) ∈ set) = bl.getD i false := by
  have := hf.mem i hi
  cases e : bl.getD i false with
  | true => exact decide_eq_true (this.1 e)
  | false => exact decide_eq_false (fun hm => by rw [this.2 hm] at e; cases e)

/-- The filter, and the list of the bits of what was added. -/
structure FS (w0 wr : World) (b g : Nat) (bl : List Bool) (h : Nat) (v : Value) (set : List Int) : Prop where
  f : FilterAt wr b g bl h
  S : OwnInts wr w0.heap.size v set
  sd : v.ownBlock ≠ some b ∧ v.ownBlock ≠ some g
  bel : Below w0.heap.size w0 wr
  hb : w0.heap.size ≤ b
  hg : w0.heap.size ≤ g
section
variable {w0 wr w' : World} {b g h : Nat} {bl bl' : List Bool} {v v' : Value} {set set' : List Int}
theorem FS.keep0 (q : FS w0 wr b g bl h v set) (hk : Keep [] wr w') : FS w0 w' b g bl h v set :=
  { q with f := q.f.keep hk (by simp), S := q.S.keep fun x hx => hk.block x (World.ownsRow.lt q.S x hx).2 (by simp), bel := q.bel.trans (hk.below q.bel.size (by simp)) }
theorem FS.below (q : FS w0 wr b g bl h v set) (hb : Below wr.heap.size wr w') : FS w0 w' b g bl h v set := q.keep0 (Keep.of_below hb (Nat.le_refl _))
theorem FS.put (q : FS w0 wr b g bl h v set) (hk : Keep [g] wr w') (hf : FilterAt w' b g bl' h) : FS w0 w' b g bl' h v set :=
  { q with f := hf, S := q.S.keep fun x hx => hk.block x (World.ownsRow.lt q.S x hx).2 (fun hm => by simp at hm; subst hm; exact q.sd.2 hx), bel := q.bel.trans (hk.below q.bel.size (by simpa using q.hg)) }
theorem FS.app (q : FS w0 wr b g bl h v set) (ho : OwnInts w' w0.heap.size v' set') (hg : wr.grownBy w' v.ownBlock) (hat : v'.ownBlock = v.ownBlock ∨ v'.ownBlock = some wr.heap.size) : FS w0 w' b g bl h v' set' := by
  have hk : Keep v.ownBlock.toList wr w' := (Keep.refl _ wr).grown hg (fun g h _ => by rw [h]; simp)
  have hn : ∀ x, x ∈ v.ownBlock.toList → v.ownBlock = some x := fun x hm => by
    cases e : v.ownBlock with
    | none => rw [e] at hm; cases hm
    | some y => rw [e] at hm; simp at hm; rw [hm]
  have l1 := q.f.top.lt
  have l2 := q.f.arr.lt
  refine ⟨q.f.keep hk ⟨fun hm => q.sd.1 (hn _ hm), fun hm => q.sd.2 (hn _ hm)⟩, ho, ?_, q.bel.trans (hk.below q.bel.size (fun x hx => (World.ownsRow.lt q.S x (hn x hx)).1)), q.hb, q.hg⟩
  rcases hat with e | e
  · rw [e]; exact q.sd
  · rw [e]; exact ⟨fun e2 => by injection e2 with e2; omega, fun e2 => by injection e2 with e2; omega⟩
end
end Go.Proofs.YtnpokcjdnlmheaaDoor
