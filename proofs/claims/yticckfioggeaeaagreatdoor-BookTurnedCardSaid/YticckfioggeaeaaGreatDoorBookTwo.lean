/-
  Two books side by side.
-/
import Derived.Test.YticckfioggeaeaaGreatDoorBookTold
set_option linter.unusedVariables false
set_option linter.unusedSimpArgs false
set_option linter.unnecessarySimpa false
set_option linter.unusedVariables false
namespace Go.Proofs.YticckfioggeaeaaGreatDoor
open Go.RowKit

structure DB (w wr : World) (O1 O2 : Nat → Prop) (b1 b2 slots : Nat) (s1 s2 : Bk) : Prop where
  k1 : BookAt O1 wr b1 slots s1
  k2 : BookAt O2 wr b2 slots s2
  lo1 : ∀ x, x < w.heap.size → ¬ O1 x
  lo2 : ∀ x, x < w.heap.size → ¬ O2 x
  ap : ∀ x, x < wr.heap.size → O1 x → ¬ O2 x
  bel : Below w.heap.size w wr
def DX (w wr : World) (b1 b2 slots : Nat) (s1 s2 : Bk) : Prop := ∃ O1 O2, DB w wr O1 O2 b1 b2 slots s1 s2
section
variable {w wr w' : World} {O O1 O2 : Nat → Prop} {b1 b2 slots : Nat} {s1 s2 s1' s2' : Bk}
theorem DB.first (d : DB w wr O1 O2 b1 b2 slots s1 s2) (h : BookAt O1 w' b1 slots s1') (hk : KeepP O1 wr w') : DX w w' b1 b2 slots s1' s2 :=
  ⟨O1, _, h, d.k2.away hk (fun x hx h2 h1 => d.ap x hx h1 h2), d.lo1, fun x hx h2 => d.lo2 x hx h2.1, fun x hx h1 h2 => by
    rcases h2.2 with h3 | h3
    · exact d.ap x h3 h1 h2.1
    · omega, d.bel.trans (hk.toBelow d.bel.size d.lo1)⟩
theorem DB.second (d : DB w wr O1 O2 b1 b2 slots s1 s2) (h : BookAt O2 w' b2 slots s2') (hk : KeepP O2 wr w') : DX w w' b1 b2 slots s1 s2' :=
  ⟨_, O2, d.k1.away hk (fun x hx h1 h2 => d.ap x hx h1 h2), h, fun x hx h1 => d.lo1 x hx h1.1, d.lo2, fun x hx h1 h2 => by
    rcases h1.2 with h3 | h3
    · exact d.ap x h3 h1.1 h2
    · omega, d.bel.trans (hk.toBelow d.bel.size d.lo2)⟩
theorem DX.below (d : DX w wr b1 b2 slots s1 s2) (hb : Below wr.heap.size wr w') : DX w w' b1 b2 slots s1 s2 := by
  obtain ⟨O1, O2, d⟩ := d
  exact d.first (d.k1.below hb) (KeepP.of_below hb (Nat.le_refl _))
theorem DX.drew (d : DX w wr b1 b2 slots s1 s2) : DX w wr.drew b1 b2 slots s1 s2 := d.below (drewB wr)
theorem DX.keep0 (d : DX w wr b1 b2 slots s1 s2) (hk : Keep [] wr w') : DX w w' b1 b2 slots s1 s2 := d.below (hk.below (Nat.le_refl _) (by simp))
theorem DX.bel (d : DX w wr b1 b2 slots s1 s2) : Below w.heap.size w wr := by
  obtain ⟨O1, O2, d⟩ := d
  exact d.bel
theorem DX.tab (d : DX w wr b1 b2 slots s1 s2) (ht : Tab w) : Tab wr := ht.below d.bel (Nat.le_refl _)
theorem DX.errs (d : DX w wr b1 b2 slots s1 s2) (ht : Errs w) : Errs wr := ht.below d.bel (Nat.le_refl _)
theorem DX.swap (d : DX w wr b1 b2 slots s1 s2) : DX w wr b2 b1 slots s2 s1 := by
  obtain ⟨O1, O2, d⟩ := d
  exact ⟨O2, O1, d.k2, d.k1, d.lo2, d.lo1, fun x hx h1 h2 => d.ap x hx h2 h1, d.bel⟩
/-- A book, and a second one that is made behind it. -/
theorem DX.start (h1 : BookAt O wr b1 slots s1) (hlo : ∀ x, x < w.heap.size → ¬ O x) (hb : Below w.heap.size w wr) (hb2 : Below wr.heap.size wr w') (h2 : BookAt (fun x => wr.heap.size ≤ x) w' b2 slots s2) : DX w w' b1 b2 slots s1 s2 :=
  ⟨_, _, h1.away (O2 := fun _ => False) (KeepP.of_below hb2 (Nat.le_refl _)) (fun _ _ _ hf => hf), h2, fun x hx ho => hlo x hx ho.1, fun x hx ho => by have := hb.size; omega, fun x hx h3 h4 => by rcases h3.2 with h5 | h5 <;> omega, hb.trans (hb2.mono hb.size)⟩
end
section
variable (w wr : World) (b1 b2 slots : Nat) (s1 s2 : Bk) (k v : Int)
def DPut (w : World) (b1 b2 slots : Nat) (s1 s2 : Bk) (k v : Int) (e : Ending) (w' : World) : Prop := e = .returned (.tuple #[.int .i64 (putV slots s1 k v), errw (putE s1 k v)]) ∧ DX w w' b1 b2 slots (putS slots s1 k v) s2
theorem dput (d : DX w wr b1 b2 slots s1 s2) (ht : Tab w) : Calls Tryz.prog 24 #[.pointer (some ⟨b1, 0, none⟩), .int .i64 k, .int .i64 v] wr (DPut w b1 b2 slots s1 s2 k v) := by
  have htr := d.tab ht
  obtain ⟨O1, O2, d⟩ := d
  refine (put_any b1 slots s1 k v wr d.k1 htr).mono ?_
  rintro e w' ⟨rfl, h1, h2⟩
  exact ⟨rfl, d.first h1 h2⟩
def DGet (w : World) (b1 b2 slots : Nat) (s1 s2 : Bk) (k : Int) (e : Ending) (w' : World) : Prop := e = .returned (.tuple #[.int .i64 (getV s1 k), errw (getE s1 k)]) ∧ DX w w' b1 b2 slots (getS s1 k) s2
theorem dget (d : DX w wr b1 b2 slots s1 s2) (ht : Tab w) : Calls Tryz.prog 37 #[.pointer (some ⟨b1, 0, none⟩), .int .i64 k] wr (DGet w b1 b2 slots s1 s2 k) := by
  have htr := d.tab ht
  obtain ⟨O1, O2, d⟩ := d
  refine (get_any b1 slots s1 k wr d.k1 htr).mono ?_
  rintro e w' ⟨rfl, h1, h2⟩
  exact ⟨rfl, d.first h1 h2⟩
def DText (w : World) (b1 b2 slots : Nat) (s1 s2 : Bk) (e : Ending) (w' : World) : Prop := e = .returned (.string ⟨s1.text.toArray⟩) ∧ DX w w' b1 b2 slots s1 s2
theorem dtext (d : DX w wr b1 b2 slots s1 s2) : Calls Tryz.prog 14 #[.pointer (some ⟨b1, 0, none⟩)] wr (DText w b1 b2 slots s1 s2) := by
  obtain ⟨O1, O2, d⟩ := d
  refine (text_any wr d.k1).mono ?_
  rintro e w' ⟨rfl, h1, h2⟩
  exact ⟨rfl, d.first h1 h2⟩
def DKeys (w wr : World) (b1 b2 slots : Nat) (s1 s2 : Bk) (n : Nat) (e : Ending) (w' : World) : Prop := ∃ a c, e = .returned (.slice a n c) ∧ IntsIn w' w'.heap.size a s1.keys ∧ DX w w' b1 b2 slots s1 s2 ∧ Below wr.heap.size wr w'
theorem dkeys (d : DX w wr b1 b2 slots s1 s2) {n : Nat} (hn : s1.keys.length = n) : Calls Tryz.prog 16 #[.pointer (some ⟨b1, 0, none⟩)] wr (DKeys w wr b1 b2 slots s1 s2 n) := by
  have hd := d
  obtain ⟨O1, O2, d⟩ := d
  refine (keysB_any wr d.k1).mono ?_
  rintro e w' ⟨v, rfl, ho, hb⟩
  obtain ⟨a, c, hv, hi⟩ := ho.shape
  subst hv
  rw [hn]
  exact ⟨a, c, rfl, hi, hd.below hb, hb⟩
end
end Go.Proofs.YticckfioggeaeaaGreatDoor
