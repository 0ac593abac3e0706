/-
  A table beside other things of the call's own.
-/
import Derived.Test.YthldhbcidcmmaaaDoorSplit8
import Derived.Test.YthldhbcidcmmaaaDoorRef1
import Derived.Test.YthldhbcidcmmaaaDoorIn
namespace Go.Proofs.YthldhbcidcmmaaaDoor
open Go.RowKit

/-- Other doings: a table's blocks stay; what was made meanwhile is not its own. -/
theorem Tab.away {O O2 : Nat → Prop} {w w' : World} {t : Nat} {S : List Int} (h : Tab O w t S) (hk : KeepP O2 w w') (hd : ∀ x, x < w.heap.size → O x → ¬ O2 x) : Tab (fun x => O x ∧ (x < w.heap.size ∨ w'.heap.size ≤ x)) w' t S := by
  obtain ⟨g, cap, D, pg, deep, kv, h1, h2, h3⟩ := h
  have h4 := h1.keepP hk hd
  obtain ⟨rest, ha, _⟩ := h1.arr
  exact ⟨g, cap, D, pg, deep, kv, { h4 with
    ot := ⟨h1.ot, .inl h1.top.lt⟩
    og := ⟨h1.og, .inl ha.lt⟩
    op := fun i => ⟨h1.op i, .inl (h1.pgs i).lt⟩
    ok := fun i x hx => ⟨h1.ok i x hx, .inl (World.ownsRow.lt (h1.key i) x hx).2⟩
    on := fun x hx => ⟨h1.on x (Nat.le_trans hk.size hx), .inr hx⟩ }, h2, h3⟩
theorem KeepP.of_keep {F : List Nat} {w w' : World} (h : Keep F w w') : KeepP (fun x => x ∈ F) w w' := h.toP (fun _ hx => hx)
theorem OwnInts.keepP {O : Nat → Prop} {w w' : World} {b : Nat} {v : Value} {xs : List Int} (h : OwnInts w b v xs) (hk : KeepP O w w') (hd : ∀ x, v.ownBlock = some x → ¬ O x) : OwnInts w' b v xs :=
  h.keep fun x hx => hk.block x (World.ownsRow.lt h x hx).2 (hd x hx)

/-- A table, and the keys that came in, in a row of the call's own. -/
def TabHas (w wr : World) (t : Nat) (v : Value) (S hs : List Int) : Prop :=
  ∃ O : Nat → Prop, Tab O wr t S ∧ OwnInts wr w.heap.size v hs ∧ (∀ x, v.ownBlock = some x → ¬ O x) ∧ (∀ x, x < w.heap.size → ¬ O x) ∧ Below w.heap.size w wr ∧ (hs.Perm S)
theorem insK_perm (x : Int) : ∀ l : List Int, (insK x l).Perm (x :: l)
  | [] => List.Perm.refl _
  | y :: l => by
    rw [insK_cons]
    split
    · exact List.Perm.refl _
    · exact ((insK_perm x l).cons y).trans (List.Perm.swap x y l)
theorem TabHas.mem {w wr : World} {t : Nat} {v : Value} {S hs : List Int} (h : TabHas w wr t v S hs) (x : Int) : x ∈ hs ↔ x ∈ S := by
  obtain ⟨_, _, _, _, _, _, h⟩ := h
  exact h.mem_iff
/-- Behind Add that is refused. -/
theorem TabHas.no {w wr w2 : World} {t : Nat} {v : Value} {S hs : List Int} {O : Nat → Prop} (hv : OwnInts wr w.heap.size v hs) (hno : ∀ x, v.ownBlock = some x → ¬ O x) (hlo : ∀ x, x < w.heap.size → ¬ O x) (hb : Below w.heap.size w wr) (hp : hs.Perm S)
    (ht : Tab O w2 t S) (hk : KeepP O wr w2) : TabHas w w2 t v S hs :=
  ⟨O, ht, hv.keepP hk hno, hno, hlo, hb.trans (hk.toBelow hb.size hlo), hp⟩
/-- Behind Add that is done, and the append. -/
theorem TabHas.yes {w wr w2 w3 : World} {t : Nat} {v v' : Value} {S hs : List Int} {O : Nat → Prop} {x : Int} {o : Obj} (hv : OwnInts wr w.heap.size v hs) (hno : ∀ x, v.ownBlock = some x → ¬ O x) (hlo : ∀ x, x < w.heap.size → ¬ O x) (hb : Below w.heap.size w wr) (hp : hs.Perm S)
    (ht : Tab O w2 t (insK x S)) (hk : KeepP O wr w2) (hown : OwnInts w3 w.heap.size v' (hs ++ [x])) (hgrow : (w2.alloc o).grownBy w3 v.ownBlock) (hat : v'.ownBlock = v.ownBlock ∨ v'.ownBlock = some (w2.alloc o).heap.size) :
    TabHas w w3 t v' (insK x S) (hs ++ [x]) := by
  have hv2 := hv.keepP hk hno
  have hb2 := hb.trans (hk.toBelow hb.size hlo)
  have hkp : KeepP (fun y => v.ownBlock = some y) w2 w3 := ⟨hgrow.os, hgrow.tape, hgrow.output, Nat.le_trans (by simp) hgrow.size, fun y hy hne => (hgrow.block y (by simp; omega) (fun e => hne e.symm)).trans (Below.heap_alloc _ _ y hy)⟩
  have hs3 : w2.heap.size < w3.heap.size := Nat.lt_of_lt_of_le (by simp) hgrow.size
  refine ⟨_, ht.away hkp (fun y hy hO hv3 => hno y hv3 hO), hown, fun y hy hO => ?_, fun y hy hO => hlo y hy hO.1, ?_, ?_⟩
  · have hlt := (World.ownsRow.lt hown y hy).2
    rcases hat with e | e
    · exact hno y (by rw [← e]; exact hy) hO.1
    · rw [e] at hy
      simp only [Option.some.injEq] at hy
      have : w2.heap.size < (w2.alloc o).heap.size := by simp
      rcases hO.2 with h | h <;> omega
  · exact (hb2.alloc hb2.size _).grown hgrow (by have := hb2.size; simp; omega) (fun y hy => (World.ownsRow.lt hv2 y hy).1)
  · exact (List.perm_append_comm.trans ((hp.cons x).trans (insK_perm x S).symm))
end Go.Proofs.YthldhbcidcmmaaaDoor
