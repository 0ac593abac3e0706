/-
  The map of a desk's verbs: how it is made, and looked up.
-/
import Derived.Test.YticckfioggeaeaaGreatDoorGC
import Derived.Test.YticckfioggeaeaaGreatDoorGB
import Derived.Test.YticckfioggeaeaaGreatDoorGA
set_option linter.unusedVariables false
set_option linter.unusedSimpArgs false
set_option linter.unnecessarySimpa false
set_option linter.unusedVariables false
namespace Go.Proofs.YticckfioggeaeaaGreatDoor
open Go.RowKit

def verbV (m : Int) (f : FuncId) : Value := .agg #[.int .i64 m, .func (.func f) #[] #[]]
def vents (i : Nat) : List (List UInt8 × Int × FuncId) → List MapEntry
  | [] => []
  | p :: r => ⟨.string ⟨p.1.toArray⟩, verbV p.2.1 p.2.2, i⟩ :: vents (i + 1) r
def VMap (w : World) (g : Nat) (es : List (List UInt8 × Int × FuncId)) : Prop := w.heap[g]? = some (.map (vents 0 es).toArray es.length)
theorem vents_snoc : ∀ (es : List (List UInt8 × Int × FuncId)) (i : Nat) (p : List UInt8 × Int × FuncId), vents i (es ++ [p]) = vents i es ++ [⟨.string ⟨p.1.toArray⟩, verbV p.2.1 p.2.2, i + es.length⟩]
  | [], i, p => by simp [vents]
  | q :: r, i, p => by
    rw [List.cons_append, vents, vents, vents_snoc r (i + 1) p, List.cons_append, List.length_cons]
    rw [show i + 1 + r.length = i + (r.length + 1) by omega]
theorem vents_mem : ∀ (es : List (List UInt8 × Int × FuncId)) (i : Nat) (e : MapEntry), e ∈ vents i es → ∃ p ∈ es, e.key = .string ⟨p.1.toArray⟩ ∧ e.val = verbV p.2.1 p.2.2
  | [], i, e, h => by simp [vents] at h
  | q :: r, i, e, h => by
    rw [vents] at h
    rcases List.mem_cons.1 h with rfl | h
    · exact ⟨q, by simp, rfl, rfl⟩
    · obtain ⟨p, hp, h1⟩ := vents_mem r (i + 1) e h
      exact ⟨p, by simp [hp], h1⟩
theorem str_inj {a b : List UInt8} (h : Value.string ⟨a.toArray⟩ = Value.string ⟨b.toArray⟩) : a = b := by
  injection h with h
  injection h with h
  simpa using h
theorem VMap.lt {w : World} {g : Nat} {es : List (List UInt8 × Int × FuncId)} (h : VMap w g es) : g < w.heap.size := (Array.getElem?_eq_some_iff.1 h).1
theorem VMap.keep {w w' : World} {g : Nat} {es : List (List UInt8 × Int × FuncId)} (h : VMap w g es) (hk : w'.heap[g]? = w.heap[g]?) : VMap w' g es := hk.trans h
theorem vmap_new (w : World) : VMap (w.alloc (.map #[] 0)) w.heap.size [] := by
  show (w.heap.push _)[w.heap.size]? = _
  simp [vents]
section
variable {P : Program} {T k e : TypeId} (ht : P.underlying T = some (.map k e)) (hk : P.underlying k = some .string)
include hk
theorem find_verb (w : World) (n : List UInt8) (es : List (List UInt8 × Int × FuncId)) :
    ((Instr.findKey k (.string ⟨n.toArray⟩) (vents 0 es)).run P w = .ok none w ∧ ∀ p ∈ es, p.1 ≠ n) ∨
    ∃ j m f, (Instr.findKey k (.string ⟨n.toArray⟩) (vents 0 es)).run P w = .ok (some (j, verbV m f)) w ∧ (n, m, f) ∈ es := by
  rcases MapKept.findNow_spec (d := .string) (k := .string ⟨n.toArray⟩) (by simp [MapKept.IsKey]) (vents 0 es) 0 (by intro y hy; obtain ⟨p, _, h1, _⟩ := vents_mem _ _ _ hy; rw [h1]; simp [MapKept.IsKey]) with ⟨h1, h2⟩ | ⟨j, x, h1, h2, h3⟩
  · left
    refine ⟨MapKept.run_findKey hk h1, fun p hp e => ?_⟩
    have key : ∀ (es : List (List UInt8 × Int × FuncId)) (i : Nat), p ∈ es → ∃ x ∈ vents i es, x.key = .string ⟨p.1.toArray⟩ := by
      intro es
      induction es with
      | nil => intro i h; simp at h
      | cons q r ih =>
        intro i h
        rcases List.mem_cons.1 h with rfl | h
        · exact ⟨_, by rw [vents]; exact List.mem_cons_self, rfl⟩
        · obtain ⟨x, hx, e⟩ := ih (i + 1) h
          exact ⟨x, by rw [vents]; exact List.mem_cons_of_mem _ hx, e⟩
    obtain ⟨x, hx, e2⟩ := key es 0 hp
    exact h2 x hx (by rw [e2, e])
  · right
    obtain ⟨p, hp, e1, e2⟩ := vents_mem _ _ _ (List.mem_of_getElem? h2)
    obtain ⟨nm, m, f⟩ := p
    rw [e1] at h3
    obtain rfl := str_inj h3
    rw [e2] at h1
    exact ⟨_, m, f, MapKept.run_findKey hk h1, hp⟩
include ht
/-- Looked up. -/
theorem look_verb {w : World} {g : Nat} {es : List (List UInt8 × Int × FuncId)} {Z : Value} (hz : (zeroValue e).run P w = .ok Z w) (h : VMap w g es) (n : List UInt8) :
    (∃ m f, (n, m, f) ∈ es ∧ (Instr.lookup T (.map (some g)) (.string ⟨n.toArray⟩) true).run P w = .ok (.tuple #[verbV m f, .bool true]) w) ∨
    ((∀ p ∈ es, p.1 ≠ n) ∧ (Instr.lookup T (.map (some g)) (.string ⟨n.toArray⟩) true).run P w = .ok (.tuple #[Z, .bool false]) w) := by
  rcases find_verb hk w n es with ⟨h1, h2⟩ | ⟨j, m, f, h1, h2⟩
  · right
    exact ⟨h2, by simp [Instr.lookup, run_underlying ht, MapKept.run_getObj_map h, MapKept.run_checkKey hk (k := .string ⟨n.toArray⟩) (by simp [MapKept.IsKey]), h1, hz, Result.andThen]⟩
  · left
    exact ⟨m, f, h2, by simp [Instr.lookup, run_underlying ht, MapKept.run_getObj_map h, MapKept.run_checkKey hk (k := .string ⟨n.toArray⟩) (by simp [MapKept.IsKey]), h1, Result.andThen]⟩
/-- A verb more. -/
theorem put_verb {w : World} {g : Nat} {es : List (List UInt8 × Int × FuncId)} (h : VMap w g es) (n : List UInt8) (m : Int) (f : FuncId) (hn : ∀ p ∈ es, p.1 ≠ n) :
    ∃ w', (Instr.mapUpdate T (.map (some g)) (.string ⟨n.toArray⟩) (verbV m f)).run P w = .ok () w' ∧ VMap w' g (es ++ [(n, m, f)]) ∧ w.grownBy w' (some g) ∧ w'.heap.size = w.heap.size := by
  rcases find_verb hk w n es with ⟨h1, h2⟩ | ⟨j, m', f', h1, h2⟩
  · refine ⟨{ w with heap := w.heap.setIfInBounds g (.map (vents 0 (es ++ [(n, m, f)])).toArray (es ++ [(n, m, f)]).length) }, ?_, (MapKept.heap_set h).1, ⟨rfl, rfl, rfl, by simp, fun i _ hi => (MapKept.heap_set h).2 i (fun e => hi (by rw [e]))⟩, by simp⟩
    rw [vents_snoc, List.length_append]
    simp [Instr.mapUpdate, run_underlying ht, MapKept.run_getObj_map h, MapKept.run_checkKey hk (k := .string ⟨n.toArray⟩) (by simp [MapKept.IsKey]), h1, MapKept.run_setObj_map _ h, Result.andThen]
  · exact absurd rfl (hn _ h2)
end
section
variable {w : World} {ops : Array Oper} {rest : List Oper} {o : Oper} {a : Act} {Q : Exit → Act → World → Prop}
theorem wpList_put_verb (hg : o.guard = none) (m x v : Operand) (hop : o.op = Op.insert 111 m x v) (g : Nat) (es : List (List UInt8 × Int × FuncId)) (hm : a.eval m = .map (some g)) (hown : VMap w g es) (n : List UInt8) (mm : Int) (f : FuncId) (hx : a.eval x = .string ⟨n.toArray⟩) (hv : a.eval v = verbV mm f)
    (hn : ∀ p ∈ es, p.1 ≠ n)
    (hK : ∀ w', VMap w' g (es ++ [(n, mm, f)]) → w.grownBy w' (some g) → w'.heap.size = w.heap.size → wpList Tryz.prog ops Q rest (a.put o.dst undef) w') :
    wpList Tryz.prog ops Q (o :: rest) a w := by
  refine wpList_plain hg fun K' hK' => ?_
  obtain ⟨w', hrun, r1, r2, r3⟩ := put_verb (P := Tryz.prog) Tryz.underlying111 Tryz.underlying9 hown n mm f hn
  unfold Oper.wp
  simp [execOp, hop, hm, hx, hv, hrun, Result.andThen]
  exact hK' _ _ (hK w' r1 r2 r3)
end
theorem zero_verb (w : World) : (zeroValue 110).run Tryz.prog w = .ok (.agg #[.int .i64 0, .nilFunc]) w := by kernel_rfl
/-- The verbs of a desk. -/
def verbs : List (List UInt8 × Int × FuncId) := [(sPut, 2, 68), (sGet, 1, 69), (sKeys, 0, 70), (sCrash, 1, 71)]
end Go.Proofs.YticckfioggeaeaaGreatDoor
