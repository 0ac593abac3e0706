/-
  'for x := range strings.Lines(s)': the statement, over the iterator's contract (the iterator keeps its state in a cell: the kit's laws do not take that in). Turned from the proof of the kit's fifth law.
-/
import Derived.Test.YticckfioggeaeaaGreatDoorBookLines
set_option linter.unusedVariables false
set_option linter.unusedSimpArgs false
set_option linter.unnecessarySimpa false
set_option linter.unusedVariables false
namespace Go.Proofs.YticckfioggeaeaaGreatDoor
open Go.RowKit Go.Shelf

/-- The law's own two blocks. -/
abbrev Two (B : Nat) (x : Nat) : Prop := x = B ∨ x = B + 1
theorem two_put {B : Nat} {W : World} {r : Nat} (o' : Obj) (hr : Two B r) : KeepP (Two B) W (W.putObj r o') :=
  ⟨rfl, rfl, rfl, by simp, fun k _ hk => World.putObj_heap_other (fun e => hk (by rw [e]; exact hr))⟩
def linePost (B : Nat) (I : World → Prop) (Ix : Code → World → Prop) (W : World) : Exit → Act → World → Prop
  | .normal, _, W' => (∀ k, Two B k → W'.heap[k]? = W.heap[k]?) ∧ I W'
  | .ret, _, W' => (∀ k, Two B k → W'.heap[k]? = W.heap[k]?) ∧ Ix .ret W'
  | .exit id, _, W' => (∀ k, Two B k → W'.heap[k]? = W.heap[k]?) ∧ Ix (.exit id) W'
  | .goto t, _, W' => (∀ k, Two B k → W'.heap[k]? = W.heap[k]?) ∧ Ix (.goto t) W'
  | .panic _, _, _ => False
  | .outgrown, _, _ => False
set_option maxHeartbeats 1000000 in
theorem range_lines {g : Operand} {ps : Array Tmp} {assign body : Code} {Q : Exit → Act → World → Prop} {a : Act} {w : World} {n c : Nat} (hn : 5 ≤ n)
    (hg : a.eval g = .func (.func 55) #[] #[.pointer (some ⟨c, 0, none⟩)]) (hps : ps.size = 1) (hc : c < w.heap.size)
    (I : List UInt8 → World → Prop) (J : List UInt8 → List UInt8 → World → Prop) (Ix : Code → World → Prop)
    (hbox : ∀ rest W, I rest W → Blk W c 9 [strV rest] ∧ rest.length ≤ 3000)
    (hIk : ∀ rest W W', I rest W → KeepP (Two w.heap.size) W W' → I rest W') (hJk : ∀ x rest W W', J x rest W → KeepP (Two w.heap.size) W W' → J x rest W') (hXk : ∀ c W W', Ix c W → KeepP (Two w.heap.size) W W' → Ix c W')
    (hst : ∀ rest W W1, I rest W → rest ≠ [] → Keep [c] W W1 → Blk W1 c 9 [strV (nextLine rest).2] → J (nextLine rest).1 (nextLine rest).2 W1)
    (text : List UInt8) (h0 : ∀ o1 o2, I text ((w.alloc o1).alloc o2)) (a₁ : List UInt8 → Act)
    (hassign : ∀ (l : Nat) (x : List UInt8) (W : World) (K : Act → World → Prop), K (a₁ x) W →
      assign.wpIn (Fence.wide.inRound l) (n - 1 - 1) Tryz.prog (Exit.then K (fun _ _ _ => False)) { tmps := (ps.zip #[strV x]).foldl (fun t (p, v) => t.setIfInBounds p v) a.tmps, defers := [] } W)
    (hbody : ∀ (l : Nat) (x rest : List UInt8) (W : World), J x rest W → body.wpIn (Fence.wide.inRound l) (n - 1 - 1) Tryz.prog (linePost w.heap.size (I rest) Ix W) (a₁ x) W)
    (hdone : ∀ (W : World), I [] W → W.heap[w.heap.size]? = some (.deferred (some [])) → Q .normal { a with defers := { target := .collected w.heap.size, args := #[] } :: a.defers } W)
    (hstop : ∀ (j : Code) (W : World), Ix j W → W.heap[w.heap.size]? = some (.deferred (some [])) → j.wpIn Fence.wide n Tryz.prog Q { a with defers := { target := .collected w.heap.size, args := #[] } :: a.defers } W) :
    (Code.rangeFunc g ps assign body).wpIn Fence.wide n Tryz.prog Q a w := by
  refine wpIn_rangeFunc ?_
  intro fn hfn
  obtain ⟨rec, hrec⟩ : ∃ rec : LoopState → Option Code → Loop, rec = fun st pe => { state := st, pending := pe, fn, tmps := a.tmps, params := ps, assign, body, defers := w.heap.size } := ⟨_, rfl⟩
  obtain ⟨W1, hW1⟩ : ∃ W1, (w.alloc (.deferred (some []))).alloc (.loop (rec .ready none)) = W1 := ⟨_, rfl⟩
  have hL1 : W1.heap[w.heap.size + 1]? = some (.loop (rec .ready none)) := by
    rw [← hW1]; have := World.alloc_heap_new (w.alloc (.deferred (some []))) (.loop (rec .ready none)); rwa [World.size_alloc] at this
  have hK1 : W1.heap[w.heap.size]? = some (.deferred (some [])) := by
    rw [← hW1]; exact (Below.heap_alloc _ _ _ (by simp)).trans (World.alloc_heap_new w _)
  have hI1 : I text W1 := by rw [← hW1]; exact h0 _ _
  have hpo : ∀ {W : World} {r : Nat} (o' : Obj), Two w.heap.size r → KeepP (Two w.heap.size) W (W.putObj r o') := fun o' h1 => two_put o' h1
  refine ⟨w.heap.size + 1, [{ target := .collected w.heap.size, args := #[] }], W1, { target := .fn (.func 55) #[.pointer (some ⟨c, 0, none⟩)], args := #[.func (.yield (w.heap.size + 1)) #[] #[]] }, W1, 55,
    #[.func (.yield (w.heap.size + 1)) #[] #[], .pointer (some ⟨c, 0, none⟩)], W1, ?_, ?_, ?_, ?_, fun _ => by omega, ?_⟩
  · rw [← hW1, hrec]; exact run_enterLoop_outer _ _ _ _ _
  · simp only [resolve, hg]
    simp [go_sem]
  · intro f' _; exact trivial
  · simp [invoke, go_sem]
  · refine (lines_any (w.heap.size + 1) c (n - 1) (by omega)
      (fun rest W => I rest W ∧ W.heap[w.heap.size + 1]? = some (.loop (rec .ready none)) ∧ W.heap[w.heap.size]? = some (.deferred (some [])))
      (fun W => ∃ j, Ix j W ∧ W.heap[w.heap.size + 1]? = some (.loop (rec .done (some j))) ∧ W.heap[w.heap.size]? = some (.deferred (some [])))
      (fun rest W h => hbox rest W h.1) ?_ text W1 ⟨hI1, hL1, hK1⟩).mono ?_
    · rintro rest W0 W ⟨hi0, hl0, hk0⟩ hne hkp hbk
      have hl : W.heap[w.heap.size + 1]? = some (.loop (rec .ready none)) := (hkp.block _ (Array.getElem?_eq_some_iff.1 hl0).1 (by simp; omega)).trans hl0
      have hk : W.heap[w.heap.size]? = some (.deferred (some [])) := (hkp.block _ (Array.getElem?_eq_some_iff.1 hk0).1 (by simp; omega)).trans hk0
      have hj := hst rest W0 W hi0 hne hkp hbk
      have hlt : w.heap.size + 1 < W.heap.size := (Array.getElem?_eq_some_iff.1 hl).1
      have hy := run_yield (P := Tryz.prog) (args := #[strV (nextLine rest).1]) hl (by rw [hrec]; exact hps.symm)
      rw [hrec] at hy
      refine ⟨fn, _, assign, body, hy, roundIn_of_wpIn hfn (hassign _ _ W _ ⟨_, run_beginRound hl (by rw [hrec]), ?_⟩)⟩
      have hl2 : (W.putObj (w.heap.size + 1) (.loop { rec .ready none with state := .busy })).heap[w.heap.size + 1]? = some (.loop { rec .ready none with state := .busy }) := World.putObj_heap_same hlt
      have hk2 : (W.putObj (w.heap.size + 1) (.loop { rec .ready none with state := .busy })).heap[w.heap.size]? = some (.deferred (some [])) := (World.putObj_heap_other (by omega)).trans hk
      refine wpIn_mono (hbody _ _ _ _ (hJk _ _ _ _ hj (hpo _ (.inr rfl)))) ?_
      have fin : ∀ (jump : Option Code) (W3 : World), (∀ k, Two w.heap.size k → W3.heap[k]? = (W.putObj (w.heap.size + 1) (.loop { rec .ready none with state := .busy })).heap[k]?) →
          (Instr.endRound (w.heap.size + 1) jump).run Tryz.prog W3 = .ok (.bool jump.isNone) (W3.putObj (w.heap.size + 1) (.loop (rec (if jump.isNone then .ready else .done) jump))) ∧
          W3.heap[w.heap.size + 1]? = some (.loop { rec .ready none with state := .busy }) ∧
          (W3.putObj (w.heap.size + 1) (.loop (rec (if jump.isNone then .ready else .done) jump))).heap[w.heap.size + 1]? = some (.loop (rec (if jump.isNone then .ready else .done) jump)) ∧
          (W3.putObj (w.heap.size + 1) (.loop (rec (if jump.isNone then .ready else .done) jump))).heap[w.heap.size]? = some (.deferred (some [])) := fun jump W3 hk3 => by
        have hl3 := (hk3 _ (.inr rfl)).trans hl2
        have := run_endRound (P := Tryz.prog) jump hl3
        rw [hrec] at this ⊢
        exact ⟨this, by rw [hrec] at hl3; exact hl3, World.putObj_heap_same (Array.getElem?_eq_some_iff.1 hl3).1, (World.putObj_heap_other (by omega)).trans ((hk3 _ (.inl rfl)).trans hk2)⟩
      rintro e a3 W3 hp
      cases e with
      | normal =>
        obtain ⟨hk3, hi3⟩ := hp
        obtain ⟨hr, hl3, hl4, hk4⟩ := fin none W3 hk3
        exact ⟨_, _, hr, .inl ⟨rfl, hIk _ _ _ hi3 (hpo _ (.inr rfl)), hl4, hk4⟩⟩
      | ret =>
        obtain ⟨hk3, hi3⟩ := hp
        obtain ⟨hr, hl3, hl4, hk4⟩ := fin (some .ret) W3 hk3
        exact ⟨_, _, hr, .inr ⟨rfl, .ret, hXk _ _ _ hi3 (hpo _ (.inr rfl)), hl4, hk4⟩⟩
      | exit id =>
        obtain ⟨hk3, hi3⟩ := hp
        obtain ⟨hr, hl3, hl4, hk4⟩ := fin (some (.exit id)) W3 hk3
        exact ⟨_, _, hr, .inr ⟨rfl, .exit id, hXk _ _ _ hi3 (hpo _ (.inr rfl)), hl4, hk4⟩⟩
      | goto t =>
        obtain ⟨hk3, hi3⟩ := hp
        obtain ⟨hr, hl3, hl4, hk4⟩ := fin (some (.goto t)) W3 hk3
        exact ⟨_, _, hr, .inr ⟨rfl, .goto t, hXk _ _ _ hi3 (hpo _ (.inr rfl)), hl4, hk4⟩⟩
      | panic ch => exact hp.elim
      | outgrown => exact hp.elim
    · rintro e W2 ⟨⟨v, rfl⟩, (⟨hi, hl, hk⟩ | ⟨j, hi, hl, hk⟩)⟩
      · exact ⟨none, _, by have := run_endLoop (P := Tryz.prog) hl (by rw [hrec]; simp); rw [hrec] at this; exact this, hdone _ (hIk _ _ _ hi (hpo _ (.inr rfl))) ((World.putObj_heap_other (by omega)).trans hk)⟩
      · exact ⟨some j, _, by have := run_endLoop (P := Tryz.prog) hl (by rw [hrec]; simp); rw [hrec] at this; exact this, hstop j _ (hXk _ _ _ hi (hpo _ (.inr rfl))) ((World.putObj_heap_other (by omega)).trans hk)⟩
end Go.Proofs.YticckfioggeaeaaGreatDoor
