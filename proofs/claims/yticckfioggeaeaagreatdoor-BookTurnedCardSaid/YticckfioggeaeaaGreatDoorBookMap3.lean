/-
  The map's operations where the walk stands.
-/
import Derived.Test.YticckfioggeaeaaGreatDoorBookMap2
namespace Go.Proofs.YticckfioggeaeaaGreatDoor
open Go.RowKit

theorem law_T : Tryz.prog.underlying 67 = some (.map 3 86) := Tryz.underlying67
theorem law_K : Tryz.prog.underlying 3 = some (.int .i64) := Tryz.underlying3
theorem zero_E (w : World) : (zeroValue 86).run Tryz.prog w = .ok (.agg #[.int .i64 0, .int .i64 0]) w := by kernel_rfl
theorem ent_one : ∀ {M : List Ent}, (M.map (·.1)).Nodup → ∀ {p q : Ent}, p ∈ M → q ∈ M → p.1 = q.1 → p = q
  | [], _, _, _, hp, _, _ => by simp at hp
  | m :: M, hn, p, q, hp, hq, h => by
    rw [List.map_cons, List.nodup_cons] at hn
    rw [List.mem_cons] at hp hq
    rcases hp with rfl | hp <;> rcases hq with rfl | hq
    · rfl
    · exact absurd (List.mem_map.2 ⟨q, hq, h.symm⟩) hn.1
    · exact absurd (List.mem_map.2 ⟨p, hp, h⟩) hn.1
    · exact ent_one hn.2 hp hq h
/-- What is told of a key that is there; of one that is not. -/
theorem look_is {w : World} {g : Nat} {M : List Ent} (h : MapAt w g M) {x v t : Int} (hm : (x, v, t) ∈ M) :
    (Instr.lookup 67 (.map (some g)) (.int .i64 x) true).run Tryz.prog w = .ok (.tuple #[.agg #[.int .i64 v, .int .i64 t], .bool true]) w ∧
    (Instr.lookup 67 (.map (some g)) (.int .i64 x) false).run Tryz.prog w = .ok (.agg #[.int .i64 v, .int .i64 t]) w := by
  constructor
  · rcases look_map law_T law_K (zero_E w) true h x with ⟨v', t', h1, h2⟩ | ⟨h1, _⟩
    · have := ent_one h.nodup h1 hm rfl
      simp only [Prod.mk.injEq, true_and] at this
      obtain ⟨rfl, rfl⟩ := this
      simpa using h2
    · exact absurd rfl (h1 _ hm)
  · rcases look_map law_T law_K (zero_E w) false h x with ⟨v', t', h1, h2⟩ | ⟨h1, _⟩
    · have := ent_one h.nodup h1 hm rfl
      simp only [Prod.mk.injEq, true_and] at this
      obtain ⟨rfl, rfl⟩ := this
      simpa using h2
    · exact absurd rfl (h1 _ hm)
theorem look_no {w : World} {g : Nat} {M : List Ent} (h : MapAt w g M) {x : Int} (hx : ∀ p ∈ M, p.1 ≠ x) :
    (Instr.lookup 67 (.map (some g)) (.int .i64 x) true).run Tryz.prog w = .ok (.tuple #[.agg #[.int .i64 0, .int .i64 0], .bool false]) w := by
  rcases look_map law_T law_K (zero_E w) true h x with ⟨v', t', h1, _⟩ | ⟨_, h2⟩
  · exact absurd rfl (hx _ h1)
  · simpa using h2
section
variable {w : World} {ops : Array Oper} {rest : List Oper} {o : Oper} {a : Act} {Q : Exit → Act → World → Prop}
theorem wpList_put_map (hg : o.guard = none) (m x v : Operand) (hop : o.op = Op.mapUpdate 67 m x v) (g : Nat) (M : List Ent) (hm : a.eval m = .map (some g)) (hown : MapAt w g M) (kx vv tt : Int) (hx : a.eval x = .int .i64 kx) (hv : a.eval v = .agg #[.int .i64 vv, .int .i64 tt])
    (hK : ∀ w', MapAt w' g ((kx, vv, tt) :: M.filter fun p => p.1 != kx) → w.grownBy w' (some g) → w'.heap.size = w.heap.size → wpList Tryz.prog ops Q rest (a.put o.dst undef) w') :
    wpList Tryz.prog ops Q (o :: rest) a w := by
  refine wpList_plain hg fun K' hK' => ?_
  obtain ⟨w', hrun, r1, r2, r3⟩ := put_map law_T law_K hown kx vv tt
  unfold Oper.wp
  simp [execOp, hop, hm, hx, hv, hrun, Result.andThen]
  exact hK' _ _ (hK w' r1 r2 r3)
theorem wpList_del_map (hg : o.guard = none) (m x : Operand) (hop : o.op = Op.call { callee := Callee.builtin Builtin.delete, args := #[m, x], argTypes := #[67, 3] }) (g : Nat) (M : List Ent) (hm : a.eval m = .map (some g)) (hown : MapAt w g M) (kx : Int) (hx : a.eval x = .int .i64 kx)
    (hK : ∀ w', MapAt w' g (M.filter fun p => p.1 != kx) → w.grownBy w' (some g) → w'.heap.size = w.heap.size → wpList Tryz.prog ops Q rest (a.put o.dst (.tuple #[])) w') :
    wpList Tryz.prog ops Q (o :: rest) a w := by
  refine wpList_plain hg fun K' hK' => ?_
  obtain ⟨w', hrun, r1, r2, r3⟩ := del_map law_T law_K o.type hown kx
  unfold Oper.wp
  simp [execOp, hop, resolve, invoke, builtin, hm, hx, hrun, Result.andThen]
  exact hK' _ _ (hK w' r1 r2 r3)
theorem wpList_len_map (hg : o.guard = none) (m : Operand) (hop : o.op = Op.call { callee := Callee.builtin Builtin.len, args := #[m], argTypes := #[67] }) (g : Nat) (M : List Ent) (hm : a.eval m = .map (some g)) (hown : MapAt w g M)
    (hK : wpList Tryz.prog ops Q rest (a.put o.dst (.int .i64 M.length)) w) :
    wpList Tryz.prog ops Q (o :: rest) a w := by
  refine wpList_plain hg fun K' hK' => ?_
  unfold Oper.wp
  simp [execOp, hop, resolve, invoke, builtin, hm, len_map law_T o.type hown, Result.andThen]
  exact hK' _ _ hK
theorem wpList_range_map (hg : o.guard = none) (m : Operand) (hop : o.op = Op.range 67 m) (g : Nat) (M : List Ent) (hm : a.eval m = .map (some g)) (hown : MapAt w g M)
    (hK : ∀ w', RangeAt w' g w.heap.size M M → w.grownBy w' none → w'.heap.size = w.heap.size + 1 → wpList Tryz.prog ops Q rest (a.put o.dst (.pointer (some ⟨w.heap.size, 0, none⟩))) w') :
    wpList Tryz.prog ops Q (o :: rest) a w := by
  refine wpList_plain hg fun K' hK' => ?_
  obtain ⟨w', hrun, r1, r2, r3⟩ := range_map law_T hown
  unfold Oper.wp
  simp [execOp, hop, hm, hrun, Result.andThen]
  exact hK' _ _ (hK w' r1 r2 r3)
theorem wpList_next_map (hg : o.guard = none) (it : Operand) (hop : o.op = Op.next it false) (g r : Nat) (M left : List Ent) (hit : a.eval it = .pointer (some ⟨r, 0, none⟩)) (h : RangeAt w g r M left)
    (hDone : left = [] → wpList Tryz.prog ops Q rest (a.put o.dst (.tuple #[.bool false])) w)
    (hMore : ∀ x left' w', left.Perm (x :: left') → RangeAt w' g r M left' → w.grownBy w' (some r) → w'.heap.size = w.heap.size → (Instr.entry (.pointer (some ⟨r, 0, none⟩))).run Tryz.prog w' = .ok (.tuple #[.int .i64 x.1, .agg #[.int .i64 x.2.1, .int .i64 x.2.2]]) w' → wpList Tryz.prog ops Q rest (a.put o.dst (.tuple #[.bool true, .int .i64 x.1, .agg #[.int .i64 x.2.1, .int .i64 x.2.2]])) w') :
    wpList Tryz.prog ops Q (o :: rest) a w := by
  refine wpList_plain hg fun K' hK' => ?_
  unfold Oper.wp
  rcases next_map (P := Tryz.prog) o.type h with ⟨h0, hrun⟩ | ⟨x, left', w', hp, hrun, hr, hgr, hsz, hen⟩
  · simp [execOp, hop, hit, hrun, Result.andThen]
    exact hK' _ _ (hDone h0)
  · simp [execOp, hop, hit, hrun, Result.andThen]
    exact hK' _ _ (hMore x left' w' hp hr hgr hsz hen)
end
end Go.Proofs.YticckfioggeaeaaGreatDoor
