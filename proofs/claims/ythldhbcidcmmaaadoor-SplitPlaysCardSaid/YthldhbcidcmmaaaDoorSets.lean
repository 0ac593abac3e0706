/-
  Many cells of a block set at once.
-/
import Derived.Test.YthldhbcidcmmaaaDoorCore
import Derived.Deep.MidRow
namespace Go.Proofs.YthldhbcidcmmaaaDoor
open Go.RowKit

def sets : List Value → Nat → List Value → List Value
  | cs, _, [] => cs
  | cs, i, v :: r => sets (cs.set i v) (i + 1) r
theorem Blk.setCells {b : Nat} {t : TypeId} : ∀ (vs : List Value) (i : Nat) (cs : List Value) (w : World), Blk w b t cs → Blk (w.setCells b i vs) b t (sets cs i vs)
  | [], _, _, _, h => h
  | v :: r, i, _, _, h => Blk.setCells r (i + 1) _ _ (h.set i v)
theorem Keep.setCells {b : Nat} {F : List Nat} {w0 : World} (hF : b < w0.heap.size → b ∈ F) : ∀ (vs : List Value) (i : Nat) (w : World), Keep F w0 w → Keep F w0 (w.setCells b i vs)
  | [], _, _, h => h
  | v :: r, i, _, h => Keep.setCells hF r (i + 1) _ (h.set (p := ⟨b, i, none⟩) hF v)
theorem sets_get : ∀ (vs cs : List Value) (i j : Nat), i + vs.length ≤ cs.length → (sets cs i vs)[j]? = if i ≤ j ∧ j < i + vs.length then vs[j - i]? else cs[j]?
  | [], cs, i, j, _ => by simp [sets]; intro h1 h2; omega
  | v :: r, cs, i, j, h => by
    simp only [List.length_cons] at h
    rw [sets, sets_get r _ (i + 1) j (by simp; omega)]
    simp only [List.length_cons]
    by_cases e : j = i
    · subst e
      rw [if_neg (by omega), if_pos (by omega)]
      simp [show j < cs.length by omega]
    · rw [List.getElem?_set_ne (by omega)]
      by_cases g : i ≤ j ∧ j < i + (r.length + 1)
      · rw [if_pos (by omega), if_pos g, show j - i = (j - (i + 1)) + 1 by omega, List.getElem?_cons_succ]
      · rw [if_neg (by omega), if_neg g]
theorem sets_len : ∀ (vs cs : List Value) (i : Nat), (sets cs i vs).length = cs.length
  | [], cs, i => rfl
  | v :: r, cs, i => by rw [sets, sets_len r]; simp
theorem sets_all (vs xs ys : List Value) (h : xs.length = vs.length) : sets (xs ++ ys) 0 vs = vs ++ ys := by
  apply List.ext_getElem?
  intro j
  rw [sets_get _ _ _ _ (by simp; omega)]
  by_cases g : j < vs.length
  · rw [if_pos (by omega), List.getElem?_append_left g]; simp
  · rw [if_neg (by omega), List.getElem?_append_right (by omega), List.getElem?_append_right (by omega), h]

end Go.Proofs.YthldhbcidcmmaaaDoor
