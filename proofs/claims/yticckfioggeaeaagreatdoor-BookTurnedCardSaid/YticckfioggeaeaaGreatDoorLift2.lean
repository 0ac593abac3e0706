/-
  A row of rows that comes in has room for what it holds.
-/
import Derived.Test.YticckfioggeaeaaGreatDoorLift
namespace Go.Proofs.YticckfioggeaeaaGreatDoor
open Go.RowKit
theorem open_rows_cap {H : Type} {enc : TypeId × Value → H} {w : World} {fuel : Nat} {a : Option Addr} {n c : Nat} {x : DataW H × List MemPlace} (h : DataW.trod enc Tryz.prog w 0 (fun _ => true) true fuel 37 [.slice a n c] = some x) : n ≤ c := by
  rcases Deep.open_int_rows Tryz.underlying37 Tryz.underlying22 Tryz.underlying3 (by kernel_rfl) cellsInt h with ⟨hcs, hx⟩ | ⟨ad, len, cap, A, L, C, Z, hcs, _, hl, hm, _, hrows⟩
  · simp at hcs
    omega
  · simp at hcs
    obtain ⟨rfl, rfl, rfl⟩ := hcs
    omega
/-- One row of rows, as a row of rows by itself. -/
theorem RowsIn.one {w : World} {B : Nat} {b off k : Nat} {a' : Option Addr} {c' : Nat} {l : List Int} (hb : b < B) (h1 : w.cell? ⟨b, off + k, none⟩ = some (.slice a' l.length c')) (h2 : IntsIn w B a' l) : RowsIn w B (some ⟨b, off + k, none⟩) [l] := fun _ =>
  ⟨b, off + k, rfl, hb, fun i xs hi => by
    cases i with
    | zero => simp at hi; subst hi; exact ⟨a', c', h1, h2⟩
    | succ i => simp at hi⟩
end Go.Proofs.YticckfioggeaeaaGreatDoor
