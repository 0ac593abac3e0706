/-
  A row of ints that comes in: nil has no room; room for what it holds.
-/
import Derived.Test.YthldhbcidcmmaaaDoorLift
namespace Go.Proofs.YthldhbcidcmmaaaDoor
open Go.ChangeShapes Go.WideShapes Go.ChangeAt Go.RowKit
theorem open_ints_room {H : Type} {enc : TypeId × Value → H} {w : World} {fuel : Nat} {a : Option Addr} {n c : Nat} {x : DataW H × List MemPlace} (h : DataW.trod enc Tryd.prog w 0 (fun _ => true) true fuel 22 [.slice a n c] = some x) : (a = none → c = 0) ∧ n ≤ c := by
  rcases open_ints Tryd.underlying22 Tryd.underlying3 cellsInt h with ⟨hcs, _⟩ | ⟨ad, len, cap, z, hcs, _, hl, _⟩
  · simp at hcs
    obtain ⟨rfl, rfl, rfl⟩ := hcs
    exact ⟨fun _ => rfl, Nat.le_refl _⟩
  · simp at hcs
    obtain ⟨rfl, rfl, rfl⟩ := hcs
    exact ⟨(fun h => by cases h), hl⟩
end Go.Proofs.YthldhbcidcmmaaaDoor
