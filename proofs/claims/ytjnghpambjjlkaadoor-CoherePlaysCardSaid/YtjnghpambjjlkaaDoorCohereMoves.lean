/-
  Caches: Moves, by its contract.
-/
import Derived.Test.YtjnghpambjjlkaaDoorCohereOps
namespace Go.Proofs.YtjnghpambjjlkaaDoor
open Go.RowKit

theorem moves_any (b g n : Nat) (s : Cs) (w : World) (hs : CAt w b g n s) : Calls Tryd.prog 42 #[.pointer (some ⟨b, 0, none⟩)] w fun e w' => e = .returned (.int .i64 s.mv) ∧ w = w' := by
  obtain ⟨hq0, _⟩ := hs.moves_
  go_enter Tryd.func42, Tryd.ntmps42
  go_wp2
  go_ret
  exact ⟨rfl, rfl⟩

end Go.Proofs.YtjnghpambjjlkaaDoor
