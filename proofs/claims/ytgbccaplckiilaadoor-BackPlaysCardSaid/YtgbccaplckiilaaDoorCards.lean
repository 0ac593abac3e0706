/-
  DERIVED. GIVEN WITH THE SEED: THE CARDS: each row of YtgbccaplckiilaaDoorRows.lean that lists a variable, with what it lists TIED to the program's text (the seventh form; the later family's looks); each row that meets fmt, with fmt's text TOLD by the authors' own Lean function (tested against real Go, not proved from fmt's source: count such statements apart). THE CARD IS WHAT COUNTS. Prove the row's statement (the work); the ties are given (YtgbccaplckiilaaDoorTie.lean); close each card by the builder's one call (the guide's Derived/Test/ToyasCard.lean, 'card_holds'). Laid BY PROGRAM, IN A SANDBOX (cutbox-door.mjs). By AI agents, Wed Nov 11 2026. No macro, syntax, notation, axiom, sorry.
-/
import Derived.Test.YtgbccaplckiilaaDoorRows
import GoSem.ClaimSeven
namespace Go.Proofs.YtgbccaplckiilaaDoor
namespace Rows

/-- THE TIED CARD OF 'larderwicklaw4.BackPlays'. -/
def backPlaysCard : Claim7 := { stood := { row := backPlaysRow, standIns := [], harness := (true, "697b260355e7d64e63a1a7457b429dfd1ed9f9a4a45517cc388b0efcf55d5a22"), looks := true }, kinds := [], alts := [], laidByText := true, laidKinds := [.handle], laidTests := true, laidLooks := .later }
def BackPlaysCardSaid : Prop := Claim7.holds Tryd.pinned (.plain (OpenSpec.ofChange backPlaysSpec)) backPlaysCard

/-- THE SECOND FORM's CARD OF 'larderwicklaw4.BackPlays'. -/
def backPlaysUptoCard : Claim7 := { stood := { row := backPlaysUptoRow, standIns := [], harness := (true, "697b260355e7d64e63a1a7457b429dfd1ed9f9a4a45517cc388b0efcf55d5a22"), looks := true }, kinds := [], alts := [], laidByText := true, laidKinds := [.handle], laidTests := true, laidLooks := .later }
def BackPlaysUptoCardSaid : Prop := Claim7.holds Tryd.pinned (.plain (OpenSpec.upto backPlaysSpec)) backPlaysUptoCard
end Rows
end Go.Proofs.YtgbccaplckiilaaDoor
