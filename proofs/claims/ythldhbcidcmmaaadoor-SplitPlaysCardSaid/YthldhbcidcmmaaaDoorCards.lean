/-
  DERIVED. GIVEN WITH THE SEED: THE CARDS: each row of YthldhbcidcmmaaaDoorRows.lean that lists a variable, with what it lists TIED to the program's text (the seventh form; the later family's looks); each row that meets fmt, with fmt's text TOLD by the authors' own Lean function (tested against real Go, not proved from fmt's source: count such statements apart). THE CARD IS WHAT COUNTS. Prove the row's statement (the work); the ties are given (YthldhbcidcmmaaaDoorTie.lean); close each card by the builder's one call (the guide's Derived/Test/ToyasCard.lean, 'card_holds'). Laid BY PROGRAM, IN A SANDBOX (cutbox-door.mjs). By AI agents, Wed Nov 11 2026. No macro, syntax, notation, axiom, sorry.
-/
import Derived.Test.YthldhbcidcmmaaaDoorRows
import GoSem.ClaimSeven
namespace Go.Proofs.YthldhbcidcmmaaaDoor
namespace Rows

/-- THE TIED CARD OF 'larderwicktop.TopTables'. -/
def topTablesCard : Claim7 := { stood := { row := topTablesRow, standIns := [], harness := (true, "2992bf0cba39a1859d5b28f40fc67933bc3e4bbac0d247087375d7def73c7ca4"), looks := true }, kinds := [], alts := [], laidByText := true, laidKinds := [.handle], laidTests := true, laidLooks := .later }
def TopTablesCardSaid : Prop := Claim7.holds Tryd.pinned (.plain (OpenSpec.ofChange topTablesSpec)) topTablesCard

/-- THE TIED CARD OF 'larderwicklaw4.SplitPlays'. -/
def splitPlaysCard : Claim7 := { stood := { row := splitPlaysRow, standIns := [], harness := (true, "2992bf0cba39a1859d5b28f40fc67933bc3e4bbac0d247087375d7def73c7ca4"), looks := true }, kinds := [], alts := [], laidByText := true, laidKinds := [.handle], laidTests := true, laidLooks := .later }
def SplitPlaysCardSaid : Prop := Claim7.holds Tryd.pinned (.plain (OpenSpec.ofChange splitPlaysSpec)) splitPlaysCard

/-- THE TIED CARD OF 'larderwicklaw4.CircleSays'. -/
def circleSaysCard : Claim7 := { stood := { row := circleSaysRow, standIns := [], harness := (true, "2992bf0cba39a1859d5b28f40fc67933bc3e4bbac0d247087375d7def73c7ca4"), looks := true }, kinds := [], alts := [], laidByText := true, laidKinds := [.handle], laidTests := true, laidLooks := .later }
def CircleSaysCardSaid : Prop := Claim7.holds Tryd.pinned (.plain (OpenSpec.ofChange circleSaysSpec)) circleSaysCard

/-- THE SECOND FORM's CARD OF 'larderwicktop.TopTables'. -/
def topTablesUptoCard : Claim7 := { stood := { row := topTablesUptoRow, standIns := [], harness := (true, "2992bf0cba39a1859d5b28f40fc67933bc3e4bbac0d247087375d7def73c7ca4"), looks := true }, kinds := [], alts := [], laidByText := true, laidKinds := [.handle], laidTests := true, laidLooks := .later }
def TopTablesUptoCardSaid : Prop := Claim7.holds Tryd.pinned (.plain (OpenSpec.upto topTablesSpec)) topTablesUptoCard

/-- THE SECOND FORM's CARD OF 'larderwicklaw4.SplitPlays'. -/
def splitPlaysUptoCard : Claim7 := { stood := { row := splitPlaysUptoRow, standIns := [], harness := (true, "2992bf0cba39a1859d5b28f40fc67933bc3e4bbac0d247087375d7def73c7ca4"), looks := true }, kinds := [], alts := [], laidByText := true, laidKinds := [.handle], laidTests := true, laidLooks := .later }
def SplitPlaysUptoCardSaid : Prop := Claim7.holds Tryd.pinned (.plain (OpenSpec.upto splitPlaysSpec)) splitPlaysUptoCard

/-- THE SECOND FORM's CARD OF 'larderwicklaw4.CircleSays'. -/
def circleSaysUptoCard : Claim7 := { stood := { row := circleSaysUptoRow, standIns := [], harness := (true, "2992bf0cba39a1859d5b28f40fc67933bc3e4bbac0d247087375d7def73c7ca4"), looks := true }, kinds := [], alts := [], laidByText := true, laidKinds := [.handle], laidTests := true, laidLooks := .later }
def CircleSaysUptoCardSaid : Prop := Claim7.holds Tryd.pinned (.plain (OpenSpec.upto circleSaysSpec)) circleSaysUptoCard
end Rows
end Go.Proofs.YthldhbcidcmmaaaDoor
