/-
  DERIVED. GIVEN WITH THE SEED: THE CARDS: each row of YtnpokcjdnlmheaaDoorRows.lean that lists a variable, with what it lists TIED to the program's text (the seventh form; the later family's looks); each row that meets fmt, with fmt's text TOLD by the authors' own Lean function (tested against real Go, not proved from fmt's source: count such statements apart). THE CARD IS WHAT COUNTS. Prove the row's statement (the work); the ties are given (YtnpokcjdnlmheaaDoorTie.lean); close each card by the builder's one call (the guide's Derived/Test/ToyasCard.lean, 'card_holds'). Laid BY PROGRAM, IN A SANDBOX (cutbox-door.mjs). By AI agents, Wed Nov 11 2026. No macro, syntax, notation, axiom, sorry.
-/
import Derived.Test.YtnpokcjdnlmheaaDoorRows
import GoSem.ClaimSeven
namespace Go.Proofs.YtnpokcjdnlmheaaDoor
namespace Rows

/-- THE TIED CARD OF 'larderwicklaw4.SketchPlays'. -/
def sketchPlaysCard : Claim7 := { stood := { row := sketchPlaysRow, standIns := [], harness := (true, "5c129fd8d6655310fe26f8dce411211653202e0e0d8071d159130e303adb3262"), looks := true }, kinds := [], alts := [], laidByText := true, laidKinds := [.handle], laidTests := true, laidLooks := .later }
def SketchPlaysCardSaid : Prop := Claim7.holds Tryd.pinned (.plain (OpenSpec.ofChange sketchPlaysSpec)) sketchPlaysCard

/-- THE TIED CARD OF 'larderwicklaw4.BloomPlays'. -/
def bloomPlaysCard : Claim7 := { stood := { row := bloomPlaysRow, standIns := [], harness := (true, "5c129fd8d6655310fe26f8dce411211653202e0e0d8071d159130e303adb3262"), looks := true }, kinds := [], alts := [], laidByText := true, laidKinds := [.handle], laidTests := true, laidLooks := .later }
def BloomPlaysCardSaid : Prop := Claim7.holds Tryd.pinned (.plain (OpenSpec.ofChange bloomPlaysSpec)) bloomPlaysCard

/-- THE TIED CARD OF 'larderwicklaw4.HeavySays'. -/
def heavySaysCard : Claim7 := { stood := { row := heavySaysRow, standIns := [], harness := (true, "5c129fd8d6655310fe26f8dce411211653202e0e0d8071d159130e303adb3262"), looks := true }, kinds := [], alts := [], laidByText := true, laidKinds := [.handle], laidTests := true, laidLooks := .later }
def HeavySaysCardSaid : Prop := Claim7.holds Tryd.pinned (.plain (OpenSpec.ofChange heavySaysSpec)) heavySaysCard

/-- THE SECOND FORM's CARD OF 'larderwicklaw4.SketchPlays'. -/
def sketchPlaysUptoCard : Claim7 := { stood := { row := sketchPlaysUptoRow, standIns := [], harness := (true, "5c129fd8d6655310fe26f8dce411211653202e0e0d8071d159130e303adb3262"), looks := true }, kinds := [], alts := [], laidByText := true, laidKinds := [.handle], laidTests := true, laidLooks := .later }
def SketchPlaysUptoCardSaid : Prop := Claim7.holds Tryd.pinned (.plain (OpenSpec.upto sketchPlaysSpec)) sketchPlaysUptoCard

/-- THE SECOND FORM's CARD OF 'larderwicklaw4.BloomPlays'. -/
def bloomPlaysUptoCard : Claim7 := { stood := { row := bloomPlaysUptoRow, standIns := [], harness := (true, "5c129fd8d6655310fe26f8dce411211653202e0e0d8071d159130e303adb3262"), looks := true }, kinds := [], alts := [], laidByText := true, laidKinds := [.handle], laidTests := true, laidLooks := .later }
def BloomPlaysUptoCardSaid : Prop := Claim7.holds Tryd.pinned (.plain (OpenSpec.upto bloomPlaysSpec)) bloomPlaysUptoCard

/-- THE SECOND FORM's CARD OF 'larderwicklaw4.HeavySays'. -/
def heavySaysUptoCard : Claim7 := { stood := { row := heavySaysUptoRow, standIns := [], harness := (true, "5c129fd8d6655310fe26f8dce411211653202e0e0d8071d159130e303adb3262"), looks := true }, kinds := [], alts := [], laidByText := true, laidKinds := [.handle], laidTests := true, laidLooks := .later }
def HeavySaysUptoCardSaid : Prop := Claim7.holds Tryd.pinned (.plain (OpenSpec.upto heavySaysSpec)) heavySaysUptoCard
end Rows
end Go.Proofs.YtnpokcjdnlmheaaDoor
