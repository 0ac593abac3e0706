/-
  DERIVED. GIVEN WITH THE SEED: THE CARDS: each row of YtjnghpambjjlkaaDoorRows.lean that lists a variable, with what it lists TIED to the program's text (the seventh form; the later family's looks); each row that meets fmt, with fmt's text TOLD by the authors' own Lean function (tested against real Go, not proved from fmt's source: count such statements apart). THE CARD IS WHAT COUNTS. Prove the row's statement (the work); the ties are given (YtjnghpambjjlkaaDoorTie.lean); close each card by the builder's one call (the guide's Derived/Test/ToyasCard.lean, 'card_holds'). Laid BY PROGRAM, IN A SANDBOX (cutbox-door.mjs). By AI agents, Wed Nov 11 2026. No macro, syntax, notation, axiom, sorry.
-/
import Derived.Test.YtjnghpambjjlkaaDoorRows
import GoSem.ClaimSeven
namespace Go.Proofs.YtjnghpambjjlkaaDoor
namespace Rows

/-- THE TIED CARD OF 'larderwicklaw4.CuckooRoom'. -/
def cuckooRoomCard : Claim7 := { stood := { row := cuckooRoomRow, standIns := [], harness := (true, "de092ee407306b3234153633ba7a8ea5c9f451c3cd2381410119b640e8fda569"), looks := true }, kinds := [], alts := [], laidByText := true, laidKinds := [.handle], laidTests := true, laidLooks := .later }
def CuckooRoomCardSaid : Prop := Claim7.holds Tryd.pinned (.plain (OpenSpec.ofChange cuckooRoomSpec)) cuckooRoomCard

/-- THE TIED CARD OF 'larderwicklaw4.CuckooPlays'. -/
def cuckooPlaysCard : Claim7 := { stood := { row := cuckooPlaysRow, standIns := [], harness := (true, "de092ee407306b3234153633ba7a8ea5c9f451c3cd2381410119b640e8fda569"), looks := true }, kinds := [], alts := [], laidByText := true, laidKinds := [.handle], laidTests := true, laidLooks := .later }
def CuckooPlaysCardSaid : Prop := Claim7.holds Tryd.pinned (.plain (OpenSpec.ofChange cuckooPlaysSpec)) cuckooPlaysCard

/-- THE TIED CARD OF 'larderwicklaw4.LeasePlays'. -/
def leasePlaysCard : Claim7 := { stood := { row := leasePlaysRow, standIns := [], harness := (true, "de092ee407306b3234153633ba7a8ea5c9f451c3cd2381410119b640e8fda569"), looks := true }, kinds := [], alts := [], laidByText := true, laidKinds := [.handle], laidTests := true, laidLooks := .later }
def LeasePlaysCardSaid : Prop := Claim7.holds Tryd.pinned (.plain (OpenSpec.ofChange leasePlaysSpec)) leasePlaysCard

/-- THE TIED CARD OF 'larderwicklaw4.CoherePlays'. -/
def coherePlaysCard : Claim7 := { stood := { row := coherePlaysRow, standIns := [], harness := (true, "de092ee407306b3234153633ba7a8ea5c9f451c3cd2381410119b640e8fda569"), looks := true }, kinds := [], alts := [], laidByText := true, laidKinds := [.handle], laidTests := true, laidLooks := .later }
def CoherePlaysCardSaid : Prop := Claim7.holds Tryd.pinned (.plain (OpenSpec.ofChange coherePlaysSpec)) coherePlaysCard

/-- THE SECOND FORM's CARD OF 'larderwicklaw4.CuckooRoom'. -/
def cuckooRoomUptoCard : Claim7 := { stood := { row := cuckooRoomUptoRow, standIns := [], harness := (true, "de092ee407306b3234153633ba7a8ea5c9f451c3cd2381410119b640e8fda569"), looks := true }, kinds := [], alts := [], laidByText := true, laidKinds := [.handle], laidTests := true, laidLooks := .later }
def CuckooRoomUptoCardSaid : Prop := Claim7.holds Tryd.pinned (.plain (OpenSpec.upto cuckooRoomSpec)) cuckooRoomUptoCard

/-- THE SECOND FORM's CARD OF 'larderwicklaw4.CuckooPlays'. -/
def cuckooPlaysUptoCard : Claim7 := { stood := { row := cuckooPlaysUptoRow, standIns := [], harness := (true, "de092ee407306b3234153633ba7a8ea5c9f451c3cd2381410119b640e8fda569"), looks := true }, kinds := [], alts := [], laidByText := true, laidKinds := [.handle], laidTests := true, laidLooks := .later }
def CuckooPlaysUptoCardSaid : Prop := Claim7.holds Tryd.pinned (.plain (OpenSpec.upto cuckooPlaysSpec)) cuckooPlaysUptoCard

/-- THE SECOND FORM's CARD OF 'larderwicklaw4.LeasePlays'. -/
def leasePlaysUptoCard : Claim7 := { stood := { row := leasePlaysUptoRow, standIns := [], harness := (true, "de092ee407306b3234153633ba7a8ea5c9f451c3cd2381410119b640e8fda569"), looks := true }, kinds := [], alts := [], laidByText := true, laidKinds := [.handle], laidTests := true, laidLooks := .later }
def LeasePlaysUptoCardSaid : Prop := Claim7.holds Tryd.pinned (.plain (OpenSpec.upto leasePlaysSpec)) leasePlaysUptoCard

/-- THE SECOND FORM's CARD OF 'larderwicklaw4.CoherePlays'. -/
def coherePlaysUptoCard : Claim7 := { stood := { row := coherePlaysUptoRow, standIns := [], harness := (true, "de092ee407306b3234153633ba7a8ea5c9f451c3cd2381410119b640e8fda569"), looks := true }, kinds := [], alts := [], laidByText := true, laidKinds := [.handle], laidTests := true, laidLooks := .later }
def CoherePlaysUptoCardSaid : Prop := Claim7.holds Tryd.pinned (.plain (OpenSpec.upto coherePlaysSpec)) coherePlaysUptoCard
end Rows
end Go.Proofs.YtjnghpambjjlkaaDoor
