/-
  NARROWER THAN 'FOR EVERY INPUT', by the rows' own cells (each row's printed sentence says how): CuckooRoom: laid · CuckooPlays: laid · LeasePlays: laid · CoherePlays: laid.
  DERIVED. THE GIVEN ROWS OF THIS SEAT. 4 by the template 'for every input the law returns true; each argument reads behind the call as it read before'; 0 by the template 'total and deterministic' (their statements: YtjnghpambjjlkaaDoorTotals.lean).
  GIVEN WITH THE SEED: the statements are not yours to turn. If you find one false, say at which input.
  Laid BY PROGRAM, IN A SANDBOX (cutbox-rows.mjs): the forced cells as the released guide's own fill.sh prints them over the translation 97c367b23d398855… (all of the seat's roots in one cut). By AI agents, Wed Nov 11 2026. No macro, syntax, notation, axiom, sorry.
-/
import Derived.Test.YtjnghpambjjlkaaDoorChecked
import GoSem.Claim
import GoSem.ClaimJoined
import GoSem.ClaimMapViews
import Derived.JoinedTies
import Derived.KernelRfl
namespace Go.Proofs.YtjnghpambjjlkaaDoor
/- THE CELL 'sum', in the pinned program and in every row, IS THE sha256 OF THE DUMP (.gsa) THAT YtjnghpambjjlkaaDoorProg.lean LOADS. Nothing in Lean hashes anything: it is a label: what it is worth is what the hold of that sum in a sandbox is worth. -/
noncomputable def Tryd.pinned : Pinned := { name := "ytjnghpambjjlkaadoor", sum := "97c367b23d39885596fa0f0b6c0565524e7bbbd3e15a6f63d4185e033bd584a6", checked := Tryd.checked }
namespace Rows
def none {H : Type} : Left H := { results := [], args := [] }

/- WHAT THE LISTED PACKAGE-LEVEL VARIABLES READ AS WHEN THE CALL BEGINS. Each datum BY PROGRAM (the guide's laid-datum.mjs) off the statement by which the dump's own 'gosem.cut.vars' lays the variable. In a bare row this is a premise. The card (YtjnghpambjjlkaaDoorCards.lean) ties it to the program's text. -/
def laid_errors_errorType {H : Type} : DataW H := .iface "internal/reflectlite.rtype" (.agg [.ptr (.lit (.string [101, 114, 114, 111, 114]))])

/-- 'larderwicklaw4.CuckooRoom': WHATEVER THE INPUT: true; the input reads as it did. -/
def cuckooRoomSpec : ChangeSpec := { name := "cuckooRoom", fn := fun _ => fun
  | [d1, d2] => { results := [.lit (.bool true)], args := [d1, d2] }
  | _ => none }
def cuckooRoomRow : OpenClaim := { program := "ytjnghpambjjlkaadoor", sum := "97c367b23d39885596fa0f0b6c0565524e7bbbd3e15a6f63d4185e033bd584a6", func := "larderwick/larderwicklaw4.CuckooRoom", spec := "cuckooRoom", inPlace := ["internal/reflectlite.ValueOf", "(internal/reflectlite.Value).Type", "(internal/reflectlite.Value).IsNil", "internal/reflectlite.TypeOf", "(internal/reflectlite.Value).Elem", "(internal/reflectlite.Value).Set"], unfollowed := true, recurses := true, named := ["errors.errorType"], apart := false, laid := [("errors.errorType", laid_errors_errorType)] }
def CuckooRoomSaid : Prop := cuckooRoomRow.holds Tryd.pinned (OpenSpec.ofChange cuckooRoomSpec)

/-- ITS FALSE NEIGHBOUR: 'it returns false'. Refute it at one input. -/
def cuckooRoomWrong : ChangeSpec := { name := "cuckooRoom", fn := fun _ => fun
  | [d1, d2] => { results := [.lit (.bool false)], args := [d1, d2] }
  | _ => none }
def CuckooRoomWrongFalsely : Prop := cuckooRoomRow.holds Tryd.pinned (OpenSpec.ofChange cuckooRoomWrong)

/-- 'larderwicklaw4.CuckooPlays': WHATEVER THE INPUT: true; the input reads as it did. -/
def cuckooPlaysSpec : ChangeSpec := { name := "cuckooPlays", fn := fun _ => fun
  | [d1, d2] => { results := [.lit (.bool true)], args := [d1, d2] }
  | _ => none }
def cuckooPlaysRow : OpenClaim := { program := "ytjnghpambjjlkaadoor", sum := "97c367b23d39885596fa0f0b6c0565524e7bbbd3e15a6f63d4185e033bd584a6", func := "larderwick/larderwicklaw4.CuckooPlays", spec := "cuckooPlays", inPlace := ["internal/reflectlite.ValueOf", "(internal/reflectlite.Value).Type", "(internal/reflectlite.Value).IsNil", "internal/reflectlite.TypeOf", "(internal/reflectlite.Value).Elem", "(internal/reflectlite.Value).Set"], unfollowed := true, recurses := true, named := ["errors.errorType"], apart := false, laid := [("errors.errorType", laid_errors_errorType)] }
def CuckooPlaysSaid : Prop := cuckooPlaysRow.holds Tryd.pinned (OpenSpec.ofChange cuckooPlaysSpec)

/-- ITS FALSE NEIGHBOUR: 'it returns false'. Refute it at one input. -/
def cuckooPlaysWrong : ChangeSpec := { name := "cuckooPlays", fn := fun _ => fun
  | [d1, d2] => { results := [.lit (.bool false)], args := [d1, d2] }
  | _ => none }
def CuckooPlaysWrongFalsely : Prop := cuckooPlaysRow.holds Tryd.pinned (OpenSpec.ofChange cuckooPlaysWrong)

/-- 'larderwicklaw4.LeasePlays': WHATEVER THE INPUT: true; the input reads as it did. -/
def leasePlaysSpec : ChangeSpec := { name := "leasePlays", fn := fun _ => fun
  | [d1, d2, d3] => { results := [.lit (.bool true)], args := [d1, d2, d3] }
  | _ => none }
def leasePlaysRow : OpenClaim := { program := "ytjnghpambjjlkaadoor", sum := "97c367b23d39885596fa0f0b6c0565524e7bbbd3e15a6f63d4185e033bd584a6", func := "larderwick/larderwicklaw4.LeasePlays", spec := "leasePlays", inPlace := ["internal/reflectlite.ValueOf", "(internal/reflectlite.Value).Type", "(internal/reflectlite.Value).IsNil", "internal/reflectlite.TypeOf", "(internal/reflectlite.Value).Elem", "(internal/reflectlite.Value).Set"], unfollowed := true, recurses := true, named := ["errors.errorType"], apart := false, laid := [("errors.errorType", laid_errors_errorType)] }
def LeasePlaysSaid : Prop := leasePlaysRow.holds Tryd.pinned (OpenSpec.ofChange leasePlaysSpec)

/-- ITS FALSE NEIGHBOUR: 'it returns false'. Refute it at one input. -/
def leasePlaysWrong : ChangeSpec := { name := "leasePlays", fn := fun _ => fun
  | [d1, d2, d3] => { results := [.lit (.bool false)], args := [d1, d2, d3] }
  | _ => none }
def LeasePlaysWrongFalsely : Prop := leasePlaysRow.holds Tryd.pinned (OpenSpec.ofChange leasePlaysWrong)

/-- 'larderwicklaw4.CoherePlays': WHATEVER THE INPUT: true; the input reads as it did. -/
def coherePlaysSpec : ChangeSpec := { name := "coherePlays", fn := fun _ => fun
  | [d1, d2] => { results := [.lit (.bool true)], args := [d1, d2] }
  | _ => none }
def coherePlaysRow : OpenClaim := { program := "ytjnghpambjjlkaadoor", sum := "97c367b23d39885596fa0f0b6c0565524e7bbbd3e15a6f63d4185e033bd584a6", func := "larderwick/larderwicklaw4.CoherePlays", spec := "coherePlays", inPlace := ["internal/reflectlite.ValueOf", "(internal/reflectlite.Value).Type", "(internal/reflectlite.Value).IsNil", "internal/reflectlite.TypeOf", "(internal/reflectlite.Value).Elem", "(internal/reflectlite.Value).Set"], unfollowed := true, recurses := true, named := ["errors.errorType"], apart := false, laid := [("errors.errorType", laid_errors_errorType)] }
def CoherePlaysSaid : Prop := coherePlaysRow.holds Tryd.pinned (OpenSpec.ofChange coherePlaysSpec)

/-- ITS FALSE NEIGHBOUR: 'it returns false'. Refute it at one input. -/
def coherePlaysWrong : ChangeSpec := { name := "coherePlays", fn := fun _ => fun
  | [d1, d2] => { results := [.lit (.bool false)], args := [d1, d2] }
  | _ => none }
def CoherePlaysWrongFalsely : Prop := coherePlaysRow.holds Tryd.pinned (OpenSpec.ofChange coherePlaysWrong)

/- THE SECOND FORM. 'bulk': how many values and letters a reading holds, each counted each time it is reached (what is shared counts as often as it is met; a slice's spare places count too). A statement '..UptoSaid' is the law's where the arguments, and the package variables that the reading takes, are together of bulk at most 1048576: NARROWER than '..Said'. Prove '..Said' where nothing that the law and all that it calls make is longer than what came in: it says more and counts as full. Else prove '..UptoSaid'. A law counts once. -/
mutual
def uptoBulk {H : Type} : DataW H → Nat
  | .lit (.string bytes) => bytes.length + 1
  | .lit _ => 1
  | .nil => 1
  | .ptr d => uptoBulk d + 1
  | .slice elems spare => uptoBulkAll elems + uptoBulkAll spare + 1
  | .agg parts => uptoBulkAll parts + 1
  | .iface _ d => uptoBulk d + 1
  | .map entries => uptoBulkEntries entries + 1
  | .held _ => 1
def uptoBulkAll {H : Type} : List (DataW H) → Nat
  | [] => 0
  | d :: r => uptoBulk d + uptoBulkAll r
def uptoBulkEntries {H : Type} : List (Lit × DataW H) → Nat
  | [] => 0
  | x :: r => uptoBulkEntry x + uptoBulkEntries r
def uptoBulkEntry {H : Type} : Lit × DataW H → Nat
  | (.string bytes, d) => bytes.length + uptoBulk d + 1
  | (_, d) => uptoBulk d + 1
 end
def uptoSmall : (H : Type) → List (DataW H) → Bool := fun _ ds => decide (uptoBulkAll ds ≤ 1048576)
def OpenSpec.upto (s : _root_.Go.ChangeSpec) : _root_.Go.OpenSpec := { _root_.Go.OpenSpec.ofChange s with cond := some uptoSmall }

/-- 'larderwicklaw4.CuckooRoom', WHERE WHAT IT READS IS OF BULK AT MOST 1048576: true; the input reads as it did. -/
def cuckooRoomUptoRow : OpenClaim := { program := "ytjnghpambjjlkaadoor", sum := "97c367b23d39885596fa0f0b6c0565524e7bbbd3e15a6f63d4185e033bd584a6", func := "larderwick/larderwicklaw4.CuckooRoom", spec := "cuckooRoom", inPlace := ["internal/reflectlite.ValueOf", "(internal/reflectlite.Value).Type", "(internal/reflectlite.Value).IsNil", "internal/reflectlite.TypeOf", "(internal/reflectlite.Value).Elem", "(internal/reflectlite.Value).Set"], unfollowed := true, recurses := true, named := ["errors.errorType"], apart := false, laid := [("errors.errorType", laid_errors_errorType)], narrowed := true }
def CuckooRoomUptoSaid : Prop := cuckooRoomUptoRow.holds Tryd.pinned (OpenSpec.upto cuckooRoomSpec)

/-- 'larderwicklaw4.CuckooPlays', WHERE WHAT IT READS IS OF BULK AT MOST 1048576: true; the input reads as it did. -/
def cuckooPlaysUptoRow : OpenClaim := { program := "ytjnghpambjjlkaadoor", sum := "97c367b23d39885596fa0f0b6c0565524e7bbbd3e15a6f63d4185e033bd584a6", func := "larderwick/larderwicklaw4.CuckooPlays", spec := "cuckooPlays", inPlace := ["internal/reflectlite.ValueOf", "(internal/reflectlite.Value).Type", "(internal/reflectlite.Value).IsNil", "internal/reflectlite.TypeOf", "(internal/reflectlite.Value).Elem", "(internal/reflectlite.Value).Set"], unfollowed := true, recurses := true, named := ["errors.errorType"], apart := false, laid := [("errors.errorType", laid_errors_errorType)], narrowed := true }
def CuckooPlaysUptoSaid : Prop := cuckooPlaysUptoRow.holds Tryd.pinned (OpenSpec.upto cuckooPlaysSpec)

/-- 'larderwicklaw4.LeasePlays', WHERE WHAT IT READS IS OF BULK AT MOST 1048576: true; the input reads as it did. -/
def leasePlaysUptoRow : OpenClaim := { program := "ytjnghpambjjlkaadoor", sum := "97c367b23d39885596fa0f0b6c0565524e7bbbd3e15a6f63d4185e033bd584a6", func := "larderwick/larderwicklaw4.LeasePlays", spec := "leasePlays", inPlace := ["internal/reflectlite.ValueOf", "(internal/reflectlite.Value).Type", "(internal/reflectlite.Value).IsNil", "internal/reflectlite.TypeOf", "(internal/reflectlite.Value).Elem", "(internal/reflectlite.Value).Set"], unfollowed := true, recurses := true, named := ["errors.errorType"], apart := false, laid := [("errors.errorType", laid_errors_errorType)], narrowed := true }
def LeasePlaysUptoSaid : Prop := leasePlaysUptoRow.holds Tryd.pinned (OpenSpec.upto leasePlaysSpec)

/-- 'larderwicklaw4.CoherePlays', WHERE WHAT IT READS IS OF BULK AT MOST 1048576: true; the input reads as it did. -/
def coherePlaysUptoRow : OpenClaim := { program := "ytjnghpambjjlkaadoor", sum := "97c367b23d39885596fa0f0b6c0565524e7bbbd3e15a6f63d4185e033bd584a6", func := "larderwick/larderwicklaw4.CoherePlays", spec := "coherePlays", inPlace := ["internal/reflectlite.ValueOf", "(internal/reflectlite.Value).Type", "(internal/reflectlite.Value).IsNil", "internal/reflectlite.TypeOf", "(internal/reflectlite.Value).Elem", "(internal/reflectlite.Value).Set"], unfollowed := true, recurses := true, named := ["errors.errorType"], apart := false, laid := [("errors.errorType", laid_errors_errorType)], narrowed := true }
def CoherePlaysUptoSaid : Prop := coherePlaysUptoRow.holds Tryd.pinned (OpenSpec.upto coherePlaysSpec)

end Rows
end Go.Proofs.YtjnghpambjjlkaaDoor
