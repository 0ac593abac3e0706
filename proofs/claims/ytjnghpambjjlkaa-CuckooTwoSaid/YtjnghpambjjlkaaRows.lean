/-
  No cell of these rows narrows 'for every input' (looked for: loops, veiled, ifaces, maps, wideKeys, modest, calm, conditions, laid).
  DERIVED. THE GIVEN ROWS OF THIS SEAT. 7 by the template 'for every input the law returns true; each argument reads behind the call as it read before'; 0 by the template 'total and deterministic' (their statements: YtjnghpambjjlkaaTotals.lean).
  GIVEN WITH THE SEED: the statements are not yours to turn. If you find one false, say at which input.
  Laid BY PROGRAM, IN A SANDBOX (cutbox-rows.mjs): the forced cells as the released guide's own fill.sh prints them over the translation 8d576dc49ef70108… (all of the seat's roots in one cut). By AI agents, Wed Nov 11 2026. No macro, syntax, notation, axiom, sorry.
-/
import Derived.Test.YtjnghpambjjlkaaChecked
import GoSem.Claim
import GoSem.ClaimJoined
import GoSem.ClaimMapViews
import Derived.JoinedTies
import Derived.KernelRfl
namespace Go.Proofs.Ytjnghpambjjlkaa
/- THE CELL 'sum', in the pinned program and in every row, IS THE sha256 OF THE DUMP (.gsa) THAT YtjnghpambjjlkaaProg.lean LOADS. Nothing in Lean hashes anything: it is a label: what it is worth is what the hold of that sum in a sandbox is worth. -/
noncomputable def Try.pinned : Pinned := { name := "ytjnghpambjjlkaa", sum := "8d576dc49ef70108272fae6debaab2212233436bff9618ed92c0025222955efa", checked := Try.checked }
namespace Rows
def none {H : Type} : Left H := { results := [], args := [] }

/-- 'larderwicklaw4.CuckooTwo': WHATEVER THE INPUT: true; the input reads as it did. -/
def cuckooTwoSpec : ChangeSpec := { name := "cuckooTwo", fn := fun _ => fun
  | [d1, d2] => { results := [.lit (.bool true)], args := [d1, d2] }
  | _ => none }
def cuckooTwoRow : OpenClaim := { program := "ytjnghpambjjlkaa", sum := "8d576dc49ef70108272fae6debaab2212233436bff9618ed92c0025222955efa", func := "larderwick/larderwicklaw4.CuckooTwo", spec := "cuckooTwo", apart := false }
def CuckooTwoSaid : Prop := cuckooTwoRow.holds Try.pinned (OpenSpec.ofChange cuckooTwoSpec)

/-- ITS FALSE NEIGHBOUR: 'it returns false'. Refute it at one input. -/
def cuckooTwoWrong : ChangeSpec := { name := "cuckooTwo", fn := fun _ => fun
  | [d1, d2] => { results := [.lit (.bool false)], args := [d1, d2] }
  | _ => none }
def CuckooTwoWrongFalsely : Prop := cuckooTwoRow.holds Try.pinned (OpenSpec.ofChange cuckooTwoWrong)

/-- 'larderwicklaw4.LeaseWrites': WHATEVER THE INPUT: true; the input reads as it did. -/
def leaseWritesSpec : ChangeSpec := { name := "leaseWrites", fn := fun _ => fun
  | [d1, d2, d3, d4] => { results := [.lit (.bool true)], args := [d1, d2, d3, d4] }
  | _ => none }
def leaseWritesRow : OpenClaim := { program := "ytjnghpambjjlkaa", sum := "8d576dc49ef70108272fae6debaab2212233436bff9618ed92c0025222955efa", func := "larderwick/larderwicklaw4.LeaseWrites", spec := "leaseWrites", apart := false }
def LeaseWritesSaid : Prop := leaseWritesRow.holds Try.pinned (OpenSpec.ofChange leaseWritesSpec)

/-- ITS FALSE NEIGHBOUR: 'it returns false'. Refute it at one input. -/
def leaseWritesWrong : ChangeSpec := { name := "leaseWrites", fn := fun _ => fun
  | [d1, d2, d3, d4] => { results := [.lit (.bool false)], args := [d1, d2, d3, d4] }
  | _ => none }
def LeaseWritesWrongFalsely : Prop := leaseWritesRow.holds Try.pinned (OpenSpec.ofChange leaseWritesWrong)

/-- 'larderwicklaw4.CohereOne': WHATEVER THE INPUT: true; the input reads as it did. -/
def cohereOneSpec : ChangeSpec := { name := "cohereOne", fn := fun _ => fun
  | [d1, d2] => { results := [.lit (.bool true)], args := [d1, d2] }
  | _ => none }
def cohereOneRow : OpenClaim := { program := "ytjnghpambjjlkaa", sum := "8d576dc49ef70108272fae6debaab2212233436bff9618ed92c0025222955efa", func := "larderwick/larderwicklaw4.CohereOne", spec := "cohereOne", apart := false }
def CohereOneSaid : Prop := cohereOneRow.holds Try.pinned (OpenSpec.ofChange cohereOneSpec)

/-- ITS FALSE NEIGHBOUR: 'it returns false'. Refute it at one input. -/
def cohereOneWrong : ChangeSpec := { name := "cohereOne", fn := fun _ => fun
  | [d1, d2] => { results := [.lit (.bool false)], args := [d1, d2] }
  | _ => none }
def CohereOneWrongFalsely : Prop := cohereOneRow.holds Try.pinned (OpenSpec.ofChange cohereOneWrong)

/-- 'larderwicklaw4.CohereLast': WHATEVER THE INPUT: true; the input reads as it did. -/
def cohereLastSpec : ChangeSpec := { name := "cohereLast", fn := fun _ => fun
  | [d1, d2, d3, d4] => { results := [.lit (.bool true)], args := [d1, d2, d3, d4] }
  | _ => none }
def cohereLastRow : OpenClaim := { program := "ytjnghpambjjlkaa", sum := "8d576dc49ef70108272fae6debaab2212233436bff9618ed92c0025222955efa", func := "larderwick/larderwicklaw4.CohereLast", spec := "cohereLast", apart := false }
def CohereLastSaid : Prop := cohereLastRow.holds Try.pinned (OpenSpec.ofChange cohereLastSpec)

/-- ITS FALSE NEIGHBOUR: 'it returns false'. Refute it at one input. -/
def cohereLastWrong : ChangeSpec := { name := "cohereLast", fn := fun _ => fun
  | [d1, d2, d3, d4] => { results := [.lit (.bool false)], args := [d1, d2, d3, d4] }
  | _ => none }
def CohereLastWrongFalsely : Prop := cohereLastRow.holds Try.pinned (OpenSpec.ofChange cohereLastWrong)

/-- 'larderwicklaw4.LeaseFresh': WHATEVER THE INPUT: true; the input reads as it did. -/
def leaseFreshSpec : ChangeSpec := { name := "leaseFresh", fn := fun _ => fun
  | [d1, d2, d3] => { results := [.lit (.bool true)], args := [d1, d2, d3] }
  | _ => none }
def leaseFreshRow : OpenClaim := { program := "ytjnghpambjjlkaa", sum := "8d576dc49ef70108272fae6debaab2212233436bff9618ed92c0025222955efa", func := "larderwick/larderwicklaw4.LeaseFresh", spec := "leaseFresh", apart := false }
def LeaseFreshSaid : Prop := leaseFreshRow.holds Try.pinned (OpenSpec.ofChange leaseFreshSpec)

/-- ITS FALSE NEIGHBOUR: 'it returns false'. Refute it at one input. -/
def leaseFreshWrong : ChangeSpec := { name := "leaseFresh", fn := fun _ => fun
  | [d1, d2, d3] => { results := [.lit (.bool false)], args := [d1, d2, d3] }
  | _ => none }
def LeaseFreshWrongFalsely : Prop := leaseFreshRow.holds Try.pinned (OpenSpec.ofChange leaseFreshWrong)

/-- 'larderwicklaw4.LeaseBack': WHATEVER THE INPUT: true; the input reads as it did. -/
def leaseBackSpec : ChangeSpec := { name := "leaseBack", fn := fun _ => fun
  | [d1, d2, d3, d4] => { results := [.lit (.bool true)], args := [d1, d2, d3, d4] }
  | _ => none }
def leaseBackRow : OpenClaim := { program := "ytjnghpambjjlkaa", sum := "8d576dc49ef70108272fae6debaab2212233436bff9618ed92c0025222955efa", func := "larderwick/larderwicklaw4.LeaseBack", spec := "leaseBack", apart := false }
def LeaseBackSaid : Prop := leaseBackRow.holds Try.pinned (OpenSpec.ofChange leaseBackSpec)

/-- ITS FALSE NEIGHBOUR: 'it returns false'. Refute it at one input. -/
def leaseBackWrong : ChangeSpec := { name := "leaseBack", fn := fun _ => fun
  | [d1, d2, d3, d4] => { results := [.lit (.bool false)], args := [d1, d2, d3, d4] }
  | _ => none }
def LeaseBackWrongFalsely : Prop := leaseBackRow.holds Try.pinned (OpenSpec.ofChange leaseBackWrong)

/-- 'larderwicklaw4.CohereStill': WHATEVER THE INPUT: true; the input reads as it did. -/
def cohereStillSpec : ChangeSpec := { name := "cohereStill", fn := fun _ => fun
  | [d1, d2, d3, d4, d5] => { results := [.lit (.bool true)], args := [d1, d2, d3, d4, d5] }
  | _ => none }
def cohereStillRow : OpenClaim := { program := "ytjnghpambjjlkaa", sum := "8d576dc49ef70108272fae6debaab2212233436bff9618ed92c0025222955efa", func := "larderwick/larderwicklaw4.CohereStill", spec := "cohereStill", apart := false }
def CohereStillSaid : Prop := cohereStillRow.holds Try.pinned (OpenSpec.ofChange cohereStillSpec)

/-- ITS FALSE NEIGHBOUR: 'it returns false'. Refute it at one input. -/
def cohereStillWrong : ChangeSpec := { name := "cohereStill", fn := fun _ => fun
  | [d1, d2, d3, d4, d5] => { results := [.lit (.bool false)], args := [d1, d2, d3, d4, d5] }
  | _ => none }
def CohereStillWrongFalsely : Prop := cohereStillRow.holds Try.pinned (OpenSpec.ofChange cohereStillWrong)

/- THE SECOND FORM. 'bulk': how many values and letters a reading holds, each counted each time it is reached (what is shared counts as often as it is met; a slice's spare places count too). A statement '..UptoSaid' is the law's where the arguments, and the package variables that the reading takes, are together of bulk at most 1048576: NARROWER than '..Said'. Prove '..Said' where nothing that the law and all that it calls make is longer than what came in: it says more and counts as full. Else prove '..UptoSaid'. A law counts once. -/
mutual
def uptoBulk {H : Type} : DataW H → Nat
  | .lit (.string bytes) => bytes.length + 1
  | .lit _ => 1
  | .nil => 1
  | .ptr d => uptoBulk d + 1
  | .slice elems spare => uptoBulkAll elems + uptoBulkAll spare + 1
  | .agg parts => uptoBulkAll parts + 1
  | .iface _ d => uptoBulk d + 1
  | .map entries => uptoBulkEntries entries + 1
  | .held _ => 1
def uptoBulkAll {H : Type} : List (DataW H) → Nat
  | [] => 0
  | d :: r => uptoBulk d + uptoBulkAll r
def uptoBulkEntries {H : Type} : List (Lit × DataW H) → Nat
  | [] => 0
  | x :: r => uptoBulkEntry x + uptoBulkEntries r
def uptoBulkEntry {H : Type} : Lit × DataW H → Nat
  | (.string bytes, d) => bytes.length + uptoBulk d + 1
  | (_, d) => uptoBulk d + 1
 end
def uptoSmall : (H : Type) → List (DataW H) → Bool := fun _ ds => decide (uptoBulkAll ds ≤ 1048576)
def OpenSpec.upto (s : _root_.Go.ChangeSpec) : _root_.Go.OpenSpec := { _root_.Go.OpenSpec.ofChange s with cond := some uptoSmall }

/-- 'larderwicklaw4.CuckooTwo', WHERE WHAT IT READS IS OF BULK AT MOST 1048576: true; the input reads as it did. -/
def cuckooTwoUptoRow : OpenClaim := { program := "ytjnghpambjjlkaa", sum := "8d576dc49ef70108272fae6debaab2212233436bff9618ed92c0025222955efa", func := "larderwick/larderwicklaw4.CuckooTwo", spec := "cuckooTwo", apart := false, narrowed := true }
def CuckooTwoUptoSaid : Prop := cuckooTwoUptoRow.holds Try.pinned (OpenSpec.upto cuckooTwoSpec)

/-- 'larderwicklaw4.LeaseWrites', WHERE WHAT IT READS IS OF BULK AT MOST 1048576: true; the input reads as it did. -/
def leaseWritesUptoRow : OpenClaim := { program := "ytjnghpambjjlkaa", sum := "8d576dc49ef70108272fae6debaab2212233436bff9618ed92c0025222955efa", func := "larderwick/larderwicklaw4.LeaseWrites", spec := "leaseWrites", apart := false, narrowed := true }
def LeaseWritesUptoSaid : Prop := leaseWritesUptoRow.holds Try.pinned (OpenSpec.upto leaseWritesSpec)

/-- 'larderwicklaw4.CohereOne', WHERE WHAT IT READS IS OF BULK AT MOST 1048576: true; the input reads as it did. -/
def cohereOneUptoRow : OpenClaim := { program := "ytjnghpambjjlkaa", sum := "8d576dc49ef70108272fae6debaab2212233436bff9618ed92c0025222955efa", func := "larderwick/larderwicklaw4.CohereOne", spec := "cohereOne", apart := false, narrowed := true }
def CohereOneUptoSaid : Prop := cohereOneUptoRow.holds Try.pinned (OpenSpec.upto cohereOneSpec)

/-- 'larderwicklaw4.CohereLast', WHERE WHAT IT READS IS OF BULK AT MOST 1048576: true; the input reads as it did. -/
def cohereLastUptoRow : OpenClaim := { program := "ytjnghpambjjlkaa", sum := "8d576dc49ef70108272fae6debaab2212233436bff9618ed92c0025222955efa", func := "larderwick/larderwicklaw4.CohereLast", spec := "cohereLast", apart := false, narrowed := true }
def CohereLastUptoSaid : Prop := cohereLastUptoRow.holds Try.pinned (OpenSpec.upto cohereLastSpec)

/-- 'larderwicklaw4.LeaseFresh', WHERE WHAT IT READS IS OF BULK AT MOST 1048576: true; the input reads as it did. -/
def leaseFreshUptoRow : OpenClaim := { program := "ytjnghpambjjlkaa", sum := "8d576dc49ef70108272fae6debaab2212233436bff9618ed92c0025222955efa", func := "larderwick/larderwicklaw4.LeaseFresh", spec := "leaseFresh", apart := false, narrowed := true }
def LeaseFreshUptoSaid : Prop := leaseFreshUptoRow.holds Try.pinned (OpenSpec.upto leaseFreshSpec)

/-- 'larderwicklaw4.LeaseBack', WHERE WHAT IT READS IS OF BULK AT MOST 1048576: true; the input reads as it did. -/
def leaseBackUptoRow : OpenClaim := { program := "ytjnghpambjjlkaa", sum := "8d576dc49ef70108272fae6debaab2212233436bff9618ed92c0025222955efa", func := "larderwick/larderwicklaw4.LeaseBack", spec := "leaseBack", apart := false, narrowed := true }
def LeaseBackUptoSaid : Prop := leaseBackUptoRow.holds Try.pinned (OpenSpec.upto leaseBackSpec)

/-- 'larderwicklaw4.CohereStill', WHERE WHAT IT READS IS OF BULK AT MOST 1048576: true; the input reads as it did. -/
def cohereStillUptoRow : OpenClaim := { program := "ytjnghpambjjlkaa", sum := "8d576dc49ef70108272fae6debaab2212233436bff9618ed92c0025222955efa", func := "larderwick/larderwicklaw4.CohereStill", spec := "cohereStill", apart := false, narrowed := true }
def CohereStillUptoSaid : Prop := cohereStillUptoRow.holds Try.pinned (OpenSpec.upto cohereStillSpec)

end Rows
end Go.Proofs.Ytjnghpambjjlkaa
