/-
  No cell of these rows narrows 'for every input' (looked for: loops, veiled, ifaces, maps, wideKeys, modest, calm, conditions, laid).
  DERIVED. THE GIVEN ROWS OF THIS SEAT. 9 by the template 'for every input the law returns true; each argument reads behind the call as it read before'; 0 by the template 'total and deterministic' (their statements: YtnpokcjdnlmheaaTotals.lean).
  GIVEN WITH THE SEED: the statements are not yours to turn. If you find one false, say at which input.
  Laid BY PROGRAM, IN A SANDBOX (cutbox-rows.mjs): the forced cells as the released guide's own fill.sh prints them over the translation 77dd3d245ab9c441… (all of the seat's roots in one cut). By AI agents, Wed Nov 11 2026. No macro, syntax, notation, axiom, sorry.
-/
import Derived.Test.YtnpokcjdnlmheaaChecked
import GoSem.Claim
import GoSem.ClaimJoined
import GoSem.ClaimMapViews
import Derived.JoinedTies
import Derived.KernelRfl
namespace Go.Proofs.Ytnpokcjdnlmheaa
/- THE CELL 'sum', in the pinned program and in every row, IS THE sha256 OF THE DUMP (.gsa) THAT YtnpokcjdnlmheaaProg.lean LOADS. Nothing in Lean hashes anything: it is a label: what it is worth is what the hold of that sum in a sandbox is worth. -/
noncomputable def Try.pinned : Pinned := { name := "ytnpokcjdnlmheaa", sum := "77dd3d245ab9c441e096175aa2a7a6a013246721e67337d9c527a7a7a58b58ef", checked := Try.checked }
namespace Rows
def none {H : Type} : Left H := { results := [], args := [] }

/-- 'larderwicklaw4.SketchAdds': WHATEVER THE INPUT: true; the input reads as it did. -/
def sketchAddsSpec : ChangeSpec := { name := "sketchAdds", fn := fun _ => fun
  | [d1, d2, d3, d4, d5, d6] => { results := [.lit (.bool true)], args := [d1, d2, d3, d4, d5, d6] }
  | _ => none }
def sketchAddsRow : OpenClaim := { program := "ytnpokcjdnlmheaa", sum := "77dd3d245ab9c441e096175aa2a7a6a013246721e67337d9c527a7a7a58b58ef", func := "larderwick/larderwicklaw4.SketchAdds", spec := "sketchAdds", apart := false }
def SketchAddsSaid : Prop := sketchAddsRow.holds Try.pinned (OpenSpec.ofChange sketchAddsSpec)

/-- ITS FALSE NEIGHBOUR: 'it returns false'. Refute it at one input. -/
def sketchAddsWrong : ChangeSpec := { name := "sketchAdds", fn := fun _ => fun
  | [d1, d2, d3, d4, d5, d6] => { results := [.lit (.bool false)], args := [d1, d2, d3, d4, d5, d6] }
  | _ => none }
def SketchAddsWrongFalsely : Prop := sketchAddsRow.holds Try.pinned (OpenSpec.ofChange sketchAddsWrong)

/-- 'larderwicklaw4.BloomNever': WHATEVER THE INPUT: true; the input reads as it did. -/
def bloomNeverSpec : ChangeSpec := { name := "bloomNever", fn := fun _ => fun
  | [d1, d2, d3, d4] => { results := [.lit (.bool true)], args := [d1, d2, d3, d4] }
  | _ => none }
def bloomNeverRow : OpenClaim := { program := "ytnpokcjdnlmheaa", sum := "77dd3d245ab9c441e096175aa2a7a6a013246721e67337d9c527a7a7a58b58ef", func := "larderwick/larderwicklaw4.BloomNever", spec := "bloomNever", apart := false }
def BloomNeverSaid : Prop := bloomNeverRow.holds Try.pinned (OpenSpec.ofChange bloomNeverSpec)

/-- ITS FALSE NEIGHBOUR: 'it returns false'. Refute it at one input. -/
def bloomNeverWrong : ChangeSpec := { name := "bloomNever", fn := fun _ => fun
  | [d1, d2, d3, d4] => { results := [.lit (.bool false)], args := [d1, d2, d3, d4] }
  | _ => none }
def BloomNeverWrongFalsely : Prop := bloomNeverRow.holds Try.pinned (OpenSpec.ofChange bloomNeverWrong)

/-- 'larderwicklaw4.BloomOrder': WHATEVER THE INPUT: true; the input reads as it did. -/
def bloomOrderSpec : ChangeSpec := { name := "bloomOrder", fn := fun _ => fun
  | [d1, d2, d3] => { results := [.lit (.bool true)], args := [d1, d2, d3] }
  | _ => none }
def bloomOrderRow : OpenClaim := { program := "ytnpokcjdnlmheaa", sum := "77dd3d245ab9c441e096175aa2a7a6a013246721e67337d9c527a7a7a58b58ef", func := "larderwick/larderwicklaw4.BloomOrder", spec := "bloomOrder", apart := false }
def BloomOrderSaid : Prop := bloomOrderRow.holds Try.pinned (OpenSpec.ofChange bloomOrderSpec)

/-- ITS FALSE NEIGHBOUR: 'it returns false'. Refute it at one input. -/
def bloomOrderWrong : ChangeSpec := { name := "bloomOrder", fn := fun _ => fun
  | [d1, d2, d3] => { results := [.lit (.bool false)], args := [d1, d2, d3] }
  | _ => none }
def BloomOrderWrongFalsely : Prop := bloomOrderRow.holds Try.pinned (OpenSpec.ofChange bloomOrderWrong)

/-- 'larderwicklaw4.BloomBoth': WHATEVER THE INPUT: true; the input reads as it did. -/
def bloomBothSpec : ChangeSpec := { name := "bloomBoth", fn := fun _ => fun
  | [d1, d2, d3, d4] => { results := [.lit (.bool true)], args := [d1, d2, d3, d4] }
  | _ => none }
def bloomBothRow : OpenClaim := { program := "ytnpokcjdnlmheaa", sum := "77dd3d245ab9c441e096175aa2a7a6a013246721e67337d9c527a7a7a58b58ef", func := "larderwick/larderwicklaw4.BloomBoth", spec := "bloomBoth", apart := false }
def BloomBothSaid : Prop := bloomBothRow.holds Try.pinned (OpenSpec.ofChange bloomBothSpec)

/-- ITS FALSE NEIGHBOUR: 'it returns false'. Refute it at one input. -/
def bloomBothWrong : ChangeSpec := { name := "bloomBoth", fn := fun _ => fun
  | [d1, d2, d3, d4] => { results := [.lit (.bool false)], args := [d1, d2, d3, d4] }
  | _ => none }
def BloomBothWrongFalsely : Prop := bloomBothRow.holds Try.pinned (OpenSpec.ofChange bloomBothWrong)

/-- 'larderwicklaw4.SketchNever': WHATEVER THE INPUT: true; the input reads as it did. -/
def sketchNeverSpec : ChangeSpec := { name := "sketchNever", fn := fun _ => fun
  | [d1, d2, d3, d4] => { results := [.lit (.bool true)], args := [d1, d2, d3, d4] }
  | _ => none }
def sketchNeverRow : OpenClaim := { program := "ytnpokcjdnlmheaa", sum := "77dd3d245ab9c441e096175aa2a7a6a013246721e67337d9c527a7a7a58b58ef", func := "larderwick/larderwicklaw4.SketchNever", spec := "sketchNever", apart := false }
def SketchNeverSaid : Prop := sketchNeverRow.holds Try.pinned (OpenSpec.ofChange sketchNeverSpec)

/-- ITS FALSE NEIGHBOUR: 'it returns false'. Refute it at one input. -/
def sketchNeverWrong : ChangeSpec := { name := "sketchNever", fn := fun _ => fun
  | [d1, d2, d3, d4] => { results := [.lit (.bool false)], args := [d1, d2, d3, d4] }
  | _ => none }
def SketchNeverWrongFalsely : Prop := sketchNeverRow.holds Try.pinned (OpenSpec.ofChange sketchNeverWrong)

/-- 'larderwicklaw4.SketchOrder': WHATEVER THE INPUT: true; the input reads as it did. -/
def sketchOrderSpec : ChangeSpec := { name := "sketchOrder", fn := fun _ => fun
  | [d1, d2, d3] => { results := [.lit (.bool true)], args := [d1, d2, d3] }
  | _ => none }
def sketchOrderRow : OpenClaim := { program := "ytnpokcjdnlmheaa", sum := "77dd3d245ab9c441e096175aa2a7a6a013246721e67337d9c527a7a7a58b58ef", func := "larderwick/larderwicklaw4.SketchOrder", spec := "sketchOrder", apart := false }
def SketchOrderSaid : Prop := sketchOrderRow.holds Try.pinned (OpenSpec.ofChange sketchOrderSpec)

/-- ITS FALSE NEIGHBOUR: 'it returns false'. Refute it at one input. -/
def sketchOrderWrong : ChangeSpec := { name := "sketchOrder", fn := fun _ => fun
  | [d1, d2, d3] => { results := [.lit (.bool false)], args := [d1, d2, d3] }
  | _ => none }
def SketchOrderWrongFalsely : Prop := sketchOrderRow.holds Try.pinned (OpenSpec.ofChange sketchOrderWrong)

/-- 'larderwicklaw4.HeavyKeep': WHATEVER THE INPUT: true; the input reads as it did. -/
def heavyKeepSpec : ChangeSpec := { name := "heavyKeep", fn := fun _ => fun
  | [d1, d2, d3] => { results := [.lit (.bool true)], args := [d1, d2, d3] }
  | _ => none }
def heavyKeepRow : OpenClaim := { program := "ytnpokcjdnlmheaa", sum := "77dd3d245ab9c441e096175aa2a7a6a013246721e67337d9c527a7a7a58b58ef", func := "larderwick/larderwicklaw4.HeavyKeep", spec := "heavyKeep", unfollowed := true, recurses := true, apart := false }
def HeavyKeepSaid : Prop := heavyKeepRow.holds Try.pinned (OpenSpec.ofChange heavyKeepSpec)

/-- ITS FALSE NEIGHBOUR: 'it returns false'. Refute it at one input. -/
def heavyKeepWrong : ChangeSpec := { name := "heavyKeep", fn := fun _ => fun
  | [d1, d2, d3] => { results := [.lit (.bool false)], args := [d1, d2, d3] }
  | _ => none }
def HeavyKeepWrongFalsely : Prop := heavyKeepRow.holds Try.pinned (OpenSpec.ofChange heavyKeepWrong)

/-- 'larderwicklaw4.HeavySpace': WHATEVER THE INPUT: true; the input reads as it did. -/
def heavySpaceSpec : ChangeSpec := { name := "heavySpace", fn := fun _ => fun
  | [d1, d2, d3] => { results := [.lit (.bool true)], args := [d1, d2, d3] }
  | _ => none }
def heavySpaceRow : OpenClaim := { program := "ytnpokcjdnlmheaa", sum := "77dd3d245ab9c441e096175aa2a7a6a013246721e67337d9c527a7a7a58b58ef", func := "larderwick/larderwicklaw4.HeavySpace", spec := "heavySpace", unfollowed := true, recurses := true, apart := false }
def HeavySpaceSaid : Prop := heavySpaceRow.holds Try.pinned (OpenSpec.ofChange heavySpaceSpec)

/-- ITS FALSE NEIGHBOUR: 'it returns false'. Refute it at one input. -/
def heavySpaceWrong : ChangeSpec := { name := "heavySpace", fn := fun _ => fun
  | [d1, d2, d3] => { results := [.lit (.bool false)], args := [d1, d2, d3] }
  | _ => none }
def HeavySpaceWrongFalsely : Prop := heavySpaceRow.holds Try.pinned (OpenSpec.ofChange heavySpaceWrong)

/-- 'larderwicklaw4.HeavyVote': WHATEVER THE INPUT: true; the input reads as it did. -/
def heavyVoteSpec : ChangeSpec := { name := "heavyVote", fn := fun _ => fun
  | [d1, d2] => { results := [.lit (.bool true)], args := [d1, d2] }
  | _ => none }
def heavyVoteRow : OpenClaim := { program := "ytnpokcjdnlmheaa", sum := "77dd3d245ab9c441e096175aa2a7a6a013246721e67337d9c527a7a7a58b58ef", func := "larderwick/larderwicklaw4.HeavyVote", spec := "heavyVote", unfollowed := true, recurses := true, apart := false }
def HeavyVoteSaid : Prop := heavyVoteRow.holds Try.pinned (OpenSpec.ofChange heavyVoteSpec)

/-- ITS FALSE NEIGHBOUR: 'it returns false'. Refute it at one input. -/
def heavyVoteWrong : ChangeSpec := { name := "heavyVote", fn := fun _ => fun
  | [d1, d2] => { results := [.lit (.bool false)], args := [d1, d2] }
  | _ => none }
def HeavyVoteWrongFalsely : Prop := heavyVoteRow.holds Try.pinned (OpenSpec.ofChange heavyVoteWrong)

/- THE SECOND FORM. 'bulk': how many values and letters a reading holds, each counted each time it is reached (what is shared counts as often as it is met; a slice's spare places count too). A statement '..UptoSaid' is the law's where the arguments, and the package variables that the reading takes, are together of bulk at most 1048576: NARROWER than '..Said'. Prove '..Said' where nothing that the law and all that it calls make is longer than what came in: it says more and counts as full. Else prove '..UptoSaid'. A law counts once. -/
mutual
def uptoBulk {H : Type} : DataW H → Nat
  | .lit (.string bytes) => bytes.length + 1
  | .lit _ => 1
  | .nil => 1
  | .ptr d => uptoBulk d + 1
  | .slice elems spare => uptoBulkAll elems + uptoBulkAll spare + 1
  | .agg parts => uptoBulkAll parts + 1
  | .iface _ d => uptoBulk d + 1
  | .map entries => uptoBulkEntries entries + 1
  | .held _ => 1
def uptoBulkAll {H : Type} : List (DataW H) → Nat
  | [] => 0
  | d :: r => uptoBulk d + uptoBulkAll r
def uptoBulkEntries {H : Type} : List (Lit × DataW H) → Nat
  | [] => 0
  | x :: r => uptoBulkEntry x + uptoBulkEntries r
def uptoBulkEntry {H : Type} : Lit × DataW H → Nat
  | (.string bytes, d) => bytes.length + uptoBulk d + 1
  | (_, d) => uptoBulk d + 1
 end
def uptoSmall : (H : Type) → List (DataW H) → Bool := fun _ ds => decide (uptoBulkAll ds ≤ 1048576)
def OpenSpec.upto (s : _root_.Go.ChangeSpec) : _root_.Go.OpenSpec := { _root_.Go.OpenSpec.ofChange s with cond := some uptoSmall }

/-- 'larderwicklaw4.SketchAdds', WHERE WHAT IT READS IS OF BULK AT MOST 1048576: true; the input reads as it did. -/
def sketchAddsUptoRow : OpenClaim := { program := "ytnpokcjdnlmheaa", sum := "77dd3d245ab9c441e096175aa2a7a6a013246721e67337d9c527a7a7a58b58ef", func := "larderwick/larderwicklaw4.SketchAdds", spec := "sketchAdds", apart := false, narrowed := true }
def SketchAddsUptoSaid : Prop := sketchAddsUptoRow.holds Try.pinned (OpenSpec.upto sketchAddsSpec)

/-- 'larderwicklaw4.BloomNever', WHERE WHAT IT READS IS OF BULK AT MOST 1048576: true; the input reads as it did. -/
def bloomNeverUptoRow : OpenClaim := { program := "ytnpokcjdnlmheaa", sum := "77dd3d245ab9c441e096175aa2a7a6a013246721e67337d9c527a7a7a58b58ef", func := "larderwick/larderwicklaw4.BloomNever", spec := "bloomNever", apart := false, narrowed := true }
def BloomNeverUptoSaid : Prop := bloomNeverUptoRow.holds Try.pinned (OpenSpec.upto bloomNeverSpec)

/-- 'larderwicklaw4.BloomOrder', WHERE WHAT IT READS IS OF BULK AT MOST 1048576: true; the input reads as it did. -/
def bloomOrderUptoRow : OpenClaim := { program := "ytnpokcjdnlmheaa", sum := "77dd3d245ab9c441e096175aa2a7a6a013246721e67337d9c527a7a7a58b58ef", func := "larderwick/larderwicklaw4.BloomOrder", spec := "bloomOrder", apart := false, narrowed := true }
def BloomOrderUptoSaid : Prop := bloomOrderUptoRow.holds Try.pinned (OpenSpec.upto bloomOrderSpec)

/-- 'larderwicklaw4.BloomBoth', WHERE WHAT IT READS IS OF BULK AT MOST 1048576: true; the input reads as it did. -/
def bloomBothUptoRow : OpenClaim := { program := "ytnpokcjdnlmheaa", sum := "77dd3d245ab9c441e096175aa2a7a6a013246721e67337d9c527a7a7a58b58ef", func := "larderwick/larderwicklaw4.BloomBoth", spec := "bloomBoth", apart := false, narrowed := true }
def BloomBothUptoSaid : Prop := bloomBothUptoRow.holds Try.pinned (OpenSpec.upto bloomBothSpec)

/-- 'larderwicklaw4.SketchNever', WHERE WHAT IT READS IS OF BULK AT MOST 1048576: true; the input reads as it did. -/
def sketchNeverUptoRow : OpenClaim := { program := "ytnpokcjdnlmheaa", sum := "77dd3d245ab9c441e096175aa2a7a6a013246721e67337d9c527a7a7a58b58ef", func := "larderwick/larderwicklaw4.SketchNever", spec := "sketchNever", apart := false, narrowed := true }
def SketchNeverUptoSaid : Prop := sketchNeverUptoRow.holds Try.pinned (OpenSpec.upto sketchNeverSpec)

/-- 'larderwicklaw4.SketchOrder', WHERE WHAT IT READS IS OF BULK AT MOST 1048576: true; the input reads as it did. -/
def sketchOrderUptoRow : OpenClaim := { program := "ytnpokcjdnlmheaa", sum := "77dd3d245ab9c441e096175aa2a7a6a013246721e67337d9c527a7a7a58b58ef", func := "larderwick/larderwicklaw4.SketchOrder", spec := "sketchOrder", apart := false, narrowed := true }
def SketchOrderUptoSaid : Prop := sketchOrderUptoRow.holds Try.pinned (OpenSpec.upto sketchOrderSpec)

/-- 'larderwicklaw4.HeavyKeep', WHERE WHAT IT READS IS OF BULK AT MOST 1048576: true; the input reads as it did. -/
def heavyKeepUptoRow : OpenClaim := { program := "ytnpokcjdnlmheaa", sum := "77dd3d245ab9c441e096175aa2a7a6a013246721e67337d9c527a7a7a58b58ef", func := "larderwick/larderwicklaw4.HeavyKeep", spec := "heavyKeep", unfollowed := true, recurses := true, apart := false, narrowed := true }
def HeavyKeepUptoSaid : Prop := heavyKeepUptoRow.holds Try.pinned (OpenSpec.upto heavyKeepSpec)

/-- 'larderwicklaw4.HeavySpace', WHERE WHAT IT READS IS OF BULK AT MOST 1048576: true; the input reads as it did. -/
def heavySpaceUptoRow : OpenClaim := { program := "ytnpokcjdnlmheaa", sum := "77dd3d245ab9c441e096175aa2a7a6a013246721e67337d9c527a7a7a58b58ef", func := "larderwick/larderwicklaw4.HeavySpace", spec := "heavySpace", unfollowed := true, recurses := true, apart := false, narrowed := true }
def HeavySpaceUptoSaid : Prop := heavySpaceUptoRow.holds Try.pinned (OpenSpec.upto heavySpaceSpec)

/-- 'larderwicklaw4.HeavyVote', WHERE WHAT IT READS IS OF BULK AT MOST 1048576: true; the input reads as it did. -/
def heavyVoteUptoRow : OpenClaim := { program := "ytnpokcjdnlmheaa", sum := "77dd3d245ab9c441e096175aa2a7a6a013246721e67337d9c527a7a7a58b58ef", func := "larderwick/larderwicklaw4.HeavyVote", spec := "heavyVote", unfollowed := true, recurses := true, apart := false, narrowed := true }
def HeavyVoteUptoSaid : Prop := heavyVoteUptoRow.holds Try.pinned (OpenSpec.upto heavyVoteSpec)

end Rows
end Go.Proofs.Ytnpokcjdnlmheaa
