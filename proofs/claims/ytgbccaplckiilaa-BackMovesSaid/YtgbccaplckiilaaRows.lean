/-
  No cell of these rows narrows 'for every input' (looked for: loops, veiled, ifaces, maps, wideKeys, modest, calm, conditions, laid).
  DERIVED. THE GIVEN ROWS OF THIS SEAT. 6 by the template 'for every input the law returns true; each argument reads behind the call as it read before'; 0 by the template 'total and deterministic' (their statements: YtgbccaplckiilaaTotals.lean).
  GIVEN WITH THE SEED: the statements are not yours to turn. If you find one false, say at which input.
  Laid BY PROGRAM, IN A SANDBOX (cutbox-rows.mjs): the forced cells as the released guide's own fill.sh prints them over the translation 0654cf408d1362f2… (all of the seat's roots in one cut). By AI agents, Wed Nov 11 2026. No macro, syntax, notation, axiom, sorry.
-/
import Derived.Test.YtgbccaplckiilaaChecked
import GoSem.Claim
import GoSem.ClaimJoined
import GoSem.ClaimMapViews
import Derived.JoinedTies
import Derived.KernelRfl
namespace Go.Proofs.Ytgbccaplckiilaa
/- THE CELL 'sum', in the pinned program and in every row, IS THE sha256 OF THE DUMP (.gsa) THAT YtgbccaplckiilaaProg.lean LOADS. Nothing in Lean hashes anything: it is a label: what it is worth is what the hold of that sum in a sandbox is worth. -/
noncomputable def Try.pinned : Pinned := { name := "ytgbccaplckiilaa", sum := "0654cf408d1362f2889e5e197bc7857b0591fb32e11adaee8a9d5d628582398f", checked := Try.checked }
namespace Rows
def none {H : Type} : Left H := { results := [], args := [] }

/-- 'larderwicktop.TopMemory': WHATEVER THE INPUT: true; the input reads as it did. -/
def topMemorySpec : ChangeSpec := { name := "topMemory", fn := fun _ => fun
  | [d1, d2, d3] => { results := [.lit (.bool true)], args := [d1, d2, d3] }
  | _ => none }
def topMemoryRow : OpenClaim := { program := "ytgbccaplckiilaa", sum := "0654cf408d1362f2889e5e197bc7857b0591fb32e11adaee8a9d5d628582398f", func := "larderwick/larderwicktop.TopMemory", spec := "topMemory", inPlace := ["slices.overlaps[larderwick/back.frame]"], unfollowed := true, recurses := true, apart := false }
def TopMemorySaid : Prop := topMemoryRow.holds Try.pinned (OpenSpec.ofChange topMemorySpec)

/-- ITS FALSE NEIGHBOUR: 'it returns false'. Refute it at one input. -/
def topMemoryWrong : ChangeSpec := { name := "topMemory", fn := fun _ => fun
  | [d1, d2, d3] => { results := [.lit (.bool false)], args := [d1, d2, d3] }
  | _ => none }
def TopMemoryWrongFalsely : Prop := topMemoryRow.holds Try.pinned (OpenSpec.ofChange topMemoryWrong)

/-- 'larderwicklaw4.BackReads': WHATEVER THE INPUT: true; the input reads as it did. -/
def backReadsSpec : ChangeSpec := { name := "backReads", fn := fun _ => fun
  | [d1, d2, d3] => { results := [.lit (.bool true)], args := [d1, d2, d3] }
  | _ => none }
def backReadsRow : OpenClaim := { program := "ytgbccaplckiilaa", sum := "0654cf408d1362f2889e5e197bc7857b0591fb32e11adaee8a9d5d628582398f", func := "larderwick/larderwicklaw4.BackReads", spec := "backReads", inPlace := ["slices.overlaps[larderwick/back.frame]"], unfollowed := true, recurses := true, apart := false }
def BackReadsSaid : Prop := backReadsRow.holds Try.pinned (OpenSpec.ofChange backReadsSpec)

/-- ITS FALSE NEIGHBOUR: 'it returns false'. Refute it at one input. -/
def backReadsWrong : ChangeSpec := { name := "backReads", fn := fun _ => fun
  | [d1, d2, d3] => { results := [.lit (.bool false)], args := [d1, d2, d3] }
  | _ => none }
def BackReadsWrongFalsely : Prop := backReadsRow.holds Try.pinned (OpenSpec.ofChange backReadsWrong)

/-- 'larderwicklaw4.BackFlush': WHATEVER THE INPUT: true; the input reads as it did. -/
def backFlushSpec : ChangeSpec := { name := "backFlush", fn := fun _ => fun
  | [d1, d2] => { results := [.lit (.bool true)], args := [d1, d2] }
  | _ => none }
def backFlushRow : OpenClaim := { program := "ytgbccaplckiilaa", sum := "0654cf408d1362f2889e5e197bc7857b0591fb32e11adaee8a9d5d628582398f", func := "larderwick/larderwicklaw4.BackFlush", spec := "backFlush", inPlace := ["slices.overlaps[larderwick/back.frame]"], unfollowed := true, recurses := true, apart := false }
def BackFlushSaid : Prop := backFlushRow.holds Try.pinned (OpenSpec.ofChange backFlushSpec)

/-- ITS FALSE NEIGHBOUR: 'it returns false'. Refute it at one input. -/
def backFlushWrong : ChangeSpec := { name := "backFlush", fn := fun _ => fun
  | [d1, d2] => { results := [.lit (.bool false)], args := [d1, d2] }
  | _ => none }
def BackFlushWrongFalsely : Prop := backFlushRow.holds Try.pinned (OpenSpec.ofChange backFlushWrong)

/-- 'larderwicklaw4.BackCrash': WHATEVER THE INPUT: true; the input reads as it did. -/
def backCrashSpec : ChangeSpec := { name := "backCrash", fn := fun _ => fun
  | [d1, d2] => { results := [.lit (.bool true)], args := [d1, d2] }
  | _ => none }
def backCrashRow : OpenClaim := { program := "ytgbccaplckiilaa", sum := "0654cf408d1362f2889e5e197bc7857b0591fb32e11adaee8a9d5d628582398f", func := "larderwick/larderwicklaw4.BackCrash", spec := "backCrash", inPlace := ["slices.overlaps[larderwick/back.frame]"], unfollowed := true, recurses := true, apart := false }
def BackCrashSaid : Prop := backCrashRow.holds Try.pinned (OpenSpec.ofChange backCrashSpec)

/-- ITS FALSE NEIGHBOUR: 'it returns false'. Refute it at one input. -/
def backCrashWrong : ChangeSpec := { name := "backCrash", fn := fun _ => fun
  | [d1, d2] => { results := [.lit (.bool false)], args := [d1, d2] }
  | _ => none }
def BackCrashWrongFalsely : Prop := backCrashRow.holds Try.pinned (OpenSpec.ofChange backCrashWrong)

/-- 'larderwicklaw4.BackTwice': WHATEVER THE INPUT: true; the input reads as it did. -/
def backTwiceSpec : ChangeSpec := { name := "backTwice", fn := fun _ => fun
  | [d1, d2] => { results := [.lit (.bool true)], args := [d1, d2] }
  | _ => none }
def backTwiceRow : OpenClaim := { program := "ytgbccaplckiilaa", sum := "0654cf408d1362f2889e5e197bc7857b0591fb32e11adaee8a9d5d628582398f", func := "larderwick/larderwicklaw4.BackTwice", spec := "backTwice", inPlace := ["slices.overlaps[larderwick/back.frame]"], unfollowed := true, recurses := true, apart := false }
def BackTwiceSaid : Prop := backTwiceRow.holds Try.pinned (OpenSpec.ofChange backTwiceSpec)

/-- ITS FALSE NEIGHBOUR: 'it returns false'. Refute it at one input. -/
def backTwiceWrong : ChangeSpec := { name := "backTwice", fn := fun _ => fun
  | [d1, d2] => { results := [.lit (.bool false)], args := [d1, d2] }
  | _ => none }
def BackTwiceWrongFalsely : Prop := backTwiceRow.holds Try.pinned (OpenSpec.ofChange backTwiceWrong)

/-- 'larderwicklaw4.BackMoves': WHATEVER THE INPUT: true; the input reads as it did. -/
def backMovesSpec : ChangeSpec := { name := "backMoves", fn := fun _ => fun
  | [d1, d2, d3] => { results := [.lit (.bool true)], args := [d1, d2, d3] }
  | _ => none }
def backMovesRow : OpenClaim := { program := "ytgbccaplckiilaa", sum := "0654cf408d1362f2889e5e197bc7857b0591fb32e11adaee8a9d5d628582398f", func := "larderwick/larderwicklaw4.BackMoves", spec := "backMoves", inPlace := ["slices.overlaps[larderwick/back.frame]", "slices.overlaps[int]"], unfollowed := true, recurses := true, apart := false }
def BackMovesSaid : Prop := backMovesRow.holds Try.pinned (OpenSpec.ofChange backMovesSpec)

/-- ITS FALSE NEIGHBOUR: 'it returns false'. Refute it at one input. -/
def backMovesWrong : ChangeSpec := { name := "backMoves", fn := fun _ => fun
  | [d1, d2, d3] => { results := [.lit (.bool false)], args := [d1, d2, d3] }
  | _ => none }
def BackMovesWrongFalsely : Prop := backMovesRow.holds Try.pinned (OpenSpec.ofChange backMovesWrong)

/- THE SECOND FORM. 'bulk': how many values and letters a reading holds, each counted each time it is reached (what is shared counts as often as it is met; a slice's spare places count too). A statement '..UptoSaid' is the law's where the arguments, and the package variables that the reading takes, are together of bulk at most 1048576: NARROWER than '..Said'. Prove '..Said' where nothing that the law and all that it calls make is longer than what came in: it says more and counts as full. Else prove '..UptoSaid'. A law counts once. -/
mutual
def uptoBulk {H : Type} : DataW H → Nat
  | .lit (.string bytes) => bytes.length + 1
  | .lit _ => 1
  | .nil => 1
  | .ptr d => uptoBulk d + 1
  | .slice elems spare => uptoBulkAll elems + uptoBulkAll spare + 1
  | .agg parts => uptoBulkAll parts + 1
  | .iface _ d => uptoBulk d + 1
  | .map entries => uptoBulkEntries entries + 1
  | .held _ => 1
def uptoBulkAll {H : Type} : List (DataW H) → Nat
  | [] => 0
  | d :: r => uptoBulk d + uptoBulkAll r
def uptoBulkEntries {H : Type} : List (Lit × DataW H) → Nat
  | [] => 0
  | x :: r => uptoBulkEntry x + uptoBulkEntries r
def uptoBulkEntry {H : Type} : Lit × DataW H → Nat
  | (.string bytes, d) => bytes.length + uptoBulk d + 1
  | (_, d) => uptoBulk d + 1
 end
def uptoSmall : (H : Type) → List (DataW H) → Bool := fun _ ds => decide (uptoBulkAll ds ≤ 1048576)
def OpenSpec.upto (s : _root_.Go.ChangeSpec) : _root_.Go.OpenSpec := { _root_.Go.OpenSpec.ofChange s with cond := some uptoSmall }

/-- 'larderwicktop.TopMemory', WHERE WHAT IT READS IS OF BULK AT MOST 1048576: true; the input reads as it did. -/
def topMemoryUptoRow : OpenClaim := { program := "ytgbccaplckiilaa", sum := "0654cf408d1362f2889e5e197bc7857b0591fb32e11adaee8a9d5d628582398f", func := "larderwick/larderwicktop.TopMemory", spec := "topMemory", inPlace := ["slices.overlaps[larderwick/back.frame]"], unfollowed := true, recurses := true, apart := false, narrowed := true }
def TopMemoryUptoSaid : Prop := topMemoryUptoRow.holds Try.pinned (OpenSpec.upto topMemorySpec)

/-- 'larderwicklaw4.BackReads', WHERE WHAT IT READS IS OF BULK AT MOST 1048576: true; the input reads as it did. -/
def backReadsUptoRow : OpenClaim := { program := "ytgbccaplckiilaa", sum := "0654cf408d1362f2889e5e197bc7857b0591fb32e11adaee8a9d5d628582398f", func := "larderwick/larderwicklaw4.BackReads", spec := "backReads", inPlace := ["slices.overlaps[larderwick/back.frame]"], unfollowed := true, recurses := true, apart := false, narrowed := true }
def BackReadsUptoSaid : Prop := backReadsUptoRow.holds Try.pinned (OpenSpec.upto backReadsSpec)

/-- 'larderwicklaw4.BackFlush', WHERE WHAT IT READS IS OF BULK AT MOST 1048576: true; the input reads as it did. -/
def backFlushUptoRow : OpenClaim := { program := "ytgbccaplckiilaa", sum := "0654cf408d1362f2889e5e197bc7857b0591fb32e11adaee8a9d5d628582398f", func := "larderwick/larderwicklaw4.BackFlush", spec := "backFlush", inPlace := ["slices.overlaps[larderwick/back.frame]"], unfollowed := true, recurses := true, apart := false, narrowed := true }
def BackFlushUptoSaid : Prop := backFlushUptoRow.holds Try.pinned (OpenSpec.upto backFlushSpec)

/-- 'larderwicklaw4.BackCrash', WHERE WHAT IT READS IS OF BULK AT MOST 1048576: true; the input reads as it did. -/
def backCrashUptoRow : OpenClaim := { program := "ytgbccaplckiilaa", sum := "0654cf408d1362f2889e5e197bc7857b0591fb32e11adaee8a9d5d628582398f", func := "larderwick/larderwicklaw4.BackCrash", spec := "backCrash", inPlace := ["slices.overlaps[larderwick/back.frame]"], unfollowed := true, recurses := true, apart := false, narrowed := true }
def BackCrashUptoSaid : Prop := backCrashUptoRow.holds Try.pinned (OpenSpec.upto backCrashSpec)

/-- 'larderwicklaw4.BackTwice', WHERE WHAT IT READS IS OF BULK AT MOST 1048576: true; the input reads as it did. -/
def backTwiceUptoRow : OpenClaim := { program := "ytgbccaplckiilaa", sum := "0654cf408d1362f2889e5e197bc7857b0591fb32e11adaee8a9d5d628582398f", func := "larderwick/larderwicklaw4.BackTwice", spec := "backTwice", inPlace := ["slices.overlaps[larderwick/back.frame]"], unfollowed := true, recurses := true, apart := false, narrowed := true }
def BackTwiceUptoSaid : Prop := backTwiceUptoRow.holds Try.pinned (OpenSpec.upto backTwiceSpec)

/-- 'larderwicklaw4.BackMoves', WHERE WHAT IT READS IS OF BULK AT MOST 1048576: true; the input reads as it did. -/
def backMovesUptoRow : OpenClaim := { program := "ytgbccaplckiilaa", sum := "0654cf408d1362f2889e5e197bc7857b0591fb32e11adaee8a9d5d628582398f", func := "larderwick/larderwicklaw4.BackMoves", spec := "backMoves", inPlace := ["slices.overlaps[larderwick/back.frame]", "slices.overlaps[int]"], unfollowed := true, recurses := true, apart := false, narrowed := true }
def BackMovesUptoSaid : Prop := backMovesUptoRow.holds Try.pinned (OpenSpec.upto backMovesSpec)

end Rows
end Go.Proofs.Ytgbccaplckiilaa
