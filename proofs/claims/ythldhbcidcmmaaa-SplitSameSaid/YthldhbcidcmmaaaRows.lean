/-
  No cell of these rows narrows 'for every input' (looked for: loops, veiled, ifaces, maps, wideKeys, modest, calm, conditions, laid).
  DERIVED. THE GIVEN ROWS OF THIS SEAT. 8 by the template 'for every input the law returns true; each argument reads behind the call as it read before'; 0 by the template 'total and deterministic' (their statements: YthldhbcidcmmaaaTotals.lean).
  GIVEN WITH THE SEED: the statements are not yours to turn. If you find one false, say at which input.
  Laid BY PROGRAM, IN A SANDBOX (cutbox-rows.mjs): the forced cells as the released guide's own fill.sh prints them over the translation 546ae6800ebdb77e… (all of the seat's roots in one cut). By AI agents, Wed Nov 11 2026. No macro, syntax, notation, axiom, sorry.
-/
import Derived.Test.YthldhbcidcmmaaaChecked
import GoSem.Claim
import GoSem.ClaimJoined
import GoSem.ClaimMapViews
import Derived.JoinedTies
import Derived.KernelRfl
namespace Go.Proofs.Ythldhbcidcmmaaa
/- THE CELL 'sum', in the pinned program and in every row, IS THE sha256 OF THE DUMP (.gsa) THAT YthldhbcidcmmaaaProg.lean LOADS. Nothing in Lean hashes anything: it is a label: what it is worth is what the hold of that sum in a sandbox is worth. -/
noncomputable def Try.pinned : Pinned := { name := "ythldhbcidcmmaaa", sum := "546ae6800ebdb77e28bdbc3a098e1fe1e097b153600262f347587397961f11fc", checked := Try.checked }
namespace Rows
def none {H : Type} : Left H := { results := [], args := [] }

/-- 'larderwicklaw4.CircleMoves': WHATEVER THE INPUT: true; the input reads as it did. -/
def circleMovesSpec : ChangeSpec := { name := "circleMoves", fn := fun _ => fun
  | [d1, d2, d3] => { results := [.lit (.bool true)], args := [d1, d2, d3] }
  | _ => none }
def circleMovesRow : OpenClaim := { program := "ythldhbcidcmmaaa", sum := "546ae6800ebdb77e28bdbc3a098e1fe1e097b153600262f347587397961f11fc", func := "larderwick/larderwicklaw4.CircleMoves", spec := "circleMoves", unfollowed := true, recurses := true, apart := false }
def CircleMovesSaid : Prop := circleMovesRow.holds Try.pinned (OpenSpec.ofChange circleMovesSpec)

/-- ITS FALSE NEIGHBOUR: 'it returns false'. Refute it at one input. -/
def circleMovesWrong : ChangeSpec := { name := "circleMoves", fn := fun _ => fun
  | [d1, d2, d3] => { results := [.lit (.bool false)], args := [d1, d2, d3] }
  | _ => none }
def CircleMovesWrongFalsely : Prop := circleMovesRow.holds Try.pinned (OpenSpec.ofChange circleMovesWrong)

/-- 'larderwicklaw4.CircleShares': WHATEVER THE INPUT: true; the input reads as it did. -/
def circleSharesSpec : ChangeSpec := { name := "circleShares", fn := fun _ => fun
  | [d1, d2] => { results := [.lit (.bool true)], args := [d1, d2] }
  | _ => none }
def circleSharesRow : OpenClaim := { program := "ythldhbcidcmmaaa", sum := "546ae6800ebdb77e28bdbc3a098e1fe1e097b153600262f347587397961f11fc", func := "larderwick/larderwicklaw4.CircleShares", spec := "circleShares", unfollowed := true, recurses := true, apart := false }
def CircleSharesSaid : Prop := circleSharesRow.holds Try.pinned (OpenSpec.ofChange circleSharesSpec)

/-- ITS FALSE NEIGHBOUR: 'it returns false'. Refute it at one input. -/
def circleSharesWrong : ChangeSpec := { name := "circleShares", fn := fun _ => fun
  | [d1, d2] => { results := [.lit (.bool false)], args := [d1, d2] }
  | _ => none }
def CircleSharesWrongFalsely : Prop := circleSharesRow.holds Try.pinned (OpenSpec.ofChange circleSharesWrong)

/-- 'larderwicktop.TopParts': WHATEVER THE INPUT: true; the input reads as it did. -/
def topPartsSpec : ChangeSpec := { name := "topParts", fn := fun _ => fun
  | [d1, d2, d3] => { results := [.lit (.bool true)], args := [d1, d2, d3] }
  | _ => none }
def topPartsRow : OpenClaim := { program := "ythldhbcidcmmaaa", sum := "546ae6800ebdb77e28bdbc3a098e1fe1e097b153600262f347587397961f11fc", func := "larderwick/larderwicktop.TopParts", spec := "topParts", unfollowed := true, recurses := true, apart := false }
def TopPartsSaid : Prop := topPartsRow.holds Try.pinned (OpenSpec.ofChange topPartsSpec)

/-- ITS FALSE NEIGHBOUR: 'it returns false'. Refute it at one input. -/
def topPartsWrong : ChangeSpec := { name := "topParts", fn := fun _ => fun
  | [d1, d2, d3] => { results := [.lit (.bool false)], args := [d1, d2, d3] }
  | _ => none }
def TopPartsWrongFalsely : Prop := topPartsRow.holds Try.pinned (OpenSpec.ofChange topPartsWrong)

/-- 'larderwicklaw4.SplitFinds': WHATEVER THE INPUT: true; the input reads as it did. -/
def splitFindsSpec : ChangeSpec := { name := "splitFinds", fn := fun _ => fun
  | [d1, d2] => { results := [.lit (.bool true)], args := [d1, d2] }
  | _ => none }
def splitFindsRow : OpenClaim := { program := "ythldhbcidcmmaaa", sum := "546ae6800ebdb77e28bdbc3a098e1fe1e097b153600262f347587397961f11fc", func := "larderwick/larderwicklaw4.SplitFinds", spec := "splitFinds", inPlace := ["slices.overlaps[int]"], apart := false }
def SplitFindsSaid : Prop := splitFindsRow.holds Try.pinned (OpenSpec.ofChange splitFindsSpec)

/-- ITS FALSE NEIGHBOUR: 'it returns false'. Refute it at one input. -/
def splitFindsWrong : ChangeSpec := { name := "splitFinds", fn := fun _ => fun
  | [d1, d2] => { results := [.lit (.bool false)], args := [d1, d2] }
  | _ => none }
def SplitFindsWrongFalsely : Prop := splitFindsRow.holds Try.pinned (OpenSpec.ofChange splitFindsWrong)

/-- 'larderwicklaw4.SplitSame': WHATEVER THE INPUT: true; the input reads as it did. -/
def splitSameSpec : ChangeSpec := { name := "splitSame", fn := fun _ => fun
  | [d] => { results := [.lit (.bool true)], args := [d] }
  | _ => none }
def splitSameRow : OpenClaim := { program := "ythldhbcidcmmaaa", sum := "546ae6800ebdb77e28bdbc3a098e1fe1e097b153600262f347587397961f11fc", func := "larderwick/larderwicklaw4.SplitSame", spec := "splitSame", inPlace := ["slices.overlaps[int]"], apart := false }
def SplitSameSaid : Prop := splitSameRow.holds Try.pinned (OpenSpec.ofChange splitSameSpec)

/-- ITS FALSE NEIGHBOUR: 'it returns false'. Refute it at one input. -/
def splitSameWrong : ChangeSpec := { name := "splitSame", fn := fun _ => fun
  | [d] => { results := [.lit (.bool false)], args := [d] }
  | _ => none }
def SplitSameWrongFalsely : Prop := splitSameRow.holds Try.pinned (OpenSpec.ofChange splitSameWrong)

/-- 'larderwicklaw4.SplitDeep': WHATEVER THE INPUT: true; the input reads as it did. -/
def splitDeepSpec : ChangeSpec := { name := "splitDeep", fn := fun _ => fun
  | [d] => { results := [.lit (.bool true)], args := [d] }
  | _ => none }
def splitDeepRow : OpenClaim := { program := "ythldhbcidcmmaaa", sum := "546ae6800ebdb77e28bdbc3a098e1fe1e097b153600262f347587397961f11fc", func := "larderwick/larderwicklaw4.SplitDeep", spec := "splitDeep", inPlace := ["slices.overlaps[int]"], apart := false }
def SplitDeepSaid : Prop := splitDeepRow.holds Try.pinned (OpenSpec.ofChange splitDeepSpec)

/-- ITS FALSE NEIGHBOUR: 'it returns false'. Refute it at one input. -/
def splitDeepWrong : ChangeSpec := { name := "splitDeep", fn := fun _ => fun
  | [d] => { results := [.lit (.bool false)], args := [d] }
  | _ => none }
def SplitDeepWrongFalsely : Prop := splitDeepRow.holds Try.pinned (OpenSpec.ofChange splitDeepWrong)

/-- 'larderwicklaw4.CircleRank': WHATEVER THE INPUT: true; the input reads as it did. -/
def circleRankSpec : ChangeSpec := { name := "circleRank", fn := fun _ => fun
  | [d1, d2, d3] => { results := [.lit (.bool true)], args := [d1, d2, d3] }
  | _ => none }
def circleRankRow : OpenClaim := { program := "ythldhbcidcmmaaa", sum := "546ae6800ebdb77e28bdbc3a098e1fe1e097b153600262f347587397961f11fc", func := "larderwick/larderwicklaw4.CircleRank", spec := "circleRank", unfollowed := true, recurses := true, apart := false }
def CircleRankSaid : Prop := circleRankRow.holds Try.pinned (OpenSpec.ofChange circleRankSpec)

/-- ITS FALSE NEIGHBOUR: 'it returns false'. Refute it at one input. -/
def circleRankWrong : ChangeSpec := { name := "circleRank", fn := fun _ => fun
  | [d1, d2, d3] => { results := [.lit (.bool false)], args := [d1, d2, d3] }
  | _ => none }
def CircleRankWrongFalsely : Prop := circleRankRow.holds Try.pinned (OpenSpec.ofChange circleRankWrong)

/-- 'larderwicklaw4.CircleAmong': WHATEVER THE INPUT: true; the input reads as it did. -/
def circleAmongSpec : ChangeSpec := { name := "circleAmong", fn := fun _ => fun
  | [d1, d2] => { results := [.lit (.bool true)], args := [d1, d2] }
  | _ => none }
def circleAmongRow : OpenClaim := { program := "ythldhbcidcmmaaa", sum := "546ae6800ebdb77e28bdbc3a098e1fe1e097b153600262f347587397961f11fc", func := "larderwick/larderwicklaw4.CircleAmong", spec := "circleAmong", unfollowed := true, recurses := true, apart := false }
def CircleAmongSaid : Prop := circleAmongRow.holds Try.pinned (OpenSpec.ofChange circleAmongSpec)

/-- ITS FALSE NEIGHBOUR: 'it returns false'. Refute it at one input. -/
def circleAmongWrong : ChangeSpec := { name := "circleAmong", fn := fun _ => fun
  | [d1, d2] => { results := [.lit (.bool false)], args := [d1, d2] }
  | _ => none }
def CircleAmongWrongFalsely : Prop := circleAmongRow.holds Try.pinned (OpenSpec.ofChange circleAmongWrong)

/- THE SECOND FORM. 'bulk': how many values and letters a reading holds, each counted each time it is reached (what is shared counts as often as it is met; a slice's spare places count too). A statement '..UptoSaid' is the law's where the arguments, and the package variables that the reading takes, are together of bulk at most 1048576: NARROWER than '..Said'. Prove '..Said' where nothing that the law and all that it calls make is longer than what came in: it says more and counts as full. Else prove '..UptoSaid'. A law counts once. -/
mutual
def uptoBulk {H : Type} : DataW H → Nat
  | .lit (.string bytes) => bytes.length + 1
  | .lit _ => 1
  | .nil => 1
  | .ptr d => uptoBulk d + 1
  | .slice elems spare => uptoBulkAll elems + uptoBulkAll spare + 1
  | .agg parts => uptoBulkAll parts + 1
  | .iface _ d => uptoBulk d + 1
  | .map entries => uptoBulkEntries entries + 1
  | .held _ => 1
def uptoBulkAll {H : Type} : List (DataW H) → Nat
  | [] => 0
  | d :: r => uptoBulk d + uptoBulkAll r
def uptoBulkEntries {H : Type} : List (Lit × DataW H) → Nat
  | [] => 0
  | x :: r => uptoBulkEntry x + uptoBulkEntries r
def uptoBulkEntry {H : Type} : Lit × DataW H → Nat
  | (.string bytes, d) => bytes.length + uptoBulk d + 1
  | (_, d) => uptoBulk d + 1
 end
def uptoSmall : (H : Type) → List (DataW H) → Bool := fun _ ds => decide (uptoBulkAll ds ≤ 1048576)
def OpenSpec.upto (s : _root_.Go.ChangeSpec) : _root_.Go.OpenSpec := { _root_.Go.OpenSpec.ofChange s with cond := some uptoSmall }

/-- 'larderwicklaw4.CircleMoves', WHERE WHAT IT READS IS OF BULK AT MOST 1048576: true; the input reads as it did. -/
def circleMovesUptoRow : OpenClaim := { program := "ythldhbcidcmmaaa", sum := "546ae6800ebdb77e28bdbc3a098e1fe1e097b153600262f347587397961f11fc", func := "larderwick/larderwicklaw4.CircleMoves", spec := "circleMoves", unfollowed := true, recurses := true, apart := false, narrowed := true }
def CircleMovesUptoSaid : Prop := circleMovesUptoRow.holds Try.pinned (OpenSpec.upto circleMovesSpec)

/-- 'larderwicklaw4.CircleShares', WHERE WHAT IT READS IS OF BULK AT MOST 1048576: true; the input reads as it did. -/
def circleSharesUptoRow : OpenClaim := { program := "ythldhbcidcmmaaa", sum := "546ae6800ebdb77e28bdbc3a098e1fe1e097b153600262f347587397961f11fc", func := "larderwick/larderwicklaw4.CircleShares", spec := "circleShares", unfollowed := true, recurses := true, apart := false, narrowed := true }
def CircleSharesUptoSaid : Prop := circleSharesUptoRow.holds Try.pinned (OpenSpec.upto circleSharesSpec)

/-- 'larderwicktop.TopParts', WHERE WHAT IT READS IS OF BULK AT MOST 1048576: true; the input reads as it did. -/
def topPartsUptoRow : OpenClaim := { program := "ythldhbcidcmmaaa", sum := "546ae6800ebdb77e28bdbc3a098e1fe1e097b153600262f347587397961f11fc", func := "larderwick/larderwicktop.TopParts", spec := "topParts", unfollowed := true, recurses := true, apart := false, narrowed := true }
def TopPartsUptoSaid : Prop := topPartsUptoRow.holds Try.pinned (OpenSpec.upto topPartsSpec)

/-- 'larderwicklaw4.SplitFinds', WHERE WHAT IT READS IS OF BULK AT MOST 1048576: true; the input reads as it did. -/
def splitFindsUptoRow : OpenClaim := { program := "ythldhbcidcmmaaa", sum := "546ae6800ebdb77e28bdbc3a098e1fe1e097b153600262f347587397961f11fc", func := "larderwick/larderwicklaw4.SplitFinds", spec := "splitFinds", inPlace := ["slices.overlaps[int]"], apart := false, narrowed := true }
def SplitFindsUptoSaid : Prop := splitFindsUptoRow.holds Try.pinned (OpenSpec.upto splitFindsSpec)

/-- 'larderwicklaw4.SplitSame', WHERE WHAT IT READS IS OF BULK AT MOST 1048576: true; the input reads as it did. -/
def splitSameUptoRow : OpenClaim := { program := "ythldhbcidcmmaaa", sum := "546ae6800ebdb77e28bdbc3a098e1fe1e097b153600262f347587397961f11fc", func := "larderwick/larderwicklaw4.SplitSame", spec := "splitSame", inPlace := ["slices.overlaps[int]"], apart := false, narrowed := true }
def SplitSameUptoSaid : Prop := splitSameUptoRow.holds Try.pinned (OpenSpec.upto splitSameSpec)

/-- 'larderwicklaw4.SplitDeep', WHERE WHAT IT READS IS OF BULK AT MOST 1048576: true; the input reads as it did. -/
def splitDeepUptoRow : OpenClaim := { program := "ythldhbcidcmmaaa", sum := "546ae6800ebdb77e28bdbc3a098e1fe1e097b153600262f347587397961f11fc", func := "larderwick/larderwicklaw4.SplitDeep", spec := "splitDeep", inPlace := ["slices.overlaps[int]"], apart := false, narrowed := true }
def SplitDeepUptoSaid : Prop := splitDeepUptoRow.holds Try.pinned (OpenSpec.upto splitDeepSpec)

/-- 'larderwicklaw4.CircleRank', WHERE WHAT IT READS IS OF BULK AT MOST 1048576: true; the input reads as it did. -/
def circleRankUptoRow : OpenClaim := { program := "ythldhbcidcmmaaa", sum := "546ae6800ebdb77e28bdbc3a098e1fe1e097b153600262f347587397961f11fc", func := "larderwick/larderwicklaw4.CircleRank", spec := "circleRank", unfollowed := true, recurses := true, apart := false, narrowed := true }
def CircleRankUptoSaid : Prop := circleRankUptoRow.holds Try.pinned (OpenSpec.upto circleRankSpec)

/-- 'larderwicklaw4.CircleAmong', WHERE WHAT IT READS IS OF BULK AT MOST 1048576: true; the input reads as it did. -/
def circleAmongUptoRow : OpenClaim := { program := "ythldhbcidcmmaaa", sum := "546ae6800ebdb77e28bdbc3a098e1fe1e097b153600262f347587397961f11fc", func := "larderwick/larderwicklaw4.CircleAmong", spec := "circleAmong", unfollowed := true, recurses := true, apart := false, narrowed := true }
def CircleAmongUptoSaid : Prop := circleAmongUptoRow.holds Try.pinned (OpenSpec.upto circleAmongSpec)

end Rows
end Go.Proofs.Ythldhbcidcmmaaa
