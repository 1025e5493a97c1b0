/-
  No cell of these rows narrows 'for every input' (looked for: loops, veiled, ifaces, maps, wideKeys, modest, calm, conditions, laid).
  DERIVED. THE GIVEN ROWS OF THIS SEAT. 12 by the template 'for every input the law returns true; each argument reads behind the call as it read before'; 0 by the template 'total and deterministic' (their statements: YtlnmjnlghbfppaaTotals.lean).
  GIVEN WITH THE SEED: the statements are not yours to turn. If you find one false, say at which input.
  Laid BY PROGRAM, IN A SANDBOX (cutbox-rows.mjs): the forced cells as the released guide's own fill.sh prints them over the translation f5134dc0ded4b56b… (all of the seat's roots in one cut). By AI agents, Wed Nov 11 2026. No macro, syntax, notation, axiom, sorry.
-/
import Derived.Test.YtlnmjnlghbfppaaChecked
import GoSem.Claim
import GoSem.ClaimJoined
import GoSem.ClaimMapViews
import Derived.JoinedTies
import Derived.KernelRfl
namespace Go.Proofs.Ytlnmjnlghbfppaa
/- THE CELL 'sum', in the pinned program and in every row, IS THE sha256 OF THE DUMP (.gsa) THAT YtlnmjnlghbfppaaProg.lean LOADS. Nothing in Lean hashes anything: it is a label: what it is worth is what the hold of that sum in a sandbox is worth. -/
noncomputable def Try.pinned : Pinned := { name := "ytlnmjnlghbfppaa", sum := "f5134dc0ded4b56bebebfe821b1909c00a1d68f1c5cc7310e96fb6a57a22203a", checked := Try.checked }
namespace Rows
def none {H : Type} : Left H := { results := [], args := [] }

/-- 'laws.FnExactShadowOf': WHATEVER THE INPUT: true; the input reads as it did. -/
def fnExactShadowOfSpec : ChangeSpec := { name := "fnExactShadowOf", fn := fun _ => fun
  | [d] => { results := [.lit (.bool true)], args := [d] }
  | _ => none }
def fnExactShadowOfRow : OpenClaim := { program := "ytlnmjnlghbfppaa", sum := "f5134dc0ded4b56bebebfe821b1909c00a1d68f1c5cc7310e96fb6a57a22203a", func := "loop.example/g03405/laws.FnExactShadowOf", spec := "fnExactShadowOf", recurses := true, apart := false }
def FnExactShadowOfSaid : Prop := fnExactShadowOfRow.holds Try.pinned (OpenSpec.ofChange fnExactShadowOfSpec)

/-- ITS FALSE NEIGHBOUR: 'it returns false'. Refute it at one input. -/
def fnExactShadowOfWrong : ChangeSpec := { name := "fnExactShadowOf", fn := fun _ => fun
  | [d] => { results := [.lit (.bool false)], args := [d] }
  | _ => none }
def FnExactShadowOfWrongFalsely : Prop := fnExactShadowOfRow.holds Try.pinned (OpenSpec.ofChange fnExactShadowOfWrong)

/-- 'laws.FnExactIsDownClosed': WHATEVER THE INPUT: true; the input reads as it did. -/
def fnExactIsDownClosedSpec : ChangeSpec := { name := "fnExactIsDownClosed", fn := fun _ => fun
  | [d] => { results := [.lit (.bool true)], args := [d] }
  | _ => none }
def fnExactIsDownClosedRow : OpenClaim := { program := "ytlnmjnlghbfppaa", sum := "f5134dc0ded4b56bebebfe821b1909c00a1d68f1c5cc7310e96fb6a57a22203a", func := "loop.example/g03405/laws.FnExactIsDownClosed", spec := "fnExactIsDownClosed", unfollowed := true, recurses := true, apart := false }
def FnExactIsDownClosedSaid : Prop := fnExactIsDownClosedRow.holds Try.pinned (OpenSpec.ofChange fnExactIsDownClosedSpec)

/-- ITS FALSE NEIGHBOUR: 'it returns false'. Refute it at one input. -/
def fnExactIsDownClosedWrong : ChangeSpec := { name := "fnExactIsDownClosed", fn := fun _ => fun
  | [d] => { results := [.lit (.bool false)], args := [d] }
  | _ => none }
def FnExactIsDownClosedWrongFalsely : Prop := fnExactIsDownClosedRow.holds Try.pinned (OpenSpec.ofChange fnExactIsDownClosedWrong)

/-- 'laws.FnExactShiftDown': WHATEVER THE INPUT: true; the input reads as it did. -/
def fnExactShiftDownSpec : ChangeSpec := { name := "fnExactShiftDown", fn := fun _ => fun
  | [d1, d2] => { results := [.lit (.bool true)], args := [d1, d2] }
  | _ => none }
def fnExactShiftDownRow : OpenClaim := { program := "ytlnmjnlghbfppaa", sum := "f5134dc0ded4b56bebebfe821b1909c00a1d68f1c5cc7310e96fb6a57a22203a", func := "loop.example/g03405/laws.FnExactShiftDown", spec := "fnExactShiftDown", recurses := true, apart := false }
def FnExactShiftDownSaid : Prop := fnExactShiftDownRow.holds Try.pinned (OpenSpec.ofChange fnExactShiftDownSpec)

/-- ITS FALSE NEIGHBOUR: 'it returns false'. Refute it at one input. -/
def fnExactShiftDownWrong : ChangeSpec := { name := "fnExactShiftDown", fn := fun _ => fun
  | [d1, d2] => { results := [.lit (.bool false)], args := [d1, d2] }
  | _ => none }
def FnExactShiftDownWrongFalsely : Prop := fnExactShiftDownRow.holds Try.pinned (OpenSpec.ofChange fnExactShiftDownWrong)

/-- 'laws.FnExactExtendIntersecting': WHATEVER THE INPUT: true; the input reads as it did. -/
def fnExactExtendIntersectingSpec : ChangeSpec := { name := "fnExactExtendIntersecting", fn := fun _ => fun
  | [d] => { results := [.lit (.bool true)], args := [d] }
  | _ => none }
def fnExactExtendIntersectingRow : OpenClaim := { program := "ytlnmjnlghbfppaa", sum := "f5134dc0ded4b56bebebfe821b1909c00a1d68f1c5cc7310e96fb6a57a22203a", func := "loop.example/g03405/laws.FnExactExtendIntersecting", spec := "fnExactExtendIntersecting", recurses := true, apart := false }
def FnExactExtendIntersectingSaid : Prop := fnExactExtendIntersectingRow.holds Try.pinned (OpenSpec.ofChange fnExactExtendIntersectingSpec)

/-- ITS FALSE NEIGHBOUR: 'it returns false'. Refute it at one input. -/
def fnExactExtendIntersectingWrong : ChangeSpec := { name := "fnExactExtendIntersecting", fn := fun _ => fun
  | [d] => { results := [.lit (.bool false)], args := [d] }
  | _ => none }
def FnExactExtendIntersectingWrongFalsely : Prop := fnExactExtendIntersectingRow.holds Try.pinned (OpenSpec.ofChange fnExactExtendIntersectingWrong)

/-- 'laws.FnExactDimensionOf': WHATEVER THE INPUT: true; the input reads as it did. -/
def fnExactDimensionOfSpec : ChangeSpec := { name := "fnExactDimensionOf", fn := fun _ => fun
  | [d] => { results := [.lit (.bool true)], args := [d] }
  | _ => none }
def fnExactDimensionOfRow : OpenClaim := { program := "ytlnmjnlghbfppaa", sum := "f5134dc0ded4b56bebebfe821b1909c00a1d68f1c5cc7310e96fb6a57a22203a", func := "loop.example/g03405/laws.FnExactDimensionOf", spec := "fnExactDimensionOf", unfollowed := true, recurses := true, apart := false }
def FnExactDimensionOfSaid : Prop := fnExactDimensionOfRow.holds Try.pinned (OpenSpec.ofChange fnExactDimensionOfSpec)

/-- ITS FALSE NEIGHBOUR: 'it returns false'. Refute it at one input. -/
def fnExactDimensionOfWrong : ChangeSpec := { name := "fnExactDimensionOf", fn := fun _ => fun
  | [d] => { results := [.lit (.bool false)], args := [d] }
  | _ => none }
def FnExactDimensionOfWrongFalsely : Prop := fnExactDimensionOfRow.holds Try.pinned (OpenSpec.ofChange fnExactDimensionOfWrong)

/-- 'laws.FnExactShatteredSets': WHATEVER THE INPUT: true; the input reads as it did. -/
def fnExactShatteredSetsSpec : ChangeSpec := { name := "fnExactShatteredSets", fn := fun _ => fun
  | [d] => { results := [.lit (.bool true)], args := [d] }
  | _ => none }
def fnExactShatteredSetsRow : OpenClaim := { program := "ytlnmjnlghbfppaa", sum := "f5134dc0ded4b56bebebfe821b1909c00a1d68f1c5cc7310e96fb6a57a22203a", func := "loop.example/g03405/laws.FnExactShatteredSets", spec := "fnExactShatteredSets", unfollowed := true, recurses := true, apart := false }
def FnExactShatteredSetsSaid : Prop := fnExactShatteredSetsRow.holds Try.pinned (OpenSpec.ofChange fnExactShatteredSetsSpec)

/-- ITS FALSE NEIGHBOUR: 'it returns false'. Refute it at one input. -/
def fnExactShatteredSetsWrong : ChangeSpec := { name := "fnExactShatteredSets", fn := fun _ => fun
  | [d] => { results := [.lit (.bool false)], args := [d] }
  | _ => none }
def FnExactShatteredSetsWrongFalsely : Prop := fnExactShatteredSetsRow.holds Try.pinned (OpenSpec.ofChange fnExactShatteredSetsWrong)

/-- 'laws.FnExactHereditaryDiscrepancy': WHATEVER THE INPUT: true; the input reads as it did. -/
def fnExactHereditaryDiscrepancySpec : ChangeSpec := { name := "fnExactHereditaryDiscrepancy", fn := fun _ => fun
  | [d] => { results := [.lit (.bool true)], args := [d] }
  | _ => none }
def fnExactHereditaryDiscrepancyRow : OpenClaim := { program := "ytlnmjnlghbfppaa", sum := "f5134dc0ded4b56bebebfe821b1909c00a1d68f1c5cc7310e96fb6a57a22203a", func := "loop.example/g03405/laws.FnExactHereditaryDiscrepancy", spec := "fnExactHereditaryDiscrepancy", recurses := true, apart := false }
def FnExactHereditaryDiscrepancySaid : Prop := fnExactHereditaryDiscrepancyRow.holds Try.pinned (OpenSpec.ofChange fnExactHereditaryDiscrepancySpec)

/-- ITS FALSE NEIGHBOUR: 'it returns false'. Refute it at one input. -/
def fnExactHereditaryDiscrepancyWrong : ChangeSpec := { name := "fnExactHereditaryDiscrepancy", fn := fun _ => fun
  | [d] => { results := [.lit (.bool false)], args := [d] }
  | _ => none }
def FnExactHereditaryDiscrepancyWrongFalsely : Prop := fnExactHereditaryDiscrepancyRow.holds Try.pinned (OpenSpec.ofChange fnExactHereditaryDiscrepancyWrong)

/-- 'laws.FnExactShiftAll': WHATEVER THE INPUT: true; the input reads as it did. -/
def fnExactShiftAllSpec : ChangeSpec := { name := "fnExactShiftAll", fn := fun _ => fun
  | [d] => { results := [.lit (.bool true)], args := [d] }
  | _ => none }
def fnExactShiftAllRow : OpenClaim := { program := "ytlnmjnlghbfppaa", sum := "f5134dc0ded4b56bebebfe821b1909c00a1d68f1c5cc7310e96fb6a57a22203a", func := "loop.example/g03405/laws.FnExactShiftAll", spec := "fnExactShiftAll", unfollowed := true, recurses := true, apart := false }
def FnExactShiftAllSaid : Prop := fnExactShiftAllRow.holds Try.pinned (OpenSpec.ofChange fnExactShiftAllSpec)

/-- ITS FALSE NEIGHBOUR: 'it returns false'. Refute it at one input. -/
def fnExactShiftAllWrong : ChangeSpec := { name := "fnExactShiftAll", fn := fun _ => fun
  | [d] => { results := [.lit (.bool false)], args := [d] }
  | _ => none }
def FnExactShiftAllWrongFalsely : Prop := fnExactShiftAllRow.holds Try.pinned (OpenSpec.ofChange fnExactShiftAllWrong)

/-- 'laws.FnExactSymmetricChains': WHATEVER THE INPUT: true; the input reads as it did. -/
def fnExactSymmetricChainsSpec : ChangeSpec := { name := "fnExactSymmetricChains", fn := fun _ => fun
  | [d] => { results := [.lit (.bool true)], args := [d] }
  | _ => none }
def fnExactSymmetricChainsRow : OpenClaim := { program := "ytlnmjnlghbfppaa", sum := "f5134dc0ded4b56bebebfe821b1909c00a1d68f1c5cc7310e96fb6a57a22203a", func := "loop.example/g03405/laws.FnExactSymmetricChains", spec := "fnExactSymmetricChains", apart := false }
def FnExactSymmetricChainsSaid : Prop := fnExactSymmetricChainsRow.holds Try.pinned (OpenSpec.ofChange fnExactSymmetricChainsSpec)

/-- ITS FALSE NEIGHBOUR: 'it returns false'. Refute it at one input. -/
def fnExactSymmetricChainsWrong : ChangeSpec := { name := "fnExactSymmetricChains", fn := fun _ => fun
  | [d] => { results := [.lit (.bool false)], args := [d] }
  | _ => none }
def FnExactSymmetricChainsWrongFalsely : Prop := fnExactSymmetricChainsRow.holds Try.pinned (OpenSpec.ofChange fnExactSymmetricChainsWrong)

/-- 'laws.FnExactLevelsOf': WHATEVER THE INPUT: true; the input reads as it did. -/
def fnExactLevelsOfSpec : ChangeSpec := { name := "fnExactLevelsOf", fn := fun _ => fun
  | [d] => { results := [.lit (.bool true)], args := [d] }
  | _ => none }
def fnExactLevelsOfRow : OpenClaim := { program := "ytlnmjnlghbfppaa", sum := "f5134dc0ded4b56bebebfe821b1909c00a1d68f1c5cc7310e96fb6a57a22203a", func := "loop.example/g03405/laws.FnExactLevelsOf", spec := "fnExactLevelsOf", unfollowed := true, recurses := true, apart := false }
def FnExactLevelsOfSaid : Prop := fnExactLevelsOfRow.holds Try.pinned (OpenSpec.ofChange fnExactLevelsOfSpec)

/-- ITS FALSE NEIGHBOUR: 'it returns false'. Refute it at one input. -/
def fnExactLevelsOfWrong : ChangeSpec := { name := "fnExactLevelsOf", fn := fun _ => fun
  | [d] => { results := [.lit (.bool false)], args := [d] }
  | _ => none }
def FnExactLevelsOfWrongFalsely : Prop := fnExactLevelsOfRow.holds Try.pinned (OpenSpec.ofChange fnExactLevelsOfWrong)

/-- 'laws.FnExactLongestChain': WHATEVER THE INPUT: true; the input reads as it did. -/
def fnExactLongestChainSpec : ChangeSpec := { name := "fnExactLongestChain", fn := fun _ => fun
  | [d] => { results := [.lit (.bool true)], args := [d] }
  | _ => none }
def fnExactLongestChainRow : OpenClaim := { program := "ytlnmjnlghbfppaa", sum := "f5134dc0ded4b56bebebfe821b1909c00a1d68f1c5cc7310e96fb6a57a22203a", func := "loop.example/g03405/laws.FnExactLongestChain", spec := "fnExactLongestChain", unfollowed := true, recurses := true, apart := false }
def FnExactLongestChainSaid : Prop := fnExactLongestChainRow.holds Try.pinned (OpenSpec.ofChange fnExactLongestChainSpec)

/-- ITS FALSE NEIGHBOUR: 'it returns false'. Refute it at one input. -/
def fnExactLongestChainWrong : ChangeSpec := { name := "fnExactLongestChain", fn := fun _ => fun
  | [d] => { results := [.lit (.bool false)], args := [d] }
  | _ => none }
def FnExactLongestChainWrongFalsely : Prop := fnExactLongestChainRow.holds Try.pinned (OpenSpec.ofChange fnExactLongestChainWrong)

/-- 'laws.FnExactLargestIntersecting': WHATEVER THE INPUT: true; the input reads as it did. -/
def fnExactLargestIntersectingSpec : ChangeSpec := { name := "fnExactLargestIntersecting", fn := fun _ => fun
  | [d1, d2] => { results := [.lit (.bool true)], args := [d1, d2] }
  | _ => none }
def fnExactLargestIntersectingRow : OpenClaim := { program := "ytlnmjnlghbfppaa", sum := "f5134dc0ded4b56bebebfe821b1909c00a1d68f1c5cc7310e96fb6a57a22203a", func := "loop.example/g03405/laws.FnExactLargestIntersecting", spec := "fnExactLargestIntersecting", unfollowed := true, recurses := true, apart := false }
def FnExactLargestIntersectingSaid : Prop := fnExactLargestIntersectingRow.holds Try.pinned (OpenSpec.ofChange fnExactLargestIntersectingSpec)

/-- ITS FALSE NEIGHBOUR: 'it returns false'. Refute it at one input. -/
def fnExactLargestIntersectingWrong : ChangeSpec := { name := "fnExactLargestIntersecting", fn := fun _ => fun
  | [d1, d2] => { results := [.lit (.bool false)], args := [d1, d2] }
  | _ => none }
def FnExactLargestIntersectingWrongFalsely : Prop := fnExactLargestIntersectingRow.holds Try.pinned (OpenSpec.ofChange fnExactLargestIntersectingWrong)

/- THE SECOND FORM. 'bulk': how many values and letters a reading holds, each counted each time it is reached (what is shared counts as often as it is met; a slice's spare places count too). A statement '..UptoSaid' is the law's where the arguments, and the package variables that the reading takes, are together of bulk at most 1048576: NARROWER than '..Said'. Prove '..Said' where nothing that the law and all that it calls make is longer than what came in: it says more and counts as full. Else prove '..UptoSaid'. A law counts once. -/
mutual
def uptoBulk {H : Type} : DataW H → Nat
  | .lit (.string bytes) => bytes.length + 1
  | .lit _ => 1
  | .nil => 1
  | .ptr d => uptoBulk d + 1
  | .slice elems spare => uptoBulkAll elems + uptoBulkAll spare + 1
  | .agg parts => uptoBulkAll parts + 1
  | .iface _ d => uptoBulk d + 1
  | .map entries => uptoBulkEntries entries + 1
  | .held _ => 1
def uptoBulkAll {H : Type} : List (DataW H) → Nat
  | [] => 0
  | d :: r => uptoBulk d + uptoBulkAll r
def uptoBulkEntries {H : Type} : List (Lit × DataW H) → Nat
  | [] => 0
  | x :: r => uptoBulkEntry x + uptoBulkEntries r
def uptoBulkEntry {H : Type} : Lit × DataW H → Nat
  | (.string bytes, d) => bytes.length + uptoBulk d + 1
  | (_, d) => uptoBulk d + 1
 end
def uptoSmall : (H : Type) → List (DataW H) → Bool := fun _ ds => decide (uptoBulkAll ds ≤ 1048576)
def OpenSpec.upto (s : _root_.Go.ChangeSpec) : _root_.Go.OpenSpec := { _root_.Go.OpenSpec.ofChange s with cond := some uptoSmall }

/-- 'laws.FnExactShadowOf', WHERE WHAT IT READS IS OF BULK AT MOST 1048576: true; the input reads as it did. -/
def fnExactShadowOfUptoRow : OpenClaim := { program := "ytlnmjnlghbfppaa", sum := "f5134dc0ded4b56bebebfe821b1909c00a1d68f1c5cc7310e96fb6a57a22203a", func := "loop.example/g03405/laws.FnExactShadowOf", spec := "fnExactShadowOf", recurses := true, apart := false, narrowed := true }
def FnExactShadowOfUptoSaid : Prop := fnExactShadowOfUptoRow.holds Try.pinned (OpenSpec.upto fnExactShadowOfSpec)

/-- 'laws.FnExactIsDownClosed', WHERE WHAT IT READS IS OF BULK AT MOST 1048576: true; the input reads as it did. -/
def fnExactIsDownClosedUptoRow : OpenClaim := { program := "ytlnmjnlghbfppaa", sum := "f5134dc0ded4b56bebebfe821b1909c00a1d68f1c5cc7310e96fb6a57a22203a", func := "loop.example/g03405/laws.FnExactIsDownClosed", spec := "fnExactIsDownClosed", unfollowed := true, recurses := true, apart := false, narrowed := true }
def FnExactIsDownClosedUptoSaid : Prop := fnExactIsDownClosedUptoRow.holds Try.pinned (OpenSpec.upto fnExactIsDownClosedSpec)

/-- 'laws.FnExactShiftDown', WHERE WHAT IT READS IS OF BULK AT MOST 1048576: true; the input reads as it did. -/
def fnExactShiftDownUptoRow : OpenClaim := { program := "ytlnmjnlghbfppaa", sum := "f5134dc0ded4b56bebebfe821b1909c00a1d68f1c5cc7310e96fb6a57a22203a", func := "loop.example/g03405/laws.FnExactShiftDown", spec := "fnExactShiftDown", recurses := true, apart := false, narrowed := true }
def FnExactShiftDownUptoSaid : Prop := fnExactShiftDownUptoRow.holds Try.pinned (OpenSpec.upto fnExactShiftDownSpec)

/-- 'laws.FnExactExtendIntersecting', WHERE WHAT IT READS IS OF BULK AT MOST 1048576: true; the input reads as it did. -/
def fnExactExtendIntersectingUptoRow : OpenClaim := { program := "ytlnmjnlghbfppaa", sum := "f5134dc0ded4b56bebebfe821b1909c00a1d68f1c5cc7310e96fb6a57a22203a", func := "loop.example/g03405/laws.FnExactExtendIntersecting", spec := "fnExactExtendIntersecting", recurses := true, apart := false, narrowed := true }
def FnExactExtendIntersectingUptoSaid : Prop := fnExactExtendIntersectingUptoRow.holds Try.pinned (OpenSpec.upto fnExactExtendIntersectingSpec)

/-- 'laws.FnExactDimensionOf', WHERE WHAT IT READS IS OF BULK AT MOST 1048576: true; the input reads as it did. -/
def fnExactDimensionOfUptoRow : OpenClaim := { program := "ytlnmjnlghbfppaa", sum := "f5134dc0ded4b56bebebfe821b1909c00a1d68f1c5cc7310e96fb6a57a22203a", func := "loop.example/g03405/laws.FnExactDimensionOf", spec := "fnExactDimensionOf", unfollowed := true, recurses := true, apart := false, narrowed := true }
def FnExactDimensionOfUptoSaid : Prop := fnExactDimensionOfUptoRow.holds Try.pinned (OpenSpec.upto fnExactDimensionOfSpec)

/-- 'laws.FnExactShatteredSets', WHERE WHAT IT READS IS OF BULK AT MOST 1048576: true; the input reads as it did. -/
def fnExactShatteredSetsUptoRow : OpenClaim := { program := "ytlnmjnlghbfppaa", sum := "f5134dc0ded4b56bebebfe821b1909c00a1d68f1c5cc7310e96fb6a57a22203a", func := "loop.example/g03405/laws.FnExactShatteredSets", spec := "fnExactShatteredSets", unfollowed := true, recurses := true, apart := false, narrowed := true }
def FnExactShatteredSetsUptoSaid : Prop := fnExactShatteredSetsUptoRow.holds Try.pinned (OpenSpec.upto fnExactShatteredSetsSpec)

/-- 'laws.FnExactHereditaryDiscrepancy', WHERE WHAT IT READS IS OF BULK AT MOST 1048576: true; the input reads as it did. -/
def fnExactHereditaryDiscrepancyUptoRow : OpenClaim := { program := "ytlnmjnlghbfppaa", sum := "f5134dc0ded4b56bebebfe821b1909c00a1d68f1c5cc7310e96fb6a57a22203a", func := "loop.example/g03405/laws.FnExactHereditaryDiscrepancy", spec := "fnExactHereditaryDiscrepancy", recurses := true, apart := false, narrowed := true }
def FnExactHereditaryDiscrepancyUptoSaid : Prop := fnExactHereditaryDiscrepancyUptoRow.holds Try.pinned (OpenSpec.upto fnExactHereditaryDiscrepancySpec)

/-- 'laws.FnExactShiftAll', WHERE WHAT IT READS IS OF BULK AT MOST 1048576: true; the input reads as it did. -/
def fnExactShiftAllUptoRow : OpenClaim := { program := "ytlnmjnlghbfppaa", sum := "f5134dc0ded4b56bebebfe821b1909c00a1d68f1c5cc7310e96fb6a57a22203a", func := "loop.example/g03405/laws.FnExactShiftAll", spec := "fnExactShiftAll", unfollowed := true, recurses := true, apart := false, narrowed := true }
def FnExactShiftAllUptoSaid : Prop := fnExactShiftAllUptoRow.holds Try.pinned (OpenSpec.upto fnExactShiftAllSpec)

/-- 'laws.FnExactSymmetricChains', WHERE WHAT IT READS IS OF BULK AT MOST 1048576: true; the input reads as it did. -/
def fnExactSymmetricChainsUptoRow : OpenClaim := { program := "ytlnmjnlghbfppaa", sum := "f5134dc0ded4b56bebebfe821b1909c00a1d68f1c5cc7310e96fb6a57a22203a", func := "loop.example/g03405/laws.FnExactSymmetricChains", spec := "fnExactSymmetricChains", apart := false, narrowed := true }
def FnExactSymmetricChainsUptoSaid : Prop := fnExactSymmetricChainsUptoRow.holds Try.pinned (OpenSpec.upto fnExactSymmetricChainsSpec)

/-- 'laws.FnExactLevelsOf', WHERE WHAT IT READS IS OF BULK AT MOST 1048576: true; the input reads as it did. -/
def fnExactLevelsOfUptoRow : OpenClaim := { program := "ytlnmjnlghbfppaa", sum := "f5134dc0ded4b56bebebfe821b1909c00a1d68f1c5cc7310e96fb6a57a22203a", func := "loop.example/g03405/laws.FnExactLevelsOf", spec := "fnExactLevelsOf", unfollowed := true, recurses := true, apart := false, narrowed := true }
def FnExactLevelsOfUptoSaid : Prop := fnExactLevelsOfUptoRow.holds Try.pinned (OpenSpec.upto fnExactLevelsOfSpec)

/-- 'laws.FnExactLongestChain', WHERE WHAT IT READS IS OF BULK AT MOST 1048576: true; the input reads as it did. -/
def fnExactLongestChainUptoRow : OpenClaim := { program := "ytlnmjnlghbfppaa", sum := "f5134dc0ded4b56bebebfe821b1909c00a1d68f1c5cc7310e96fb6a57a22203a", func := "loop.example/g03405/laws.FnExactLongestChain", spec := "fnExactLongestChain", unfollowed := true, recurses := true, apart := false, narrowed := true }
def FnExactLongestChainUptoSaid : Prop := fnExactLongestChainUptoRow.holds Try.pinned (OpenSpec.upto fnExactLongestChainSpec)

/-- 'laws.FnExactLargestIntersecting', WHERE WHAT IT READS IS OF BULK AT MOST 1048576: true; the input reads as it did. -/
def fnExactLargestIntersectingUptoRow : OpenClaim := { program := "ytlnmjnlghbfppaa", sum := "f5134dc0ded4b56bebebfe821b1909c00a1d68f1c5cc7310e96fb6a57a22203a", func := "loop.example/g03405/laws.FnExactLargestIntersecting", spec := "fnExactLargestIntersecting", unfollowed := true, recurses := true, apart := false, narrowed := true }
def FnExactLargestIntersectingUptoSaid : Prop := fnExactLargestIntersectingUptoRow.holds Try.pinned (OpenSpec.upto fnExactLargestIntersectingSpec)

end Rows
end Go.Proofs.Ytlnmjnlghbfppaa
