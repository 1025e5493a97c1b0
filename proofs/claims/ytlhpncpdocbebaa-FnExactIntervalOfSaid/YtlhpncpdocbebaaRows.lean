/-
  No cell of these rows narrows 'for every input' (looked for: loops, veiled, ifaces, maps, wideKeys, modest, calm, conditions, laid).
  DERIVED. THE GIVEN ROWS OF THIS SEAT. 12 by the template 'for every input the law returns true; each argument reads behind the call as it read before'; 0 by the template 'total and deterministic' (their statements: YtlhpncpdocbebaaTotals.lean).
  GIVEN WITH THE SEED: the statements are not yours to turn. If you find one false, say at which input.
  Laid BY PROGRAM, IN A SANDBOX (cutbox-rows.mjs): the forced cells as the released guide's own fill.sh prints them over the translation 0ba0a87b14e34d07… (all of the seat's roots in one cut). By AI agents, Wed Nov 11 2026. No macro, syntax, notation, axiom, sorry.
-/
import Derived.Test.YtlhpncpdocbebaaChecked
import GoSem.Claim
import GoSem.ClaimJoined
import GoSem.ClaimMapViews
import Derived.JoinedTies
import Derived.KernelRfl
namespace Go.Proofs.Ytlhpncpdocbebaa
/- THE CELL 'sum', in the pinned program and in every row, IS THE sha256 OF THE DUMP (.gsa) THAT YtlhpncpdocbebaaProg.lean LOADS. Nothing in Lean hashes anything: it is a label: what it is worth is what the hold of that sum in a sandbox is worth. -/
noncomputable def Try.pinned : Pinned := { name := "ytlhpncpdocbebaa", sum := "0ba0a87b14e34d078f53d198a52aee2b5bfcd518a3b25694c172ab088c46dcb3", checked := Try.checked }
namespace Rows
def none {H : Type} : Left H := { results := [], args := [] }

/-- 'laws.FnExactIsRepresentation': WHATEVER THE INPUT: true; the input reads as it did. -/
def fnExactIsRepresentationSpec : ChangeSpec := { name := "fnExactIsRepresentation", fn := fun _ => fun
  | [d1, d2, d3] => { results := [.lit (.bool true)], args := [d1, d2, d3] }
  | _ => none }
def fnExactIsRepresentationRow : OpenClaim := { program := "ytlhpncpdocbebaa", sum := "0ba0a87b14e34d078f53d198a52aee2b5bfcd518a3b25694c172ab088c46dcb3", func := "loop.example/g03405/laws.FnExactIsRepresentation", spec := "fnExactIsRepresentation", apart := false }
def FnExactIsRepresentationSaid : Prop := fnExactIsRepresentationRow.holds Try.pinned (OpenSpec.ofChange fnExactIsRepresentationSpec)

/-- ITS FALSE NEIGHBOUR: 'it returns false'. Refute it at one input. -/
def fnExactIsRepresentationWrong : ChangeSpec := { name := "fnExactIsRepresentation", fn := fun _ => fun
  | [d1, d2, d3] => { results := [.lit (.bool false)], args := [d1, d2, d3] }
  | _ => none }
def FnExactIsRepresentationWrongFalsely : Prop := fnExactIsRepresentationRow.holds Try.pinned (OpenSpec.ofChange fnExactIsRepresentationWrong)

/-- 'laws.FnExactIsSunflower': WHATEVER THE INPUT: true; the input reads as it did. -/
def fnExactIsSunflowerSpec : ChangeSpec := { name := "fnExactIsSunflower", fn := fun _ => fun
  | [d] => { results := [.lit (.bool true)], args := [d] }
  | _ => none }
def fnExactIsSunflowerRow : OpenClaim := { program := "ytlhpncpdocbebaa", sum := "0ba0a87b14e34d078f53d198a52aee2b5bfcd518a3b25694c172ab088c46dcb3", func := "loop.example/g03405/laws.FnExactIsSunflower", spec := "fnExactIsSunflower", apart := false }
def FnExactIsSunflowerSaid : Prop := fnExactIsSunflowerRow.holds Try.pinned (OpenSpec.ofChange fnExactIsSunflowerSpec)

/-- ITS FALSE NEIGHBOUR: 'it returns false'. Refute it at one input. -/
def fnExactIsSunflowerWrong : ChangeSpec := { name := "fnExactIsSunflower", fn := fun _ => fun
  | [d] => { results := [.lit (.bool false)], args := [d] }
  | _ => none }
def FnExactIsSunflowerWrongFalsely : Prop := fnExactIsSunflowerRow.holds Try.pinned (OpenSpec.ofChange fnExactIsSunflowerWrong)

/-- 'laws.FnExactKernelOf': WHATEVER THE INPUT: true; the input reads as it did. -/
def fnExactKernelOfSpec : ChangeSpec := { name := "fnExactKernelOf", fn := fun _ => fun
  | [d] => { results := [.lit (.bool true)], args := [d] }
  | _ => none }
def fnExactKernelOfRow : OpenClaim := { program := "ytlhpncpdocbebaa", sum := "0ba0a87b14e34d078f53d198a52aee2b5bfcd518a3b25694c172ab088c46dcb3", func := "loop.example/g03405/laws.FnExactKernelOf", spec := "fnExactKernelOf", apart := false }
def FnExactKernelOfSaid : Prop := fnExactKernelOfRow.holds Try.pinned (OpenSpec.ofChange fnExactKernelOfSpec)

/-- ITS FALSE NEIGHBOUR: 'it returns false'. Refute it at one input. -/
def fnExactKernelOfWrong : ChangeSpec := { name := "fnExactKernelOf", fn := fun _ => fun
  | [d] => { results := [.lit (.bool false)], args := [d] }
  | _ => none }
def FnExactKernelOfWrongFalsely : Prop := fnExactKernelOfRow.holds Try.pinned (OpenSpec.ofChange fnExactKernelOfWrong)

/-- 'laws.FnExactIsIntersecting': WHATEVER THE INPUT: true; the input reads as it did. -/
def fnExactIsIntersectingSpec : ChangeSpec := { name := "fnExactIsIntersecting", fn := fun _ => fun
  | [d] => { results := [.lit (.bool true)], args := [d] }
  | _ => none }
def fnExactIsIntersectingRow : OpenClaim := { program := "ytlhpncpdocbebaa", sum := "0ba0a87b14e34d078f53d198a52aee2b5bfcd518a3b25694c172ab088c46dcb3", func := "loop.example/g03405/laws.FnExactIsIntersecting", spec := "fnExactIsIntersecting", apart := false }
def FnExactIsIntersectingSaid : Prop := fnExactIsIntersectingRow.holds Try.pinned (OpenSpec.ofChange fnExactIsIntersectingSpec)

/-- ITS FALSE NEIGHBOUR: 'it returns false'. Refute it at one input. -/
def fnExactIsIntersectingWrong : ChangeSpec := { name := "fnExactIsIntersecting", fn := fun _ => fun
  | [d] => { results := [.lit (.bool false)], args := [d] }
  | _ => none }
def FnExactIsIntersectingWrongFalsely : Prop := fnExactIsIntersectingRow.holds Try.pinned (OpenSpec.ofChange fnExactIsIntersectingWrong)

/-- 'laws.FnExactIsAntichain': WHATEVER THE INPUT: true; the input reads as it did. -/
def fnExactIsAntichainSpec : ChangeSpec := { name := "fnExactIsAntichain", fn := fun _ => fun
  | [d] => { results := [.lit (.bool true)], args := [d] }
  | _ => none }
def fnExactIsAntichainRow : OpenClaim := { program := "ytlhpncpdocbebaa", sum := "0ba0a87b14e34d078f53d198a52aee2b5bfcd518a3b25694c172ab088c46dcb3", func := "loop.example/g03405/laws.FnExactIsAntichain", spec := "fnExactIsAntichain", apart := false }
def FnExactIsAntichainSaid : Prop := fnExactIsAntichainRow.holds Try.pinned (OpenSpec.ofChange fnExactIsAntichainSpec)

/-- ITS FALSE NEIGHBOUR: 'it returns false'. Refute it at one input. -/
def fnExactIsAntichainWrong : ChangeSpec := { name := "fnExactIsAntichain", fn := fun _ => fun
  | [d] => { results := [.lit (.bool false)], args := [d] }
  | _ => none }
def FnExactIsAntichainWrongFalsely : Prop := fnExactIsAntichainRow.holds Try.pinned (OpenSpec.ofChange fnExactIsAntichainWrong)

/-- 'laws.FnExactAreCrossIntersecting': WHATEVER THE INPUT: true; the input reads as it did. -/
def fnExactAreCrossIntersectingSpec : ChangeSpec := { name := "fnExactAreCrossIntersecting", fn := fun _ => fun
  | [d1, d2] => { results := [.lit (.bool true)], args := [d1, d2] }
  | _ => none }
def fnExactAreCrossIntersectingRow : OpenClaim := { program := "ytlhpncpdocbebaa", sum := "0ba0a87b14e34d078f53d198a52aee2b5bfcd518a3b25694c172ab088c46dcb3", func := "loop.example/g03405/laws.FnExactAreCrossIntersecting", spec := "fnExactAreCrossIntersecting", apart := false }
def FnExactAreCrossIntersectingSaid : Prop := fnExactAreCrossIntersectingRow.holds Try.pinned (OpenSpec.ofChange fnExactAreCrossIntersectingSpec)

/-- ITS FALSE NEIGHBOUR: 'it returns false'. Refute it at one input. -/
def fnExactAreCrossIntersectingWrong : ChangeSpec := { name := "fnExactAreCrossIntersecting", fn := fun _ => fun
  | [d1, d2] => { results := [.lit (.bool false)], args := [d1, d2] }
  | _ => none }
def FnExactAreCrossIntersectingWrongFalsely : Prop := fnExactAreCrossIntersectingRow.holds Try.pinned (OpenSpec.ofChange fnExactAreCrossIntersectingWrong)

/-- 'laws.FnExactPetalsOf': WHATEVER THE INPUT: true; the input reads as it did. -/
def fnExactPetalsOfSpec : ChangeSpec := { name := "fnExactPetalsOf", fn := fun _ => fun
  | [d] => { results := [.lit (.bool true)], args := [d] }
  | _ => none }
def fnExactPetalsOfRow : OpenClaim := { program := "ytlhpncpdocbebaa", sum := "0ba0a87b14e34d078f53d198a52aee2b5bfcd518a3b25694c172ab088c46dcb3", func := "loop.example/g03405/laws.FnExactPetalsOf", spec := "fnExactPetalsOf", apart := false }
def FnExactPetalsOfSaid : Prop := fnExactPetalsOfRow.holds Try.pinned (OpenSpec.ofChange fnExactPetalsOfSpec)

/-- ITS FALSE NEIGHBOUR: 'it returns false'. Refute it at one input. -/
def fnExactPetalsOfWrong : ChangeSpec := { name := "fnExactPetalsOf", fn := fun _ => fun
  | [d] => { results := [.lit (.bool false)], args := [d] }
  | _ => none }
def FnExactPetalsOfWrongFalsely : Prop := fnExactPetalsOfRow.holds Try.pinned (OpenSpec.ofChange fnExactPetalsOfWrong)

/-- 'laws.FnExactDegreeBound': WHATEVER THE INPUT: true; the input reads as it did. -/
def fnExactDegreeBoundSpec : ChangeSpec := { name := "fnExactDegreeBound", fn := fun _ => fun
  | [d] => { results := [.lit (.bool true)], args := [d] }
  | _ => none }
def fnExactDegreeBoundRow : OpenClaim := { program := "ytlhpncpdocbebaa", sum := "0ba0a87b14e34d078f53d198a52aee2b5bfcd518a3b25694c172ab088c46dcb3", func := "loop.example/g03405/laws.FnExactDegreeBound", spec := "fnExactDegreeBound", apart := false }
def FnExactDegreeBoundSaid : Prop := fnExactDegreeBoundRow.holds Try.pinned (OpenSpec.ofChange fnExactDegreeBoundSpec)

/-- ITS FALSE NEIGHBOUR: 'it returns false'. Refute it at one input. -/
def fnExactDegreeBoundWrong : ChangeSpec := { name := "fnExactDegreeBound", fn := fun _ => fun
  | [d] => { results := [.lit (.bool false)], args := [d] }
  | _ => none }
def FnExactDegreeBoundWrongFalsely : Prop := fnExactDegreeBoundRow.holds Try.pinned (OpenSpec.ofChange fnExactDegreeBoundWrong)

/-- 'laws.FnExactDeficiencyOf': WHATEVER THE INPUT: true; the input reads as it did. -/
def fnExactDeficiencyOfSpec : ChangeSpec := { name := "fnExactDeficiencyOf", fn := fun _ => fun
  | [d1, d2] => { results := [.lit (.bool true)], args := [d1, d2] }
  | _ => none }
def fnExactDeficiencyOfRow : OpenClaim := { program := "ytlhpncpdocbebaa", sum := "0ba0a87b14e34d078f53d198a52aee2b5bfcd518a3b25694c172ab088c46dcb3", func := "loop.example/g03405/laws.FnExactDeficiencyOf", spec := "fnExactDeficiencyOf", apart := false }
def FnExactDeficiencyOfSaid : Prop := fnExactDeficiencyOfRow.holds Try.pinned (OpenSpec.ofChange fnExactDeficiencyOfSpec)

/-- ITS FALSE NEIGHBOUR: 'it returns false'. Refute it at one input. -/
def fnExactDeficiencyOfWrong : ChangeSpec := { name := "fnExactDeficiencyOf", fn := fun _ => fun
  | [d1, d2] => { results := [.lit (.bool false)], args := [d1, d2] }
  | _ => none }
def FnExactDeficiencyOfWrongFalsely : Prop := fnExactDeficiencyOfRow.holds Try.pinned (OpenSpec.ofChange fnExactDeficiencyOfWrong)

/-- 'laws.FnExactIntervalOf': WHATEVER THE INPUT: true; the input reads as it did. -/
def fnExactIntervalOfSpec : ChangeSpec := { name := "fnExactIntervalOf", fn := fun _ => fun
  | [d1, d2] => { results := [.lit (.bool true)], args := [d1, d2] }
  | _ => none }
def fnExactIntervalOfRow : OpenClaim := { program := "ytlhpncpdocbebaa", sum := "0ba0a87b14e34d078f53d198a52aee2b5bfcd518a3b25694c172ab088c46dcb3", func := "loop.example/g03405/laws.FnExactIntervalOf", spec := "fnExactIntervalOf", apart := false }
def FnExactIntervalOfSaid : Prop := fnExactIntervalOfRow.holds Try.pinned (OpenSpec.ofChange fnExactIntervalOfSpec)

/-- ITS FALSE NEIGHBOUR: 'it returns false'. Refute it at one input. -/
def fnExactIntervalOfWrong : ChangeSpec := { name := "fnExactIntervalOf", fn := fun _ => fun
  | [d1, d2] => { results := [.lit (.bool false)], args := [d1, d2] }
  | _ => none }
def FnExactIntervalOfWrongFalsely : Prop := fnExactIntervalOfRow.holds Try.pinned (OpenSpec.ofChange fnExactIntervalOfWrong)

/-- 'laws.FnExactIsUniform': WHATEVER THE INPUT: true; the input reads as it did. -/
def fnExactIsUniformSpec : ChangeSpec := { name := "fnExactIsUniform", fn := fun _ => fun
  | [d1, d2] => { results := [.lit (.bool true)], args := [d1, d2] }
  | _ => none }
def fnExactIsUniformRow : OpenClaim := { program := "ytlhpncpdocbebaa", sum := "0ba0a87b14e34d078f53d198a52aee2b5bfcd518a3b25694c172ab088c46dcb3", func := "loop.example/g03405/laws.FnExactIsUniform", spec := "fnExactIsUniform", apart := false }
def FnExactIsUniformSaid : Prop := fnExactIsUniformRow.holds Try.pinned (OpenSpec.ofChange fnExactIsUniformSpec)

/-- ITS FALSE NEIGHBOUR: 'it returns false'. Refute it at one input. -/
def fnExactIsUniformWrong : ChangeSpec := { name := "fnExactIsUniform", fn := fun _ => fun
  | [d1, d2] => { results := [.lit (.bool false)], args := [d1, d2] }
  | _ => none }
def FnExactIsUniformWrongFalsely : Prop := fnExactIsUniformRow.holds Try.pinned (OpenSpec.ofChange fnExactIsUniformWrong)

/-- 'laws.FnExactDiscrepancyFor': WHATEVER THE INPUT: true; the input reads as it did. -/
def fnExactDiscrepancyForSpec : ChangeSpec := { name := "fnExactDiscrepancyFor", fn := fun _ => fun
  | [d1, d2] => { results := [.lit (.bool true)], args := [d1, d2] }
  | _ => none }
def fnExactDiscrepancyForRow : OpenClaim := { program := "ytlhpncpdocbebaa", sum := "0ba0a87b14e34d078f53d198a52aee2b5bfcd518a3b25694c172ab088c46dcb3", func := "loop.example/g03405/laws.FnExactDiscrepancyFor", spec := "fnExactDiscrepancyFor", apart := false }
def FnExactDiscrepancyForSaid : Prop := fnExactDiscrepancyForRow.holds Try.pinned (OpenSpec.ofChange fnExactDiscrepancyForSpec)

/-- ITS FALSE NEIGHBOUR: 'it returns false'. Refute it at one input. -/
def fnExactDiscrepancyForWrong : ChangeSpec := { name := "fnExactDiscrepancyFor", fn := fun _ => fun
  | [d1, d2] => { results := [.lit (.bool false)], args := [d1, d2] }
  | _ => none }
def FnExactDiscrepancyForWrongFalsely : Prop := fnExactDiscrepancyForRow.holds Try.pinned (OpenSpec.ofChange fnExactDiscrepancyForWrong)

/- THE SECOND FORM. 'bulk': how many values and letters a reading holds, each counted each time it is reached (what is shared counts as often as it is met; a slice's spare places count too). A statement '..UptoSaid' is the law's where the arguments, and the package variables that the reading takes, are together of bulk at most 1048576: NARROWER than '..Said'. Prove '..Said' where nothing that the law and all that it calls make is longer than what came in: it says more and counts as full. Else prove '..UptoSaid'. A law counts once. -/
mutual
def uptoBulk {H : Type} : DataW H → Nat
  | .lit (.string bytes) => bytes.length + 1
  | .lit _ => 1
  | .nil => 1
  | .ptr d => uptoBulk d + 1
  | .slice elems spare => uptoBulkAll elems + uptoBulkAll spare + 1
  | .agg parts => uptoBulkAll parts + 1
  | .iface _ d => uptoBulk d + 1
  | .map entries => uptoBulkEntries entries + 1
  | .held _ => 1
def uptoBulkAll {H : Type} : List (DataW H) → Nat
  | [] => 0
  | d :: r => uptoBulk d + uptoBulkAll r
def uptoBulkEntries {H : Type} : List (Lit × DataW H) → Nat
  | [] => 0
  | x :: r => uptoBulkEntry x + uptoBulkEntries r
def uptoBulkEntry {H : Type} : Lit × DataW H → Nat
  | (.string bytes, d) => bytes.length + uptoBulk d + 1
  | (_, d) => uptoBulk d + 1
 end
def uptoSmall : (H : Type) → List (DataW H) → Bool := fun _ ds => decide (uptoBulkAll ds ≤ 1048576)
def OpenSpec.upto (s : _root_.Go.ChangeSpec) : _root_.Go.OpenSpec := { _root_.Go.OpenSpec.ofChange s with cond := some uptoSmall }

/-- 'laws.FnExactIsRepresentation', WHERE WHAT IT READS IS OF BULK AT MOST 1048576: true; the input reads as it did. -/
def fnExactIsRepresentationUptoRow : OpenClaim := { program := "ytlhpncpdocbebaa", sum := "0ba0a87b14e34d078f53d198a52aee2b5bfcd518a3b25694c172ab088c46dcb3", func := "loop.example/g03405/laws.FnExactIsRepresentation", spec := "fnExactIsRepresentation", apart := false, narrowed := true }
def FnExactIsRepresentationUptoSaid : Prop := fnExactIsRepresentationUptoRow.holds Try.pinned (OpenSpec.upto fnExactIsRepresentationSpec)

/-- 'laws.FnExactIsSunflower', WHERE WHAT IT READS IS OF BULK AT MOST 1048576: true; the input reads as it did. -/
def fnExactIsSunflowerUptoRow : OpenClaim := { program := "ytlhpncpdocbebaa", sum := "0ba0a87b14e34d078f53d198a52aee2b5bfcd518a3b25694c172ab088c46dcb3", func := "loop.example/g03405/laws.FnExactIsSunflower", spec := "fnExactIsSunflower", apart := false, narrowed := true }
def FnExactIsSunflowerUptoSaid : Prop := fnExactIsSunflowerUptoRow.holds Try.pinned (OpenSpec.upto fnExactIsSunflowerSpec)

/-- 'laws.FnExactKernelOf', WHERE WHAT IT READS IS OF BULK AT MOST 1048576: true; the input reads as it did. -/
def fnExactKernelOfUptoRow : OpenClaim := { program := "ytlhpncpdocbebaa", sum := "0ba0a87b14e34d078f53d198a52aee2b5bfcd518a3b25694c172ab088c46dcb3", func := "loop.example/g03405/laws.FnExactKernelOf", spec := "fnExactKernelOf", apart := false, narrowed := true }
def FnExactKernelOfUptoSaid : Prop := fnExactKernelOfUptoRow.holds Try.pinned (OpenSpec.upto fnExactKernelOfSpec)

/-- 'laws.FnExactIsIntersecting', WHERE WHAT IT READS IS OF BULK AT MOST 1048576: true; the input reads as it did. -/
def fnExactIsIntersectingUptoRow : OpenClaim := { program := "ytlhpncpdocbebaa", sum := "0ba0a87b14e34d078f53d198a52aee2b5bfcd518a3b25694c172ab088c46dcb3", func := "loop.example/g03405/laws.FnExactIsIntersecting", spec := "fnExactIsIntersecting", apart := false, narrowed := true }
def FnExactIsIntersectingUptoSaid : Prop := fnExactIsIntersectingUptoRow.holds Try.pinned (OpenSpec.upto fnExactIsIntersectingSpec)

/-- 'laws.FnExactIsAntichain', WHERE WHAT IT READS IS OF BULK AT MOST 1048576: true; the input reads as it did. -/
def fnExactIsAntichainUptoRow : OpenClaim := { program := "ytlhpncpdocbebaa", sum := "0ba0a87b14e34d078f53d198a52aee2b5bfcd518a3b25694c172ab088c46dcb3", func := "loop.example/g03405/laws.FnExactIsAntichain", spec := "fnExactIsAntichain", apart := false, narrowed := true }
def FnExactIsAntichainUptoSaid : Prop := fnExactIsAntichainUptoRow.holds Try.pinned (OpenSpec.upto fnExactIsAntichainSpec)

/-- 'laws.FnExactAreCrossIntersecting', WHERE WHAT IT READS IS OF BULK AT MOST 1048576: true; the input reads as it did. -/
def fnExactAreCrossIntersectingUptoRow : OpenClaim := { program := "ytlhpncpdocbebaa", sum := "0ba0a87b14e34d078f53d198a52aee2b5bfcd518a3b25694c172ab088c46dcb3", func := "loop.example/g03405/laws.FnExactAreCrossIntersecting", spec := "fnExactAreCrossIntersecting", apart := false, narrowed := true }
def FnExactAreCrossIntersectingUptoSaid : Prop := fnExactAreCrossIntersectingUptoRow.holds Try.pinned (OpenSpec.upto fnExactAreCrossIntersectingSpec)

/-- 'laws.FnExactPetalsOf', WHERE WHAT IT READS IS OF BULK AT MOST 1048576: true; the input reads as it did. -/
def fnExactPetalsOfUptoRow : OpenClaim := { program := "ytlhpncpdocbebaa", sum := "0ba0a87b14e34d078f53d198a52aee2b5bfcd518a3b25694c172ab088c46dcb3", func := "loop.example/g03405/laws.FnExactPetalsOf", spec := "fnExactPetalsOf", apart := false, narrowed := true }
def FnExactPetalsOfUptoSaid : Prop := fnExactPetalsOfUptoRow.holds Try.pinned (OpenSpec.upto fnExactPetalsOfSpec)

/-- 'laws.FnExactDegreeBound', WHERE WHAT IT READS IS OF BULK AT MOST 1048576: true; the input reads as it did. -/
def fnExactDegreeBoundUptoRow : OpenClaim := { program := "ytlhpncpdocbebaa", sum := "0ba0a87b14e34d078f53d198a52aee2b5bfcd518a3b25694c172ab088c46dcb3", func := "loop.example/g03405/laws.FnExactDegreeBound", spec := "fnExactDegreeBound", apart := false, narrowed := true }
def FnExactDegreeBoundUptoSaid : Prop := fnExactDegreeBoundUptoRow.holds Try.pinned (OpenSpec.upto fnExactDegreeBoundSpec)

/-- 'laws.FnExactDeficiencyOf', WHERE WHAT IT READS IS OF BULK AT MOST 1048576: true; the input reads as it did. -/
def fnExactDeficiencyOfUptoRow : OpenClaim := { program := "ytlhpncpdocbebaa", sum := "0ba0a87b14e34d078f53d198a52aee2b5bfcd518a3b25694c172ab088c46dcb3", func := "loop.example/g03405/laws.FnExactDeficiencyOf", spec := "fnExactDeficiencyOf", apart := false, narrowed := true }
def FnExactDeficiencyOfUptoSaid : Prop := fnExactDeficiencyOfUptoRow.holds Try.pinned (OpenSpec.upto fnExactDeficiencyOfSpec)

/-- 'laws.FnExactIntervalOf', WHERE WHAT IT READS IS OF BULK AT MOST 1048576: true; the input reads as it did. -/
def fnExactIntervalOfUptoRow : OpenClaim := { program := "ytlhpncpdocbebaa", sum := "0ba0a87b14e34d078f53d198a52aee2b5bfcd518a3b25694c172ab088c46dcb3", func := "loop.example/g03405/laws.FnExactIntervalOf", spec := "fnExactIntervalOf", apart := false, narrowed := true }
def FnExactIntervalOfUptoSaid : Prop := fnExactIntervalOfUptoRow.holds Try.pinned (OpenSpec.upto fnExactIntervalOfSpec)

/-- 'laws.FnExactIsUniform', WHERE WHAT IT READS IS OF BULK AT MOST 1048576: true; the input reads as it did. -/
def fnExactIsUniformUptoRow : OpenClaim := { program := "ytlhpncpdocbebaa", sum := "0ba0a87b14e34d078f53d198a52aee2b5bfcd518a3b25694c172ab088c46dcb3", func := "loop.example/g03405/laws.FnExactIsUniform", spec := "fnExactIsUniform", apart := false, narrowed := true }
def FnExactIsUniformUptoSaid : Prop := fnExactIsUniformUptoRow.holds Try.pinned (OpenSpec.upto fnExactIsUniformSpec)

/-- 'laws.FnExactDiscrepancyFor', WHERE WHAT IT READS IS OF BULK AT MOST 1048576: true; the input reads as it did. -/
def fnExactDiscrepancyForUptoRow : OpenClaim := { program := "ytlhpncpdocbebaa", sum := "0ba0a87b14e34d078f53d198a52aee2b5bfcd518a3b25694c172ab088c46dcb3", func := "loop.example/g03405/laws.FnExactDiscrepancyFor", spec := "fnExactDiscrepancyFor", apart := false, narrowed := true }
def FnExactDiscrepancyForUptoSaid : Prop := fnExactDiscrepancyForUptoRow.holds Try.pinned (OpenSpec.upto fnExactDiscrepancyForSpec)

end Rows
end Go.Proofs.Ytlhpncpdocbebaa
