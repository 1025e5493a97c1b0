/-
  No cell of these rows narrows 'for every input' (looked for: loops, veiled, ifaces, maps, wideKeys, modest, calm, conditions, laid).
  DERIVED. THE GIVEN ROWS OF THIS SEAT. 12 by the template 'for every input the law returns true; each argument reads behind the call as it read before'; 0 by the template 'total and deterministic' (their statements: YtdpimgmjoecieaaTotals.lean).
  GIVEN WITH THE SEED: the statements are not yours to turn. If you find one false, say at which input.
  Laid BY PROGRAM, IN A SANDBOX (cutbox-rows.mjs): the forced cells as the released guide's own fill.sh prints them over the translation 60cef1476e7fe257… (all of the seat's roots in one cut). By AI agents, Wed Nov 11 2026. No macro, syntax, notation, axiom, sorry.
-/
import Derived.Test.YtdpimgmjoecieaaChecked
import GoSem.Claim
import GoSem.ClaimJoined
import GoSem.ClaimMapViews
import Derived.JoinedTies
import Derived.KernelRfl
namespace Go.Proofs.Ytdpimgmjoecieaa
/- THE CELL 'sum', in the pinned program and in every row, IS THE sha256 OF THE DUMP (.gsa) THAT YtdpimgmjoecieaaProg.lean LOADS. Nothing in Lean hashes anything: it is a label: what it is worth is what the hold of that sum in a sandbox is worth. -/
noncomputable def Try.pinned : Pinned := { name := "ytdpimgmjoecieaa", sum := "60cef1476e7fe25746c9b3ec29940074de10eda7f26657c1a70fa3050238f9a0", checked := Try.checked }
namespace Rows
def none {H : Type} : Left H := { results := [], args := [] }

/-- 'laws.FnExactCountRepresentations': WHATEVER THE INPUT: true; the input reads as it did. -/
def fnExactCountRepresentationsSpec : ChangeSpec := { name := "fnExactCountRepresentations", fn := fun _ => fun
  | [d1, d2] => { results := [.lit (.bool true)], args := [d1, d2] }
  | _ => none }
def fnExactCountRepresentationsRow : OpenClaim := { program := "ytdpimgmjoecieaa", sum := "60cef1476e7fe25746c9b3ec29940074de10eda7f26657c1a70fa3050238f9a0", func := "loop.example/g03405/laws.FnExactCountRepresentations", spec := "fnExactCountRepresentations", unfollowed := true, recurses := true, apart := false }
def FnExactCountRepresentationsSaid : Prop := fnExactCountRepresentationsRow.holds Try.pinned (OpenSpec.ofChange fnExactCountRepresentationsSpec)

/-- ITS FALSE NEIGHBOUR: 'it returns false'. Refute it at one input. -/
def fnExactCountRepresentationsWrong : ChangeSpec := { name := "fnExactCountRepresentations", fn := fun _ => fun
  | [d1, d2] => { results := [.lit (.bool false)], args := [d1, d2] }
  | _ => none }
def FnExactCountRepresentationsWrongFalsely : Prop := fnExactCountRepresentationsRow.holds Try.pinned (OpenSpec.ofChange fnExactCountRepresentationsWrong)

/-- 'laws.FnExactLargestPartial': WHATEVER THE INPUT: true; the input reads as it did. -/
def fnExactLargestPartialSpec : ChangeSpec := { name := "fnExactLargestPartial", fn := fun _ => fun
  | [d1, d2] => { results := [.lit (.bool true)], args := [d1, d2] }
  | _ => none }
def fnExactLargestPartialRow : OpenClaim := { program := "ytdpimgmjoecieaa", sum := "60cef1476e7fe25746c9b3ec29940074de10eda7f26657c1a70fa3050238f9a0", func := "loop.example/g03405/laws.FnExactLargestPartial", spec := "fnExactLargestPartial", unfollowed := true, recurses := true, apart := false }
def FnExactLargestPartialSaid : Prop := fnExactLargestPartialRow.holds Try.pinned (OpenSpec.ofChange fnExactLargestPartialSpec)

/-- ITS FALSE NEIGHBOUR: 'it returns false'. Refute it at one input. -/
def fnExactLargestPartialWrong : ChangeSpec := { name := "fnExactLargestPartial", fn := fun _ => fun
  | [d1, d2] => { results := [.lit (.bool false)], args := [d1, d2] }
  | _ => none }
def FnExactLargestPartialWrongFalsely : Prop := fnExactLargestPartialRow.holds Try.pinned (OpenSpec.ofChange fnExactLargestPartialWrong)

/-- 'laws.FnExactRepresentativesOf': WHATEVER THE INPUT: true; the input reads as it did. -/
def fnExactRepresentativesOfSpec : ChangeSpec := { name := "fnExactRepresentativesOf", fn := fun _ => fun
  | [d1, d2] => { results := [.lit (.bool true)], args := [d1, d2] }
  | _ => none }
def fnExactRepresentativesOfRow : OpenClaim := { program := "ytdpimgmjoecieaa", sum := "60cef1476e7fe25746c9b3ec29940074de10eda7f26657c1a70fa3050238f9a0", func := "loop.example/g03405/laws.FnExactRepresentativesOf", spec := "fnExactRepresentativesOf", unfollowed := true, recurses := true, apart := false }
def FnExactRepresentativesOfSaid : Prop := fnExactRepresentativesOfRow.holds Try.pinned (OpenSpec.ofChange fnExactRepresentativesOfSpec)

/-- ITS FALSE NEIGHBOUR: 'it returns false'. Refute it at one input. -/
def fnExactRepresentativesOfWrong : ChangeSpec := { name := "fnExactRepresentativesOf", fn := fun _ => fun
  | [d1, d2] => { results := [.lit (.bool false)], args := [d1, d2] }
  | _ => none }
def FnExactRepresentativesOfWrongFalsely : Prop := fnExactRepresentativesOfRow.holds Try.pinned (OpenSpec.ofChange fnExactRepresentativesOfWrong)

/-- 'laws.FnExactStarOf': WHATEVER THE INPUT: true; the input reads as it did. -/
def fnExactStarOfSpec : ChangeSpec := { name := "fnExactStarOf", fn := fun _ => fun
  | [d1, d2, d3] => { results := [.lit (.bool true)], args := [d1, d2, d3] }
  | _ => none }
def fnExactStarOfRow : OpenClaim := { program := "ytdpimgmjoecieaa", sum := "60cef1476e7fe25746c9b3ec29940074de10eda7f26657c1a70fa3050238f9a0", func := "loop.example/g03405/laws.FnExactStarOf", spec := "fnExactStarOf", unfollowed := true, recurses := true, apart := false }
def FnExactStarOfSaid : Prop := fnExactStarOfRow.holds Try.pinned (OpenSpec.ofChange fnExactStarOfSpec)

/-- ITS FALSE NEIGHBOUR: 'it returns false'. Refute it at one input. -/
def fnExactStarOfWrong : ChangeSpec := { name := "fnExactStarOf", fn := fun _ => fun
  | [d1, d2, d3] => { results := [.lit (.bool false)], args := [d1, d2, d3] }
  | _ => none }
def FnExactStarOfWrongFalsely : Prop := fnExactStarOfRow.holds Try.pinned (OpenSpec.ofChange fnExactStarOfWrong)

/-- 'laws.FnExactFirstSets': WHATEVER THE INPUT: true; the input reads as it did. -/
def fnExactFirstSetsSpec : ChangeSpec := { name := "fnExactFirstSets", fn := fun _ => fun
  | [d1, d2, d3] => { results := [.lit (.bool true)], args := [d1, d2, d3] }
  | _ => none }
def fnExactFirstSetsRow : OpenClaim := { program := "ytdpimgmjoecieaa", sum := "60cef1476e7fe25746c9b3ec29940074de10eda7f26657c1a70fa3050238f9a0", func := "loop.example/g03405/laws.FnExactFirstSets", spec := "fnExactFirstSets", unfollowed := true, recurses := true, apart := false }
def FnExactFirstSetsSaid : Prop := fnExactFirstSetsRow.holds Try.pinned (OpenSpec.ofChange fnExactFirstSetsSpec)

/-- ITS FALSE NEIGHBOUR: 'it returns false'. Refute it at one input. -/
def fnExactFirstSetsWrong : ChangeSpec := { name := "fnExactFirstSets", fn := fun _ => fun
  | [d1, d2, d3] => { results := [.lit (.bool false)], args := [d1, d2, d3] }
  | _ => none }
def FnExactFirstSetsWrongFalsely : Prop := fnExactFirstSetsRow.holds Try.pinned (OpenSpec.ofChange fnExactFirstSetsWrong)

/-- 'laws.FnExactPackingNumber': WHATEVER THE INPUT: true; the input reads as it did. -/
def fnExactPackingNumberSpec : ChangeSpec := { name := "fnExactPackingNumber", fn := fun _ => fun
  | [d] => { results := [.lit (.bool true)], args := [d] }
  | _ => none }
def fnExactPackingNumberRow : OpenClaim := { program := "ytdpimgmjoecieaa", sum := "60cef1476e7fe25746c9b3ec29940074de10eda7f26657c1a70fa3050238f9a0", func := "loop.example/g03405/laws.FnExactPackingNumber", spec := "fnExactPackingNumber", recurses := true, apart := false }
def FnExactPackingNumberSaid : Prop := fnExactPackingNumberRow.holds Try.pinned (OpenSpec.ofChange fnExactPackingNumberSpec)

/-- ITS FALSE NEIGHBOUR: 'it returns false'. Refute it at one input. -/
def fnExactPackingNumberWrong : ChangeSpec := { name := "fnExactPackingNumber", fn := fun _ => fun
  | [d] => { results := [.lit (.bool false)], args := [d] }
  | _ => none }
def FnExactPackingNumberWrongFalsely : Prop := fnExactPackingNumberRow.holds Try.pinned (OpenSpec.ofChange fnExactPackingNumberWrong)

/-- 'laws.FnExactHallViolator': WHATEVER THE INPUT: true; the input reads as it did. -/
def fnExactHallViolatorSpec : ChangeSpec := { name := "fnExactHallViolator", fn := fun _ => fun
  | [d1, d2] => { results := [.lit (.bool true)], args := [d1, d2] }
  | _ => none }
def fnExactHallViolatorRow : OpenClaim := { program := "ytdpimgmjoecieaa", sum := "60cef1476e7fe25746c9b3ec29940074de10eda7f26657c1a70fa3050238f9a0", func := "loop.example/g03405/laws.FnExactHallViolator", spec := "fnExactHallViolator", apart := false }
def FnExactHallViolatorSaid : Prop := fnExactHallViolatorRow.holds Try.pinned (OpenSpec.ofChange fnExactHallViolatorSpec)

/-- ITS FALSE NEIGHBOUR: 'it returns false'. Refute it at one input. -/
def fnExactHallViolatorWrong : ChangeSpec := { name := "fnExactHallViolator", fn := fun _ => fun
  | [d1, d2] => { results := [.lit (.bool false)], args := [d1, d2] }
  | _ => none }
def FnExactHallViolatorWrongFalsely : Prop := fnExactHallViolatorRow.holds Try.pinned (OpenSpec.ofChange fnExactHallViolatorWrong)

/-- 'laws.FnExactFindSunflower': WHATEVER THE INPUT: true; the input reads as it did. -/
def fnExactFindSunflowerSpec : ChangeSpec := { name := "fnExactFindSunflower", fn := fun _ => fun
  | [d1, d2] => { results := [.lit (.bool true)], args := [d1, d2] }
  | _ => none }
def fnExactFindSunflowerRow : OpenClaim := { program := "ytdpimgmjoecieaa", sum := "60cef1476e7fe25746c9b3ec29940074de10eda7f26657c1a70fa3050238f9a0", func := "loop.example/g03405/laws.FnExactFindSunflower", spec := "fnExactFindSunflower", recurses := true, apart := false }
def FnExactFindSunflowerSaid : Prop := fnExactFindSunflowerRow.holds Try.pinned (OpenSpec.ofChange fnExactFindSunflowerSpec)

/-- ITS FALSE NEIGHBOUR: 'it returns false'. Refute it at one input. -/
def fnExactFindSunflowerWrong : ChangeSpec := { name := "fnExactFindSunflower", fn := fun _ => fun
  | [d1, d2] => { results := [.lit (.bool false)], args := [d1, d2] }
  | _ => none }
def FnExactFindSunflowerWrongFalsely : Prop := fnExactFindSunflowerRow.holds Try.pinned (OpenSpec.ofChange fnExactFindSunflowerWrong)

/-- 'laws.FnExactLymSum': WHATEVER THE INPUT: true; the input reads as it did. -/
def fnExactLymSumSpec : ChangeSpec := { name := "fnExactLymSum", fn := fun _ => fun
  | [d] => { results := [.lit (.bool true)], args := [d] }
  | _ => none }
def fnExactLymSumRow : OpenClaim := { program := "ytdpimgmjoecieaa", sum := "60cef1476e7fe25746c9b3ec29940074de10eda7f26657c1a70fa3050238f9a0", func := "loop.example/g03405/laws.FnExactLymSum", spec := "fnExactLymSum", apart := false }
def FnExactLymSumSaid : Prop := fnExactLymSumRow.holds Try.pinned (OpenSpec.ofChange fnExactLymSumSpec)

/-- ITS FALSE NEIGHBOUR: 'it returns false'. Refute it at one input. -/
def fnExactLymSumWrong : ChangeSpec := { name := "fnExactLymSum", fn := fun _ => fun
  | [d] => { results := [.lit (.bool false)], args := [d] }
  | _ => none }
def FnExactLymSumWrongFalsely : Prop := fnExactLymSumRow.holds Try.pinned (OpenSpec.ofChange fnExactLymSumWrong)

/-- 'laws.FnExactLargestAntichain': WHATEVER THE INPUT: true; the input reads as it did. -/
def fnExactLargestAntichainSpec : ChangeSpec := { name := "fnExactLargestAntichain", fn := fun _ => fun
  | [d] => { results := [.lit (.bool true)], args := [d] }
  | _ => none }
def fnExactLargestAntichainRow : OpenClaim := { program := "ytdpimgmjoecieaa", sum := "60cef1476e7fe25746c9b3ec29940074de10eda7f26657c1a70fa3050238f9a0", func := "loop.example/g03405/laws.FnExactLargestAntichain", spec := "fnExactLargestAntichain", unfollowed := true, recurses := true, apart := false }
def FnExactLargestAntichainSaid : Prop := fnExactLargestAntichainRow.holds Try.pinned (OpenSpec.ofChange fnExactLargestAntichainSpec)

/-- ITS FALSE NEIGHBOUR: 'it returns false'. Refute it at one input. -/
def fnExactLargestAntichainWrong : ChangeSpec := { name := "fnExactLargestAntichain", fn := fun _ => fun
  | [d] => { results := [.lit (.bool false)], args := [d] }
  | _ => none }
def FnExactLargestAntichainWrongFalsely : Prop := fnExactLargestAntichainRow.holds Try.pinned (OpenSpec.ofChange fnExactLargestAntichainWrong)

/-- 'laws.FnExactBestColoring': WHATEVER THE INPUT: true; the input reads as it did. -/
def fnExactBestColoringSpec : ChangeSpec := { name := "fnExactBestColoring", fn := fun _ => fun
  | [d] => { results := [.lit (.bool true)], args := [d] }
  | _ => none }
def fnExactBestColoringRow : OpenClaim := { program := "ytdpimgmjoecieaa", sum := "60cef1476e7fe25746c9b3ec29940074de10eda7f26657c1a70fa3050238f9a0", func := "loop.example/g03405/laws.FnExactBestColoring", spec := "fnExactBestColoring", apart := false }
def FnExactBestColoringSaid : Prop := fnExactBestColoringRow.holds Try.pinned (OpenSpec.ofChange fnExactBestColoringSpec)

/-- ITS FALSE NEIGHBOUR: 'it returns false'. Refute it at one input. -/
def fnExactBestColoringWrong : ChangeSpec := { name := "fnExactBestColoring", fn := fun _ => fun
  | [d] => { results := [.lit (.bool false)], args := [d] }
  | _ => none }
def FnExactBestColoringWrongFalsely : Prop := fnExactBestColoringRow.holds Try.pinned (OpenSpec.ofChange fnExactBestColoringWrong)

/-- 'laws.FnExactIsIntervalOrder': WHATEVER THE INPUT: true; the input reads as it did. -/
def fnExactIsIntervalOrderSpec : ChangeSpec := { name := "fnExactIsIntervalOrder", fn := fun _ => fun
  | [d1, d2] => { results := [.lit (.bool true)], args := [d1, d2] }
  | _ => none }
def fnExactIsIntervalOrderRow : OpenClaim := { program := "ytdpimgmjoecieaa", sum := "60cef1476e7fe25746c9b3ec29940074de10eda7f26657c1a70fa3050238f9a0", func := "loop.example/g03405/laws.FnExactIsIntervalOrder", spec := "fnExactIsIntervalOrder", apart := false }
def FnExactIsIntervalOrderSaid : Prop := fnExactIsIntervalOrderRow.holds Try.pinned (OpenSpec.ofChange fnExactIsIntervalOrderSpec)

/-- ITS FALSE NEIGHBOUR: 'it returns false'. Refute it at one input. -/
def fnExactIsIntervalOrderWrong : ChangeSpec := { name := "fnExactIsIntervalOrder", fn := fun _ => fun
  | [d1, d2] => { results := [.lit (.bool false)], args := [d1, d2] }
  | _ => none }
def FnExactIsIntervalOrderWrongFalsely : Prop := fnExactIsIntervalOrderRow.holds Try.pinned (OpenSpec.ofChange fnExactIsIntervalOrderWrong)

/- THE SECOND FORM. 'bulk': how many values and letters a reading holds, each counted each time it is reached (what is shared counts as often as it is met; a slice's spare places count too). A statement '..UptoSaid' is the law's where the arguments, and the package variables that the reading takes, are together of bulk at most 1048576: NARROWER than '..Said'. Prove '..Said' where nothing that the law and all that it calls make is longer than what came in: it says more and counts as full. Else prove '..UptoSaid'. A law counts once. -/
mutual
def uptoBulk {H : Type} : DataW H → Nat
  | .lit (.string bytes) => bytes.length + 1
  | .lit _ => 1
  | .nil => 1
  | .ptr d => uptoBulk d + 1
  | .slice elems spare => uptoBulkAll elems + uptoBulkAll spare + 1
  | .agg parts => uptoBulkAll parts + 1
  | .iface _ d => uptoBulk d + 1
  | .map entries => uptoBulkEntries entries + 1
  | .held _ => 1
def uptoBulkAll {H : Type} : List (DataW H) → Nat
  | [] => 0
  | d :: r => uptoBulk d + uptoBulkAll r
def uptoBulkEntries {H : Type} : List (Lit × DataW H) → Nat
  | [] => 0
  | x :: r => uptoBulkEntry x + uptoBulkEntries r
def uptoBulkEntry {H : Type} : Lit × DataW H → Nat
  | (.string bytes, d) => bytes.length + uptoBulk d + 1
  | (_, d) => uptoBulk d + 1
 end
def uptoSmall : (H : Type) → List (DataW H) → Bool := fun _ ds => decide (uptoBulkAll ds ≤ 1048576)
def OpenSpec.upto (s : _root_.Go.ChangeSpec) : _root_.Go.OpenSpec := { _root_.Go.OpenSpec.ofChange s with cond := some uptoSmall }

/-- 'laws.FnExactCountRepresentations', WHERE WHAT IT READS IS OF BULK AT MOST 1048576: true; the input reads as it did. -/
def fnExactCountRepresentationsUptoRow : OpenClaim := { program := "ytdpimgmjoecieaa", sum := "60cef1476e7fe25746c9b3ec29940074de10eda7f26657c1a70fa3050238f9a0", func := "loop.example/g03405/laws.FnExactCountRepresentations", spec := "fnExactCountRepresentations", unfollowed := true, recurses := true, apart := false, narrowed := true }
def FnExactCountRepresentationsUptoSaid : Prop := fnExactCountRepresentationsUptoRow.holds Try.pinned (OpenSpec.upto fnExactCountRepresentationsSpec)

/-- 'laws.FnExactLargestPartial', WHERE WHAT IT READS IS OF BULK AT MOST 1048576: true; the input reads as it did. -/
def fnExactLargestPartialUptoRow : OpenClaim := { program := "ytdpimgmjoecieaa", sum := "60cef1476e7fe25746c9b3ec29940074de10eda7f26657c1a70fa3050238f9a0", func := "loop.example/g03405/laws.FnExactLargestPartial", spec := "fnExactLargestPartial", unfollowed := true, recurses := true, apart := false, narrowed := true }
def FnExactLargestPartialUptoSaid : Prop := fnExactLargestPartialUptoRow.holds Try.pinned (OpenSpec.upto fnExactLargestPartialSpec)

/-- 'laws.FnExactRepresentativesOf', WHERE WHAT IT READS IS OF BULK AT MOST 1048576: true; the input reads as it did. -/
def fnExactRepresentativesOfUptoRow : OpenClaim := { program := "ytdpimgmjoecieaa", sum := "60cef1476e7fe25746c9b3ec29940074de10eda7f26657c1a70fa3050238f9a0", func := "loop.example/g03405/laws.FnExactRepresentativesOf", spec := "fnExactRepresentativesOf", unfollowed := true, recurses := true, apart := false, narrowed := true }
def FnExactRepresentativesOfUptoSaid : Prop := fnExactRepresentativesOfUptoRow.holds Try.pinned (OpenSpec.upto fnExactRepresentativesOfSpec)

/-- 'laws.FnExactStarOf', WHERE WHAT IT READS IS OF BULK AT MOST 1048576: true; the input reads as it did. -/
def fnExactStarOfUptoRow : OpenClaim := { program := "ytdpimgmjoecieaa", sum := "60cef1476e7fe25746c9b3ec29940074de10eda7f26657c1a70fa3050238f9a0", func := "loop.example/g03405/laws.FnExactStarOf", spec := "fnExactStarOf", unfollowed := true, recurses := true, apart := false, narrowed := true }
def FnExactStarOfUptoSaid : Prop := fnExactStarOfUptoRow.holds Try.pinned (OpenSpec.upto fnExactStarOfSpec)

/-- 'laws.FnExactFirstSets', WHERE WHAT IT READS IS OF BULK AT MOST 1048576: true; the input reads as it did. -/
def fnExactFirstSetsUptoRow : OpenClaim := { program := "ytdpimgmjoecieaa", sum := "60cef1476e7fe25746c9b3ec29940074de10eda7f26657c1a70fa3050238f9a0", func := "loop.example/g03405/laws.FnExactFirstSets", spec := "fnExactFirstSets", unfollowed := true, recurses := true, apart := false, narrowed := true }
def FnExactFirstSetsUptoSaid : Prop := fnExactFirstSetsUptoRow.holds Try.pinned (OpenSpec.upto fnExactFirstSetsSpec)

/-- 'laws.FnExactPackingNumber', WHERE WHAT IT READS IS OF BULK AT MOST 1048576: true; the input reads as it did. -/
def fnExactPackingNumberUptoRow : OpenClaim := { program := "ytdpimgmjoecieaa", sum := "60cef1476e7fe25746c9b3ec29940074de10eda7f26657c1a70fa3050238f9a0", func := "loop.example/g03405/laws.FnExactPackingNumber", spec := "fnExactPackingNumber", recurses := true, apart := false, narrowed := true }
def FnExactPackingNumberUptoSaid : Prop := fnExactPackingNumberUptoRow.holds Try.pinned (OpenSpec.upto fnExactPackingNumberSpec)

/-- 'laws.FnExactHallViolator', WHERE WHAT IT READS IS OF BULK AT MOST 1048576: true; the input reads as it did. -/
def fnExactHallViolatorUptoRow : OpenClaim := { program := "ytdpimgmjoecieaa", sum := "60cef1476e7fe25746c9b3ec29940074de10eda7f26657c1a70fa3050238f9a0", func := "loop.example/g03405/laws.FnExactHallViolator", spec := "fnExactHallViolator", apart := false, narrowed := true }
def FnExactHallViolatorUptoSaid : Prop := fnExactHallViolatorUptoRow.holds Try.pinned (OpenSpec.upto fnExactHallViolatorSpec)

/-- 'laws.FnExactFindSunflower', WHERE WHAT IT READS IS OF BULK AT MOST 1048576: true; the input reads as it did. -/
def fnExactFindSunflowerUptoRow : OpenClaim := { program := "ytdpimgmjoecieaa", sum := "60cef1476e7fe25746c9b3ec29940074de10eda7f26657c1a70fa3050238f9a0", func := "loop.example/g03405/laws.FnExactFindSunflower", spec := "fnExactFindSunflower", recurses := true, apart := false, narrowed := true }
def FnExactFindSunflowerUptoSaid : Prop := fnExactFindSunflowerUptoRow.holds Try.pinned (OpenSpec.upto fnExactFindSunflowerSpec)

/-- 'laws.FnExactLymSum', WHERE WHAT IT READS IS OF BULK AT MOST 1048576: true; the input reads as it did. -/
def fnExactLymSumUptoRow : OpenClaim := { program := "ytdpimgmjoecieaa", sum := "60cef1476e7fe25746c9b3ec29940074de10eda7f26657c1a70fa3050238f9a0", func := "loop.example/g03405/laws.FnExactLymSum", spec := "fnExactLymSum", apart := false, narrowed := true }
def FnExactLymSumUptoSaid : Prop := fnExactLymSumUptoRow.holds Try.pinned (OpenSpec.upto fnExactLymSumSpec)

/-- 'laws.FnExactLargestAntichain', WHERE WHAT IT READS IS OF BULK AT MOST 1048576: true; the input reads as it did. -/
def fnExactLargestAntichainUptoRow : OpenClaim := { program := "ytdpimgmjoecieaa", sum := "60cef1476e7fe25746c9b3ec29940074de10eda7f26657c1a70fa3050238f9a0", func := "loop.example/g03405/laws.FnExactLargestAntichain", spec := "fnExactLargestAntichain", unfollowed := true, recurses := true, apart := false, narrowed := true }
def FnExactLargestAntichainUptoSaid : Prop := fnExactLargestAntichainUptoRow.holds Try.pinned (OpenSpec.upto fnExactLargestAntichainSpec)

/-- 'laws.FnExactBestColoring', WHERE WHAT IT READS IS OF BULK AT MOST 1048576: true; the input reads as it did. -/
def fnExactBestColoringUptoRow : OpenClaim := { program := "ytdpimgmjoecieaa", sum := "60cef1476e7fe25746c9b3ec29940074de10eda7f26657c1a70fa3050238f9a0", func := "loop.example/g03405/laws.FnExactBestColoring", spec := "fnExactBestColoring", apart := false, narrowed := true }
def FnExactBestColoringUptoSaid : Prop := fnExactBestColoringUptoRow.holds Try.pinned (OpenSpec.upto fnExactBestColoringSpec)

/-- 'laws.FnExactIsIntervalOrder', WHERE WHAT IT READS IS OF BULK AT MOST 1048576: true; the input reads as it did. -/
def fnExactIsIntervalOrderUptoRow : OpenClaim := { program := "ytdpimgmjoecieaa", sum := "60cef1476e7fe25746c9b3ec29940074de10eda7f26657c1a70fa3050238f9a0", func := "loop.example/g03405/laws.FnExactIsIntervalOrder", spec := "fnExactIsIntervalOrder", apart := false, narrowed := true }
def FnExactIsIntervalOrderUptoSaid : Prop := fnExactIsIntervalOrderUptoRow.holds Try.pinned (OpenSpec.upto fnExactIsIntervalOrderSpec)

end Rows
end Go.Proofs.Ytdpimgmjoecieaa
