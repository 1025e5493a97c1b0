/-
  No cell of these rows narrows 'for every input' (looked for: loops, veiled, ifaces, maps, wideKeys, modest, calm, conditions, laid).
  DERIVED. THE GIVEN ROWS OF THIS SEAT. 4 by the template 'for every input the law returns true; each argument reads behind the call as it read before'; 0 by the template 'total and deterministic' (their statements: YtfhnncjppjaojaaTotals.lean).
  GIVEN WITH THE SEED: the statements are not yours to turn. If you find one false, say at which input.
  Laid BY PROGRAM, IN A SANDBOX (cutbox-rows.mjs): the forced cells as the released guide's own fill.sh prints them over the translation 64f3452df8588f4a… (all of the seat's roots in one cut). By AI agents, Wed Nov 11 2026. No macro, syntax, notation, axiom, sorry.
-/
import Derived.Test.YtfhnncjppjaojaaChecked
import GoSem.Claim
import GoSem.ClaimJoined
import GoSem.ClaimMapViews
import Derived.JoinedTies
import Derived.KernelRfl
namespace Go.Proofs.Ytfhnncjppjaojaa
/- THE CELL 'sum', in the pinned program and in every row, IS THE sha256 OF THE DUMP (.gsa) THAT YtfhnncjppjaojaaProg.lean LOADS. Nothing in Lean hashes anything: it is a label: what it is worth is what the hold of that sum in a sandbox is worth. -/
noncomputable def Try.pinned : Pinned := { name := "ytfhnncjppjaojaa", sum := "64f3452df8588f4a051cba93d22769838cb00ab4634d95c1055ea2b4fa26b011", checked := Try.checked }
namespace Rows
def none {H : Type} : Left H := { results := [], args := [] }

/-- 'laws.FnIntervals': WHATEVER THE INPUT: true; the input reads as it did. -/
def fnIntervalsSpec : ChangeSpec := { name := "fnIntervals", fn := fun _ => fun
  | [d] => { results := [.lit (.bool true)], args := [d] }
  | _ => none }
def fnIntervalsRow : OpenClaim := { program := "ytfhnncjppjaojaa", sum := "64f3452df8588f4a051cba93d22769838cb00ab4634d95c1055ea2b4fa26b011", func := "loop.example/g03405/laws.FnIntervals", spec := "fnIntervals", recurses := true, apart := false }
def FnIntervalsSaid : Prop := fnIntervalsRow.holds Try.pinned (OpenSpec.ofChange fnIntervalsSpec)

/-- ITS FALSE NEIGHBOUR: 'it returns false'. Refute it at one input. -/
def fnIntervalsWrong : ChangeSpec := { name := "fnIntervals", fn := fun _ => fun
  | [d] => { results := [.lit (.bool false)], args := [d] }
  | _ => none }
def FnIntervalsWrongFalsely : Prop := fnIntervalsRow.holds Try.pinned (OpenSpec.ofChange fnIntervalsWrong)

/-- 'laws.FnChains': WHATEVER THE INPUT: true; the input reads as it did. -/
def fnChainsSpec : ChangeSpec := { name := "fnChains", fn := fun _ => fun
  | [d] => { results := [.lit (.bool true)], args := [d] }
  | _ => none }
def fnChainsRow : OpenClaim := { program := "ytfhnncjppjaojaa", sum := "64f3452df8588f4a051cba93d22769838cb00ab4634d95c1055ea2b4fa26b011", func := "loop.example/g03405/laws.FnChains", spec := "fnChains", unfollowed := true, recurses := true, apart := false }
def FnChainsSaid : Prop := fnChainsRow.holds Try.pinned (OpenSpec.ofChange fnChainsSpec)

/-- ITS FALSE NEIGHBOUR: 'it returns false'. Refute it at one input. -/
def fnChainsWrong : ChangeSpec := { name := "fnChains", fn := fun _ => fun
  | [d] => { results := [.lit (.bool false)], args := [d] }
  | _ => none }
def FnChainsWrongFalsely : Prop := fnChainsRow.holds Try.pinned (OpenSpec.ofChange fnChainsWrong)

/-- 'laws.FnTransversals': WHATEVER THE INPUT: true; the input reads as it did. -/
def fnTransversalsSpec : ChangeSpec := { name := "fnTransversals", fn := fun _ => fun
  | [d] => { results := [.lit (.bool true)], args := [d] }
  | _ => none }
def fnTransversalsRow : OpenClaim := { program := "ytfhnncjppjaojaa", sum := "64f3452df8588f4a051cba93d22769838cb00ab4634d95c1055ea2b4fa26b011", func := "loop.example/g03405/laws.FnTransversals", spec := "fnTransversals", unfollowed := true, recurses := true, apart := false }
def FnTransversalsSaid : Prop := fnTransversalsRow.holds Try.pinned (OpenSpec.ofChange fnTransversalsSpec)

/-- ITS FALSE NEIGHBOUR: 'it returns false'. Refute it at one input. -/
def fnTransversalsWrong : ChangeSpec := { name := "fnTransversals", fn := fun _ => fun
  | [d] => { results := [.lit (.bool false)], args := [d] }
  | _ => none }
def FnTransversalsWrongFalsely : Prop := fnTransversalsRow.holds Try.pinned (OpenSpec.ofChange fnTransversalsWrong)

/-- 'laws.FnDiscrepancy': WHATEVER THE INPUT: true; the input reads as it did. -/
def fnDiscrepancySpec : ChangeSpec := { name := "fnDiscrepancy", fn := fun _ => fun
  | [d] => { results := [.lit (.bool true)], args := [d] }
  | _ => none }
def fnDiscrepancyRow : OpenClaim := { program := "ytfhnncjppjaojaa", sum := "64f3452df8588f4a051cba93d22769838cb00ab4634d95c1055ea2b4fa26b011", func := "loop.example/g03405/laws.FnDiscrepancy", spec := "fnDiscrepancy", recurses := true, apart := false }
def FnDiscrepancySaid : Prop := fnDiscrepancyRow.holds Try.pinned (OpenSpec.ofChange fnDiscrepancySpec)

/-- ITS FALSE NEIGHBOUR: 'it returns false'. Refute it at one input. -/
def fnDiscrepancyWrong : ChangeSpec := { name := "fnDiscrepancy", fn := fun _ => fun
  | [d] => { results := [.lit (.bool false)], args := [d] }
  | _ => none }
def FnDiscrepancyWrongFalsely : Prop := fnDiscrepancyRow.holds Try.pinned (OpenSpec.ofChange fnDiscrepancyWrong)

/- THE SECOND FORM. 'bulk': how many values and letters a reading holds, each counted each time it is reached (what is shared counts as often as it is met; a slice's spare places count too). A statement '..UptoSaid' is the law's where the arguments, and the package variables that the reading takes, are together of bulk at most 1048576: NARROWER than '..Said'. Prove '..Said' where nothing that the law and all that it calls make is longer than what came in: it says more and counts as full. Else prove '..UptoSaid'. A law counts once. -/
mutual
def uptoBulk {H : Type} : DataW H → Nat
  | .lit (.string bytes) => bytes.length + 1
  | .lit _ => 1
  | .nil => 1
  | .ptr d => uptoBulk d + 1
  | .slice elems spare => uptoBulkAll elems + uptoBulkAll spare + 1
  | .agg parts => uptoBulkAll parts + 1
  | .iface _ d => uptoBulk d + 1
  | .map entries => uptoBulkEntries entries + 1
  | .held _ => 1
def uptoBulkAll {H : Type} : List (DataW H) → Nat
  | [] => 0
  | d :: r => uptoBulk d + uptoBulkAll r
def uptoBulkEntries {H : Type} : List (Lit × DataW H) → Nat
  | [] => 0
  | x :: r => uptoBulkEntry x + uptoBulkEntries r
def uptoBulkEntry {H : Type} : Lit × DataW H → Nat
  | (.string bytes, d) => bytes.length + uptoBulk d + 1
  | (_, d) => uptoBulk d + 1
 end
def uptoSmall : (H : Type) → List (DataW H) → Bool := fun _ ds => decide (uptoBulkAll ds ≤ 1048576)
def OpenSpec.upto (s : _root_.Go.ChangeSpec) : _root_.Go.OpenSpec := { _root_.Go.OpenSpec.ofChange s with cond := some uptoSmall }

/-- 'laws.FnIntervals', WHERE WHAT IT READS IS OF BULK AT MOST 1048576: true; the input reads as it did. -/
def fnIntervalsUptoRow : OpenClaim := { program := "ytfhnncjppjaojaa", sum := "64f3452df8588f4a051cba93d22769838cb00ab4634d95c1055ea2b4fa26b011", func := "loop.example/g03405/laws.FnIntervals", spec := "fnIntervals", recurses := true, apart := false, narrowed := true }
def FnIntervalsUptoSaid : Prop := fnIntervalsUptoRow.holds Try.pinned (OpenSpec.upto fnIntervalsSpec)

/-- 'laws.FnChains', WHERE WHAT IT READS IS OF BULK AT MOST 1048576: true; the input reads as it did. -/
def fnChainsUptoRow : OpenClaim := { program := "ytfhnncjppjaojaa", sum := "64f3452df8588f4a051cba93d22769838cb00ab4634d95c1055ea2b4fa26b011", func := "loop.example/g03405/laws.FnChains", spec := "fnChains", unfollowed := true, recurses := true, apart := false, narrowed := true }
def FnChainsUptoSaid : Prop := fnChainsUptoRow.holds Try.pinned (OpenSpec.upto fnChainsSpec)

/-- 'laws.FnTransversals', WHERE WHAT IT READS IS OF BULK AT MOST 1048576: true; the input reads as it did. -/
def fnTransversalsUptoRow : OpenClaim := { program := "ytfhnncjppjaojaa", sum := "64f3452df8588f4a051cba93d22769838cb00ab4634d95c1055ea2b4fa26b011", func := "loop.example/g03405/laws.FnTransversals", spec := "fnTransversals", unfollowed := true, recurses := true, apart := false, narrowed := true }
def FnTransversalsUptoSaid : Prop := fnTransversalsUptoRow.holds Try.pinned (OpenSpec.upto fnTransversalsSpec)

/-- 'laws.FnDiscrepancy', WHERE WHAT IT READS IS OF BULK AT MOST 1048576: true; the input reads as it did. -/
def fnDiscrepancyUptoRow : OpenClaim := { program := "ytfhnncjppjaojaa", sum := "64f3452df8588f4a051cba93d22769838cb00ab4634d95c1055ea2b4fa26b011", func := "loop.example/g03405/laws.FnDiscrepancy", spec := "fnDiscrepancy", recurses := true, apart := false, narrowed := true }
def FnDiscrepancyUptoSaid : Prop := fnDiscrepancyUptoRow.holds Try.pinned (OpenSpec.upto fnDiscrepancySpec)

end Rows
end Go.Proofs.Ytfhnncjppjaojaa
