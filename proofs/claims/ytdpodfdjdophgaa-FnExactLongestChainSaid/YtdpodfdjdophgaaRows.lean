/-
  No cell of these rows narrows 'for every input' (looked for: loops, veiled, ifaces, maps, wideKeys, modest, calm, conditions, laid).
  DERIVED. THE GIVEN ROWS OF THIS SEAT. 7 by the template 'for every input the law returns true; each argument reads behind the call as it read before'; 0 by the template 'total and deterministic' (their statements: YtdpodfdjdophgaaTotals.lean).
  GIVEN WITH THE SEED: the statements are not yours to turn. If you find one false, say at which input.
  Laid BY PROGRAM, IN A SANDBOX (cutbox-rows.mjs): the forced cells as the released guide's own fill.sh prints them over the translation 405d42f571026ee6… (all of the seat's roots in one cut). By AI agents, Wed Nov 11 2026. No macro, syntax, notation, axiom, sorry.
-/
import Derived.Test.YtdpodfdjdophgaaChecked
import GoSem.Claim
import GoSem.ClaimJoined
import GoSem.ClaimMapViews
import Derived.JoinedTies
import Derived.KernelRfl
namespace Go.Proofs.Ytdpodfdjdophgaa
/- THE CELL 'sum', in the pinned program and in every row, IS THE sha256 OF THE DUMP (.gsa) THAT YtdpodfdjdophgaaProg.lean LOADS. Nothing in Lean hashes anything: it is a label: what it is worth is what the hold of that sum in a sandbox is worth. -/
noncomputable def Try.pinned : Pinned := { name := "ytdpodfdjdophgaa", sum := "405d42f571026ee64d9da96ffa94902c05a1e0748235be76586bb80a9a963b40", checked := Try.checked }
namespace Rows
def none {H : Type} : Left H := { results := [], args := [] }

/-- 'laws.FnExactLargestPartial': WHATEVER THE INPUT: true; the input reads as it did. -/
def fnExactLargestPartialSpec : ChangeSpec := { name := "fnExactLargestPartial", fn := fun _ => fun
  | [d1, d2] => { results := [.lit (.bool true)], args := [d1, d2] }
  | _ => none }
def fnExactLargestPartialRow : OpenClaim := { program := "ytdpodfdjdophgaa", sum := "405d42f571026ee64d9da96ffa94902c05a1e0748235be76586bb80a9a963b40", func := "loop.example/g03405/laws.FnExactLargestPartial", spec := "fnExactLargestPartial", unfollowed := true, recurses := true, apart := false }
def FnExactLargestPartialSaid : Prop := fnExactLargestPartialRow.holds Try.pinned (OpenSpec.ofChange fnExactLargestPartialSpec)

/-- ITS FALSE NEIGHBOUR: 'it returns false'. Refute it at one input. -/
def fnExactLargestPartialWrong : ChangeSpec := { name := "fnExactLargestPartial", fn := fun _ => fun
  | [d1, d2] => { results := [.lit (.bool false)], args := [d1, d2] }
  | _ => none }
def FnExactLargestPartialWrongFalsely : Prop := fnExactLargestPartialRow.holds Try.pinned (OpenSpec.ofChange fnExactLargestPartialWrong)

/-- 'laws.FnExactRepresentativesOf': WHATEVER THE INPUT: true; the input reads as it did. -/
def fnExactRepresentativesOfSpec : ChangeSpec := { name := "fnExactRepresentativesOf", fn := fun _ => fun
  | [d1, d2] => { results := [.lit (.bool true)], args := [d1, d2] }
  | _ => none }
def fnExactRepresentativesOfRow : OpenClaim := { program := "ytdpodfdjdophgaa", sum := "405d42f571026ee64d9da96ffa94902c05a1e0748235be76586bb80a9a963b40", func := "loop.example/g03405/laws.FnExactRepresentativesOf", spec := "fnExactRepresentativesOf", unfollowed := true, recurses := true, apart := false }
def FnExactRepresentativesOfSaid : Prop := fnExactRepresentativesOfRow.holds Try.pinned (OpenSpec.ofChange fnExactRepresentativesOfSpec)

/-- ITS FALSE NEIGHBOUR: 'it returns false'. Refute it at one input. -/
def fnExactRepresentativesOfWrong : ChangeSpec := { name := "fnExactRepresentativesOf", fn := fun _ => fun
  | [d1, d2] => { results := [.lit (.bool false)], args := [d1, d2] }
  | _ => none }
def FnExactRepresentativesOfWrongFalsely : Prop := fnExactRepresentativesOfRow.holds Try.pinned (OpenSpec.ofChange fnExactRepresentativesOfWrong)

/-- 'laws.FnExactSymmetricChains': WHATEVER THE INPUT: true; the input reads as it did. -/
def fnExactSymmetricChainsSpec : ChangeSpec := { name := "fnExactSymmetricChains", fn := fun _ => fun
  | [d] => { results := [.lit (.bool true)], args := [d] }
  | _ => none }
def fnExactSymmetricChainsRow : OpenClaim := { program := "ytdpodfdjdophgaa", sum := "405d42f571026ee64d9da96ffa94902c05a1e0748235be76586bb80a9a963b40", func := "loop.example/g03405/laws.FnExactSymmetricChains", spec := "fnExactSymmetricChains", apart := false }
def FnExactSymmetricChainsSaid : Prop := fnExactSymmetricChainsRow.holds Try.pinned (OpenSpec.ofChange fnExactSymmetricChainsSpec)

/-- ITS FALSE NEIGHBOUR: 'it returns false'. Refute it at one input. -/
def fnExactSymmetricChainsWrong : ChangeSpec := { name := "fnExactSymmetricChains", fn := fun _ => fun
  | [d] => { results := [.lit (.bool false)], args := [d] }
  | _ => none }
def FnExactSymmetricChainsWrongFalsely : Prop := fnExactSymmetricChainsRow.holds Try.pinned (OpenSpec.ofChange fnExactSymmetricChainsWrong)

/-- 'laws.FnExactLevelsOf': WHATEVER THE INPUT: true; the input reads as it did. -/
def fnExactLevelsOfSpec : ChangeSpec := { name := "fnExactLevelsOf", fn := fun _ => fun
  | [d] => { results := [.lit (.bool true)], args := [d] }
  | _ => none }
def fnExactLevelsOfRow : OpenClaim := { program := "ytdpodfdjdophgaa", sum := "405d42f571026ee64d9da96ffa94902c05a1e0748235be76586bb80a9a963b40", func := "loop.example/g03405/laws.FnExactLevelsOf", spec := "fnExactLevelsOf", unfollowed := true, recurses := true, apart := false }
def FnExactLevelsOfSaid : Prop := fnExactLevelsOfRow.holds Try.pinned (OpenSpec.ofChange fnExactLevelsOfSpec)

/-- ITS FALSE NEIGHBOUR: 'it returns false'. Refute it at one input. -/
def fnExactLevelsOfWrong : ChangeSpec := { name := "fnExactLevelsOf", fn := fun _ => fun
  | [d] => { results := [.lit (.bool false)], args := [d] }
  | _ => none }
def FnExactLevelsOfWrongFalsely : Prop := fnExactLevelsOfRow.holds Try.pinned (OpenSpec.ofChange fnExactLevelsOfWrong)

/-- 'laws.FnExactLongestChain': WHATEVER THE INPUT: true; the input reads as it did. -/
def fnExactLongestChainSpec : ChangeSpec := { name := "fnExactLongestChain", fn := fun _ => fun
  | [d] => { results := [.lit (.bool true)], args := [d] }
  | _ => none }
def fnExactLongestChainRow : OpenClaim := { program := "ytdpodfdjdophgaa", sum := "405d42f571026ee64d9da96ffa94902c05a1e0748235be76586bb80a9a963b40", func := "loop.example/g03405/laws.FnExactLongestChain", spec := "fnExactLongestChain", unfollowed := true, recurses := true, apart := false }
def FnExactLongestChainSaid : Prop := fnExactLongestChainRow.holds Try.pinned (OpenSpec.ofChange fnExactLongestChainSpec)

/-- ITS FALSE NEIGHBOUR: 'it returns false'. Refute it at one input. -/
def fnExactLongestChainWrong : ChangeSpec := { name := "fnExactLongestChain", fn := fun _ => fun
  | [d] => { results := [.lit (.bool false)], args := [d] }
  | _ => none }
def FnExactLongestChainWrongFalsely : Prop := fnExactLongestChainRow.holds Try.pinned (OpenSpec.ofChange fnExactLongestChainWrong)

/-- 'laws.FnExactCountIntervalOrders': WHATEVER THE INPUT: true; the input reads as it did. -/
def fnExactCountIntervalOrdersSpec : ChangeSpec := { name := "fnExactCountIntervalOrders", fn := fun _ => fun
  | [d] => { results := [.lit (.bool true)], args := [d] }
  | _ => none }
def fnExactCountIntervalOrdersRow : OpenClaim := { program := "ytdpodfdjdophgaa", sum := "405d42f571026ee64d9da96ffa94902c05a1e0748235be76586bb80a9a963b40", func := "loop.example/g03405/laws.FnExactCountIntervalOrders", spec := "fnExactCountIntervalOrders", recurses := true, apart := false }
def FnExactCountIntervalOrdersSaid : Prop := fnExactCountIntervalOrdersRow.holds Try.pinned (OpenSpec.ofChange fnExactCountIntervalOrdersSpec)

/-- ITS FALSE NEIGHBOUR: 'it returns false'. Refute it at one input. -/
def fnExactCountIntervalOrdersWrong : ChangeSpec := { name := "fnExactCountIntervalOrders", fn := fun _ => fun
  | [d] => { results := [.lit (.bool false)], args := [d] }
  | _ => none }
def FnExactCountIntervalOrdersWrongFalsely : Prop := fnExactCountIntervalOrdersRow.holds Try.pinned (OpenSpec.ofChange fnExactCountIntervalOrdersWrong)

/-- 'laws.FnExactIntervalOrder': WHATEVER THE INPUT: true; the input reads as it did. -/
def fnExactIntervalOrderSpec : ChangeSpec := { name := "fnExactIntervalOrder", fn := fun _ => fun
  | [d] => { results := [.lit (.bool true)], args := [d] }
  | _ => none }
def fnExactIntervalOrderRow : OpenClaim := { program := "ytdpodfdjdophgaa", sum := "405d42f571026ee64d9da96ffa94902c05a1e0748235be76586bb80a9a963b40", func := "loop.example/g03405/laws.FnExactIntervalOrder", spec := "fnExactIntervalOrder", recurses := true, apart := false }
def FnExactIntervalOrderSaid : Prop := fnExactIntervalOrderRow.holds Try.pinned (OpenSpec.ofChange fnExactIntervalOrderSpec)

/-- ITS FALSE NEIGHBOUR: 'it returns false'. Refute it at one input. -/
def fnExactIntervalOrderWrong : ChangeSpec := { name := "fnExactIntervalOrder", fn := fun _ => fun
  | [d] => { results := [.lit (.bool false)], args := [d] }
  | _ => none }
def FnExactIntervalOrderWrongFalsely : Prop := fnExactIntervalOrderRow.holds Try.pinned (OpenSpec.ofChange fnExactIntervalOrderWrong)

/- THE SECOND FORM. 'bulk': how many values and letters a reading holds, each counted each time it is reached (what is shared counts as often as it is met; a slice's spare places count too). A statement '..UptoSaid' is the law's where the arguments, and the package variables that the reading takes, are together of bulk at most 1048576: NARROWER than '..Said'. Prove '..Said' where nothing that the law and all that it calls make is longer than what came in: it says more and counts as full. Else prove '..UptoSaid'. A law counts once. -/
mutual
def uptoBulk {H : Type} : DataW H → Nat
  | .lit (.string bytes) => bytes.length + 1
  | .lit _ => 1
  | .nil => 1
  | .ptr d => uptoBulk d + 1
  | .slice elems spare => uptoBulkAll elems + uptoBulkAll spare + 1
  | .agg parts => uptoBulkAll parts + 1
  | .iface _ d => uptoBulk d + 1
  | .map entries => uptoBulkEntries entries + 1
  | .held _ => 1
def uptoBulkAll {H : Type} : List (DataW H) → Nat
  | [] => 0
  | d :: r => uptoBulk d + uptoBulkAll r
def uptoBulkEntries {H : Type} : List (Lit × DataW H) → Nat
  | [] => 0
  | x :: r => uptoBulkEntry x + uptoBulkEntries r
def uptoBulkEntry {H : Type} : Lit × DataW H → Nat
  | (.string bytes, d) => bytes.length + uptoBulk d + 1
  | (_, d) => uptoBulk d + 1
 end
def uptoSmall : (H : Type) → List (DataW H) → Bool := fun _ ds => decide (uptoBulkAll ds ≤ 1048576)
def OpenSpec.upto (s : _root_.Go.ChangeSpec) : _root_.Go.OpenSpec := { _root_.Go.OpenSpec.ofChange s with cond := some uptoSmall }

/-- 'laws.FnExactLargestPartial', WHERE WHAT IT READS IS OF BULK AT MOST 1048576: true; the input reads as it did. -/
def fnExactLargestPartialUptoRow : OpenClaim := { program := "ytdpodfdjdophgaa", sum := "405d42f571026ee64d9da96ffa94902c05a1e0748235be76586bb80a9a963b40", func := "loop.example/g03405/laws.FnExactLargestPartial", spec := "fnExactLargestPartial", unfollowed := true, recurses := true, apart := false, narrowed := true }
def FnExactLargestPartialUptoSaid : Prop := fnExactLargestPartialUptoRow.holds Try.pinned (OpenSpec.upto fnExactLargestPartialSpec)

/-- 'laws.FnExactRepresentativesOf', WHERE WHAT IT READS IS OF BULK AT MOST 1048576: true; the input reads as it did. -/
def fnExactRepresentativesOfUptoRow : OpenClaim := { program := "ytdpodfdjdophgaa", sum := "405d42f571026ee64d9da96ffa94902c05a1e0748235be76586bb80a9a963b40", func := "loop.example/g03405/laws.FnExactRepresentativesOf", spec := "fnExactRepresentativesOf", unfollowed := true, recurses := true, apart := false, narrowed := true }
def FnExactRepresentativesOfUptoSaid : Prop := fnExactRepresentativesOfUptoRow.holds Try.pinned (OpenSpec.upto fnExactRepresentativesOfSpec)

/-- 'laws.FnExactSymmetricChains', WHERE WHAT IT READS IS OF BULK AT MOST 1048576: true; the input reads as it did. -/
def fnExactSymmetricChainsUptoRow : OpenClaim := { program := "ytdpodfdjdophgaa", sum := "405d42f571026ee64d9da96ffa94902c05a1e0748235be76586bb80a9a963b40", func := "loop.example/g03405/laws.FnExactSymmetricChains", spec := "fnExactSymmetricChains", apart := false, narrowed := true }
def FnExactSymmetricChainsUptoSaid : Prop := fnExactSymmetricChainsUptoRow.holds Try.pinned (OpenSpec.upto fnExactSymmetricChainsSpec)

/-- 'laws.FnExactLevelsOf', WHERE WHAT IT READS IS OF BULK AT MOST 1048576: true; the input reads as it did. -/
def fnExactLevelsOfUptoRow : OpenClaim := { program := "ytdpodfdjdophgaa", sum := "405d42f571026ee64d9da96ffa94902c05a1e0748235be76586bb80a9a963b40", func := "loop.example/g03405/laws.FnExactLevelsOf", spec := "fnExactLevelsOf", unfollowed := true, recurses := true, apart := false, narrowed := true }
def FnExactLevelsOfUptoSaid : Prop := fnExactLevelsOfUptoRow.holds Try.pinned (OpenSpec.upto fnExactLevelsOfSpec)

/-- 'laws.FnExactLongestChain', WHERE WHAT IT READS IS OF BULK AT MOST 1048576: true; the input reads as it did. -/
def fnExactLongestChainUptoRow : OpenClaim := { program := "ytdpodfdjdophgaa", sum := "405d42f571026ee64d9da96ffa94902c05a1e0748235be76586bb80a9a963b40", func := "loop.example/g03405/laws.FnExactLongestChain", spec := "fnExactLongestChain", unfollowed := true, recurses := true, apart := false, narrowed := true }
def FnExactLongestChainUptoSaid : Prop := fnExactLongestChainUptoRow.holds Try.pinned (OpenSpec.upto fnExactLongestChainSpec)

/-- 'laws.FnExactCountIntervalOrders', WHERE WHAT IT READS IS OF BULK AT MOST 1048576: true; the input reads as it did. -/
def fnExactCountIntervalOrdersUptoRow : OpenClaim := { program := "ytdpodfdjdophgaa", sum := "405d42f571026ee64d9da96ffa94902c05a1e0748235be76586bb80a9a963b40", func := "loop.example/g03405/laws.FnExactCountIntervalOrders", spec := "fnExactCountIntervalOrders", recurses := true, apart := false, narrowed := true }
def FnExactCountIntervalOrdersUptoSaid : Prop := fnExactCountIntervalOrdersUptoRow.holds Try.pinned (OpenSpec.upto fnExactCountIntervalOrdersSpec)

/-- 'laws.FnExactIntervalOrder', WHERE WHAT IT READS IS OF BULK AT MOST 1048576: true; the input reads as it did. -/
def fnExactIntervalOrderUptoRow : OpenClaim := { program := "ytdpodfdjdophgaa", sum := "405d42f571026ee64d9da96ffa94902c05a1e0748235be76586bb80a9a963b40", func := "loop.example/g03405/laws.FnExactIntervalOrder", spec := "fnExactIntervalOrder", recurses := true, apart := false, narrowed := true }
def FnExactIntervalOrderUptoSaid : Prop := fnExactIntervalOrderUptoRow.holds Try.pinned (OpenSpec.upto fnExactIntervalOrderSpec)

end Rows
end Go.Proofs.Ytdpodfdjdophgaa
