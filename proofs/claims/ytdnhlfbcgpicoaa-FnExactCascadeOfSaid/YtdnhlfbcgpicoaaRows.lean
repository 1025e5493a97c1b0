/-
  No cell of these rows narrows 'for every input' (looked for: loops, veiled, ifaces, maps, wideKeys, modest, calm, conditions, laid).
  DERIVED. THE GIVEN ROWS OF THIS SEAT. 6 by the template 'for every input the law returns true; each argument reads behind the call as it read before'; 0 by the template 'total and deterministic' (their statements: YtdnhlfbcgpicoaaTotals.lean).
  GIVEN WITH THE SEED: the statements are not yours to turn. If you find one false, say at which input.
  Laid BY PROGRAM, IN A SANDBOX (cutbox-rows.mjs): the forced cells as the released guide's own fill.sh prints them over the translation 8a79c9283846123b… (all of the seat's roots in one cut). By AI agents, Wed Nov 11 2026. No macro, syntax, notation, axiom, sorry.
-/
import Derived.Test.YtdnhlfbcgpicoaaChecked
import GoSem.Claim
import GoSem.ClaimJoined
import GoSem.ClaimMapViews
import Derived.JoinedTies
import Derived.KernelRfl
namespace Go.Proofs.Ytdnhlfbcgpicoaa
/- THE CELL 'sum', in the pinned program and in every row, IS THE sha256 OF THE DUMP (.gsa) THAT YtdnhlfbcgpicoaaProg.lean LOADS. Nothing in Lean hashes anything: it is a label: what it is worth is what the hold of that sum in a sandbox is worth. -/
noncomputable def Try.pinned : Pinned := { name := "ytdnhlfbcgpicoaa", sum := "8a79c9283846123bf3cd7d8238dadf757771b8ba53acb388e609ddce1e7f0af1", checked := Try.checked }
namespace Rows
def none {H : Type} : Left H := { results := [], args := [] }

/-- 'laws.FnExactIsChain': WHATEVER THE INPUT: true; the input reads as it did. -/
def fnExactIsChainSpec : ChangeSpec := { name := "fnExactIsChain", fn := fun _ => fun
  | [d] => { results := [.lit (.bool true)], args := [d] }
  | _ => none }
def fnExactIsChainRow : OpenClaim := { program := "ytdnhlfbcgpicoaa", sum := "8a79c9283846123bf3cd7d8238dadf757771b8ba53acb388e609ddce1e7f0af1", func := "loop.example/g03405/laws.FnExactIsChain", spec := "fnExactIsChain", apart := false }
def FnExactIsChainSaid : Prop := fnExactIsChainRow.holds Try.pinned (OpenSpec.ofChange fnExactIsChainSpec)

/-- ITS FALSE NEIGHBOUR: 'it returns false'. Refute it at one input. -/
def fnExactIsChainWrong : ChangeSpec := { name := "fnExactIsChain", fn := fun _ => fun
  | [d] => { results := [.lit (.bool false)], args := [d] }
  | _ => none }
def FnExactIsChainWrongFalsely : Prop := fnExactIsChainRow.holds Try.pinned (OpenSpec.ofChange fnExactIsChainWrong)

/-- 'laws.FnExactIntersectingBound': WHATEVER THE INPUT: true; the input reads as it did. -/
def fnExactIntersectingBoundSpec : ChangeSpec := { name := "fnExactIntersectingBound", fn := fun _ => fun
  | [d1, d2] => { results := [.lit (.bool true)], args := [d1, d2] }
  | _ => none }
def fnExactIntersectingBoundRow : OpenClaim := { program := "ytdnhlfbcgpicoaa", sum := "8a79c9283846123bf3cd7d8238dadf757771b8ba53acb388e609ddce1e7f0af1", func := "loop.example/g03405/laws.FnExactIntersectingBound", spec := "fnExactIntersectingBound", apart := false }
def FnExactIntersectingBoundSaid : Prop := fnExactIntersectingBoundRow.holds Try.pinned (OpenSpec.ofChange fnExactIntersectingBoundSpec)

/-- ITS FALSE NEIGHBOUR: 'it returns false'. Refute it at one input. -/
def fnExactIntersectingBoundWrong : ChangeSpec := { name := "fnExactIntersectingBound", fn := fun _ => fun
  | [d1, d2] => { results := [.lit (.bool false)], args := [d1, d2] }
  | _ => none }
def FnExactIntersectingBoundWrongFalsely : Prop := fnExactIntersectingBoundRow.holds Try.pinned (OpenSpec.ofChange fnExactIntersectingBoundWrong)

/-- 'laws.FnExactImbalanceOf': WHATEVER THE INPUT: true; the input reads as it did. -/
def fnExactImbalanceOfSpec : ChangeSpec := { name := "fnExactImbalanceOf", fn := fun _ => fun
  | [d1, d2] => { results := [.lit (.bool true)], args := [d1, d2] }
  | _ => none }
def fnExactImbalanceOfRow : OpenClaim := { program := "ytdnhlfbcgpicoaa", sum := "8a79c9283846123bf3cd7d8238dadf757771b8ba53acb388e609ddce1e7f0af1", func := "loop.example/g03405/laws.FnExactImbalanceOf", spec := "fnExactImbalanceOf", apart := false }
def FnExactImbalanceOfSaid : Prop := fnExactImbalanceOfRow.holds Try.pinned (OpenSpec.ofChange fnExactImbalanceOfSpec)

/-- ITS FALSE NEIGHBOUR: 'it returns false'. Refute it at one input. -/
def fnExactImbalanceOfWrong : ChangeSpec := { name := "fnExactImbalanceOf", fn := fun _ => fun
  | [d1, d2] => { results := [.lit (.bool false)], args := [d1, d2] }
  | _ => none }
def FnExactImbalanceOfWrongFalsely : Prop := fnExactImbalanceOfRow.holds Try.pinned (OpenSpec.ofChange fnExactImbalanceOfWrong)

/-- 'laws.FnExactSetOfInterval': WHATEVER THE INPUT: true; the input reads as it did. -/
def fnExactSetOfIntervalSpec : ChangeSpec := { name := "fnExactSetOfInterval", fn := fun _ => fun
  | [d1, d2, d3] => { results := [.lit (.bool true)], args := [d1, d2, d3] }
  | _ => none }
def fnExactSetOfIntervalRow : OpenClaim := { program := "ytdnhlfbcgpicoaa", sum := "8a79c9283846123bf3cd7d8238dadf757771b8ba53acb388e609ddce1e7f0af1", func := "loop.example/g03405/laws.FnExactSetOfInterval", spec := "fnExactSetOfInterval", apart := false }
def FnExactSetOfIntervalSaid : Prop := fnExactSetOfIntervalRow.holds Try.pinned (OpenSpec.ofChange fnExactSetOfIntervalSpec)

/-- ITS FALSE NEIGHBOUR: 'it returns false'. Refute it at one input. -/
def fnExactSetOfIntervalWrong : ChangeSpec := { name := "fnExactSetOfInterval", fn := fun _ => fun
  | [d1, d2, d3] => { results := [.lit (.bool false)], args := [d1, d2, d3] }
  | _ => none }
def FnExactSetOfIntervalWrongFalsely : Prop := fnExactSetOfIntervalRow.holds Try.pinned (OpenSpec.ofChange fnExactSetOfIntervalWrong)

/-- 'laws.FnExactShadowBound': WHATEVER THE INPUT: true; the input reads as it did. -/
def fnExactShadowBoundSpec : ChangeSpec := { name := "fnExactShadowBound", fn := fun _ => fun
  | [d1, d2] => { results := [.lit (.bool true)], args := [d1, d2] }
  | _ => none }
def fnExactShadowBoundRow : OpenClaim := { program := "ytdnhlfbcgpicoaa", sum := "8a79c9283846123bf3cd7d8238dadf757771b8ba53acb388e609ddce1e7f0af1", func := "loop.example/g03405/laws.FnExactShadowBound", spec := "fnExactShadowBound", apart := false }
def FnExactShadowBoundSaid : Prop := fnExactShadowBoundRow.holds Try.pinned (OpenSpec.ofChange fnExactShadowBoundSpec)

/-- ITS FALSE NEIGHBOUR: 'it returns false'. Refute it at one input. -/
def fnExactShadowBoundWrong : ChangeSpec := { name := "fnExactShadowBound", fn := fun _ => fun
  | [d1, d2] => { results := [.lit (.bool false)], args := [d1, d2] }
  | _ => none }
def FnExactShadowBoundWrongFalsely : Prop := fnExactShadowBoundRow.holds Try.pinned (OpenSpec.ofChange fnExactShadowBoundWrong)

/-- 'laws.FnExactCascadeOf': WHATEVER THE INPUT: true; the input reads as it did. -/
def fnExactCascadeOfSpec : ChangeSpec := { name := "fnExactCascadeOf", fn := fun _ => fun
  | [d1, d2] => { results := [.lit (.bool true)], args := [d1, d2] }
  | _ => none }
def fnExactCascadeOfRow : OpenClaim := { program := "ytdnhlfbcgpicoaa", sum := "8a79c9283846123bf3cd7d8238dadf757771b8ba53acb388e609ddce1e7f0af1", func := "loop.example/g03405/laws.FnExactCascadeOf", spec := "fnExactCascadeOf", apart := false }
def FnExactCascadeOfSaid : Prop := fnExactCascadeOfRow.holds Try.pinned (OpenSpec.ofChange fnExactCascadeOfSpec)

/-- ITS FALSE NEIGHBOUR: 'it returns false'. Refute it at one input. -/
def fnExactCascadeOfWrong : ChangeSpec := { name := "fnExactCascadeOf", fn := fun _ => fun
  | [d1, d2] => { results := [.lit (.bool false)], args := [d1, d2] }
  | _ => none }
def FnExactCascadeOfWrongFalsely : Prop := fnExactCascadeOfRow.holds Try.pinned (OpenSpec.ofChange fnExactCascadeOfWrong)

/- THE SECOND FORM. 'bulk': how many values and letters a reading holds, each counted each time it is reached (what is shared counts as often as it is met; a slice's spare places count too). A statement '..UptoSaid' is the law's where the arguments, and the package variables that the reading takes, are together of bulk at most 1048576: NARROWER than '..Said'. Prove '..Said' where nothing that the law and all that it calls make is longer than what came in: it says more and counts as full. Else prove '..UptoSaid'. A law counts once. -/
mutual
def uptoBulk {H : Type} : DataW H → Nat
  | .lit (.string bytes) => bytes.length + 1
  | .lit _ => 1
  | .nil => 1
  | .ptr d => uptoBulk d + 1
  | .slice elems spare => uptoBulkAll elems + uptoBulkAll spare + 1
  | .agg parts => uptoBulkAll parts + 1
  | .iface _ d => uptoBulk d + 1
  | .map entries => uptoBulkEntries entries + 1
  | .held _ => 1
def uptoBulkAll {H : Type} : List (DataW H) → Nat
  | [] => 0
  | d :: r => uptoBulk d + uptoBulkAll r
def uptoBulkEntries {H : Type} : List (Lit × DataW H) → Nat
  | [] => 0
  | x :: r => uptoBulkEntry x + uptoBulkEntries r
def uptoBulkEntry {H : Type} : Lit × DataW H → Nat
  | (.string bytes, d) => bytes.length + uptoBulk d + 1
  | (_, d) => uptoBulk d + 1
 end
def uptoSmall : (H : Type) → List (DataW H) → Bool := fun _ ds => decide (uptoBulkAll ds ≤ 1048576)
def OpenSpec.upto (s : _root_.Go.ChangeSpec) : _root_.Go.OpenSpec := { _root_.Go.OpenSpec.ofChange s with cond := some uptoSmall }

/-- 'laws.FnExactIsChain', WHERE WHAT IT READS IS OF BULK AT MOST 1048576: true; the input reads as it did. -/
def fnExactIsChainUptoRow : OpenClaim := { program := "ytdnhlfbcgpicoaa", sum := "8a79c9283846123bf3cd7d8238dadf757771b8ba53acb388e609ddce1e7f0af1", func := "loop.example/g03405/laws.FnExactIsChain", spec := "fnExactIsChain", apart := false, narrowed := true }
def FnExactIsChainUptoSaid : Prop := fnExactIsChainUptoRow.holds Try.pinned (OpenSpec.upto fnExactIsChainSpec)

/-- 'laws.FnExactIntersectingBound', WHERE WHAT IT READS IS OF BULK AT MOST 1048576: true; the input reads as it did. -/
def fnExactIntersectingBoundUptoRow : OpenClaim := { program := "ytdnhlfbcgpicoaa", sum := "8a79c9283846123bf3cd7d8238dadf757771b8ba53acb388e609ddce1e7f0af1", func := "loop.example/g03405/laws.FnExactIntersectingBound", spec := "fnExactIntersectingBound", apart := false, narrowed := true }
def FnExactIntersectingBoundUptoSaid : Prop := fnExactIntersectingBoundUptoRow.holds Try.pinned (OpenSpec.upto fnExactIntersectingBoundSpec)

/-- 'laws.FnExactImbalanceOf', WHERE WHAT IT READS IS OF BULK AT MOST 1048576: true; the input reads as it did. -/
def fnExactImbalanceOfUptoRow : OpenClaim := { program := "ytdnhlfbcgpicoaa", sum := "8a79c9283846123bf3cd7d8238dadf757771b8ba53acb388e609ddce1e7f0af1", func := "loop.example/g03405/laws.FnExactImbalanceOf", spec := "fnExactImbalanceOf", apart := false, narrowed := true }
def FnExactImbalanceOfUptoSaid : Prop := fnExactImbalanceOfUptoRow.holds Try.pinned (OpenSpec.upto fnExactImbalanceOfSpec)

/-- 'laws.FnExactSetOfInterval', WHERE WHAT IT READS IS OF BULK AT MOST 1048576: true; the input reads as it did. -/
def fnExactSetOfIntervalUptoRow : OpenClaim := { program := "ytdnhlfbcgpicoaa", sum := "8a79c9283846123bf3cd7d8238dadf757771b8ba53acb388e609ddce1e7f0af1", func := "loop.example/g03405/laws.FnExactSetOfInterval", spec := "fnExactSetOfInterval", apart := false, narrowed := true }
def FnExactSetOfIntervalUptoSaid : Prop := fnExactSetOfIntervalUptoRow.holds Try.pinned (OpenSpec.upto fnExactSetOfIntervalSpec)

/-- 'laws.FnExactShadowBound', WHERE WHAT IT READS IS OF BULK AT MOST 1048576: true; the input reads as it did. -/
def fnExactShadowBoundUptoRow : OpenClaim := { program := "ytdnhlfbcgpicoaa", sum := "8a79c9283846123bf3cd7d8238dadf757771b8ba53acb388e609ddce1e7f0af1", func := "loop.example/g03405/laws.FnExactShadowBound", spec := "fnExactShadowBound", apart := false, narrowed := true }
def FnExactShadowBoundUptoSaid : Prop := fnExactShadowBoundUptoRow.holds Try.pinned (OpenSpec.upto fnExactShadowBoundSpec)

/-- 'laws.FnExactCascadeOf', WHERE WHAT IT READS IS OF BULK AT MOST 1048576: true; the input reads as it did. -/
def fnExactCascadeOfUptoRow : OpenClaim := { program := "ytdnhlfbcgpicoaa", sum := "8a79c9283846123bf3cd7d8238dadf757771b8ba53acb388e609ddce1e7f0af1", func := "loop.example/g03405/laws.FnExactCascadeOf", spec := "fnExactCascadeOf", apart := false, narrowed := true }
def FnExactCascadeOfUptoSaid : Prop := fnExactCascadeOfUptoRow.holds Try.pinned (OpenSpec.upto fnExactCascadeOfSpec)

end Rows
end Go.Proofs.Ytdnhlfbcgpicoaa
