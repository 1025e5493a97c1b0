/-
  DERIVED. GIVEN WITH THE SEED: THE CARDS: each row of YtbookhehpebcmaaGreatDoorRows.lean that lists a variable, with what it lists TIED to the program's text (the seventh form; the later family's looks); each row that meets fmt, with fmt's text TOLD by the authors' own Lean function (tested against real Go, not proved from fmt's source: count such statements apart). THE CARD IS WHAT COUNTS. Prove the row's statement (the work); the ties are given (YtbookhehpebcmaaGreatDoorTie.lean); close each card by the builder's one call (the guide's Derived/Test/ToyasCard.lean, 'card_holds'). Laid BY PROGRAM, IN A SANDBOX (cutbox-door.mjs). By AI agents, Wed Nov 11 2026. No macro, syntax, notation, axiom, sorry.
-/
import Derived.Test.YtbookhehpebcmaaGreatDoorRows
import GoSem.ClaimSeven
namespace Go.Proofs.YtbookhehpebcmaaGreatDoor
namespace Rows

/-- THE TIED CARD OF 'laws.FnFamilies'. -/
def fnFamiliesCard : Claim7 := { stood := { row := fnFamiliesRow, standIns := [], harness := (true, "4db8007a407b85b24a165146b8ad3670a8e5574cffb08b3ad7e8e8c7abee7ea8"), looks := false }, kinds := [], alts := [], laidByText := true, laidKinds := [.data, .data, .data, .data, .pinned], laidTests := true, laidLooks := .later }
def FnFamiliesCardSaid : Prop := Claim7.holds Tryz.pinned (.plain (OpenSpec.ofChange fnFamiliesSpec)) fnFamiliesCard

/-- THE SECOND FORM's CARD OF 'laws.FnFamilies'. -/
def fnFamiliesUptoCard : Claim7 := { stood := { row := fnFamiliesUptoRow, standIns := [], harness := (true, "4db8007a407b85b24a165146b8ad3670a8e5574cffb08b3ad7e8e8c7abee7ea8"), looks := false }, kinds := [], alts := [], laidByText := true, laidKinds := [.data, .data, .data, .data, .pinned], laidTests := true, laidLooks := .later }
def FnFamiliesUptoCardSaid : Prop := Claim7.holds Tryz.pinned (.plain (OpenSpec.upto fnFamiliesSpec)) fnFamiliesUptoCard
end Rows
end Go.Proofs.YtbookhehpebcmaaGreatDoor
