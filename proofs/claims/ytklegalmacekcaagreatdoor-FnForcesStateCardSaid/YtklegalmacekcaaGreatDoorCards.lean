/-
  DERIVED. GIVEN WITH THE SEED: THE CARDS: each row of YtklegalmacekcaaGreatDoorRows.lean that lists a variable, with what it lists TIED to the program's text (the seventh form; the later family's looks); each row that meets fmt, with fmt's text TOLD by the authors' own Lean function (tested against real Go, not proved from fmt's source: count such statements apart). THE CARD IS WHAT COUNTS. Prove the row's statement (the work); the ties are given (YtklegalmacekcaaGreatDoorTie.lean); close each card by the builder's one call (the guide's Derived/Test/ToyasCard.lean, 'card_holds'). Laid BY PROGRAM, IN A SANDBOX (cutbox-door.mjs). By AI agents, Wed Nov 11 2026. No macro, syntax, notation, axiom, sorry.
-/
import Derived.Test.YtklegalmacekcaaGreatDoorRows
import GoSem.ClaimSeven
namespace Go.Proofs.YtklegalmacekcaaGreatDoor
namespace Rows

/-- THE TIED CARD OF 'laws.FnForcesState'. -/
def fnForcesStateCard : Claim7 := { stood := { row := fnForcesStateRow, standIns := [], harness := (true, "531f9933474b0eb781eeac93355298a832e269adb48cb6a51f5b1719903a5874"), looks := false }, kinds := [], alts := [], laidByText := true, laidKinds := [.data, .pinned], laidTests := true, laidLooks := .later }
def FnForcesStateCardSaid : Prop := Claim7.holds Tryz.pinned (.plain (OpenSpec.ofChange fnForcesStateSpec)) fnForcesStateCard

/-- THE SECOND FORM's CARD OF 'laws.FnForcesState'. -/
def fnForcesStateUptoCard : Claim7 := { stood := { row := fnForcesStateUptoRow, standIns := [], harness := (true, "531f9933474b0eb781eeac93355298a832e269adb48cb6a51f5b1719903a5874"), looks := false }, kinds := [], alts := [], laidByText := true, laidKinds := [.data, .pinned], laidTests := true, laidLooks := .later }
def FnForcesStateUptoCardSaid : Prop := Claim7.holds Tryz.pinned (.plain (OpenSpec.upto fnForcesStateSpec)) fnForcesStateUptoCard
end Rows
end Go.Proofs.YtklegalmacekcaaGreatDoor
