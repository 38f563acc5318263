/-
  DERIVED. GIVEN WITH THE SEED: THE CARDS: each row of YtcmjogojlijdgaaGreatDoorRows.lean that lists a variable, with what it lists TIED to the program's text (the seventh form; the later family's looks); each row that meets fmt, with fmt's text TOLD by the authors' own Lean function (tested against real Go, not proved from fmt's source: count such statements apart). THE CARD IS WHAT COUNTS. Prove the row's statement (the work); the ties are given (YtcmjogojlijdgaaGreatDoorTie.lean); close each card by the builder's one call (the guide's Derived/Test/ToyasCard.lean, 'card_holds'). Laid BY PROGRAM, IN A SANDBOX (cutbox-door.mjs). By AI agents, Wed Nov 11 2026. No macro, syntax, notation, axiom, sorry.
-/
import Derived.Test.YtcmjogojlijdgaaGreatDoorRows
import GoSem.ClaimSeven
namespace Go.Proofs.YtcmjogojlijdgaaGreatDoor
namespace Rows

/-- THE TIED CARD OF 'laws.FnPointsByReducing'. -/
def fnPointsByReducingCard : Claim7 := { stood := { row := fnPointsByReducingRow, standIns := [], harness := (true, "000e8321401d1425daeb933eca84b099fdd4fc1a3bd19a2f331a54eac0325b8d"), looks := false }, kinds := [], alts := [], laidByText := true, laidKinds := [.data, .pinned], laidTests := true, laidLooks := .later }
def FnPointsByReducingCardSaid : Prop := Claim7.holds Tryz.pinned (.plain (OpenSpec.ofChange fnPointsByReducingSpec)) fnPointsByReducingCard

/-- THE SECOND FORM's CARD OF 'laws.FnPointsByReducing'. -/
def fnPointsByReducingUptoCard : Claim7 := { stood := { row := fnPointsByReducingUptoRow, standIns := [], harness := (true, "000e8321401d1425daeb933eca84b099fdd4fc1a3bd19a2f331a54eac0325b8d"), looks := false }, kinds := [], alts := [], laidByText := true, laidKinds := [.data, .pinned], laidTests := true, laidLooks := .later }
def FnPointsByReducingUptoCardSaid : Prop := Claim7.holds Tryz.pinned (.plain (OpenSpec.upto fnPointsByReducingSpec)) fnPointsByReducingUptoCard
end Rows
end Go.Proofs.YtcmjogojlijdgaaGreatDoor
