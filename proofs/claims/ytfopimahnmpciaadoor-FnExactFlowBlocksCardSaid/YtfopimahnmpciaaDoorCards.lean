/-
  DERIVED. GIVEN WITH THE SEED: THE CARDS: each row of YtfopimahnmpciaaDoorRows.lean that lists a variable, with what it lists TIED to the program's text (the seventh form; the later family's looks); each row that meets fmt, with fmt's text TOLD by the authors' own Lean function (tested against real Go, not proved from fmt's source: count such statements apart). THE CARD IS WHAT COUNTS. Prove the row's statement (the work); the ties are given (YtfopimahnmpciaaDoorTie.lean); close each card by the builder's one call (the guide's Derived/Test/ToyasCard.lean, 'card_holds'). Laid BY PROGRAM, IN A SANDBOX (cutbox-door.mjs). By AI agents, Wed Nov 11 2026. No macro, syntax, notation, axiom, sorry.
-/
import Derived.Test.YtfopimahnmpciaaDoorRows
import GoSem.ClaimSeven
namespace Go.Proofs.YtfopimahnmpciaaDoor
namespace Rows

/-- THE TIED CARD OF 'laws.FnExactFlowBlocks'. -/
def fnExactFlowBlocksCard : Claim7 := { stood := { row := fnExactFlowBlocksRow, standIns := [], harness := (true, "9e7deb15db20d0851d5810d2738e665f4ce1a2b5b460dbb7c9e4c6371605f184"), looks := false }, kinds := [], alts := [], laidByText := true, laidKinds := [.data, .pinned], laidTests := true, laidLooks := .later }
def FnExactFlowBlocksCardSaid : Prop := Claim7.holds Tryd.pinned (.plain (OpenSpec.ofChange fnExactFlowBlocksSpec)) fnExactFlowBlocksCard

/-- THE SECOND FORM's CARD OF 'laws.FnExactFlowBlocks'. -/
def fnExactFlowBlocksUptoCard : Claim7 := { stood := { row := fnExactFlowBlocksUptoRow, standIns := [], harness := (true, "9e7deb15db20d0851d5810d2738e665f4ce1a2b5b460dbb7c9e4c6371605f184"), looks := false }, kinds := [], alts := [], laidByText := true, laidKinds := [.data, .pinned], laidTests := true, laidLooks := .later }
def FnExactFlowBlocksUptoCardSaid : Prop := Claim7.holds Tryd.pinned (.plain (OpenSpec.upto fnExactFlowBlocksSpec)) fnExactFlowBlocksUptoCard
end Rows
end Go.Proofs.YtfopimahnmpciaaDoor
