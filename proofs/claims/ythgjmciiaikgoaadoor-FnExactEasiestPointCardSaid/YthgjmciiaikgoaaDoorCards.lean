/-
  DERIVED. GIVEN WITH THE SEED: THE CARDS: each row of YthgjmciiaikgoaaDoorRows.lean that lists a variable, with what it lists TIED to the program's text (the seventh form; the later family's looks); each row that meets fmt, with fmt's text TOLD by the authors' own Lean function (tested against real Go, not proved from fmt's source: count such statements apart). THE CARD IS WHAT COUNTS. Prove the row's statement (the work); the ties are given (YthgjmciiaikgoaaDoorTie.lean); close each card by the builder's one call (the guide's Derived/Test/ToyasCard.lean, 'card_holds'). Laid BY PROGRAM, IN A SANDBOX (cutbox-door.mjs). By AI agents, Wed Nov 11 2026. No macro, syntax, notation, axiom, sorry.
-/
import Derived.Test.YthgjmciiaikgoaaDoorRows
import GoSem.ClaimSeven
namespace Go.Proofs.YthgjmciiaikgoaaDoor
namespace Rows

/-- THE TIED CARD OF 'laws.FnExactStepBlocks'. -/
def fnExactStepBlocksCard : Claim7 := { stood := { row := fnExactStepBlocksRow, standIns := [], harness := (true, "1565f56f179700d860a842544357ff128acb76590f93084a720be468235b989a"), looks := false }, kinds := [], alts := [], laidByText := true, laidKinds := [.data, .pinned], laidTests := true, laidLooks := .later }
def FnExactStepBlocksCardSaid : Prop := Claim7.holds Tryd.pinned (.plain (OpenSpec.ofChange fnExactStepBlocksSpec)) fnExactStepBlocksCard

/-- THE TIED CARD OF 'laws.FnExactCanJoin'. -/
def fnExactCanJoinCard : Claim7 := { stood := { row := fnExactCanJoinRow, standIns := [], harness := (true, "1565f56f179700d860a842544357ff128acb76590f93084a720be468235b989a"), looks := false }, kinds := [], alts := [], laidByText := true, laidKinds := [.data, .pinned], laidTests := true, laidLooks := .later }
def FnExactCanJoinCardSaid : Prop := Claim7.holds Tryd.pinned (.plain (OpenSpec.ofChange fnExactCanJoinSpec)) fnExactCanJoinCard

/-- THE TIED CARD OF 'laws.FnExactSeeSteps'. -/
def fnExactSeeStepsCard : Claim7 := { stood := { row := fnExactSeeStepsRow, standIns := [], harness := (true, "1565f56f179700d860a842544357ff128acb76590f93084a720be468235b989a"), looks := false }, kinds := [], alts := [], laidByText := true, laidKinds := [.data, .pinned], laidTests := true, laidLooks := .later }
def FnExactSeeStepsCardSaid : Prop := Claim7.holds Tryd.pinned (.plain (OpenSpec.ofChange fnExactSeeStepsSpec)) fnExactSeeStepsCard

/-- THE TIED CARD OF 'laws.FnExactForcesState'. -/
def fnExactForcesStateCard : Claim7 := { stood := { row := fnExactForcesStateRow, standIns := [], harness := (true, "1565f56f179700d860a842544357ff128acb76590f93084a720be468235b989a"), looks := false }, kinds := [], alts := [], laidByText := true, laidKinds := [.data, .pinned], laidTests := true, laidLooks := .later }
def FnExactForcesStateCardSaid : Prop := Claim7.holds Tryd.pinned (.plain (OpenSpec.ofChange fnExactForcesStateSpec)) fnExactForcesStateCard

/-- THE TIED CARD OF 'laws.FnExactHoldSwitches'. -/
def fnExactHoldSwitchesCard : Claim7 := { stood := { row := fnExactHoldSwitchesRow, standIns := [], harness := (true, "1565f56f179700d860a842544357ff128acb76590f93084a720be468235b989a"), looks := false }, kinds := [], alts := [], laidByText := true, laidKinds := [.data, .pinned], laidTests := true, laidLooks := .later }
def FnExactHoldSwitchesCardSaid : Prop := Claim7.holds Tryd.pinned (.plain (OpenSpec.ofChange fnExactHoldSwitchesSpec)) fnExactHoldSwitchesCard

/-- THE TIED CARD OF 'laws.FnExactNetworkOfBlocks'. -/
def fnExactNetworkOfBlocksCard : Claim7 := { stood := { row := fnExactNetworkOfBlocksRow, standIns := [], harness := (true, "1565f56f179700d860a842544357ff128acb76590f93084a720be468235b989a"), looks := false }, kinds := [], alts := [], laidByText := true, laidKinds := [.data, .pinned], laidTests := true, laidLooks := .later }
def FnExactNetworkOfBlocksCardSaid : Prop := Claim7.holds Tryd.pinned (.plain (OpenSpec.ofChange fnExactNetworkOfBlocksSpec)) fnExactNetworkOfBlocksCard

/-- THE TIED CARD OF 'laws.FnExactSameSchedule'. -/
def fnExactSameScheduleCard : Claim7 := { stood := { row := fnExactSameScheduleRow, standIns := [], harness := (true, "1565f56f179700d860a842544357ff128acb76590f93084a720be468235b989a"), looks := false }, kinds := [], alts := [], laidByText := true, laidKinds := [.data, .pinned], laidTests := true, laidLooks := .later }
def FnExactSameScheduleCardSaid : Prop := Claim7.holds Tryd.pinned (.plain (OpenSpec.ofChange fnExactSameScheduleSpec)) fnExactSameScheduleCard

/-- THE TIED CARD OF 'laws.FnExactFlowBlocks'. -/
def fnExactFlowBlocksCard : Claim7 := { stood := { row := fnExactFlowBlocksRow, standIns := [], harness := (true, "1565f56f179700d860a842544357ff128acb76590f93084a720be468235b989a"), looks := false }, kinds := [], alts := [], laidByText := true, laidKinds := [.data, .pinned], laidTests := true, laidLooks := .later }
def FnExactFlowBlocksCardSaid : Prop := Claim7.holds Tryd.pinned (.plain (OpenSpec.ofChange fnExactFlowBlocksSpec)) fnExactFlowBlocksCard

/-- THE TIED CARD OF 'laws.FnExactLeastHold'. -/
def fnExactLeastHoldCard : Claim7 := { stood := { row := fnExactLeastHoldRow, standIns := [], harness := (true, "1565f56f179700d860a842544357ff128acb76590f93084a720be468235b989a"), looks := false }, kinds := [], alts := [], laidByText := true, laidKinds := [.data, .pinned], laidTests := true, laidLooks := .later }
def FnExactLeastHoldCardSaid : Prop := Claim7.holds Tryd.pinned (.plain (OpenSpec.ofChange fnExactLeastHoldSpec)) fnExactLeastHoldCard

/-- THE TIED CARD OF 'laws.FnExactHoldsNeeded'. -/
def fnExactHoldsNeededCard : Claim7 := { stood := { row := fnExactHoldsNeededRow, standIns := [], harness := (true, "1565f56f179700d860a842544357ff128acb76590f93084a720be468235b989a"), looks := false }, kinds := [], alts := [], laidByText := true, laidKinds := [.data, .pinned], laidTests := true, laidLooks := .later }
def FnExactHoldsNeededCardSaid : Prop := Claim7.holds Tryd.pinned (.plain (OpenSpec.ofChange fnExactHoldsNeededSpec)) fnExactHoldsNeededCard

/-- THE TIED CARD OF 'laws.FnExactHeldPoints'. -/
def fnExactHeldPointsCard : Claim7 := { stood := { row := fnExactHeldPointsRow, standIns := [], harness := (true, "1565f56f179700d860a842544357ff128acb76590f93084a720be468235b989a"), looks := false }, kinds := [], alts := [], laidByText := true, laidKinds := [.data, .pinned], laidTests := true, laidLooks := .later }
def FnExactHeldPointsCardSaid : Prop := Claim7.holds Tryd.pinned (.plain (OpenSpec.ofChange fnExactHeldPointsSpec)) fnExactHeldPointsCard

/-- THE TIED CARD OF 'laws.FnExactEasiestPoint'. -/
def fnExactEasiestPointCard : Claim7 := { stood := { row := fnExactEasiestPointRow, standIns := [], harness := (true, "1565f56f179700d860a842544357ff128acb76590f93084a720be468235b989a"), looks := false }, kinds := [], alts := [], laidByText := true, laidKinds := [.data, .pinned], laidTests := true, laidLooks := .later }
def FnExactEasiestPointCardSaid : Prop := Claim7.holds Tryd.pinned (.plain (OpenSpec.ofChange fnExactEasiestPointSpec)) fnExactEasiestPointCard

/-- THE SECOND FORM's CARD OF 'laws.FnExactStepBlocks'. -/
def fnExactStepBlocksUptoCard : Claim7 := { stood := { row := fnExactStepBlocksUptoRow, standIns := [], harness := (true, "1565f56f179700d860a842544357ff128acb76590f93084a720be468235b989a"), looks := false }, kinds := [], alts := [], laidByText := true, laidKinds := [.data, .pinned], laidTests := true, laidLooks := .later }
def FnExactStepBlocksUptoCardSaid : Prop := Claim7.holds Tryd.pinned (.plain (OpenSpec.upto fnExactStepBlocksSpec)) fnExactStepBlocksUptoCard

/-- THE SECOND FORM's CARD OF 'laws.FnExactCanJoin'. -/
def fnExactCanJoinUptoCard : Claim7 := { stood := { row := fnExactCanJoinUptoRow, standIns := [], harness := (true, "1565f56f179700d860a842544357ff128acb76590f93084a720be468235b989a"), looks := false }, kinds := [], alts := [], laidByText := true, laidKinds := [.data, .pinned], laidTests := true, laidLooks := .later }
def FnExactCanJoinUptoCardSaid : Prop := Claim7.holds Tryd.pinned (.plain (OpenSpec.upto fnExactCanJoinSpec)) fnExactCanJoinUptoCard

/-- THE SECOND FORM's CARD OF 'laws.FnExactSeeSteps'. -/
def fnExactSeeStepsUptoCard : Claim7 := { stood := { row := fnExactSeeStepsUptoRow, standIns := [], harness := (true, "1565f56f179700d860a842544357ff128acb76590f93084a720be468235b989a"), looks := false }, kinds := [], alts := [], laidByText := true, laidKinds := [.data, .pinned], laidTests := true, laidLooks := .later }
def FnExactSeeStepsUptoCardSaid : Prop := Claim7.holds Tryd.pinned (.plain (OpenSpec.upto fnExactSeeStepsSpec)) fnExactSeeStepsUptoCard

/-- THE SECOND FORM's CARD OF 'laws.FnExactForcesState'. -/
def fnExactForcesStateUptoCard : Claim7 := { stood := { row := fnExactForcesStateUptoRow, standIns := [], harness := (true, "1565f56f179700d860a842544357ff128acb76590f93084a720be468235b989a"), looks := false }, kinds := [], alts := [], laidByText := true, laidKinds := [.data, .pinned], laidTests := true, laidLooks := .later }
def FnExactForcesStateUptoCardSaid : Prop := Claim7.holds Tryd.pinned (.plain (OpenSpec.upto fnExactForcesStateSpec)) fnExactForcesStateUptoCard

/-- THE SECOND FORM's CARD OF 'laws.FnExactHoldSwitches'. -/
def fnExactHoldSwitchesUptoCard : Claim7 := { stood := { row := fnExactHoldSwitchesUptoRow, standIns := [], harness := (true, "1565f56f179700d860a842544357ff128acb76590f93084a720be468235b989a"), looks := false }, kinds := [], alts := [], laidByText := true, laidKinds := [.data, .pinned], laidTests := true, laidLooks := .later }
def FnExactHoldSwitchesUptoCardSaid : Prop := Claim7.holds Tryd.pinned (.plain (OpenSpec.upto fnExactHoldSwitchesSpec)) fnExactHoldSwitchesUptoCard

/-- THE SECOND FORM's CARD OF 'laws.FnExactNetworkOfBlocks'. -/
def fnExactNetworkOfBlocksUptoCard : Claim7 := { stood := { row := fnExactNetworkOfBlocksUptoRow, standIns := [], harness := (true, "1565f56f179700d860a842544357ff128acb76590f93084a720be468235b989a"), looks := false }, kinds := [], alts := [], laidByText := true, laidKinds := [.data, .pinned], laidTests := true, laidLooks := .later }
def FnExactNetworkOfBlocksUptoCardSaid : Prop := Claim7.holds Tryd.pinned (.plain (OpenSpec.upto fnExactNetworkOfBlocksSpec)) fnExactNetworkOfBlocksUptoCard

/-- THE SECOND FORM's CARD OF 'laws.FnExactSameSchedule'. -/
def fnExactSameScheduleUptoCard : Claim7 := { stood := { row := fnExactSameScheduleUptoRow, standIns := [], harness := (true, "1565f56f179700d860a842544357ff128acb76590f93084a720be468235b989a"), looks := false }, kinds := [], alts := [], laidByText := true, laidKinds := [.data, .pinned], laidTests := true, laidLooks := .later }
def FnExactSameScheduleUptoCardSaid : Prop := Claim7.holds Tryd.pinned (.plain (OpenSpec.upto fnExactSameScheduleSpec)) fnExactSameScheduleUptoCard

/-- THE SECOND FORM's CARD OF 'laws.FnExactFlowBlocks'. -/
def fnExactFlowBlocksUptoCard : Claim7 := { stood := { row := fnExactFlowBlocksUptoRow, standIns := [], harness := (true, "1565f56f179700d860a842544357ff128acb76590f93084a720be468235b989a"), looks := false }, kinds := [], alts := [], laidByText := true, laidKinds := [.data, .pinned], laidTests := true, laidLooks := .later }
def FnExactFlowBlocksUptoCardSaid : Prop := Claim7.holds Tryd.pinned (.plain (OpenSpec.upto fnExactFlowBlocksSpec)) fnExactFlowBlocksUptoCard

/-- THE SECOND FORM's CARD OF 'laws.FnExactLeastHold'. -/
def fnExactLeastHoldUptoCard : Claim7 := { stood := { row := fnExactLeastHoldUptoRow, standIns := [], harness := (true, "1565f56f179700d860a842544357ff128acb76590f93084a720be468235b989a"), looks := false }, kinds := [], alts := [], laidByText := true, laidKinds := [.data, .pinned], laidTests := true, laidLooks := .later }
def FnExactLeastHoldUptoCardSaid : Prop := Claim7.holds Tryd.pinned (.plain (OpenSpec.upto fnExactLeastHoldSpec)) fnExactLeastHoldUptoCard

/-- THE SECOND FORM's CARD OF 'laws.FnExactHoldsNeeded'. -/
def fnExactHoldsNeededUptoCard : Claim7 := { stood := { row := fnExactHoldsNeededUptoRow, standIns := [], harness := (true, "1565f56f179700d860a842544357ff128acb76590f93084a720be468235b989a"), looks := false }, kinds := [], alts := [], laidByText := true, laidKinds := [.data, .pinned], laidTests := true, laidLooks := .later }
def FnExactHoldsNeededUptoCardSaid : Prop := Claim7.holds Tryd.pinned (.plain (OpenSpec.upto fnExactHoldsNeededSpec)) fnExactHoldsNeededUptoCard

/-- THE SECOND FORM's CARD OF 'laws.FnExactHeldPoints'. -/
def fnExactHeldPointsUptoCard : Claim7 := { stood := { row := fnExactHeldPointsUptoRow, standIns := [], harness := (true, "1565f56f179700d860a842544357ff128acb76590f93084a720be468235b989a"), looks := false }, kinds := [], alts := [], laidByText := true, laidKinds := [.data, .pinned], laidTests := true, laidLooks := .later }
def FnExactHeldPointsUptoCardSaid : Prop := Claim7.holds Tryd.pinned (.plain (OpenSpec.upto fnExactHeldPointsSpec)) fnExactHeldPointsUptoCard

/-- THE SECOND FORM's CARD OF 'laws.FnExactEasiestPoint'. -/
def fnExactEasiestPointUptoCard : Claim7 := { stood := { row := fnExactEasiestPointUptoRow, standIns := [], harness := (true, "1565f56f179700d860a842544357ff128acb76590f93084a720be468235b989a"), looks := false }, kinds := [], alts := [], laidByText := true, laidKinds := [.data, .pinned], laidTests := true, laidLooks := .later }
def FnExactEasiestPointUptoCardSaid : Prop := Claim7.holds Tryd.pinned (.plain (OpenSpec.upto fnExactEasiestPointSpec)) fnExactEasiestPointUptoCard
end Rows
end Go.Proofs.YthgjmciiaikgoaaDoor
