/-
  DERIVED. GIVEN WITH THE SEED: THE CARDS: each row of YtjkgcgbialiipaaDoorRows.lean that lists a variable, with what it lists TIED to the program's text (the seventh form; the later family's looks); each row that meets fmt, with fmt's text TOLD by the authors' own Lean function (tested against real Go, not proved from fmt's source: count such statements apart). THE CARD IS WHAT COUNTS. Prove the row's statement (the work); the ties are given (YtjkgcgbialiipaaDoorTie.lean); close each card by the builder's one call (the guide's Derived/Test/ToyasCard.lean, 'card_holds'). Laid BY PROGRAM, IN A SANDBOX (cutbox-door.mjs). By AI agents, Wed Nov 11 2026. No macro, syntax, notation, axiom, sorry.
-/
import Derived.Test.YtjkgcgbialiipaaDoorRows
import GoSem.ClaimSeven
namespace Go.Proofs.YtjkgcgbialiipaaDoor
namespace Rows

/-- THE TIED CARD OF 'laws.FnStepBlocks'. -/
def fnStepBlocksCard : Claim7 := { stood := { row := fnStepBlocksRow, standIns := [], harness := (true, "3e5782e31bf9531a91bba568ab9d6689e8e5cb7989f2c5aac27f0946cf6d27b6"), looks := false }, kinds := [], alts := [], laidByText := true, laidKinds := [.data, .pinned], laidTests := true, laidLooks := .later }
def FnStepBlocksCardSaid : Prop := Claim7.holds Tryd.pinned (.plain (OpenSpec.ofChange fnStepBlocksSpec)) fnStepBlocksCard

/-- THE TIED CARD OF 'laws.FnSeeSteps'. -/
def fnSeeStepsCard : Claim7 := { stood := { row := fnSeeStepsRow, standIns := [], harness := (true, "3e5782e31bf9531a91bba568ab9d6689e8e5cb7989f2c5aac27f0946cf6d27b6"), looks := false }, kinds := [], alts := [], laidByText := true, laidKinds := [.data, .pinned], laidTests := true, laidLooks := .later }
def FnSeeStepsCardSaid : Prop := Claim7.holds Tryd.pinned (.plain (OpenSpec.ofChange fnSeeStepsSpec)) fnSeeStepsCard

/-- THE TIED CARD OF 'laws.FnAllSeen'. -/
def fnAllSeenCard : Claim7 := { stood := { row := fnAllSeenRow, standIns := [], harness := (true, "3e5782e31bf9531a91bba568ab9d6689e8e5cb7989f2c5aac27f0946cf6d27b6"), looks := false }, kinds := [], alts := [], laidByText := true, laidKinds := [.data, .pinned], laidTests := true, laidLooks := .later }
def FnAllSeenCardSaid : Prop := Claim7.holds Tryd.pinned (.plain (OpenSpec.ofChange fnAllSeenSpec)) fnAllSeenCard

/-- THE TIED CARD OF 'laws.FnSameSchedule'. -/
def fnSameScheduleCard : Claim7 := { stood := { row := fnSameScheduleRow, standIns := [], harness := (true, "3e5782e31bf9531a91bba568ab9d6689e8e5cb7989f2c5aac27f0946cf6d27b6"), looks := false }, kinds := [], alts := [], laidByText := true, laidKinds := [.data, .pinned], laidTests := true, laidLooks := .later }
def FnSameScheduleCardSaid : Prop := Claim7.holds Tryd.pinned (.plain (OpenSpec.ofChange fnSameScheduleSpec)) fnSameScheduleCard

/-- THE TIED CARD OF 'laws.FnBlocksPoints'. -/
def fnBlocksPointsCard : Claim7 := { stood := { row := fnBlocksPointsRow, standIns := [], harness := (true, "3e5782e31bf9531a91bba568ab9d6689e8e5cb7989f2c5aac27f0946cf6d27b6"), looks := false }, kinds := [], alts := [], laidByText := true, laidKinds := [.data, .pinned], laidTests := true, laidLooks := .later }
def FnBlocksPointsCardSaid : Prop := Claim7.holds Tryd.pinned (.plain (OpenSpec.ofChange fnBlocksPointsSpec)) fnBlocksPointsCard

/-- THE TIED CARD OF 'laws.FnJoinBlocks'. -/
def fnJoinBlocksCard : Claim7 := { stood := { row := fnJoinBlocksRow, standIns := [], harness := (true, "3e5782e31bf9531a91bba568ab9d6689e8e5cb7989f2c5aac27f0946cf6d27b6"), looks := false }, kinds := [], alts := [], laidByText := true, laidKinds := [.data, .pinned], laidTests := true, laidLooks := .later }
def FnJoinBlocksCardSaid : Prop := Claim7.holds Tryd.pinned (.plain (OpenSpec.ofChange fnJoinBlocksSpec)) fnJoinBlocksCard

/-- THE TIED CARD OF 'laws.FnFlowBlocks'. -/
def fnFlowBlocksCard : Claim7 := { stood := { row := fnFlowBlocksRow, standIns := [], harness := (true, "3e5782e31bf9531a91bba568ab9d6689e8e5cb7989f2c5aac27f0946cf6d27b6"), looks := false }, kinds := [], alts := [], laidByText := true, laidKinds := [.data, .pinned], laidTests := true, laidLooks := .later }
def FnFlowBlocksCardSaid : Prop := Claim7.holds Tryd.pinned (.plain (OpenSpec.ofChange fnFlowBlocksSpec)) fnFlowBlocksCard

/-- THE TIED CARD OF 'laws.FnLearn'. -/
def fnLearnCard : Claim7 := { stood := { row := fnLearnRow, standIns := [], harness := (true, "3e5782e31bf9531a91bba568ab9d6689e8e5cb7989f2c5aac27f0946cf6d27b6"), looks := false }, kinds := [], alts := [], laidByText := true, laidKinds := [.data, .pinned], laidTests := true, laidLooks := .later }
def FnLearnCardSaid : Prop := Claim7.holds Tryd.pinned (.plain (OpenSpec.ofChange fnLearnSpec)) fnLearnCard

/-- THE TIED CARD OF 'laws.FnHeldPoints'. -/
def fnHeldPointsCard : Claim7 := { stood := { row := fnHeldPointsRow, standIns := [], harness := (true, "3e5782e31bf9531a91bba568ab9d6689e8e5cb7989f2c5aac27f0946cf6d27b6"), looks := false }, kinds := [], alts := [], laidByText := true, laidKinds := [.data, .pinned], laidTests := true, laidLooks := .later }
def FnHeldPointsCardSaid : Prop := Claim7.holds Tryd.pinned (.plain (OpenSpec.ofChange fnHeldPointsSpec)) fnHeldPointsCard

/-- THE TIED CARD OF 'laws.FnHoldSwitches'. -/
def fnHoldSwitchesCard : Claim7 := { stood := { row := fnHoldSwitchesRow, standIns := [], harness := (true, "3e5782e31bf9531a91bba568ab9d6689e8e5cb7989f2c5aac27f0946cf6d27b6"), looks := false }, kinds := [], alts := [], laidByText := true, laidKinds := [.data, .pinned], laidTests := true, laidLooks := .later }
def FnHoldSwitchesCardSaid : Prop := Claim7.holds Tryd.pinned (.plain (OpenSpec.ofChange fnHoldSwitchesSpec)) fnHoldSwitchesCard

/-- THE TIED CARD OF 'laws.FnLeastHold'. -/
def fnLeastHoldCard : Claim7 := { stood := { row := fnLeastHoldRow, standIns := [], harness := (true, "3e5782e31bf9531a91bba568ab9d6689e8e5cb7989f2c5aac27f0946cf6d27b6"), looks := false }, kinds := [], alts := [], laidByText := true, laidKinds := [.data, .pinned], laidTests := true, laidLooks := .later }
def FnLeastHoldCardSaid : Prop := Claim7.holds Tryd.pinned (.plain (OpenSpec.ofChange fnLeastHoldSpec)) fnLeastHoldCard

/-- THE TIED CARD OF 'laws.FnEasiest'. -/
def fnEasiestCard : Claim7 := { stood := { row := fnEasiestRow, standIns := [], harness := (true, "3e5782e31bf9531a91bba568ab9d6689e8e5cb7989f2c5aac27f0946cf6d27b6"), looks := false }, kinds := [], alts := [], laidByText := true, laidKinds := [.data, .pinned], laidTests := true, laidLooks := .later }
def FnEasiestCardSaid : Prop := Claim7.holds Tryd.pinned (.plain (OpenSpec.ofChange fnEasiestSpec)) fnEasiestCard

/-- THE SECOND FORM's CARD OF 'laws.FnStepBlocks'. -/
def fnStepBlocksUptoCard : Claim7 := { stood := { row := fnStepBlocksUptoRow, standIns := [], harness := (true, "3e5782e31bf9531a91bba568ab9d6689e8e5cb7989f2c5aac27f0946cf6d27b6"), looks := false }, kinds := [], alts := [], laidByText := true, laidKinds := [.data, .pinned], laidTests := true, laidLooks := .later }
def FnStepBlocksUptoCardSaid : Prop := Claim7.holds Tryd.pinned (.plain (OpenSpec.upto fnStepBlocksSpec)) fnStepBlocksUptoCard

/-- THE SECOND FORM's CARD OF 'laws.FnSeeSteps'. -/
def fnSeeStepsUptoCard : Claim7 := { stood := { row := fnSeeStepsUptoRow, standIns := [], harness := (true, "3e5782e31bf9531a91bba568ab9d6689e8e5cb7989f2c5aac27f0946cf6d27b6"), looks := false }, kinds := [], alts := [], laidByText := true, laidKinds := [.data, .pinned], laidTests := true, laidLooks := .later }
def FnSeeStepsUptoCardSaid : Prop := Claim7.holds Tryd.pinned (.plain (OpenSpec.upto fnSeeStepsSpec)) fnSeeStepsUptoCard

/-- THE SECOND FORM's CARD OF 'laws.FnAllSeen'. -/
def fnAllSeenUptoCard : Claim7 := { stood := { row := fnAllSeenUptoRow, standIns := [], harness := (true, "3e5782e31bf9531a91bba568ab9d6689e8e5cb7989f2c5aac27f0946cf6d27b6"), looks := false }, kinds := [], alts := [], laidByText := true, laidKinds := [.data, .pinned], laidTests := true, laidLooks := .later }
def FnAllSeenUptoCardSaid : Prop := Claim7.holds Tryd.pinned (.plain (OpenSpec.upto fnAllSeenSpec)) fnAllSeenUptoCard

/-- THE SECOND FORM's CARD OF 'laws.FnSameSchedule'. -/
def fnSameScheduleUptoCard : Claim7 := { stood := { row := fnSameScheduleUptoRow, standIns := [], harness := (true, "3e5782e31bf9531a91bba568ab9d6689e8e5cb7989f2c5aac27f0946cf6d27b6"), looks := false }, kinds := [], alts := [], laidByText := true, laidKinds := [.data, .pinned], laidTests := true, laidLooks := .later }
def FnSameScheduleUptoCardSaid : Prop := Claim7.holds Tryd.pinned (.plain (OpenSpec.upto fnSameScheduleSpec)) fnSameScheduleUptoCard

/-- THE SECOND FORM's CARD OF 'laws.FnBlocksPoints'. -/
def fnBlocksPointsUptoCard : Claim7 := { stood := { row := fnBlocksPointsUptoRow, standIns := [], harness := (true, "3e5782e31bf9531a91bba568ab9d6689e8e5cb7989f2c5aac27f0946cf6d27b6"), looks := false }, kinds := [], alts := [], laidByText := true, laidKinds := [.data, .pinned], laidTests := true, laidLooks := .later }
def FnBlocksPointsUptoCardSaid : Prop := Claim7.holds Tryd.pinned (.plain (OpenSpec.upto fnBlocksPointsSpec)) fnBlocksPointsUptoCard

/-- THE SECOND FORM's CARD OF 'laws.FnJoinBlocks'. -/
def fnJoinBlocksUptoCard : Claim7 := { stood := { row := fnJoinBlocksUptoRow, standIns := [], harness := (true, "3e5782e31bf9531a91bba568ab9d6689e8e5cb7989f2c5aac27f0946cf6d27b6"), looks := false }, kinds := [], alts := [], laidByText := true, laidKinds := [.data, .pinned], laidTests := true, laidLooks := .later }
def FnJoinBlocksUptoCardSaid : Prop := Claim7.holds Tryd.pinned (.plain (OpenSpec.upto fnJoinBlocksSpec)) fnJoinBlocksUptoCard

/-- THE SECOND FORM's CARD OF 'laws.FnFlowBlocks'. -/
def fnFlowBlocksUptoCard : Claim7 := { stood := { row := fnFlowBlocksUptoRow, standIns := [], harness := (true, "3e5782e31bf9531a91bba568ab9d6689e8e5cb7989f2c5aac27f0946cf6d27b6"), looks := false }, kinds := [], alts := [], laidByText := true, laidKinds := [.data, .pinned], laidTests := true, laidLooks := .later }
def FnFlowBlocksUptoCardSaid : Prop := Claim7.holds Tryd.pinned (.plain (OpenSpec.upto fnFlowBlocksSpec)) fnFlowBlocksUptoCard

/-- THE SECOND FORM's CARD OF 'laws.FnLearn'. -/
def fnLearnUptoCard : Claim7 := { stood := { row := fnLearnUptoRow, standIns := [], harness := (true, "3e5782e31bf9531a91bba568ab9d6689e8e5cb7989f2c5aac27f0946cf6d27b6"), looks := false }, kinds := [], alts := [], laidByText := true, laidKinds := [.data, .pinned], laidTests := true, laidLooks := .later }
def FnLearnUptoCardSaid : Prop := Claim7.holds Tryd.pinned (.plain (OpenSpec.upto fnLearnSpec)) fnLearnUptoCard

/-- THE SECOND FORM's CARD OF 'laws.FnHeldPoints'. -/
def fnHeldPointsUptoCard : Claim7 := { stood := { row := fnHeldPointsUptoRow, standIns := [], harness := (true, "3e5782e31bf9531a91bba568ab9d6689e8e5cb7989f2c5aac27f0946cf6d27b6"), looks := false }, kinds := [], alts := [], laidByText := true, laidKinds := [.data, .pinned], laidTests := true, laidLooks := .later }
def FnHeldPointsUptoCardSaid : Prop := Claim7.holds Tryd.pinned (.plain (OpenSpec.upto fnHeldPointsSpec)) fnHeldPointsUptoCard

/-- THE SECOND FORM's CARD OF 'laws.FnHoldSwitches'. -/
def fnHoldSwitchesUptoCard : Claim7 := { stood := { row := fnHoldSwitchesUptoRow, standIns := [], harness := (true, "3e5782e31bf9531a91bba568ab9d6689e8e5cb7989f2c5aac27f0946cf6d27b6"), looks := false }, kinds := [], alts := [], laidByText := true, laidKinds := [.data, .pinned], laidTests := true, laidLooks := .later }
def FnHoldSwitchesUptoCardSaid : Prop := Claim7.holds Tryd.pinned (.plain (OpenSpec.upto fnHoldSwitchesSpec)) fnHoldSwitchesUptoCard

/-- THE SECOND FORM's CARD OF 'laws.FnLeastHold'. -/
def fnLeastHoldUptoCard : Claim7 := { stood := { row := fnLeastHoldUptoRow, standIns := [], harness := (true, "3e5782e31bf9531a91bba568ab9d6689e8e5cb7989f2c5aac27f0946cf6d27b6"), looks := false }, kinds := [], alts := [], laidByText := true, laidKinds := [.data, .pinned], laidTests := true, laidLooks := .later }
def FnLeastHoldUptoCardSaid : Prop := Claim7.holds Tryd.pinned (.plain (OpenSpec.upto fnLeastHoldSpec)) fnLeastHoldUptoCard

/-- THE SECOND FORM's CARD OF 'laws.FnEasiest'. -/
def fnEasiestUptoCard : Claim7 := { stood := { row := fnEasiestUptoRow, standIns := [], harness := (true, "3e5782e31bf9531a91bba568ab9d6689e8e5cb7989f2c5aac27f0946cf6d27b6"), looks := false }, kinds := [], alts := [], laidByText := true, laidKinds := [.data, .pinned], laidTests := true, laidLooks := .later }
def FnEasiestUptoCardSaid : Prop := Claim7.holds Tryd.pinned (.plain (OpenSpec.upto fnEasiestSpec)) fnEasiestUptoCard
end Rows
end Go.Proofs.YtjkgcgbialiipaaDoor
