/-
  NARROWER THAN 'FOR EVERY INPUT', by the rows' own cells (each row's printed sentence says how): FnExactStepBlocks: laid · FnExactCanJoin: laid · FnExactSeeSteps: laid · FnExactForcesState: laid · FnExactHoldSwitches: laid · FnExactNetworkOfBlocks: laid · FnExactSameSchedule: laid · FnExactFlowBlocks: laid · FnExactLeastHold: laid · FnExactHoldsNeeded: laid · FnExactHeldPoints: laid · FnExactEasiestPoint: laid.
  DERIVED. THE GIVEN ROWS OF THIS SEAT. 12 by the template 'for every input the law returns true; each argument reads behind the call as it read before'; 0 by the template 'total and deterministic' (their statements: YthgjmciiaikgoaaDoorTotals.lean).
  GIVEN WITH THE SEED: the statements are not yours to turn. If you find one false, say at which input.
  Laid BY PROGRAM, IN A SANDBOX (cutbox-rows.mjs): the forced cells as the released guide's own fill.sh prints them over the translation a4af7a1d05483c9d… (all of the seat's roots in one cut). By AI agents, Wed Nov 11 2026. No macro, syntax, notation, axiom, sorry.
-/
import Derived.Test.YthgjmciiaikgoaaDoorChecked
import GoSem.PinnedTables
import GoSem.Claim
import GoSem.ClaimJoined
import GoSem.ClaimMapViews
import Derived.JoinedTies
import Derived.KernelRfl
namespace Go.Proofs.YthgjmciiaikgoaaDoor
/- THE CELL 'sum', in the pinned program and in every row, IS THE sha256 OF THE DUMP (.gsa) THAT YthgjmciiaikgoaaDoorProg.lean LOADS. Nothing in Lean hashes anything: it is a label: what it is worth is what the hold of that sum in a sandbox is worth. -/
noncomputable def Tryd.pinned : Pinned := { name := "ythgjmciiaikgoaadoor", sum := "a4af7a1d05483c9d8a349b996048f40dc469b872021b77eea5377a96203d90eb", checked := Tryd.checked }
namespace Rows
def none {H : Type} : Left H := { results := [], args := [] }

/- WHAT THE LISTED PACKAGE-LEVEL VARIABLES READ AS WHEN THE CALL BEGINS. Each datum BY PROGRAM (the guide's laid-datum.mjs) off the statement by which the dump's own 'gosem.cut.vars' lays the variable. In a bare row this is a premise. The card (YthgjmciiaikgoaaDoorCards.lean) ties it to the program's text. -/
def laid_unicode_utf8_acceptRanges {H : Type} : DataW H := .agg [.agg [.lit (.int .u8 128), .lit (.int .u8 191)], .agg [.lit (.int .u8 160), .lit (.int .u8 191)], .agg [.lit (.int .u8 128), .lit (.int .u8 159)], .agg [.lit (.int .u8 144), .lit (.int .u8 191)], .agg [.lit (.int .u8 128), .lit (.int .u8 143)], .agg [.lit (.int .u8 0), .lit (.int .u8 0)], .agg [.lit (.int .u8 0), .lit (.int .u8 0)], .agg [.lit (.int .u8 0), .lit (.int .u8 0)], .agg [.lit (.int .u8 0), .lit (.int .u8 0)], .agg [.lit (.int .u8 0), .lit (.int .u8 0)], .agg [.lit (.int .u8 0), .lit (.int .u8 0)], .agg [.lit (.int .u8 0), .lit (.int .u8 0)], .agg [.lit (.int .u8 0), .lit (.int .u8 0)], .agg [.lit (.int .u8 0), .lit (.int .u8 0)], .agg [.lit (.int .u8 0), .lit (.int .u8 0)], .agg [.lit (.int .u8 0), .lit (.int .u8 0)]]
/-- One of Go's own tables, pinned by name: the form's constant. -/
def laid_unicode_utf8_first : DataW Unit := Go.Pinned.utf8First

/-- 'laws.FnExactStepBlocks': WHATEVER THE INPUT: true; the input reads as it did. -/
def fnExactStepBlocksSpec : ChangeSpec := { name := "fnExactStepBlocks", fn := fun _ => fun
  | [d1, d2, d3] => { results := [.lit (.bool true)], args := [d1, d2, d3] }
  | _ => none }
def fnExactStepBlocksRow : OpenClaim := { program := "ythgjmciiaikgoaadoor", sum := "a4af7a1d05483c9d8a349b996048f40dc469b872021b77eea5377a96203d90eb", func := "loop.example/switchnetworks/laws.FnExactStepBlocks", spec := "fnExactStepBlocks", inPlace := ["internal/bytealg.CountString", "internal/bytealg.IndexByteString", "internal/bytealg.IndexString"], unfollowed := true, recurses := true, named := ["unicode/utf8.first", "unicode/utf8.acceptRanges", "internal/bytealg.MaxLen"], apart := false, laid := [("unicode/utf8.acceptRanges", laid_unicode_utf8_acceptRanges), ("unicode/utf8.first", laid_unicode_utf8_first)] }
def FnExactStepBlocksSaid : Prop := fnExactStepBlocksRow.holds Tryd.pinned (OpenSpec.ofChange fnExactStepBlocksSpec)

/-- ITS FALSE NEIGHBOUR: 'it returns false'. Refute it at one input. -/
def fnExactStepBlocksWrong : ChangeSpec := { name := "fnExactStepBlocks", fn := fun _ => fun
  | [d1, d2, d3] => { results := [.lit (.bool false)], args := [d1, d2, d3] }
  | _ => none }
def FnExactStepBlocksWrongFalsely : Prop := fnExactStepBlocksRow.holds Tryd.pinned (OpenSpec.ofChange fnExactStepBlocksWrong)

/-- 'laws.FnExactCanJoin': WHATEVER THE INPUT: true; the input reads as it did. -/
def fnExactCanJoinSpec : ChangeSpec := { name := "fnExactCanJoin", fn := fun _ => fun
  | [d1, d2, d3] => { results := [.lit (.bool true)], args := [d1, d2, d3] }
  | _ => none }
def fnExactCanJoinRow : OpenClaim := { program := "ythgjmciiaikgoaadoor", sum := "a4af7a1d05483c9d8a349b996048f40dc469b872021b77eea5377a96203d90eb", func := "loop.example/switchnetworks/laws.FnExactCanJoin", spec := "fnExactCanJoin", inPlace := ["internal/bytealg.CountString", "internal/bytealg.IndexByteString", "internal/bytealg.IndexString"], unfollowed := true, recurses := true, named := ["unicode/utf8.first", "unicode/utf8.acceptRanges", "internal/bytealg.MaxLen"], apart := false, laid := [("unicode/utf8.acceptRanges", laid_unicode_utf8_acceptRanges), ("unicode/utf8.first", laid_unicode_utf8_first)] }
def FnExactCanJoinSaid : Prop := fnExactCanJoinRow.holds Tryd.pinned (OpenSpec.ofChange fnExactCanJoinSpec)

/-- ITS FALSE NEIGHBOUR: 'it returns false'. Refute it at one input. -/
def fnExactCanJoinWrong : ChangeSpec := { name := "fnExactCanJoin", fn := fun _ => fun
  | [d1, d2, d3] => { results := [.lit (.bool false)], args := [d1, d2, d3] }
  | _ => none }
def FnExactCanJoinWrongFalsely : Prop := fnExactCanJoinRow.holds Tryd.pinned (OpenSpec.ofChange fnExactCanJoinWrong)

/-- 'laws.FnExactSeeSteps': WHATEVER THE INPUT: true; the input reads as it did. -/
def fnExactSeeStepsSpec : ChangeSpec := { name := "fnExactSeeSteps", fn := fun _ => fun
  | [d1, d2] => { results := [.lit (.bool true)], args := [d1, d2] }
  | _ => none }
def fnExactSeeStepsRow : OpenClaim := { program := "ythgjmciiaikgoaadoor", sum := "a4af7a1d05483c9d8a349b996048f40dc469b872021b77eea5377a96203d90eb", func := "loop.example/switchnetworks/laws.FnExactSeeSteps", spec := "fnExactSeeSteps", inPlace := ["internal/bytealg.CountString", "internal/bytealg.IndexByteString", "internal/bytealg.IndexString"], unfollowed := true, recurses := true, named := ["unicode/utf8.first", "unicode/utf8.acceptRanges", "internal/bytealg.MaxLen"], apart := false, laid := [("unicode/utf8.acceptRanges", laid_unicode_utf8_acceptRanges), ("unicode/utf8.first", laid_unicode_utf8_first)] }
def FnExactSeeStepsSaid : Prop := fnExactSeeStepsRow.holds Tryd.pinned (OpenSpec.ofChange fnExactSeeStepsSpec)

/-- ITS FALSE NEIGHBOUR: 'it returns false'. Refute it at one input. -/
def fnExactSeeStepsWrong : ChangeSpec := { name := "fnExactSeeSteps", fn := fun _ => fun
  | [d1, d2] => { results := [.lit (.bool false)], args := [d1, d2] }
  | _ => none }
def FnExactSeeStepsWrongFalsely : Prop := fnExactSeeStepsRow.holds Tryd.pinned (OpenSpec.ofChange fnExactSeeStepsWrong)

/-- 'laws.FnExactForcesState': WHATEVER THE INPUT: true; the input reads as it did. -/
def fnExactForcesStateSpec : ChangeSpec := { name := "fnExactForcesState", fn := fun _ => fun
  | [d1, d2, d3] => { results := [.lit (.bool true)], args := [d1, d2, d3] }
  | _ => none }
def fnExactForcesStateRow : OpenClaim := { program := "ythgjmciiaikgoaadoor", sum := "a4af7a1d05483c9d8a349b996048f40dc469b872021b77eea5377a96203d90eb", func := "loop.example/switchnetworks/laws.FnExactForcesState", spec := "fnExactForcesState", inPlace := ["internal/bytealg.CountString", "internal/bytealg.IndexByteString", "internal/bytealg.IndexString"], unfollowed := true, recurses := true, named := ["unicode/utf8.first", "unicode/utf8.acceptRanges", "internal/bytealg.MaxLen"], apart := false, laid := [("unicode/utf8.acceptRanges", laid_unicode_utf8_acceptRanges), ("unicode/utf8.first", laid_unicode_utf8_first)] }
def FnExactForcesStateSaid : Prop := fnExactForcesStateRow.holds Tryd.pinned (OpenSpec.ofChange fnExactForcesStateSpec)

/-- ITS FALSE NEIGHBOUR: 'it returns false'. Refute it at one input. -/
def fnExactForcesStateWrong : ChangeSpec := { name := "fnExactForcesState", fn := fun _ => fun
  | [d1, d2, d3] => { results := [.lit (.bool false)], args := [d1, d2, d3] }
  | _ => none }
def FnExactForcesStateWrongFalsely : Prop := fnExactForcesStateRow.holds Tryd.pinned (OpenSpec.ofChange fnExactForcesStateWrong)

/-- 'laws.FnExactHoldSwitches': WHATEVER THE INPUT: true; the input reads as it did. -/
def fnExactHoldSwitchesSpec : ChangeSpec := { name := "fnExactHoldSwitches", fn := fun _ => fun
  | [d1, d2] => { results := [.lit (.bool true)], args := [d1, d2] }
  | _ => none }
def fnExactHoldSwitchesRow : OpenClaim := { program := "ythgjmciiaikgoaadoor", sum := "a4af7a1d05483c9d8a349b996048f40dc469b872021b77eea5377a96203d90eb", func := "loop.example/switchnetworks/laws.FnExactHoldSwitches", spec := "fnExactHoldSwitches", inPlace := ["internal/bytealg.CountString", "internal/bytealg.IndexByteString", "internal/bytealg.IndexString", "internal/abi.NoEscape", "internal/bytealg.MakeNoZero"], unfollowed := true, recurses := true, named := ["unicode/utf8.first", "unicode/utf8.acceptRanges", "internal/bytealg.MaxLen"], apart := false, laid := [("unicode/utf8.acceptRanges", laid_unicode_utf8_acceptRanges), ("unicode/utf8.first", laid_unicode_utf8_first)] }
def FnExactHoldSwitchesSaid : Prop := fnExactHoldSwitchesRow.holds Tryd.pinned (OpenSpec.ofChange fnExactHoldSwitchesSpec)

/-- ITS FALSE NEIGHBOUR: 'it returns false'. Refute it at one input. -/
def fnExactHoldSwitchesWrong : ChangeSpec := { name := "fnExactHoldSwitches", fn := fun _ => fun
  | [d1, d2] => { results := [.lit (.bool false)], args := [d1, d2] }
  | _ => none }
def FnExactHoldSwitchesWrongFalsely : Prop := fnExactHoldSwitchesRow.holds Tryd.pinned (OpenSpec.ofChange fnExactHoldSwitchesWrong)

/-- 'laws.FnExactNetworkOfBlocks': WHATEVER THE INPUT: true; the input reads as it did. -/
def fnExactNetworkOfBlocksSpec : ChangeSpec := { name := "fnExactNetworkOfBlocks", fn := fun _ => fun
  | [d1, d2] => { results := [.lit (.bool true)], args := [d1, d2] }
  | _ => none }
def fnExactNetworkOfBlocksRow : OpenClaim := { program := "ythgjmciiaikgoaadoor", sum := "a4af7a1d05483c9d8a349b996048f40dc469b872021b77eea5377a96203d90eb", func := "loop.example/switchnetworks/laws.FnExactNetworkOfBlocks", spec := "fnExactNetworkOfBlocks", inPlace := ["internal/bytealg.CountString", "internal/bytealg.IndexByteString", "internal/bytealg.IndexString", "internal/abi.NoEscape", "internal/bytealg.MakeNoZero"], unfollowed := true, recurses := true, named := ["unicode/utf8.first", "unicode/utf8.acceptRanges", "internal/bytealg.MaxLen"], apart := false, laid := [("unicode/utf8.acceptRanges", laid_unicode_utf8_acceptRanges), ("unicode/utf8.first", laid_unicode_utf8_first)] }
def FnExactNetworkOfBlocksSaid : Prop := fnExactNetworkOfBlocksRow.holds Tryd.pinned (OpenSpec.ofChange fnExactNetworkOfBlocksSpec)

/-- ITS FALSE NEIGHBOUR: 'it returns false'. Refute it at one input. -/
def fnExactNetworkOfBlocksWrong : ChangeSpec := { name := "fnExactNetworkOfBlocks", fn := fun _ => fun
  | [d1, d2] => { results := [.lit (.bool false)], args := [d1, d2] }
  | _ => none }
def FnExactNetworkOfBlocksWrongFalsely : Prop := fnExactNetworkOfBlocksRow.holds Tryd.pinned (OpenSpec.ofChange fnExactNetworkOfBlocksWrong)

/-- 'laws.FnExactSameSchedule': WHATEVER THE INPUT: true; the input reads as it did. -/
def fnExactSameScheduleSpec : ChangeSpec := { name := "fnExactSameSchedule", fn := fun _ => fun
  | [d1, d2, d3] => { results := [.lit (.bool true)], args := [d1, d2, d3] }
  | _ => none }
def fnExactSameScheduleRow : OpenClaim := { program := "ythgjmciiaikgoaadoor", sum := "a4af7a1d05483c9d8a349b996048f40dc469b872021b77eea5377a96203d90eb", func := "loop.example/switchnetworks/laws.FnExactSameSchedule", spec := "fnExactSameSchedule", inPlace := ["internal/bytealg.CountString", "internal/bytealg.IndexByteString", "internal/bytealg.IndexString", "internal/abi.NoEscape", "internal/bytealg.MakeNoZero"], unfollowed := true, recurses := true, named := ["unicode/utf8.first", "unicode/utf8.acceptRanges", "internal/bytealg.MaxLen"], apart := false, laid := [("unicode/utf8.acceptRanges", laid_unicode_utf8_acceptRanges), ("unicode/utf8.first", laid_unicode_utf8_first)] }
def FnExactSameScheduleSaid : Prop := fnExactSameScheduleRow.holds Tryd.pinned (OpenSpec.ofChange fnExactSameScheduleSpec)

/-- ITS FALSE NEIGHBOUR: 'it returns false'. Refute it at one input. -/
def fnExactSameScheduleWrong : ChangeSpec := { name := "fnExactSameSchedule", fn := fun _ => fun
  | [d1, d2, d3] => { results := [.lit (.bool false)], args := [d1, d2, d3] }
  | _ => none }
def FnExactSameScheduleWrongFalsely : Prop := fnExactSameScheduleRow.holds Tryd.pinned (OpenSpec.ofChange fnExactSameScheduleWrong)

/-- 'laws.FnExactFlowBlocks': WHATEVER THE INPUT: true; the input reads as it did. -/
def fnExactFlowBlocksSpec : ChangeSpec := { name := "fnExactFlowBlocks", fn := fun _ => fun
  | [d] => { results := [.lit (.bool true)], args := [d] }
  | _ => none }
def fnExactFlowBlocksRow : OpenClaim := { program := "ythgjmciiaikgoaadoor", sum := "a4af7a1d05483c9d8a349b996048f40dc469b872021b77eea5377a96203d90eb", func := "loop.example/switchnetworks/laws.FnExactFlowBlocks", spec := "fnExactFlowBlocks", inPlace := ["internal/bytealg.CountString", "internal/bytealg.IndexByteString", "internal/bytealg.IndexString"], unfollowed := true, recurses := true, named := ["unicode/utf8.first", "unicode/utf8.acceptRanges", "internal/bytealg.MaxLen"], apart := false, laid := [("unicode/utf8.acceptRanges", laid_unicode_utf8_acceptRanges), ("unicode/utf8.first", laid_unicode_utf8_first)] }
def FnExactFlowBlocksSaid : Prop := fnExactFlowBlocksRow.holds Tryd.pinned (OpenSpec.ofChange fnExactFlowBlocksSpec)

/-- ITS FALSE NEIGHBOUR: 'it returns false'. Refute it at one input. -/
def fnExactFlowBlocksWrong : ChangeSpec := { name := "fnExactFlowBlocks", fn := fun _ => fun
  | [d] => { results := [.lit (.bool false)], args := [d] }
  | _ => none }
def FnExactFlowBlocksWrongFalsely : Prop := fnExactFlowBlocksRow.holds Tryd.pinned (OpenSpec.ofChange fnExactFlowBlocksWrong)

/-- 'laws.FnExactLeastHold': WHATEVER THE INPUT: true; the input reads as it did. -/
def fnExactLeastHoldSpec : ChangeSpec := { name := "fnExactLeastHold", fn := fun _ => fun
  | [d1, d2] => { results := [.lit (.bool true)], args := [d1, d2] }
  | _ => none }
def fnExactLeastHoldRow : OpenClaim := { program := "ythgjmciiaikgoaadoor", sum := "a4af7a1d05483c9d8a349b996048f40dc469b872021b77eea5377a96203d90eb", func := "loop.example/switchnetworks/laws.FnExactLeastHold", spec := "fnExactLeastHold", inPlace := ["internal/bytealg.CountString", "internal/bytealg.IndexByteString", "internal/bytealg.IndexString"], unfollowed := true, recurses := true, named := ["unicode/utf8.first", "unicode/utf8.acceptRanges", "internal/bytealg.MaxLen"], apart := false, laid := [("unicode/utf8.acceptRanges", laid_unicode_utf8_acceptRanges), ("unicode/utf8.first", laid_unicode_utf8_first)] }
def FnExactLeastHoldSaid : Prop := fnExactLeastHoldRow.holds Tryd.pinned (OpenSpec.ofChange fnExactLeastHoldSpec)

/-- ITS FALSE NEIGHBOUR: 'it returns false'. Refute it at one input. -/
def fnExactLeastHoldWrong : ChangeSpec := { name := "fnExactLeastHold", fn := fun _ => fun
  | [d1, d2] => { results := [.lit (.bool false)], args := [d1, d2] }
  | _ => none }
def FnExactLeastHoldWrongFalsely : Prop := fnExactLeastHoldRow.holds Tryd.pinned (OpenSpec.ofChange fnExactLeastHoldWrong)

/-- 'laws.FnExactHoldsNeeded': WHATEVER THE INPUT: true; the input reads as it did. -/
def fnExactHoldsNeededSpec : ChangeSpec := { name := "fnExactHoldsNeeded", fn := fun _ => fun
  | [d1, d2] => { results := [.lit (.bool true)], args := [d1, d2] }
  | _ => none }
def fnExactHoldsNeededRow : OpenClaim := { program := "ythgjmciiaikgoaadoor", sum := "a4af7a1d05483c9d8a349b996048f40dc469b872021b77eea5377a96203d90eb", func := "loop.example/switchnetworks/laws.FnExactHoldsNeeded", spec := "fnExactHoldsNeeded", inPlace := ["internal/bytealg.CountString", "internal/bytealg.IndexByteString", "internal/bytealg.IndexString"], unfollowed := true, recurses := true, named := ["unicode/utf8.first", "unicode/utf8.acceptRanges", "internal/bytealg.MaxLen"], apart := false, laid := [("unicode/utf8.acceptRanges", laid_unicode_utf8_acceptRanges), ("unicode/utf8.first", laid_unicode_utf8_first)] }
def FnExactHoldsNeededSaid : Prop := fnExactHoldsNeededRow.holds Tryd.pinned (OpenSpec.ofChange fnExactHoldsNeededSpec)

/-- ITS FALSE NEIGHBOUR: 'it returns false'. Refute it at one input. -/
def fnExactHoldsNeededWrong : ChangeSpec := { name := "fnExactHoldsNeeded", fn := fun _ => fun
  | [d1, d2] => { results := [.lit (.bool false)], args := [d1, d2] }
  | _ => none }
def FnExactHoldsNeededWrongFalsely : Prop := fnExactHoldsNeededRow.holds Tryd.pinned (OpenSpec.ofChange fnExactHoldsNeededWrong)

/-- 'laws.FnExactHeldPoints': WHATEVER THE INPUT: true; the input reads as it did. -/
def fnExactHeldPointsSpec : ChangeSpec := { name := "fnExactHeldPoints", fn := fun _ => fun
  | [d1, d2] => { results := [.lit (.bool true)], args := [d1, d2] }
  | _ => none }
def fnExactHeldPointsRow : OpenClaim := { program := "ythgjmciiaikgoaadoor", sum := "a4af7a1d05483c9d8a349b996048f40dc469b872021b77eea5377a96203d90eb", func := "loop.example/switchnetworks/laws.FnExactHeldPoints", spec := "fnExactHeldPoints", inPlace := ["internal/bytealg.CountString", "internal/bytealg.IndexByteString", "internal/bytealg.IndexString", "internal/abi.NoEscape", "internal/bytealg.MakeNoZero"], unfollowed := true, recurses := true, named := ["unicode/utf8.first", "unicode/utf8.acceptRanges", "internal/bytealg.MaxLen"], apart := false, laid := [("unicode/utf8.acceptRanges", laid_unicode_utf8_acceptRanges), ("unicode/utf8.first", laid_unicode_utf8_first)] }
def FnExactHeldPointsSaid : Prop := fnExactHeldPointsRow.holds Tryd.pinned (OpenSpec.ofChange fnExactHeldPointsSpec)

/-- ITS FALSE NEIGHBOUR: 'it returns false'. Refute it at one input. -/
def fnExactHeldPointsWrong : ChangeSpec := { name := "fnExactHeldPoints", fn := fun _ => fun
  | [d1, d2] => { results := [.lit (.bool false)], args := [d1, d2] }
  | _ => none }
def FnExactHeldPointsWrongFalsely : Prop := fnExactHeldPointsRow.holds Tryd.pinned (OpenSpec.ofChange fnExactHeldPointsWrong)

/-- 'laws.FnExactEasiestPoint': WHATEVER THE INPUT: true; the input reads as it did. -/
def fnExactEasiestPointSpec : ChangeSpec := { name := "fnExactEasiestPoint", fn := fun _ => fun
  | [d] => { results := [.lit (.bool true)], args := [d] }
  | _ => none }
def fnExactEasiestPointRow : OpenClaim := { program := "ythgjmciiaikgoaadoor", sum := "a4af7a1d05483c9d8a349b996048f40dc469b872021b77eea5377a96203d90eb", func := "loop.example/switchnetworks/laws.FnExactEasiestPoint", spec := "fnExactEasiestPoint", inPlace := ["internal/bytealg.CountString", "internal/bytealg.IndexByteString", "internal/bytealg.IndexString"], unfollowed := true, recurses := true, named := ["unicode/utf8.first", "unicode/utf8.acceptRanges", "internal/bytealg.MaxLen"], apart := false, laid := [("unicode/utf8.acceptRanges", laid_unicode_utf8_acceptRanges), ("unicode/utf8.first", laid_unicode_utf8_first)] }
def FnExactEasiestPointSaid : Prop := fnExactEasiestPointRow.holds Tryd.pinned (OpenSpec.ofChange fnExactEasiestPointSpec)

/-- ITS FALSE NEIGHBOUR: 'it returns false'. Refute it at one input. -/
def fnExactEasiestPointWrong : ChangeSpec := { name := "fnExactEasiestPoint", fn := fun _ => fun
  | [d] => { results := [.lit (.bool false)], args := [d] }
  | _ => none }
def FnExactEasiestPointWrongFalsely : Prop := fnExactEasiestPointRow.holds Tryd.pinned (OpenSpec.ofChange fnExactEasiestPointWrong)

/- THE SECOND FORM. 'bulk': how many values and letters a reading holds, each counted each time it is reached (what is shared counts as often as it is met; a slice's spare places count too). A statement '..UptoSaid' is the law's where the arguments, and the package variables that the reading takes, are together of bulk at most 1048576: NARROWER than '..Said'. Prove '..Said' where nothing that the law and all that it calls make is longer than what came in: it says more and counts as full. Else prove '..UptoSaid'. A law counts once. -/
mutual
def uptoBulk {H : Type} : DataW H → Nat
  | .lit (.string bytes) => bytes.length + 1
  | .lit _ => 1
  | .nil => 1
  | .ptr d => uptoBulk d + 1
  | .slice elems spare => uptoBulkAll elems + uptoBulkAll spare + 1
  | .agg parts => uptoBulkAll parts + 1
  | .iface _ d => uptoBulk d + 1
  | .map entries => uptoBulkEntries entries + 1
  | .held _ => 1
def uptoBulkAll {H : Type} : List (DataW H) → Nat
  | [] => 0
  | d :: r => uptoBulk d + uptoBulkAll r
def uptoBulkEntries {H : Type} : List (Lit × DataW H) → Nat
  | [] => 0
  | x :: r => uptoBulkEntry x + uptoBulkEntries r
def uptoBulkEntry {H : Type} : Lit × DataW H → Nat
  | (.string bytes, d) => bytes.length + uptoBulk d + 1
  | (_, d) => uptoBulk d + 1
 end
def uptoSmall : (H : Type) → List (DataW H) → Bool := fun _ ds => decide (uptoBulkAll ds ≤ 1048576)
def OpenSpec.upto (s : _root_.Go.ChangeSpec) : _root_.Go.OpenSpec := { _root_.Go.OpenSpec.ofChange s with cond := some uptoSmall }

/-- 'laws.FnExactStepBlocks', WHERE WHAT IT READS IS OF BULK AT MOST 1048576: true; the input reads as it did. -/
def fnExactStepBlocksUptoRow : OpenClaim := { program := "ythgjmciiaikgoaadoor", sum := "a4af7a1d05483c9d8a349b996048f40dc469b872021b77eea5377a96203d90eb", func := "loop.example/switchnetworks/laws.FnExactStepBlocks", spec := "fnExactStepBlocks", inPlace := ["internal/bytealg.CountString", "internal/bytealg.IndexByteString", "internal/bytealg.IndexString"], unfollowed := true, recurses := true, named := ["unicode/utf8.first", "unicode/utf8.acceptRanges", "internal/bytealg.MaxLen"], apart := false, laid := [("unicode/utf8.acceptRanges", laid_unicode_utf8_acceptRanges), ("unicode/utf8.first", laid_unicode_utf8_first)], narrowed := true }
def FnExactStepBlocksUptoSaid : Prop := fnExactStepBlocksUptoRow.holds Tryd.pinned (OpenSpec.upto fnExactStepBlocksSpec)

/-- 'laws.FnExactCanJoin', WHERE WHAT IT READS IS OF BULK AT MOST 1048576: true; the input reads as it did. -/
def fnExactCanJoinUptoRow : OpenClaim := { program := "ythgjmciiaikgoaadoor", sum := "a4af7a1d05483c9d8a349b996048f40dc469b872021b77eea5377a96203d90eb", func := "loop.example/switchnetworks/laws.FnExactCanJoin", spec := "fnExactCanJoin", inPlace := ["internal/bytealg.CountString", "internal/bytealg.IndexByteString", "internal/bytealg.IndexString"], unfollowed := true, recurses := true, named := ["unicode/utf8.first", "unicode/utf8.acceptRanges", "internal/bytealg.MaxLen"], apart := false, laid := [("unicode/utf8.acceptRanges", laid_unicode_utf8_acceptRanges), ("unicode/utf8.first", laid_unicode_utf8_first)], narrowed := true }
def FnExactCanJoinUptoSaid : Prop := fnExactCanJoinUptoRow.holds Tryd.pinned (OpenSpec.upto fnExactCanJoinSpec)

/-- 'laws.FnExactSeeSteps', WHERE WHAT IT READS IS OF BULK AT MOST 1048576: true; the input reads as it did. -/
def fnExactSeeStepsUptoRow : OpenClaim := { program := "ythgjmciiaikgoaadoor", sum := "a4af7a1d05483c9d8a349b996048f40dc469b872021b77eea5377a96203d90eb", func := "loop.example/switchnetworks/laws.FnExactSeeSteps", spec := "fnExactSeeSteps", inPlace := ["internal/bytealg.CountString", "internal/bytealg.IndexByteString", "internal/bytealg.IndexString"], unfollowed := true, recurses := true, named := ["unicode/utf8.first", "unicode/utf8.acceptRanges", "internal/bytealg.MaxLen"], apart := false, laid := [("unicode/utf8.acceptRanges", laid_unicode_utf8_acceptRanges), ("unicode/utf8.first", laid_unicode_utf8_first)], narrowed := true }
def FnExactSeeStepsUptoSaid : Prop := fnExactSeeStepsUptoRow.holds Tryd.pinned (OpenSpec.upto fnExactSeeStepsSpec)

/-- 'laws.FnExactForcesState', WHERE WHAT IT READS IS OF BULK AT MOST 1048576: true; the input reads as it did. -/
def fnExactForcesStateUptoRow : OpenClaim := { program := "ythgjmciiaikgoaadoor", sum := "a4af7a1d05483c9d8a349b996048f40dc469b872021b77eea5377a96203d90eb", func := "loop.example/switchnetworks/laws.FnExactForcesState", spec := "fnExactForcesState", inPlace := ["internal/bytealg.CountString", "internal/bytealg.IndexByteString", "internal/bytealg.IndexString"], unfollowed := true, recurses := true, named := ["unicode/utf8.first", "unicode/utf8.acceptRanges", "internal/bytealg.MaxLen"], apart := false, laid := [("unicode/utf8.acceptRanges", laid_unicode_utf8_acceptRanges), ("unicode/utf8.first", laid_unicode_utf8_first)], narrowed := true }
def FnExactForcesStateUptoSaid : Prop := fnExactForcesStateUptoRow.holds Tryd.pinned (OpenSpec.upto fnExactForcesStateSpec)

/-- 'laws.FnExactHoldSwitches', WHERE WHAT IT READS IS OF BULK AT MOST 1048576: true; the input reads as it did. -/
def fnExactHoldSwitchesUptoRow : OpenClaim := { program := "ythgjmciiaikgoaadoor", sum := "a4af7a1d05483c9d8a349b996048f40dc469b872021b77eea5377a96203d90eb", func := "loop.example/switchnetworks/laws.FnExactHoldSwitches", spec := "fnExactHoldSwitches", inPlace := ["internal/bytealg.CountString", "internal/bytealg.IndexByteString", "internal/bytealg.IndexString", "internal/abi.NoEscape", "internal/bytealg.MakeNoZero"], unfollowed := true, recurses := true, named := ["unicode/utf8.first", "unicode/utf8.acceptRanges", "internal/bytealg.MaxLen"], apart := false, laid := [("unicode/utf8.acceptRanges", laid_unicode_utf8_acceptRanges), ("unicode/utf8.first", laid_unicode_utf8_first)], narrowed := true }
def FnExactHoldSwitchesUptoSaid : Prop := fnExactHoldSwitchesUptoRow.holds Tryd.pinned (OpenSpec.upto fnExactHoldSwitchesSpec)

/-- 'laws.FnExactNetworkOfBlocks', WHERE WHAT IT READS IS OF BULK AT MOST 1048576: true; the input reads as it did. -/
def fnExactNetworkOfBlocksUptoRow : OpenClaim := { program := "ythgjmciiaikgoaadoor", sum := "a4af7a1d05483c9d8a349b996048f40dc469b872021b77eea5377a96203d90eb", func := "loop.example/switchnetworks/laws.FnExactNetworkOfBlocks", spec := "fnExactNetworkOfBlocks", inPlace := ["internal/bytealg.CountString", "internal/bytealg.IndexByteString", "internal/bytealg.IndexString", "internal/abi.NoEscape", "internal/bytealg.MakeNoZero"], unfollowed := true, recurses := true, named := ["unicode/utf8.first", "unicode/utf8.acceptRanges", "internal/bytealg.MaxLen"], apart := false, laid := [("unicode/utf8.acceptRanges", laid_unicode_utf8_acceptRanges), ("unicode/utf8.first", laid_unicode_utf8_first)], narrowed := true }
def FnExactNetworkOfBlocksUptoSaid : Prop := fnExactNetworkOfBlocksUptoRow.holds Tryd.pinned (OpenSpec.upto fnExactNetworkOfBlocksSpec)

/-- 'laws.FnExactSameSchedule', WHERE WHAT IT READS IS OF BULK AT MOST 1048576: true; the input reads as it did. -/
def fnExactSameScheduleUptoRow : OpenClaim := { program := "ythgjmciiaikgoaadoor", sum := "a4af7a1d05483c9d8a349b996048f40dc469b872021b77eea5377a96203d90eb", func := "loop.example/switchnetworks/laws.FnExactSameSchedule", spec := "fnExactSameSchedule", inPlace := ["internal/bytealg.CountString", "internal/bytealg.IndexByteString", "internal/bytealg.IndexString", "internal/abi.NoEscape", "internal/bytealg.MakeNoZero"], unfollowed := true, recurses := true, named := ["unicode/utf8.first", "unicode/utf8.acceptRanges", "internal/bytealg.MaxLen"], apart := false, laid := [("unicode/utf8.acceptRanges", laid_unicode_utf8_acceptRanges), ("unicode/utf8.first", laid_unicode_utf8_first)], narrowed := true }
def FnExactSameScheduleUptoSaid : Prop := fnExactSameScheduleUptoRow.holds Tryd.pinned (OpenSpec.upto fnExactSameScheduleSpec)

/-- 'laws.FnExactFlowBlocks', WHERE WHAT IT READS IS OF BULK AT MOST 1048576: true; the input reads as it did. -/
def fnExactFlowBlocksUptoRow : OpenClaim := { program := "ythgjmciiaikgoaadoor", sum := "a4af7a1d05483c9d8a349b996048f40dc469b872021b77eea5377a96203d90eb", func := "loop.example/switchnetworks/laws.FnExactFlowBlocks", spec := "fnExactFlowBlocks", inPlace := ["internal/bytealg.CountString", "internal/bytealg.IndexByteString", "internal/bytealg.IndexString"], unfollowed := true, recurses := true, named := ["unicode/utf8.first", "unicode/utf8.acceptRanges", "internal/bytealg.MaxLen"], apart := false, laid := [("unicode/utf8.acceptRanges", laid_unicode_utf8_acceptRanges), ("unicode/utf8.first", laid_unicode_utf8_first)], narrowed := true }
def FnExactFlowBlocksUptoSaid : Prop := fnExactFlowBlocksUptoRow.holds Tryd.pinned (OpenSpec.upto fnExactFlowBlocksSpec)

/-- 'laws.FnExactLeastHold', WHERE WHAT IT READS IS OF BULK AT MOST 1048576: true; the input reads as it did. -/
def fnExactLeastHoldUptoRow : OpenClaim := { program := "ythgjmciiaikgoaadoor", sum := "a4af7a1d05483c9d8a349b996048f40dc469b872021b77eea5377a96203d90eb", func := "loop.example/switchnetworks/laws.FnExactLeastHold", spec := "fnExactLeastHold", inPlace := ["internal/bytealg.CountString", "internal/bytealg.IndexByteString", "internal/bytealg.IndexString"], unfollowed := true, recurses := true, named := ["unicode/utf8.first", "unicode/utf8.acceptRanges", "internal/bytealg.MaxLen"], apart := false, laid := [("unicode/utf8.acceptRanges", laid_unicode_utf8_acceptRanges), ("unicode/utf8.first", laid_unicode_utf8_first)], narrowed := true }
def FnExactLeastHoldUptoSaid : Prop := fnExactLeastHoldUptoRow.holds Tryd.pinned (OpenSpec.upto fnExactLeastHoldSpec)

/-- 'laws.FnExactHoldsNeeded', WHERE WHAT IT READS IS OF BULK AT MOST 1048576: true; the input reads as it did. -/
def fnExactHoldsNeededUptoRow : OpenClaim := { program := "ythgjmciiaikgoaadoor", sum := "a4af7a1d05483c9d8a349b996048f40dc469b872021b77eea5377a96203d90eb", func := "loop.example/switchnetworks/laws.FnExactHoldsNeeded", spec := "fnExactHoldsNeeded", inPlace := ["internal/bytealg.CountString", "internal/bytealg.IndexByteString", "internal/bytealg.IndexString"], unfollowed := true, recurses := true, named := ["unicode/utf8.first", "unicode/utf8.acceptRanges", "internal/bytealg.MaxLen"], apart := false, laid := [("unicode/utf8.acceptRanges", laid_unicode_utf8_acceptRanges), ("unicode/utf8.first", laid_unicode_utf8_first)], narrowed := true }
def FnExactHoldsNeededUptoSaid : Prop := fnExactHoldsNeededUptoRow.holds Tryd.pinned (OpenSpec.upto fnExactHoldsNeededSpec)

/-- 'laws.FnExactHeldPoints', WHERE WHAT IT READS IS OF BULK AT MOST 1048576: true; the input reads as it did. -/
def fnExactHeldPointsUptoRow : OpenClaim := { program := "ythgjmciiaikgoaadoor", sum := "a4af7a1d05483c9d8a349b996048f40dc469b872021b77eea5377a96203d90eb", func := "loop.example/switchnetworks/laws.FnExactHeldPoints", spec := "fnExactHeldPoints", inPlace := ["internal/bytealg.CountString", "internal/bytealg.IndexByteString", "internal/bytealg.IndexString", "internal/abi.NoEscape", "internal/bytealg.MakeNoZero"], unfollowed := true, recurses := true, named := ["unicode/utf8.first", "unicode/utf8.acceptRanges", "internal/bytealg.MaxLen"], apart := false, laid := [("unicode/utf8.acceptRanges", laid_unicode_utf8_acceptRanges), ("unicode/utf8.first", laid_unicode_utf8_first)], narrowed := true }
def FnExactHeldPointsUptoSaid : Prop := fnExactHeldPointsUptoRow.holds Tryd.pinned (OpenSpec.upto fnExactHeldPointsSpec)

/-- 'laws.FnExactEasiestPoint', WHERE WHAT IT READS IS OF BULK AT MOST 1048576: true; the input reads as it did. -/
def fnExactEasiestPointUptoRow : OpenClaim := { program := "ythgjmciiaikgoaadoor", sum := "a4af7a1d05483c9d8a349b996048f40dc469b872021b77eea5377a96203d90eb", func := "loop.example/switchnetworks/laws.FnExactEasiestPoint", spec := "fnExactEasiestPoint", inPlace := ["internal/bytealg.CountString", "internal/bytealg.IndexByteString", "internal/bytealg.IndexString"], unfollowed := true, recurses := true, named := ["unicode/utf8.first", "unicode/utf8.acceptRanges", "internal/bytealg.MaxLen"], apart := false, laid := [("unicode/utf8.acceptRanges", laid_unicode_utf8_acceptRanges), ("unicode/utf8.first", laid_unicode_utf8_first)], narrowed := true }
def FnExactEasiestPointUptoSaid : Prop := fnExactEasiestPointUptoRow.holds Tryd.pinned (OpenSpec.upto fnExactEasiestPointSpec)

end Rows
end Go.Proofs.YthgjmciiaikgoaaDoor
