/-
  NARROWER THAN 'FOR EVERY INPUT', by the rows' own cells (each row's printed sentence says how): FnStepBlocks: laid · FnSeeSteps: laid · FnAllSeen: laid · FnSameSchedule: laid · FnBlocksPoints: laid · FnJoinBlocks: laid · FnFlowBlocks: laid · FnLearn: laid · FnHeldPoints: laid · FnHoldSwitches: laid · FnLeastHold: laid · FnEasiest: laid.
  DERIVED. THE GIVEN ROWS OF THIS SEAT. 12 by the template 'for every input the law returns true; each argument reads behind the call as it read before'; 0 by the template 'total and deterministic' (their statements: YtjkgcgbialiipaaDoorTotals.lean).
  GIVEN WITH THE SEED: the statements are not yours to turn. If you find one false, say at which input.
  Laid BY PROGRAM, IN A SANDBOX (cutbox-rows.mjs): the forced cells as the released guide's own fill.sh prints them over the translation 3f0d71ea2e2d7952… (all of the seat's roots in one cut). By AI agents, Wed Nov 11 2026. No macro, syntax, notation, axiom, sorry.
-/
import Derived.Test.YtjkgcgbialiipaaDoorChecked
import GoSem.PinnedTables
import GoSem.Claim
import GoSem.ClaimJoined
import GoSem.ClaimMapViews
import Derived.JoinedTies
import Derived.KernelRfl
namespace Go.Proofs.YtjkgcgbialiipaaDoor
/- THE CELL 'sum', in the pinned program and in every row, IS THE sha256 OF THE DUMP (.gsa) THAT YtjkgcgbialiipaaDoorProg.lean LOADS. Nothing in Lean hashes anything: it is a label: what it is worth is what the hold of that sum in a sandbox is worth. -/
noncomputable def Tryd.pinned : Pinned := { name := "ytjkgcgbialiipaadoor", sum := "3f0d71ea2e2d79524a3c35a48d237790445ee48995a080fd6264af846aebd5b1", checked := Tryd.checked }
namespace Rows
def none {H : Type} : Left H := { results := [], args := [] }

/- WHAT THE LISTED PACKAGE-LEVEL VARIABLES READ AS WHEN THE CALL BEGINS. Each datum BY PROGRAM (the guide's laid-datum.mjs) off the statement by which the dump's own 'gosem.cut.vars' lays the variable. In a bare row this is a premise. The card (YtjkgcgbialiipaaDoorCards.lean) ties it to the program's text. -/
def laid_unicode_utf8_acceptRanges {H : Type} : DataW H := .agg [.agg [.lit (.int .u8 128), .lit (.int .u8 191)], .agg [.lit (.int .u8 160), .lit (.int .u8 191)], .agg [.lit (.int .u8 128), .lit (.int .u8 159)], .agg [.lit (.int .u8 144), .lit (.int .u8 191)], .agg [.lit (.int .u8 128), .lit (.int .u8 143)], .agg [.lit (.int .u8 0), .lit (.int .u8 0)], .agg [.lit (.int .u8 0), .lit (.int .u8 0)], .agg [.lit (.int .u8 0), .lit (.int .u8 0)], .agg [.lit (.int .u8 0), .lit (.int .u8 0)], .agg [.lit (.int .u8 0), .lit (.int .u8 0)], .agg [.lit (.int .u8 0), .lit (.int .u8 0)], .agg [.lit (.int .u8 0), .lit (.int .u8 0)], .agg [.lit (.int .u8 0), .lit (.int .u8 0)], .agg [.lit (.int .u8 0), .lit (.int .u8 0)], .agg [.lit (.int .u8 0), .lit (.int .u8 0)], .agg [.lit (.int .u8 0), .lit (.int .u8 0)]]
/-- One of Go's own tables, pinned by name: the form's constant. -/
def laid_unicode_utf8_first : DataW Unit := Go.Pinned.utf8First

/-- 'laws.FnStepBlocks': WHATEVER THE INPUT: true; the input reads as it did. -/
def fnStepBlocksSpec : ChangeSpec := { name := "fnStepBlocks", fn := fun _ => fun
  | [d] => { results := [.lit (.bool true)], args := [d] }
  | _ => none }
def fnStepBlocksRow : OpenClaim := { program := "ytjkgcgbialiipaadoor", sum := "3f0d71ea2e2d79524a3c35a48d237790445ee48995a080fd6264af846aebd5b1", func := "loop.example/switchnetworks/laws.FnStepBlocks", spec := "fnStepBlocks", inPlace := ["internal/bytealg.CountString", "internal/bytealg.IndexByteString", "internal/bytealg.IndexString"], unfollowed := true, recurses := true, named := ["unicode/utf8.first", "unicode/utf8.acceptRanges", "internal/bytealg.MaxLen"], apart := false, laid := [("unicode/utf8.acceptRanges", laid_unicode_utf8_acceptRanges), ("unicode/utf8.first", laid_unicode_utf8_first)] }
def FnStepBlocksSaid : Prop := fnStepBlocksRow.holds Tryd.pinned (OpenSpec.ofChange fnStepBlocksSpec)

/-- ITS FALSE NEIGHBOUR: 'it returns false'. Refute it at one input. -/
def fnStepBlocksWrong : ChangeSpec := { name := "fnStepBlocks", fn := fun _ => fun
  | [d] => { results := [.lit (.bool false)], args := [d] }
  | _ => none }
def FnStepBlocksWrongFalsely : Prop := fnStepBlocksRow.holds Tryd.pinned (OpenSpec.ofChange fnStepBlocksWrong)

/-- 'laws.FnSeeSteps': WHATEVER THE INPUT: true; the input reads as it did. -/
def fnSeeStepsSpec : ChangeSpec := { name := "fnSeeSteps", fn := fun _ => fun
  | [d] => { results := [.lit (.bool true)], args := [d] }
  | _ => none }
def fnSeeStepsRow : OpenClaim := { program := "ytjkgcgbialiipaadoor", sum := "3f0d71ea2e2d79524a3c35a48d237790445ee48995a080fd6264af846aebd5b1", func := "loop.example/switchnetworks/laws.FnSeeSteps", spec := "fnSeeSteps", inPlace := ["internal/bytealg.CountString", "internal/bytealg.IndexByteString", "internal/bytealg.IndexString"], unfollowed := true, recurses := true, named := ["unicode/utf8.first", "unicode/utf8.acceptRanges", "internal/bytealg.MaxLen"], apart := false, laid := [("unicode/utf8.acceptRanges", laid_unicode_utf8_acceptRanges), ("unicode/utf8.first", laid_unicode_utf8_first)] }
def FnSeeStepsSaid : Prop := fnSeeStepsRow.holds Tryd.pinned (OpenSpec.ofChange fnSeeStepsSpec)

/-- ITS FALSE NEIGHBOUR: 'it returns false'. Refute it at one input. -/
def fnSeeStepsWrong : ChangeSpec := { name := "fnSeeSteps", fn := fun _ => fun
  | [d] => { results := [.lit (.bool false)], args := [d] }
  | _ => none }
def FnSeeStepsWrongFalsely : Prop := fnSeeStepsRow.holds Tryd.pinned (OpenSpec.ofChange fnSeeStepsWrong)

/-- 'laws.FnAllSeen': WHATEVER THE INPUT: true; the input reads as it did. -/
def fnAllSeenSpec : ChangeSpec := { name := "fnAllSeen", fn := fun _ => fun
  | [d] => { results := [.lit (.bool true)], args := [d] }
  | _ => none }
def fnAllSeenRow : OpenClaim := { program := "ytjkgcgbialiipaadoor", sum := "3f0d71ea2e2d79524a3c35a48d237790445ee48995a080fd6264af846aebd5b1", func := "loop.example/switchnetworks/laws.FnAllSeen", spec := "fnAllSeen", inPlace := ["internal/bytealg.CountString", "internal/bytealg.IndexByteString", "internal/bytealg.IndexString"], unfollowed := true, recurses := true, named := ["unicode/utf8.first", "unicode/utf8.acceptRanges", "internal/bytealg.MaxLen"], apart := false, laid := [("unicode/utf8.acceptRanges", laid_unicode_utf8_acceptRanges), ("unicode/utf8.first", laid_unicode_utf8_first)] }
def FnAllSeenSaid : Prop := fnAllSeenRow.holds Tryd.pinned (OpenSpec.ofChange fnAllSeenSpec)

/-- ITS FALSE NEIGHBOUR: 'it returns false'. Refute it at one input. -/
def fnAllSeenWrong : ChangeSpec := { name := "fnAllSeen", fn := fun _ => fun
  | [d] => { results := [.lit (.bool false)], args := [d] }
  | _ => none }
def FnAllSeenWrongFalsely : Prop := fnAllSeenRow.holds Tryd.pinned (OpenSpec.ofChange fnAllSeenWrong)

/-- 'laws.FnSameSchedule': WHATEVER THE INPUT: true; the input reads as it did. -/
def fnSameScheduleSpec : ChangeSpec := { name := "fnSameSchedule", fn := fun _ => fun
  | [d1, d2] => { results := [.lit (.bool true)], args := [d1, d2] }
  | _ => none }
def fnSameScheduleRow : OpenClaim := { program := "ytjkgcgbialiipaadoor", sum := "3f0d71ea2e2d79524a3c35a48d237790445ee48995a080fd6264af846aebd5b1", func := "loop.example/switchnetworks/laws.FnSameSchedule", spec := "fnSameSchedule", inPlace := ["internal/bytealg.CountString", "internal/bytealg.IndexByteString", "internal/bytealg.IndexString", "internal/abi.NoEscape", "internal/bytealg.MakeNoZero"], unfollowed := true, recurses := true, named := ["unicode/utf8.first", "unicode/utf8.acceptRanges", "internal/bytealg.MaxLen"], apart := false, laid := [("unicode/utf8.acceptRanges", laid_unicode_utf8_acceptRanges), ("unicode/utf8.first", laid_unicode_utf8_first)] }
def FnSameScheduleSaid : Prop := fnSameScheduleRow.holds Tryd.pinned (OpenSpec.ofChange fnSameScheduleSpec)

/-- ITS FALSE NEIGHBOUR: 'it returns false'. Refute it at one input. -/
def fnSameScheduleWrong : ChangeSpec := { name := "fnSameSchedule", fn := fun _ => fun
  | [d1, d2] => { results := [.lit (.bool false)], args := [d1, d2] }
  | _ => none }
def FnSameScheduleWrongFalsely : Prop := fnSameScheduleRow.holds Tryd.pinned (OpenSpec.ofChange fnSameScheduleWrong)

/-- 'laws.FnBlocksPoints': WHATEVER THE INPUT: true; the input reads as it did. -/
def fnBlocksPointsSpec : ChangeSpec := { name := "fnBlocksPoints", fn := fun _ => fun
  | [d] => { results := [.lit (.bool true)], args := [d] }
  | _ => none }
def fnBlocksPointsRow : OpenClaim := { program := "ytjkgcgbialiipaadoor", sum := "3f0d71ea2e2d79524a3c35a48d237790445ee48995a080fd6264af846aebd5b1", func := "loop.example/switchnetworks/laws.FnBlocksPoints", spec := "fnBlocksPoints", inPlace := ["internal/bytealg.CountString", "internal/bytealg.IndexByteString", "internal/bytealg.IndexString", "internal/abi.NoEscape", "internal/bytealg.MakeNoZero"], unfollowed := true, recurses := true, named := ["unicode/utf8.first", "unicode/utf8.acceptRanges", "internal/bytealg.MaxLen"], apart := false, laid := [("unicode/utf8.acceptRanges", laid_unicode_utf8_acceptRanges), ("unicode/utf8.first", laid_unicode_utf8_first)] }
def FnBlocksPointsSaid : Prop := fnBlocksPointsRow.holds Tryd.pinned (OpenSpec.ofChange fnBlocksPointsSpec)

/-- ITS FALSE NEIGHBOUR: 'it returns false'. Refute it at one input. -/
def fnBlocksPointsWrong : ChangeSpec := { name := "fnBlocksPoints", fn := fun _ => fun
  | [d] => { results := [.lit (.bool false)], args := [d] }
  | _ => none }
def FnBlocksPointsWrongFalsely : Prop := fnBlocksPointsRow.holds Tryd.pinned (OpenSpec.ofChange fnBlocksPointsWrong)

/-- 'laws.FnJoinBlocks': WHATEVER THE INPUT: true; the input reads as it did. -/
def fnJoinBlocksSpec : ChangeSpec := { name := "fnJoinBlocks", fn := fun _ => fun
  | [d] => { results := [.lit (.bool true)], args := [d] }
  | _ => none }
def fnJoinBlocksRow : OpenClaim := { program := "ytjkgcgbialiipaadoor", sum := "3f0d71ea2e2d79524a3c35a48d237790445ee48995a080fd6264af846aebd5b1", func := "loop.example/switchnetworks/laws.FnJoinBlocks", spec := "fnJoinBlocks", inPlace := ["internal/bytealg.CountString", "internal/bytealg.IndexByteString", "internal/bytealg.IndexString", "internal/abi.NoEscape", "internal/bytealg.MakeNoZero"], unfollowed := true, recurses := true, named := ["unicode/utf8.first", "unicode/utf8.acceptRanges", "internal/bytealg.MaxLen"], apart := false, laid := [("unicode/utf8.acceptRanges", laid_unicode_utf8_acceptRanges), ("unicode/utf8.first", laid_unicode_utf8_first)] }
def FnJoinBlocksSaid : Prop := fnJoinBlocksRow.holds Tryd.pinned (OpenSpec.ofChange fnJoinBlocksSpec)

/-- ITS FALSE NEIGHBOUR: 'it returns false'. Refute it at one input. -/
def fnJoinBlocksWrong : ChangeSpec := { name := "fnJoinBlocks", fn := fun _ => fun
  | [d] => { results := [.lit (.bool false)], args := [d] }
  | _ => none }
def FnJoinBlocksWrongFalsely : Prop := fnJoinBlocksRow.holds Tryd.pinned (OpenSpec.ofChange fnJoinBlocksWrong)

/-- 'laws.FnFlowBlocks': WHATEVER THE INPUT: true; the input reads as it did. -/
def fnFlowBlocksSpec : ChangeSpec := { name := "fnFlowBlocks", fn := fun _ => fun
  | [d] => { results := [.lit (.bool true)], args := [d] }
  | _ => none }
def fnFlowBlocksRow : OpenClaim := { program := "ytjkgcgbialiipaadoor", sum := "3f0d71ea2e2d79524a3c35a48d237790445ee48995a080fd6264af846aebd5b1", func := "loop.example/switchnetworks/laws.FnFlowBlocks", spec := "fnFlowBlocks", inPlace := ["internal/bytealg.CountString", "internal/bytealg.IndexByteString", "internal/bytealg.IndexString"], unfollowed := true, recurses := true, named := ["unicode/utf8.first", "unicode/utf8.acceptRanges", "internal/bytealg.MaxLen"], apart := false, laid := [("unicode/utf8.acceptRanges", laid_unicode_utf8_acceptRanges), ("unicode/utf8.first", laid_unicode_utf8_first)] }
def FnFlowBlocksSaid : Prop := fnFlowBlocksRow.holds Tryd.pinned (OpenSpec.ofChange fnFlowBlocksSpec)

/-- ITS FALSE NEIGHBOUR: 'it returns false'. Refute it at one input. -/
def fnFlowBlocksWrong : ChangeSpec := { name := "fnFlowBlocks", fn := fun _ => fun
  | [d] => { results := [.lit (.bool false)], args := [d] }
  | _ => none }
def FnFlowBlocksWrongFalsely : Prop := fnFlowBlocksRow.holds Tryd.pinned (OpenSpec.ofChange fnFlowBlocksWrong)

/-- 'laws.FnLearn': WHATEVER THE INPUT: true; the input reads as it did. -/
def fnLearnSpec : ChangeSpec := { name := "fnLearn", fn := fun _ => fun
  | [d] => { results := [.lit (.bool true)], args := [d] }
  | _ => none }
def fnLearnRow : OpenClaim := { program := "ytjkgcgbialiipaadoor", sum := "3f0d71ea2e2d79524a3c35a48d237790445ee48995a080fd6264af846aebd5b1", func := "loop.example/switchnetworks/laws.FnLearn", spec := "fnLearn", inPlace := ["internal/bytealg.CountString", "internal/bytealg.IndexByteString", "internal/bytealg.IndexString"], unfollowed := true, recurses := true, named := ["unicode/utf8.first", "unicode/utf8.acceptRanges", "internal/bytealg.MaxLen"], apart := false, laid := [("unicode/utf8.acceptRanges", laid_unicode_utf8_acceptRanges), ("unicode/utf8.first", laid_unicode_utf8_first)] }
def FnLearnSaid : Prop := fnLearnRow.holds Tryd.pinned (OpenSpec.ofChange fnLearnSpec)

/-- ITS FALSE NEIGHBOUR: 'it returns false'. Refute it at one input. -/
def fnLearnWrong : ChangeSpec := { name := "fnLearn", fn := fun _ => fun
  | [d] => { results := [.lit (.bool false)], args := [d] }
  | _ => none }
def FnLearnWrongFalsely : Prop := fnLearnRow.holds Tryd.pinned (OpenSpec.ofChange fnLearnWrong)

/-- 'laws.FnHeldPoints': WHATEVER THE INPUT: true; the input reads as it did. -/
def fnHeldPointsSpec : ChangeSpec := { name := "fnHeldPoints", fn := fun _ => fun
  | [d] => { results := [.lit (.bool true)], args := [d] }
  | _ => none }
def fnHeldPointsRow : OpenClaim := { program := "ytjkgcgbialiipaadoor", sum := "3f0d71ea2e2d79524a3c35a48d237790445ee48995a080fd6264af846aebd5b1", func := "loop.example/switchnetworks/laws.FnHeldPoints", spec := "fnHeldPoints", inPlace := ["internal/bytealg.CountString", "internal/bytealg.IndexByteString", "internal/bytealg.IndexString", "internal/abi.NoEscape", "internal/bytealg.MakeNoZero"], unfollowed := true, recurses := true, named := ["unicode/utf8.first", "unicode/utf8.acceptRanges", "internal/bytealg.MaxLen"], apart := false, laid := [("unicode/utf8.acceptRanges", laid_unicode_utf8_acceptRanges), ("unicode/utf8.first", laid_unicode_utf8_first)] }
def FnHeldPointsSaid : Prop := fnHeldPointsRow.holds Tryd.pinned (OpenSpec.ofChange fnHeldPointsSpec)

/-- ITS FALSE NEIGHBOUR: 'it returns false'. Refute it at one input. -/
def fnHeldPointsWrong : ChangeSpec := { name := "fnHeldPoints", fn := fun _ => fun
  | [d] => { results := [.lit (.bool false)], args := [d] }
  | _ => none }
def FnHeldPointsWrongFalsely : Prop := fnHeldPointsRow.holds Tryd.pinned (OpenSpec.ofChange fnHeldPointsWrong)

/-- 'laws.FnHoldSwitches': WHATEVER THE INPUT: true; the input reads as it did. -/
def fnHoldSwitchesSpec : ChangeSpec := { name := "fnHoldSwitches", fn := fun _ => fun
  | [d] => { results := [.lit (.bool true)], args := [d] }
  | _ => none }
def fnHoldSwitchesRow : OpenClaim := { program := "ytjkgcgbialiipaadoor", sum := "3f0d71ea2e2d79524a3c35a48d237790445ee48995a080fd6264af846aebd5b1", func := "loop.example/switchnetworks/laws.FnHoldSwitches", spec := "fnHoldSwitches", inPlace := ["internal/bytealg.CountString", "internal/bytealg.IndexByteString", "internal/bytealg.IndexString", "internal/abi.NoEscape", "internal/bytealg.MakeNoZero"], unfollowed := true, recurses := true, named := ["unicode/utf8.first", "unicode/utf8.acceptRanges", "internal/bytealg.MaxLen"], apart := false, laid := [("unicode/utf8.acceptRanges", laid_unicode_utf8_acceptRanges), ("unicode/utf8.first", laid_unicode_utf8_first)] }
def FnHoldSwitchesSaid : Prop := fnHoldSwitchesRow.holds Tryd.pinned (OpenSpec.ofChange fnHoldSwitchesSpec)

/-- ITS FALSE NEIGHBOUR: 'it returns false'. Refute it at one input. -/
def fnHoldSwitchesWrong : ChangeSpec := { name := "fnHoldSwitches", fn := fun _ => fun
  | [d] => { results := [.lit (.bool false)], args := [d] }
  | _ => none }
def FnHoldSwitchesWrongFalsely : Prop := fnHoldSwitchesRow.holds Tryd.pinned (OpenSpec.ofChange fnHoldSwitchesWrong)

/-- 'laws.FnLeastHold': WHATEVER THE INPUT: true; the input reads as it did. -/
def fnLeastHoldSpec : ChangeSpec := { name := "fnLeastHold", fn := fun _ => fun
  | [d] => { results := [.lit (.bool true)], args := [d] }
  | _ => none }
def fnLeastHoldRow : OpenClaim := { program := "ytjkgcgbialiipaadoor", sum := "3f0d71ea2e2d79524a3c35a48d237790445ee48995a080fd6264af846aebd5b1", func := "loop.example/switchnetworks/laws.FnLeastHold", spec := "fnLeastHold", inPlace := ["internal/bytealg.CountString", "internal/bytealg.IndexByteString", "internal/bytealg.IndexString"], unfollowed := true, recurses := true, named := ["unicode/utf8.first", "unicode/utf8.acceptRanges", "internal/bytealg.MaxLen"], apart := false, laid := [("unicode/utf8.acceptRanges", laid_unicode_utf8_acceptRanges), ("unicode/utf8.first", laid_unicode_utf8_first)] }
def FnLeastHoldSaid : Prop := fnLeastHoldRow.holds Tryd.pinned (OpenSpec.ofChange fnLeastHoldSpec)

/-- ITS FALSE NEIGHBOUR: 'it returns false'. Refute it at one input. -/
def fnLeastHoldWrong : ChangeSpec := { name := "fnLeastHold", fn := fun _ => fun
  | [d] => { results := [.lit (.bool false)], args := [d] }
  | _ => none }
def FnLeastHoldWrongFalsely : Prop := fnLeastHoldRow.holds Tryd.pinned (OpenSpec.ofChange fnLeastHoldWrong)

/-- 'laws.FnEasiest': WHATEVER THE INPUT: true; the input reads as it did. -/
def fnEasiestSpec : ChangeSpec := { name := "fnEasiest", fn := fun _ => fun
  | [d] => { results := [.lit (.bool true)], args := [d] }
  | _ => none }
def fnEasiestRow : OpenClaim := { program := "ytjkgcgbialiipaadoor", sum := "3f0d71ea2e2d79524a3c35a48d237790445ee48995a080fd6264af846aebd5b1", func := "loop.example/switchnetworks/laws.FnEasiest", spec := "fnEasiest", inPlace := ["internal/bytealg.CountString", "internal/bytealg.IndexByteString", "internal/bytealg.IndexString"], unfollowed := true, recurses := true, named := ["unicode/utf8.first", "unicode/utf8.acceptRanges", "internal/bytealg.MaxLen"], apart := false, laid := [("unicode/utf8.acceptRanges", laid_unicode_utf8_acceptRanges), ("unicode/utf8.first", laid_unicode_utf8_first)] }
def FnEasiestSaid : Prop := fnEasiestRow.holds Tryd.pinned (OpenSpec.ofChange fnEasiestSpec)

/-- ITS FALSE NEIGHBOUR: 'it returns false'. Refute it at one input. -/
def fnEasiestWrong : ChangeSpec := { name := "fnEasiest", fn := fun _ => fun
  | [d] => { results := [.lit (.bool false)], args := [d] }
  | _ => none }
def FnEasiestWrongFalsely : Prop := fnEasiestRow.holds Tryd.pinned (OpenSpec.ofChange fnEasiestWrong)

/- THE SECOND FORM. 'bulk': how many values and letters a reading holds, each counted each time it is reached (what is shared counts as often as it is met; a slice's spare places count too). A statement '..UptoSaid' is the law's where the arguments, and the package variables that the reading takes, are together of bulk at most 1048576: NARROWER than '..Said'. Prove '..Said' where nothing that the law and all that it calls make is longer than what came in: it says more and counts as full. Else prove '..UptoSaid'. A law counts once. -/
mutual
def uptoBulk {H : Type} : DataW H → Nat
  | .lit (.string bytes) => bytes.length + 1
  | .lit _ => 1
  | .nil => 1
  | .ptr d => uptoBulk d + 1
  | .slice elems spare => uptoBulkAll elems + uptoBulkAll spare + 1
  | .agg parts => uptoBulkAll parts + 1
  | .iface _ d => uptoBulk d + 1
  | .map entries => uptoBulkEntries entries + 1
  | .held _ => 1
def uptoBulkAll {H : Type} : List (DataW H) → Nat
  | [] => 0
  | d :: r => uptoBulk d + uptoBulkAll r
def uptoBulkEntries {H : Type} : List (Lit × DataW H) → Nat
  | [] => 0
  | x :: r => uptoBulkEntry x + uptoBulkEntries r
def uptoBulkEntry {H : Type} : Lit × DataW H → Nat
  | (.string bytes, d) => bytes.length + uptoBulk d + 1
  | (_, d) => uptoBulk d + 1
 end
def uptoSmall : (H : Type) → List (DataW H) → Bool := fun _ ds => decide (uptoBulkAll ds ≤ 1048576)
def OpenSpec.upto (s : _root_.Go.ChangeSpec) : _root_.Go.OpenSpec := { _root_.Go.OpenSpec.ofChange s with cond := some uptoSmall }

/-- 'laws.FnStepBlocks', WHERE WHAT IT READS IS OF BULK AT MOST 1048576: true; the input reads as it did. -/
def fnStepBlocksUptoRow : OpenClaim := { program := "ytjkgcgbialiipaadoor", sum := "3f0d71ea2e2d79524a3c35a48d237790445ee48995a080fd6264af846aebd5b1", func := "loop.example/switchnetworks/laws.FnStepBlocks", spec := "fnStepBlocks", inPlace := ["internal/bytealg.CountString", "internal/bytealg.IndexByteString", "internal/bytealg.IndexString"], unfollowed := true, recurses := true, named := ["unicode/utf8.first", "unicode/utf8.acceptRanges", "internal/bytealg.MaxLen"], apart := false, laid := [("unicode/utf8.acceptRanges", laid_unicode_utf8_acceptRanges), ("unicode/utf8.first", laid_unicode_utf8_first)], narrowed := true }
def FnStepBlocksUptoSaid : Prop := fnStepBlocksUptoRow.holds Tryd.pinned (OpenSpec.upto fnStepBlocksSpec)

/-- 'laws.FnSeeSteps', WHERE WHAT IT READS IS OF BULK AT MOST 1048576: true; the input reads as it did. -/
def fnSeeStepsUptoRow : OpenClaim := { program := "ytjkgcgbialiipaadoor", sum := "3f0d71ea2e2d79524a3c35a48d237790445ee48995a080fd6264af846aebd5b1", func := "loop.example/switchnetworks/laws.FnSeeSteps", spec := "fnSeeSteps", inPlace := ["internal/bytealg.CountString", "internal/bytealg.IndexByteString", "internal/bytealg.IndexString"], unfollowed := true, recurses := true, named := ["unicode/utf8.first", "unicode/utf8.acceptRanges", "internal/bytealg.MaxLen"], apart := false, laid := [("unicode/utf8.acceptRanges", laid_unicode_utf8_acceptRanges), ("unicode/utf8.first", laid_unicode_utf8_first)], narrowed := true }
def FnSeeStepsUptoSaid : Prop := fnSeeStepsUptoRow.holds Tryd.pinned (OpenSpec.upto fnSeeStepsSpec)

/-- 'laws.FnAllSeen', WHERE WHAT IT READS IS OF BULK AT MOST 1048576: true; the input reads as it did. -/
def fnAllSeenUptoRow : OpenClaim := { program := "ytjkgcgbialiipaadoor", sum := "3f0d71ea2e2d79524a3c35a48d237790445ee48995a080fd6264af846aebd5b1", func := "loop.example/switchnetworks/laws.FnAllSeen", spec := "fnAllSeen", inPlace := ["internal/bytealg.CountString", "internal/bytealg.IndexByteString", "internal/bytealg.IndexString"], unfollowed := true, recurses := true, named := ["unicode/utf8.first", "unicode/utf8.acceptRanges", "internal/bytealg.MaxLen"], apart := false, laid := [("unicode/utf8.acceptRanges", laid_unicode_utf8_acceptRanges), ("unicode/utf8.first", laid_unicode_utf8_first)], narrowed := true }
def FnAllSeenUptoSaid : Prop := fnAllSeenUptoRow.holds Tryd.pinned (OpenSpec.upto fnAllSeenSpec)

/-- 'laws.FnSameSchedule', WHERE WHAT IT READS IS OF BULK AT MOST 1048576: true; the input reads as it did. -/
def fnSameScheduleUptoRow : OpenClaim := { program := "ytjkgcgbialiipaadoor", sum := "3f0d71ea2e2d79524a3c35a48d237790445ee48995a080fd6264af846aebd5b1", func := "loop.example/switchnetworks/laws.FnSameSchedule", spec := "fnSameSchedule", inPlace := ["internal/bytealg.CountString", "internal/bytealg.IndexByteString", "internal/bytealg.IndexString", "internal/abi.NoEscape", "internal/bytealg.MakeNoZero"], unfollowed := true, recurses := true, named := ["unicode/utf8.first", "unicode/utf8.acceptRanges", "internal/bytealg.MaxLen"], apart := false, laid := [("unicode/utf8.acceptRanges", laid_unicode_utf8_acceptRanges), ("unicode/utf8.first", laid_unicode_utf8_first)], narrowed := true }
def FnSameScheduleUptoSaid : Prop := fnSameScheduleUptoRow.holds Tryd.pinned (OpenSpec.upto fnSameScheduleSpec)

/-- 'laws.FnBlocksPoints', WHERE WHAT IT READS IS OF BULK AT MOST 1048576: true; the input reads as it did. -/
def fnBlocksPointsUptoRow : OpenClaim := { program := "ytjkgcgbialiipaadoor", sum := "3f0d71ea2e2d79524a3c35a48d237790445ee48995a080fd6264af846aebd5b1", func := "loop.example/switchnetworks/laws.FnBlocksPoints", spec := "fnBlocksPoints", inPlace := ["internal/bytealg.CountString", "internal/bytealg.IndexByteString", "internal/bytealg.IndexString", "internal/abi.NoEscape", "internal/bytealg.MakeNoZero"], unfollowed := true, recurses := true, named := ["unicode/utf8.first", "unicode/utf8.acceptRanges", "internal/bytealg.MaxLen"], apart := false, laid := [("unicode/utf8.acceptRanges", laid_unicode_utf8_acceptRanges), ("unicode/utf8.first", laid_unicode_utf8_first)], narrowed := true }
def FnBlocksPointsUptoSaid : Prop := fnBlocksPointsUptoRow.holds Tryd.pinned (OpenSpec.upto fnBlocksPointsSpec)

/-- 'laws.FnJoinBlocks', WHERE WHAT IT READS IS OF BULK AT MOST 1048576: true; the input reads as it did. -/
def fnJoinBlocksUptoRow : OpenClaim := { program := "ytjkgcgbialiipaadoor", sum := "3f0d71ea2e2d79524a3c35a48d237790445ee48995a080fd6264af846aebd5b1", func := "loop.example/switchnetworks/laws.FnJoinBlocks", spec := "fnJoinBlocks", inPlace := ["internal/bytealg.CountString", "internal/bytealg.IndexByteString", "internal/bytealg.IndexString", "internal/abi.NoEscape", "internal/bytealg.MakeNoZero"], unfollowed := true, recurses := true, named := ["unicode/utf8.first", "unicode/utf8.acceptRanges", "internal/bytealg.MaxLen"], apart := false, laid := [("unicode/utf8.acceptRanges", laid_unicode_utf8_acceptRanges), ("unicode/utf8.first", laid_unicode_utf8_first)], narrowed := true }
def FnJoinBlocksUptoSaid : Prop := fnJoinBlocksUptoRow.holds Tryd.pinned (OpenSpec.upto fnJoinBlocksSpec)

/-- 'laws.FnFlowBlocks', WHERE WHAT IT READS IS OF BULK AT MOST 1048576: true; the input reads as it did. -/
def fnFlowBlocksUptoRow : OpenClaim := { program := "ytjkgcgbialiipaadoor", sum := "3f0d71ea2e2d79524a3c35a48d237790445ee48995a080fd6264af846aebd5b1", func := "loop.example/switchnetworks/laws.FnFlowBlocks", spec := "fnFlowBlocks", inPlace := ["internal/bytealg.CountString", "internal/bytealg.IndexByteString", "internal/bytealg.IndexString"], unfollowed := true, recurses := true, named := ["unicode/utf8.first", "unicode/utf8.acceptRanges", "internal/bytealg.MaxLen"], apart := false, laid := [("unicode/utf8.acceptRanges", laid_unicode_utf8_acceptRanges), ("unicode/utf8.first", laid_unicode_utf8_first)], narrowed := true }
def FnFlowBlocksUptoSaid : Prop := fnFlowBlocksUptoRow.holds Tryd.pinned (OpenSpec.upto fnFlowBlocksSpec)

/-- 'laws.FnLearn', WHERE WHAT IT READS IS OF BULK AT MOST 1048576: true; the input reads as it did. -/
def fnLearnUptoRow : OpenClaim := { program := "ytjkgcgbialiipaadoor", sum := "3f0d71ea2e2d79524a3c35a48d237790445ee48995a080fd6264af846aebd5b1", func := "loop.example/switchnetworks/laws.FnLearn", spec := "fnLearn", inPlace := ["internal/bytealg.CountString", "internal/bytealg.IndexByteString", "internal/bytealg.IndexString"], unfollowed := true, recurses := true, named := ["unicode/utf8.first", "unicode/utf8.acceptRanges", "internal/bytealg.MaxLen"], apart := false, laid := [("unicode/utf8.acceptRanges", laid_unicode_utf8_acceptRanges), ("unicode/utf8.first", laid_unicode_utf8_first)], narrowed := true }
def FnLearnUptoSaid : Prop := fnLearnUptoRow.holds Tryd.pinned (OpenSpec.upto fnLearnSpec)

/-- 'laws.FnHeldPoints', WHERE WHAT IT READS IS OF BULK AT MOST 1048576: true; the input reads as it did. -/
def fnHeldPointsUptoRow : OpenClaim := { program := "ytjkgcgbialiipaadoor", sum := "3f0d71ea2e2d79524a3c35a48d237790445ee48995a080fd6264af846aebd5b1", func := "loop.example/switchnetworks/laws.FnHeldPoints", spec := "fnHeldPoints", inPlace := ["internal/bytealg.CountString", "internal/bytealg.IndexByteString", "internal/bytealg.IndexString", "internal/abi.NoEscape", "internal/bytealg.MakeNoZero"], unfollowed := true, recurses := true, named := ["unicode/utf8.first", "unicode/utf8.acceptRanges", "internal/bytealg.MaxLen"], apart := false, laid := [("unicode/utf8.acceptRanges", laid_unicode_utf8_acceptRanges), ("unicode/utf8.first", laid_unicode_utf8_first)], narrowed := true }
def FnHeldPointsUptoSaid : Prop := fnHeldPointsUptoRow.holds Tryd.pinned (OpenSpec.upto fnHeldPointsSpec)

/-- 'laws.FnHoldSwitches', WHERE WHAT IT READS IS OF BULK AT MOST 1048576: true; the input reads as it did. -/
def fnHoldSwitchesUptoRow : OpenClaim := { program := "ytjkgcgbialiipaadoor", sum := "3f0d71ea2e2d79524a3c35a48d237790445ee48995a080fd6264af846aebd5b1", func := "loop.example/switchnetworks/laws.FnHoldSwitches", spec := "fnHoldSwitches", inPlace := ["internal/bytealg.CountString", "internal/bytealg.IndexByteString", "internal/bytealg.IndexString", "internal/abi.NoEscape", "internal/bytealg.MakeNoZero"], unfollowed := true, recurses := true, named := ["unicode/utf8.first", "unicode/utf8.acceptRanges", "internal/bytealg.MaxLen"], apart := false, laid := [("unicode/utf8.acceptRanges", laid_unicode_utf8_acceptRanges), ("unicode/utf8.first", laid_unicode_utf8_first)], narrowed := true }
def FnHoldSwitchesUptoSaid : Prop := fnHoldSwitchesUptoRow.holds Tryd.pinned (OpenSpec.upto fnHoldSwitchesSpec)

/-- 'laws.FnLeastHold', WHERE WHAT IT READS IS OF BULK AT MOST 1048576: true; the input reads as it did. -/
def fnLeastHoldUptoRow : OpenClaim := { program := "ytjkgcgbialiipaadoor", sum := "3f0d71ea2e2d79524a3c35a48d237790445ee48995a080fd6264af846aebd5b1", func := "loop.example/switchnetworks/laws.FnLeastHold", spec := "fnLeastHold", inPlace := ["internal/bytealg.CountString", "internal/bytealg.IndexByteString", "internal/bytealg.IndexString"], unfollowed := true, recurses := true, named := ["unicode/utf8.first", "unicode/utf8.acceptRanges", "internal/bytealg.MaxLen"], apart := false, laid := [("unicode/utf8.acceptRanges", laid_unicode_utf8_acceptRanges), ("unicode/utf8.first", laid_unicode_utf8_first)], narrowed := true }
def FnLeastHoldUptoSaid : Prop := fnLeastHoldUptoRow.holds Tryd.pinned (OpenSpec.upto fnLeastHoldSpec)

/-- 'laws.FnEasiest', WHERE WHAT IT READS IS OF BULK AT MOST 1048576: true; the input reads as it did. -/
def fnEasiestUptoRow : OpenClaim := { program := "ytjkgcgbialiipaadoor", sum := "3f0d71ea2e2d79524a3c35a48d237790445ee48995a080fd6264af846aebd5b1", func := "loop.example/switchnetworks/laws.FnEasiest", spec := "fnEasiest", inPlace := ["internal/bytealg.CountString", "internal/bytealg.IndexByteString", "internal/bytealg.IndexString"], unfollowed := true, recurses := true, named := ["unicode/utf8.first", "unicode/utf8.acceptRanges", "internal/bytealg.MaxLen"], apart := false, laid := [("unicode/utf8.acceptRanges", laid_unicode_utf8_acceptRanges), ("unicode/utf8.first", laid_unicode_utf8_first)], narrowed := true }
def FnEasiestUptoSaid : Prop := fnEasiestUptoRow.holds Tryd.pinned (OpenSpec.upto fnEasiestSpec)

end Rows
end Go.Proofs.YtjkgcgbialiipaaDoor
