/-
  No cell of these rows narrows 'for every input' (looked for: loops, veiled, ifaces, maps, wideKeys, modest, calm, conditions, laid).
  DERIVED. THE GIVEN ROWS OF THIS SEAT. 6 by the template 'for every input the law returns true; each argument reads behind the call as it read before'; 0 by the template 'total and deterministic' (their statements: YtacohlojhccfkaaTotals.lean).
  GIVEN WITH THE SEED: the statements are not yours to turn. If you find one false, say at which input.
  Laid BY PROGRAM, IN A SANDBOX (cutbox-rows.mjs): the forced cells as the released guide's own fill.sh prints them over the translation 06d10c277cf9d0e2… (all of the seat's roots in one cut). By AI agents, Wed Nov 11 2026. No macro, syntax, notation, axiom, sorry.
-/
import Derived.Test.YtacohlojhccfkaaChecked
import GoSem.Claim
import GoSem.ClaimJoined
import GoSem.ClaimMapViews
import Derived.JoinedTies
import Derived.KernelRfl
namespace Go.Proofs.Ytacohlojhccfkaa
/- THE CELL 'sum', in the pinned program and in every row, IS THE sha256 OF THE DUMP (.gsa) THAT YtacohlojhccfkaaProg.lean LOADS. Nothing in Lean hashes anything: it is a label: what it is worth is what the hold of that sum in a sandbox is worth. -/
noncomputable def Try.pinned : Pinned := { name := "ytacohlojhccfkaa", sum := "06d10c277cf9d0e2a42edafb844f4b71c5c312be70494576a9ee391c145020f1", checked := Try.checked }
namespace Rows
def none {H : Type} : Left H := { results := [], args := [] }

/-- 'laws.FnExactUnseenOf': WHATEVER THE INPUT: true; the input reads as it did. -/
def fnExactUnseenOfSpec : ChangeSpec := { name := "fnExactUnseenOf", fn := fun _ => fun
  | [d1, d2] => { results := [.lit (.bool true)], args := [d1, d2] }
  | _ => none }
def fnExactUnseenOfRow : OpenClaim := { program := "ytacohlojhccfkaa", sum := "06d10c277cf9d0e2a42edafb844f4b71c5c312be70494576a9ee391c145020f1", func := "loop.example/switchnetworks/laws.FnExactUnseenOf", spec := "fnExactUnseenOf", unfollowed := true, recurses := true, apart := false }
def FnExactUnseenOfSaid : Prop := fnExactUnseenOfRow.holds Try.pinned (OpenSpec.ofChange fnExactUnseenOfSpec)

/-- ITS FALSE NEIGHBOUR: 'it returns false'. Refute it at one input. -/
def fnExactUnseenOfWrong : ChangeSpec := { name := "fnExactUnseenOf", fn := fun _ => fun
  | [d1, d2] => { results := [.lit (.bool false)], args := [d1, d2] }
  | _ => none }
def FnExactUnseenOfWrongFalsely : Prop := fnExactUnseenOfRow.holds Try.pinned (OpenSpec.ofChange fnExactUnseenOfWrong)

/-- 'laws.FnExactAllRules': WHATEVER THE INPUT: true; the input reads as it did. -/
def fnExactAllRulesSpec : ChangeSpec := { name := "fnExactAllRules", fn := fun _ => fun
  | [d1, d2, d3] => { results := [.lit (.bool true)], args := [d1, d2, d3] }
  | _ => none }
def fnExactAllRulesRow : OpenClaim := { program := "ytacohlojhccfkaa", sum := "06d10c277cf9d0e2a42edafb844f4b71c5c312be70494576a9ee391c145020f1", func := "loop.example/switchnetworks/laws.FnExactAllRules", spec := "fnExactAllRules", unfollowed := true, recurses := true, apart := false }
def FnExactAllRulesSaid : Prop := fnExactAllRulesRow.holds Try.pinned (OpenSpec.ofChange fnExactAllRulesSpec)

/-- ITS FALSE NEIGHBOUR: 'it returns false'. Refute it at one input. -/
def fnExactAllRulesWrong : ChangeSpec := { name := "fnExactAllRules", fn := fun _ => fun
  | [d1, d2, d3] => { results := [.lit (.bool false)], args := [d1, d2, d3] }
  | _ => none }
def FnExactAllRulesWrongFalsely : Prop := fnExactAllRulesRow.holds Try.pinned (OpenSpec.ofChange fnExactAllRulesWrong)

/-- 'laws.FnExactFormatStates': WHATEVER THE INPUT: true; the input reads as it did. -/
def fnExactFormatStatesSpec : ChangeSpec := { name := "fnExactFormatStates", fn := fun _ => fun
  | [d1, d2] => { results := [.lit (.bool true)], args := [d1, d2] }
  | _ => none }
def fnExactFormatStatesRow : OpenClaim := { program := "ytacohlojhccfkaa", sum := "06d10c277cf9d0e2a42edafb844f4b71c5c312be70494576a9ee391c145020f1", func := "loop.example/switchnetworks/laws.FnExactFormatStates", spec := "fnExactFormatStates", inPlace := ["internal/abi.NoEscape", "internal/bytealg.MakeNoZero"], recurses := true, apart := false }
def FnExactFormatStatesSaid : Prop := fnExactFormatStatesRow.holds Try.pinned (OpenSpec.ofChange fnExactFormatStatesSpec)

/-- ITS FALSE NEIGHBOUR: 'it returns false'. Refute it at one input. -/
def fnExactFormatStatesWrong : ChangeSpec := { name := "fnExactFormatStates", fn := fun _ => fun
  | [d1, d2] => { results := [.lit (.bool false)], args := [d1, d2] }
  | _ => none }
def FnExactFormatStatesWrongFalsely : Prop := fnExactFormatStatesRow.holds Try.pinned (OpenSpec.ofChange fnExactFormatStatesWrong)

/-- 'laws.FnExactLeastInputs': WHATEVER THE INPUT: true; the input reads as it did. -/
def fnExactLeastInputsSpec : ChangeSpec := { name := "fnExactLeastInputs", fn := fun _ => fun
  | [d1, d2, d3] => { results := [.lit (.bool true)], args := [d1, d2, d3] }
  | _ => none }
def fnExactLeastInputsRow : OpenClaim := { program := "ytacohlojhccfkaa", sum := "06d10c277cf9d0e2a42edafb844f4b71c5c312be70494576a9ee391c145020f1", func := "loop.example/switchnetworks/laws.FnExactLeastInputs", spec := "fnExactLeastInputs", unfollowed := true, recurses := true, apart := false }
def FnExactLeastInputsSaid : Prop := fnExactLeastInputsRow.holds Try.pinned (OpenSpec.ofChange fnExactLeastInputsSpec)

/-- ITS FALSE NEIGHBOUR: 'it returns false'. Refute it at one input. -/
def fnExactLeastInputsWrong : ChangeSpec := { name := "fnExactLeastInputs", fn := fun _ => fun
  | [d1, d2, d3] => { results := [.lit (.bool false)], args := [d1, d2, d3] }
  | _ => none }
def FnExactLeastInputsWrongFalsely : Prop := fnExactLeastInputsRow.holds Try.pinned (OpenSpec.ofChange fnExactLeastInputsWrong)

/-- 'laws.FnExactLearnRule': WHATEVER THE INPUT: true; the input reads as it did. -/
def fnExactLearnRuleSpec : ChangeSpec := { name := "fnExactLearnRule", fn := fun _ => fun
  | [d1, d2, d3] => { results := [.lit (.bool true)], args := [d1, d2, d3] }
  | _ => none }
def fnExactLearnRuleRow : OpenClaim := { program := "ytacohlojhccfkaa", sum := "06d10c277cf9d0e2a42edafb844f4b71c5c312be70494576a9ee391c145020f1", func := "loop.example/switchnetworks/laws.FnExactLearnRule", spec := "fnExactLearnRule", unfollowed := true, recurses := true, apart := false }
def FnExactLearnRuleSaid : Prop := fnExactLearnRuleRow.holds Try.pinned (OpenSpec.ofChange fnExactLearnRuleSpec)

/-- ITS FALSE NEIGHBOUR: 'it returns false'. Refute it at one input. -/
def fnExactLearnRuleWrong : ChangeSpec := { name := "fnExactLearnRule", fn := fun _ => fun
  | [d1, d2, d3] => { results := [.lit (.bool false)], args := [d1, d2, d3] }
  | _ => none }
def FnExactLearnRuleWrongFalsely : Prop := fnExactLearnRuleRow.holds Try.pinned (OpenSpec.ofChange fnExactLearnRuleWrong)

/-- 'laws.FnExactLearnNetwork': WHATEVER THE INPUT: true; the input reads as it did. -/
def fnExactLearnNetworkSpec : ChangeSpec := { name := "fnExactLearnNetwork", fn := fun _ => fun
  | [d1, d2] => { results := [.lit (.bool true)], args := [d1, d2] }
  | _ => none }
def fnExactLearnNetworkRow : OpenClaim := { program := "ytacohlojhccfkaa", sum := "06d10c277cf9d0e2a42edafb844f4b71c5c312be70494576a9ee391c145020f1", func := "loop.example/switchnetworks/laws.FnExactLearnNetwork", spec := "fnExactLearnNetwork", unfollowed := true, recurses := true, apart := false }
def FnExactLearnNetworkSaid : Prop := fnExactLearnNetworkRow.holds Try.pinned (OpenSpec.ofChange fnExactLearnNetworkSpec)

/-- ITS FALSE NEIGHBOUR: 'it returns false'. Refute it at one input. -/
def fnExactLearnNetworkWrong : ChangeSpec := { name := "fnExactLearnNetwork", fn := fun _ => fun
  | [d1, d2] => { results := [.lit (.bool false)], args := [d1, d2] }
  | _ => none }
def FnExactLearnNetworkWrongFalsely : Prop := fnExactLearnNetworkRow.holds Try.pinned (OpenSpec.ofChange fnExactLearnNetworkWrong)

/- THE SECOND FORM. 'bulk': how many values and letters a reading holds, each counted each time it is reached (what is shared counts as often as it is met; a slice's spare places count too). A statement '..UptoSaid' is the law's where the arguments, and the package variables that the reading takes, are together of bulk at most 1048576: NARROWER than '..Said'. Prove '..Said' where nothing that the law and all that it calls make is longer than what came in: it says more and counts as full. Else prove '..UptoSaid'. A law counts once. -/
mutual
def uptoBulk {H : Type} : DataW H → Nat
  | .lit (.string bytes) => bytes.length + 1
  | .lit _ => 1
  | .nil => 1
  | .ptr d => uptoBulk d + 1
  | .slice elems spare => uptoBulkAll elems + uptoBulkAll spare + 1
  | .agg parts => uptoBulkAll parts + 1
  | .iface _ d => uptoBulk d + 1
  | .map entries => uptoBulkEntries entries + 1
  | .held _ => 1
def uptoBulkAll {H : Type} : List (DataW H) → Nat
  | [] => 0
  | d :: r => uptoBulk d + uptoBulkAll r
def uptoBulkEntries {H : Type} : List (Lit × DataW H) → Nat
  | [] => 0
  | x :: r => uptoBulkEntry x + uptoBulkEntries r
def uptoBulkEntry {H : Type} : Lit × DataW H → Nat
  | (.string bytes, d) => bytes.length + uptoBulk d + 1
  | (_, d) => uptoBulk d + 1
 end
def uptoSmall : (H : Type) → List (DataW H) → Bool := fun _ ds => decide (uptoBulkAll ds ≤ 1048576)
def OpenSpec.upto (s : _root_.Go.ChangeSpec) : _root_.Go.OpenSpec := { _root_.Go.OpenSpec.ofChange s with cond := some uptoSmall }

/-- 'laws.FnExactUnseenOf', WHERE WHAT IT READS IS OF BULK AT MOST 1048576: true; the input reads as it did. -/
def fnExactUnseenOfUptoRow : OpenClaim := { program := "ytacohlojhccfkaa", sum := "06d10c277cf9d0e2a42edafb844f4b71c5c312be70494576a9ee391c145020f1", func := "loop.example/switchnetworks/laws.FnExactUnseenOf", spec := "fnExactUnseenOf", unfollowed := true, recurses := true, apart := false, narrowed := true }
def FnExactUnseenOfUptoSaid : Prop := fnExactUnseenOfUptoRow.holds Try.pinned (OpenSpec.upto fnExactUnseenOfSpec)

/-- 'laws.FnExactAllRules', WHERE WHAT IT READS IS OF BULK AT MOST 1048576: true; the input reads as it did. -/
def fnExactAllRulesUptoRow : OpenClaim := { program := "ytacohlojhccfkaa", sum := "06d10c277cf9d0e2a42edafb844f4b71c5c312be70494576a9ee391c145020f1", func := "loop.example/switchnetworks/laws.FnExactAllRules", spec := "fnExactAllRules", unfollowed := true, recurses := true, apart := false, narrowed := true }
def FnExactAllRulesUptoSaid : Prop := fnExactAllRulesUptoRow.holds Try.pinned (OpenSpec.upto fnExactAllRulesSpec)

/-- 'laws.FnExactFormatStates', WHERE WHAT IT READS IS OF BULK AT MOST 1048576: true; the input reads as it did. -/
def fnExactFormatStatesUptoRow : OpenClaim := { program := "ytacohlojhccfkaa", sum := "06d10c277cf9d0e2a42edafb844f4b71c5c312be70494576a9ee391c145020f1", func := "loop.example/switchnetworks/laws.FnExactFormatStates", spec := "fnExactFormatStates", inPlace := ["internal/abi.NoEscape", "internal/bytealg.MakeNoZero"], recurses := true, apart := false, narrowed := true }
def FnExactFormatStatesUptoSaid : Prop := fnExactFormatStatesUptoRow.holds Try.pinned (OpenSpec.upto fnExactFormatStatesSpec)

/-- 'laws.FnExactLeastInputs', WHERE WHAT IT READS IS OF BULK AT MOST 1048576: true; the input reads as it did. -/
def fnExactLeastInputsUptoRow : OpenClaim := { program := "ytacohlojhccfkaa", sum := "06d10c277cf9d0e2a42edafb844f4b71c5c312be70494576a9ee391c145020f1", func := "loop.example/switchnetworks/laws.FnExactLeastInputs", spec := "fnExactLeastInputs", unfollowed := true, recurses := true, apart := false, narrowed := true }
def FnExactLeastInputsUptoSaid : Prop := fnExactLeastInputsUptoRow.holds Try.pinned (OpenSpec.upto fnExactLeastInputsSpec)

/-- 'laws.FnExactLearnRule', WHERE WHAT IT READS IS OF BULK AT MOST 1048576: true; the input reads as it did. -/
def fnExactLearnRuleUptoRow : OpenClaim := { program := "ytacohlojhccfkaa", sum := "06d10c277cf9d0e2a42edafb844f4b71c5c312be70494576a9ee391c145020f1", func := "loop.example/switchnetworks/laws.FnExactLearnRule", spec := "fnExactLearnRule", unfollowed := true, recurses := true, apart := false, narrowed := true }
def FnExactLearnRuleUptoSaid : Prop := fnExactLearnRuleUptoRow.holds Try.pinned (OpenSpec.upto fnExactLearnRuleSpec)

/-- 'laws.FnExactLearnNetwork', WHERE WHAT IT READS IS OF BULK AT MOST 1048576: true; the input reads as it did. -/
def fnExactLearnNetworkUptoRow : OpenClaim := { program := "ytacohlojhccfkaa", sum := "06d10c277cf9d0e2a42edafb844f4b71c5c312be70494576a9ee391c145020f1", func := "loop.example/switchnetworks/laws.FnExactLearnNetwork", spec := "fnExactLearnNetwork", unfollowed := true, recurses := true, apart := false, narrowed := true }
def FnExactLearnNetworkUptoSaid : Prop := fnExactLearnNetworkUptoRow.holds Try.pinned (OpenSpec.upto fnExactLearnNetworkSpec)

end Rows
end Go.Proofs.Ytacohlojhccfkaa
