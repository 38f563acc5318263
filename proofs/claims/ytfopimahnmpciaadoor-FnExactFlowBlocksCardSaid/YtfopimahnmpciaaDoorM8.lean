/- Walks: StepBlocks on both sides. -/
import Derived.Test.YtfopimahnmpciaaDoorM7
namespace Go.Proofs.YtfopimahnmpciaaDoor
open Go.RowKit

/-- Whether a text is a network and sets are blocks of its switches. -/
def nbB (ps : List ByteArray) (zs : List Int) : Bool := netB ps && blocksV zs ps.length
theorem nb_no {ps : List ByteArray} {zs : List Int} (h : netB ps = false) : nbB ps zs = false := by simp [nbB, h]
theorem nb_yes {ps : List ByteArray} {zs : List Int} (h : netB ps = true) : nbB ps zs = blocksV zs ps.length := by simp [nbB, h]

end Go.Proofs.YtfopimahnmpciaaDoor
