/- Walks: StepBlocks on both sides. -/
import Derived.Test.YtfopimahnmpciaaDoorM8
import Derived.Test.YtfopimahnmpciaaDoorAll
namespace Go.Proofs.YtfopimahnmpciaaDoor
open Go.RowKit

theorem nb_net {ps : List ByteArray} {zs : List Int} (h : nbB ps zs = true) : netB ps = true := by
  rw [nbB, Bool.and_eq_true] at h; exact h.1
theorem nb_blocks {ps : List ByteArray} {zs : List Int} (h : nbB ps zs = true) (k : Nat) (hk : k < zs.length) : 1 ≤ gI zs k ∧ gI zs k < 2 ^ ps.length := by
  rw [nbB, Bool.and_eq_true] at h
  have := blocks_all h.2 k hk
  rwa [Int.toNat_natCast] at this

/-- What StepBlocks gives. -/
def sbV (ps : List ByteArray) (zs : List Int) (s : Int) : Int := if (nbB ps zs && stOk ps.length s) = true then (runTo ps zs s.toNat zs.length : Nat) else -1
theorem sb_no {ps : List ByteArray} {zs : List Int} {s : Int} (h : nbB ps zs = false) : sbV ps zs s = -1 := by simp [sbV, h]
theorem sb_out {ps : List ByteArray} {zs : List Int} {s : Int} (h : stOk ps.length s = false) : sbV ps zs s = -1 := by simp [sbV, h]
theorem sb_yes {ps : List ByteArray} {zs : List Int} {s : Nat} (h : nbB ps zs = true) (h2 : stOk ps.length s = true) : sbV ps zs s = (runTo ps zs s zs.length : Nat) := by simp [sbV, h, h2]

end Go.Proofs.YtfopimahnmpciaaDoor
