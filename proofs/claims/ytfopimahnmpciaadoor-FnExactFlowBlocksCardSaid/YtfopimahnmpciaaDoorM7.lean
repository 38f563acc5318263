/- Walks: a step of each block, on both sides. -/
import Derived.Test.YtfopimahnmpciaaDoorM6
namespace Go.Proofs.YtfopimahnmpciaaDoor
open Go.RowKit

theorem fold_all {top : Int} : ∀ (zs : List Int) (t u : Nat), zs.foldlM (addB top) t = some u → ∀ z ∈ zs, 1 ≤ z ∧ z < top
  | [], _, _, _, z, hz => by cases hz
  | x :: zs, t, u, h, z, hz => by
    rw [List.foldlM_cons] at h
    cases hx : addB top t x with
    | none => rw [hx] at h; cases h
    | some v =>
      rw [hx] at h
      rcases List.mem_cons.1 hz with rfl | hz
      · unfold addB at hx
        split at hx
        · rename_i hc; exact ⟨hc.1, hc.2.1⟩
        · cases hx
      · exact fold_all zs v u h z hz
theorem blocks_all {zs : List Int} {m : Int} (h : blocksV zs m = true) (k : Nat) (hk : k < zs.length) : 1 ≤ gI zs k ∧ gI zs k < 2 ^ m.toNat := by
  rw [← blocks_same] at h
  simp only [blocksI, Bool.and_eq_true, decide_eq_true_iff] at h
  exact fold_all zs 0 _ h.2 _ (List.mem_of_getElem? (gI_lt hk))

end Go.Proofs.YtfopimahnmpciaaDoor
