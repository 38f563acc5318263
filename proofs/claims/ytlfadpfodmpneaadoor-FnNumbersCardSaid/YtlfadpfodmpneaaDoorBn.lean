/- Walks: whether two rows are the same, by the laws' own function. -/
import Derived.Test.YtlfadpfodmpneaaDoorA1
namespace Go.Proofs.YtlfadpfodmpneaaDoor
open Go.RowKit

set_option maxHeartbeats 1000000 in
theorem bnSame_ok (ao bo : Option Addr) (c d : Nat) (zs : List Int) (w : World) (h : RowI w ao zs.length c zs) (h' : RowI w bo zs.length d zs) :
    Calls Tryd.prog 15 #[.slice ao zs.length c, .slice bo zs.length d] w fun e w' => e = .returned (.bool true) ∧ Below w.heap.size w w' := by
  have hcap := h.2.cap
  have hle := h.2.le
  unfold maxLen at hcap
  go_enter Tryd.func15, Tryd.ntmps15
  go_wp2_with fail
  go_loopw [5] (fun q wr => ∃ k : Nat, k ≤ zs.length ∧ q = .int .i64 k ∧ Below w.heap.size w wr) (fun q _ => zs.length - (intOf q).toNat)
  case atStart => exact ⟨0, Nat.zero_le _, rfl, Below.refl _ _⟩
  case round =>
    obtain ⟨k, hk, rfl, hb⟩ := hrel
    by_cases hlt : k < zs.length
    · obtain ⟨b, o, rfl, _⟩ := h.2.some (by omega)
      obtain ⟨b', o', rfl, _⟩ := h'.2.some (by omega)
      have hc1 := (h.below hb (Nat.le_refl _)).2.cell b o rfl k hlt
      have hc2 := (h'.below hb (Nat.le_refl _)).2.cell b' o' rfl k hlt
      have hlt' : (k : Int) < (zs.length : Int) := by omega
      clear h h'
      go_wp2_with fail
      go_quiet (fail)
      go_wp2_with fail
      go_roundw
      case rel => exact ⟨k + 1, by omega, by go_num, hb.trans ⟨rfl, rfl, rfl, Nat.le_refl _, fun _ _ => rfl⟩⟩
      case measure => simp [intOf]; omega
    · obtain rfl : k = zs.length := by omega
      go_wp2_with fail
      go_ret
      exact ⟨rfl, hb⟩

end Go.Proofs.YtlfadpfodmpneaaDoor
