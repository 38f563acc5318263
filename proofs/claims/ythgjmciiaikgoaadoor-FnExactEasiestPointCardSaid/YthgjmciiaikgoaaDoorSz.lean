/- Walks: the size of a set. -/
import Derived.Test.YthgjmciiaikgoaaDoorPop
import Derived.Test.YthgjmciiaikgoaaDoorBit
import Derived.Test.YthgjmciiaikgoaaDoorA1
namespace Go.Proofs.YthgjmciiaikgoaaDoor
open Go.RowKit

set_option maxHeartbeats 1000000 in
theorem l7Size_ok (s : Int) (w : World) (h0 : 0 ≤ s) (h1 : s < 64) :
    Calls Tryd.prog 84 #[.int .i64 s] w fun e w' => e = .returned (.int .i64 (popN s.toNat : Nat)) ∧ w = w' := by
  obtain ⟨m, rfl⟩ := Int.eq_ofNat_of_zero_le h0
  go_enter Tryd.func84, Tryd.ntmps84
  go_wp2
  go_loop [3, 4] (fun n i => ∃ k : Nat, k ≤ 5 ∧ i = .int .i64 k ∧ n = .int .i64 (popTo m k : Nat)) (fun _ i => 5 - (intOf i).toNat)
  case atStart => exact ⟨0, by omega, rfl, rfl⟩
  case round =>
    obtain ⟨k, hk, rfl, rfl⟩ := hrel
    by_cases hlt : k < 5
    · have hs := Lib.hid (popTo_succ m k)
      have hle := popTo_le m k
      have hb := bN_lt m k
      go_wp2_with (go_at_call 53; refine (l1Bit_ok _ _ _ (by omega) (by omega) (by omega) (by omega)).mono ?_; rintro e w' ⟨rfl, rfl⟩)
      go_round
      case rel => exact ⟨k + 1, by omega, by go_num, by rw [hs.out]; go_num⟩
      case measure => simp [intOf]; omega
    · obtain rfl : k = 5 := by omega
      go_wp2
      go_ret
      exact ⟨reti (by rw [popTo_five]), rfl⟩

set_option maxHeartbeats 1000000 in
theorem OnesCount_ok (x : Nat) (w : World) (hx : x < 32) :
    Calls Tryd.prog 86 #[.int .u64 x] w fun e w' => e = .returned (.int .i64 (popN x : Nat)) ∧ w = w' := by
  go_enter Tryd.func86, Tryd.ntmps86
  go_wp2
  go_ret
  refine ⟨reti ?_, rfl⟩
  revert x
  decide +kernel

end Go.Proofs.YthgjmciiaikgoaaDoor
