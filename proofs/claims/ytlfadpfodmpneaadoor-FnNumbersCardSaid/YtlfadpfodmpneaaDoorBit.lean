/- Walks: the digit of a state. -/
import Derived.Test.YtlfadpfodmpneaaDoorA1
import Derived.Test.YtlfadpfodmpneaaDoorPop
namespace Go.Proofs.YtlfadpfodmpneaaDoor
open Go.RowKit

set_option maxHeartbeats 400000 in
theorem l1Bit_ok (s i : Int) (w : World) (h0 : 0 ≤ s) (h1 : s < 2 ^ 62) (h2 : 0 ≤ i) (h3 : i < 64) :
    Calls Tryd.prog 55 #[.int .i64 s, .int .i64 i] w fun e w' => e = .returned (.int .i64 (bN s.toNat i.toNat : Nat)) ∧ w = w' := by
  obtain ⟨m, rfl⟩ := Int.eq_ofNat_of_zero_le h0
  obtain ⟨k, rfl⟩ := Int.eq_ofNat_of_zero_le h2
  have HB := Lib.hid (bit_int (m : Int) k h0 (by omega))
  go_enter Tryd.func55, Tryd.ntmps55
  go_wp2
  go_ret
  exact ⟨reti (by rw [HB.out]; rfl), rfl⟩

end Go.Proofs.YtlfadpfodmpneaaDoor
