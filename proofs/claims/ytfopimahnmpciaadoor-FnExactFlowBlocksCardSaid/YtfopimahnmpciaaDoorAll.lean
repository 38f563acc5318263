/- Walks: all switches of a network; its states. -/
import Derived.Test.YtfopimahnmpciaaDoorM4
namespace Go.Proofs.YtfopimahnmpciaaDoor
open Go.RowKit

theorem wrap_all (n : Nat) (h : n ≤ 5) : wrap64 (wrap64 (2 ^ n) - 1) = ((2 ^ n - 1 : Nat) : Int) := by
  rcases (show n = 0 ∨ n = 1 ∨ n = 2 ∨ n = 3 ∨ n = 4 ∨ n = 5 by omega) with rfl | rfl | rfl | rfl | rfl | rfl <;> (unfold wrap64; omega)

set_option maxHeartbeats 1000000 in
theorem l3All_ok (ao : Option Addr) (n c : Nat) (w : World) (hn : n ≤ 5) :
    Calls Tryd.prog 11 #[.slice ao n c] w fun e w' => e = .returned (.int .i64 ((2 ^ n - 1 : Nat) : Int)) ∧ w = w' := by
  have HP := Lib.hid (wrap_all n hn)
  go_enter Tryd.func11, Tryd.ntmps11
  go_wp2
  go_ret
  exact ⟨reti HP.out, rfl⟩

/-- Whether a number is a state of so many switches. -/
def stOk (n : Nat) (s : Int) : Bool := inB s 0 ((2 ^ n - 1 : Nat) : Int)
theorem stOk_iff {n : Nat} {s : Int} : stOk n s = true ↔ 0 ≤ s ∧ s < ((2 ^ n : Nat) : Int) := by
  have : 0 < 2 ^ n := Nat.two_pow_pos n
  rw [stOk, inB_iff]
  omega

theorem stOk_lt {n : Nat} {s : Int} (h : stOk n s = false) : s < 0 ∨ ((2 ^ n : Nat) : Int) ≤ s := by
  rw [Bool.eq_false_iff, Ne, stOk_iff] at h
  omega

end Go.Proofs.YtfopimahnmpciaaDoor
