/- The law FnExactHoldSwitches. -/
import Derived.Test.YthgjmciiaikgoaaDoorH6
namespace Go.Proofs.YthgjmciiaikgoaaDoor
open Go.RowKit

set_option maxHeartbeats 2000000 in
theorem FnExactHoldSwitches_ok (s t : ByteArray) (w : World) (_ : s.size ≤ maxLen) (_ : t.size ≤ maxLen) (hm : MaxLenIs w) :
    Calls Tryd.prog 7 #[.string s, .string t] w fun e w' => e = .returned (.bool true) ∧ Below w.heap.size w w' := by
  go_enter Tryd.func7, Tryd.ntmps7
  by_cases hb0 : 1048576 < s.size
  · go_wp2
    go_ret
    exact ⟨rfl, Below.refl _ _⟩
  by_cases hb1 : 1048576 < t.size
  · go_wp2
    go_ret
    exact ⟨rfl, Below.refl _ _⟩
  · have hs : s.size ≤ 1048576 := by omega
    have ht : t.size ≤ 1048576 := by omega
    have HM := Lib.hid hm
    clear hm
    go_wp2_with fail
    refine (hsS_ok s t _ hs ht).mono ?_
    rintro e w1 ⟨rfl, b1⟩
    go_wp2_with fail
    refine (hsI_ok s t _ hs ht (HM.out.below b1 (Nat.le_refl _))).mono ?_
    rintro e w2 ⟨rfl, b2⟩
    have c2 : Below w.heap.size w w2 := b1.trans (b2.mono b1.size)
    generalize hsT (cutsP 44 s) t.data.toList = u
    generalize htB (cutsP 44 s) t.data.toList = ub
    go_wp2_with fail
    go_ret
    exact ⟨rfl, c2⟩

end Go.Proofs.YthgjmciiaikgoaaDoor
