/- The law on FormatStates. -/
import Derived.Test.YtacohlojhccfkaaF3
namespace Go.Proofs.Ytacohlojhccfkaa
open Go.RowKit

set_option maxHeartbeats 1000000 in
theorem FnExactFormatStates_ok (ao : Option Addr) (n c : Nat) (zs : List Int) (m : Int) (w : World) (h : RowI w ao n c zs) :
    Calls Try.prog 5 #[.slice ao n c, .int .i64 m] w fun e w' => e = .returned (.bool true) ∧ Below w.heap.size w w' := by
  have hml := h.2.cap
  have hml' := h.2.le
  unfold maxLen at hml
  go_enter Try.func5, Try.ntmps5
  by_cases hbig : 1048576 < n
  · go_wp2
    go_ret
    exact ⟨rfl, Below.refl _ _⟩
  · have hn : n * 8 ≤ 281474976710656 := by omega
    go_wp2_with fail
    refine (toIntS_ok _ _ _ zs _ h hn).mono ?_
    rintro e w1 ⟨x1, rfl, k1, b1⟩
    go_wp2_with fail
    refine (fssS_ok _ _ _ zs _ _ k1.rowI (by omega)).mono ?_
    rintro e w2 ⟨rfl, b2⟩
    go_wp2_with fail
    have c2 : Below w.heap.size w w2 := b1.trans (b2.mono b1.size)
    refine (toIntS_ok _ _ _ zs _ (h.below c2 (Nat.le_refl _)) hn).mono ?_
    rintro e w3 ⟨x3, rfl, k3, b3⟩
    have c3 : Below w.heap.size w w3 := c2.trans (b3.mono c2.size)
    go_wp2_with fail
    refine (fssI_ok _ _ _ zs _ _ k3.rowI (by omega)).mono ?_
    rintro e w4 ⟨rfl, b4⟩
    have c4 : Below w.heap.size w w4 := c3.trans (b4.mono c3.size)
    go_wp2_with fail
    refine (toIntS_ok _ _ _ zs _ (h.below c4 (Nat.le_refl _)) hn).mono ?_
    rintro e w5 ⟨x5, rfl, k5, b5⟩
    have c5 : Below w.heap.size w w5 := c4.trans (b5.mono c4.size)
    go_wp2_with fail
    refine (eqIntS_ok _ _ _ _ _ _ zs zs _ ((k3.rowI.below b4 (Nat.le_refl _)).below b5 (Nat.le_refl _)) k5.rowI).mono ?_
    rintro e w6 ⟨rfl, b6⟩
    have c6 : Below w.heap.size w w6 := c5.trans (b6.mono c5.size)
    simp only [decide_true]
    go_wp2_with fail
    go_ret
    exact ⟨rfl, c6⟩

end Go.Proofs.Ytacohlojhccfkaa
