/- The law on LeastInputs. -/
import Derived.Test.YtacohlojhccfkaaC3
namespace Go.Proofs.Ytacohlojhccfkaa
open Go.RowKit Go.Maps

set_option maxHeartbeats 1000000 in
theorem FnExactLeastInputs_ok (ao : Option Addr) (n c : Nat) (zs : List (Int × Int)) (m i : Int) (w : World) (h : RowS w ao n c zs) :
    Calls Try.prog 6 #[.slice ao n c, .int .i64 m, .int .i64 i] w fun e w' => e = .returned (.bool true) ∧ Below w.heap.size w w' := by
  have hml := h.cap
  have hml' := h.le
  by_cases hbig : n ≤ 1048576
  rotate_left
  · go_enter Try.func6, Try.ntmps6
    go_wp2_with fail
    refine (szSeenS_ok ao n c w (by omega)).mono ?_
    rintro e w1 ⟨rfl, rfl⟩
    rw [if_neg hbig]
    go_wp2_with fail
    go_ret
    exact ⟨rfl, Below.refl _ _⟩
  · have hn : n * 16 ≤ 281474976710656 := by omega
    have h2 : ¬ (1048576 - (n : Int) < 0) := by omega
    go_enter Try.func6, Try.ntmps6
    go_wp2_with fail
    refine (szSeenS_ok ao n c w (by omega)).mono ?_
    rintro e w0 ⟨rfl, rfl⟩
    rw [if_pos hbig]
    go_wp2_with fail
    refine (toSeenS_ok _ _ _ zs _ h hn).mono ?_
    rintro e w1 ⟨g1, hg1, rfl, k1, b1⟩
    go_wp2_with fail
    refine (leS_ok _ _ _ zs _ _ _ (RowS.of_blk k1 h.len (by omega))).mono ?_
    rintro e w2 ⟨rfl, b2⟩
    have c2 : Below w.heap.size w w2 := b1.trans (b2.mono b1.size)
    go_wp2_with fail
    refine (toSeenS_ok _ _ _ zs _ (h.below c2 (Nat.le_refl _)) hn).mono ?_
    rintro e w3 ⟨g3, hg3, rfl, k3, b3⟩
    have c3 : Below w.heap.size w w3 := c2.trans (b3.mono c2.size)
    go_wp2_with fail
    refine (leI_ok _ _ _ zs _ _ _ (RowS.of_blk k3 h.len (by omega))).mono ?_
    rintro e w4 ⟨rfl, b4⟩
    have c4 : Below w.heap.size w w4 := c3.trans (b4.mono c3.size)
    have k4 := k3.below b4 k3.lt
    go_wp2_with fail
    refine (toSeenS_ok _ _ _ zs _ (h.below c4 (Nat.le_refl _)) hn).mono ?_
    rintro e w5 ⟨g5, hg5, rfl, k5, b5⟩
    have c5 : Below w.heap.size w w5 := c4.trans (b5.mono c4.size)
    go_wp2_with fail
    refine (eqSeenS_ok _ _ _ _ _ _ zs zs _ (RowS.of_blk (k4.below b5 k4.lt) h.len (by omega)) (RowS.of_blk k5 h.len (by omega))).mono ?_
    rintro e w6 ⟨rfl, b6⟩
    have c6 : Below w.heap.size w w6 := c5.trans (b6.mono c5.size)
    simp only [decide_true]
    go_wp2_with fail
    go_ret
    exact ⟨rfl, c6⟩


end Go.Proofs.Ytacohlojhccfkaa
