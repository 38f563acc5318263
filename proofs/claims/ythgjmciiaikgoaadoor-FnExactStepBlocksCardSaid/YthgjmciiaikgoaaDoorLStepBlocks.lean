/- The law FnExactStepBlocks. -/
import Derived.Test.YthgjmciiaikgoaaDoorM9
namespace Go.Proofs.YthgjmciiaikgoaaDoor
open Go.RowKit

set_option maxHeartbeats 2000000 in
theorem FnExactStepBlocks_ok (t : ByteArray) (ao : Option Addr) (n c : Nat) (zs : List Int) (s : Int) (w : World) (_ : t.size ≤ maxLen) (h : RowI w ao n c zs) (hm : MaxLenIs w) :
    Calls Tryd.prog 3 #[.string t, .slice ao n c, .int .i64 s] w fun e w' => e = .returned (.bool true) ∧ Below w.heap.size w w' := by
  have hml := h.2.cap
  have hml' := h.2.le
  unfold maxLen at hml
  go_enter Tryd.func3, Tryd.ntmps3
  by_cases hb0 : 1048576 < t.size
  · go_wp2
    go_ret
    exact ⟨rfl, Below.refl _ _⟩
  by_cases hbig : 1048576 < n
  · go_wp2
    go_ret
    exact ⟨rfl, Below.refl _ _⟩
  · have hn : n * 8 ≤ 281474976710656 := by omega
    have ht : t.size ≤ 1048576 := by omega
    have hn2 : n ≤ 1048576 := by omega
    have HM := Lib.hid hm
    clear hm
    go_wp2_with fail
    refine (toIntS_ok _ _ _ zs _ h hn).mono ?_
    rintro e w1 ⟨x1, rfl, k1, b1⟩
    go_wp2_with fail
    refine (sbS_ok t _ _ _ zs s _ ht k1.rowI hn2).mono ?_
    rintro e w2 ⟨rfl, b2⟩
    have c2 : Below w.heap.size w w2 := b1.trans (b2.mono b1.size)
    go_wp2_with fail
    refine (toIntS_ok _ _ _ zs _ (h.below c2 (Nat.le_refl _)) hn).mono ?_
    rintro e w3 ⟨x3, rfl, k3, b3⟩
    have c3 : Below w.heap.size w w3 := c2.trans (b3.mono c2.size)
    go_wp2_with fail
    refine (sbI_ok t _ _ _ zs s _ ht k3.rowI hn2 (HM.out.below c3 (Nat.le_refl _))).mono ?_
    rintro e w4 ⟨rfl, b4⟩
    have c4 : Below w.heap.size w w4 := c3.trans (b4.mono c3.size)
    generalize sbV (cutsP 44 t) zs s = u
    go_wp2_with fail
    refine (toIntS_ok _ _ _ zs _ (h.below c4 (Nat.le_refl _)) hn).mono ?_
    rintro e w5 ⟨x5, rfl, k5, b5⟩
    have c5 : Below w.heap.size w w5 := c4.trans (b5.mono c4.size)
    go_wp2_with fail
    refine (eqIntS_ok _ _ _ _ _ _ zs zs _ ((k3.rowI.below b4 (Nat.le_refl _)).below b5 (Nat.le_refl _)) k5.rowI).mono ?_
    rintro e w6 ⟨rfl, b6⟩
    have c6 : Below w.heap.size w w6 := c5.trans (b6.mono c5.size)
    simp only [decide_true]
    go_wp2_with fail
    go_ret
    exact ⟨rfl, c6⟩

end Go.Proofs.YthgjmciiaikgoaaDoor
