/- The law FnExactSameSchedule. -/
import Derived.Test.YthgjmciiaikgoaaDoorLNob
namespace Go.Proofs.YthgjmciiaikgoaaDoor
open Go.RowKit

set_option maxHeartbeats 2000000 in
theorem FnExactSameSchedule_ok (t : ByteArray) (ao : Option Addr) (n c : Nat) (xs : List Int) (bo : Option Addr) (l d : Nat) (ys : List Int) (w : World) (_ : t.size ≤ maxLen) (h : RowI w ao n c xs) (h' : RowI w bo l d ys) (hm : MaxLenIs w) :
    Calls Tryd.prog 9 #[.string t, .slice ao n c, .slice bo l d] w fun e w' => e = .returned (.bool true) ∧ Below w.heap.size w w' := by
  have hml := h.2.cap
  have hml' := h.2.le
  have hml2 := h'.2.cap
  have hml2' := h'.2.le
  unfold maxLen at hml hml2
  go_enter Tryd.func9, Tryd.ntmps9
  by_cases hb0 : 1048576 < t.size
  · go_wp2
    go_ret
    exact ⟨rfl, Below.refl _ _⟩
  by_cases hbig : 1048576 < n
  · go_wp2
    go_ret
    exact ⟨rfl, Below.refl _ _⟩
  by_cases hbig2 : 1048576 < l
  · go_wp2
    go_ret
    exact ⟨rfl, Below.refl _ _⟩
  · have hn : n * 8 ≤ 281474976710656 := by omega
    have hl : l * 8 ≤ 281474976710656 := by omega
    have ht : t.size ≤ 1048576 := by omega
    have hn2 : n ≤ 1048576 := by omega
    have hl2 : l ≤ 1048576 := by omega
    have HM := Lib.hid hm
    clear hm
    go_wp2_with fail
    refine (toIntS_ok _ _ _ xs _ h hn).mono ?_
    rintro e w1 ⟨x1, rfl, k1, b1⟩
    go_wp2_with fail
    refine (toIntS_ok _ _ _ ys _ (h'.below b1 (Nat.le_refl _)) hl).mono ?_
    rintro e w1b ⟨x1b, rfl, k1b, b1b⟩
    have c1b : Below w.heap.size w w1b := b1.trans (b1b.mono b1.size)
    go_wp2_with fail
    refine (ssS_ok t _ _ _ _ _ _ xs ys _ ht (k1.rowI.below b1b (Nat.le_refl _)) hn2 k1b.rowI hl2).mono ?_
    rintro e w2 ⟨rfl, b2⟩
    have c2 : Below w.heap.size w w2 := c1b.trans (b2.mono c1b.size)
    go_wp2_with fail
    refine (toIntS_ok _ _ _ xs _ (h.below c2 (Nat.le_refl _)) hn).mono ?_
    rintro e w3 ⟨x3, rfl, k3, b3⟩
    have c3 : Below w.heap.size w w3 := c2.trans (b3.mono c2.size)
    go_wp2_with fail
    refine (toIntS_ok _ _ _ ys _ (h'.below c3 (Nat.le_refl _)) hl).mono ?_
    rintro e w3b ⟨x3b, rfl, k3b, b3b⟩
    have c3b : Below w.heap.size w w3b := c3.trans (b3b.mono c3.size)
    go_wp2_with fail
    refine (ssI_ok t _ _ _ _ _ _ xs ys _ ht (k3.rowI.below b3b (Nat.le_refl _)) hn2 k3b.rowI hl2 (HM.out.below c3b (Nat.le_refl _))).mono ?_
    rintro e w4 ⟨rfl, b4⟩
    have c4 : Below w.heap.size w w4 := c3b.trans (b4.mono c3b.size)
    generalize ssV (cutsP 44 t) xs ys = u
    have r3 := (k3.rowI.below b3b (Nat.le_refl _)).below b4 (Nat.le_refl _)
    have r3b := k3b.rowI.below b4 (Nat.le_refl _)
    go_wp2_with fail
    refine (toIntS_ok _ _ _ xs _ (h.below c4 (Nat.le_refl _)) hn).mono ?_
    rintro e w5 ⟨x5, rfl, k5, b5⟩
    have c5 : Below w.heap.size w w5 := c4.trans (b5.mono c4.size)
    go_wp2_with fail
    refine (eqIntS_ok _ _ _ _ _ _ xs xs _ (r3.below b5 (Nat.le_refl _)) k5.rowI).mono ?_
    rintro e w6 ⟨rfl, b6⟩
    have c6 : Below w.heap.size w w6 := c5.trans (b6.mono c5.size)
    simp only [decide_true]
    go_wp2_with fail
    refine (toIntS_ok _ _ _ ys _ (h'.below c6 (Nat.le_refl _)) hl).mono ?_
    rintro e w7 ⟨x7, rfl, k7, b7⟩
    have c7 : Below w.heap.size w w7 := c6.trans (b7.mono c6.size)
    go_wp2_with fail
    refine (eqIntS_ok _ _ _ _ _ _ ys ys _ (((r3b.below b5 (Nat.le_refl _)).below b6 (Nat.le_refl _)).below b7 (Nat.le_refl _)) k7.rowI).mono ?_
    rintro e w8 ⟨rfl, b8⟩
    have c8 : Below w.heap.size w w8 := c7.trans (b8.mono c7.size)
    simp only [decide_true]
    go_wp2_with fail
    go_ret
    exact ⟨rfl, c8⟩

end Go.Proofs.YthgjmciiaikgoaaDoor
