/- The laws FnExactNetworkOfBlocks and FnExactSameSchedule. -/
import Derived.Test.YthgjmciiaikgoaaDoorS5
namespace Go.Proofs.YthgjmciiaikgoaaDoor
open Go.RowKit

/-- What SameSchedule gives. -/
def ssV (ps : List ByteArray) (xs ys : List Int) : Bool := nbB ps xs && (nbB ps ys && ((nbT ps xs).toList == (nbT ps ys).toList))

set_option maxHeartbeats 1000000 in
theorem ssI_ok (t : ByteArray) (ao bo : Option Addr) (n c l d : Nat) (xs ys : List Int) (w : World) (hs : t.size ≤ 1048576) (hx : RowI w ao n c xs) (hn : n ≤ 1048576) (hy : RowI w bo l d ys) (hl : l ≤ 1048576) (hm : MaxLenIs w) :
    Calls Tryd.prog 34 #[.string t, .slice ao n c, .slice bo l d] w fun e w' => e = .returned (.bool (ssV (cutsP 44 t) xs ys)) ∧ Below w.heap.size w w' := by
  have H1 := Lib.hid (nobI_ok t ao n c xs w hs hx hn hm)
  have H2 := Lib.hid (fun W (hW : Below w.heap.size w W) => nobI_ok t bo l d ys W hs (hy.below hW (Nat.le_refl _)) hl (hm.below hW (Nat.le_refl _)))
  have HV : Hid (ssV (cutsP 44 t) xs ys = (nbB (cutsP 44 t) xs && (nbB (cutsP 44 t) ys && ((nbT (cutsP 44 t) xs).toList == (nbT (cutsP 44 t) ys).toList)))) := rfl
  clear hx hy hm
  generalize nbT (cutsP 44 t) xs = tx at H1 HV
  generalize nbT (cutsP 44 t) ys = ty at H2 HV
  generalize nbB (cutsP 44 t) xs = bx at H1 HV
  generalize nbB (cutsP 44 t) ys = by' at H2 HV
  cases bx <;> cases by'
  all_goals
    go_enter Tryd.func34, Tryd.ntmps34
    go_wp2_with fail
    refine H1.out.mono ?_
    rintro e w1 ⟨rfl, b1⟩
    go_wp2_with fail
    refine (H2.out _ b1).mono ?_
    rintro e w2 ⟨rfl, b2⟩
    go_wp2_with fail
    go_ret
    exact ⟨retb (by rw [HV.out]; rfl), b1.trans (b2.mono b1.size)⟩
set_option maxHeartbeats 1000000 in
theorem ssS_ok (t : ByteArray) (ao bo : Option Addr) (n c l d : Nat) (xs ys : List Int) (w : World) (hs : t.size ≤ 1048576) (hx : RowI w ao n c xs) (hn : n ≤ 1048576) (hy : RowI w bo l d ys) (hl : l ≤ 1048576) :
    Calls Tryd.prog 33 #[.string t, .slice ao n c, .slice bo l d] w fun e w' => e = .returned (.bool (ssV (cutsP 44 t) xs ys)) ∧ Below w.heap.size w w' := by
  have H1 := Lib.hid (nobS_ok t ao n c xs w hs hx hn)
  have H2 := Lib.hid (fun W (hW : Below w.heap.size w W) => nobS_ok t bo l d ys W hs (hy.below hW (Nat.le_refl _)) hl)
  have HV : Hid (ssV (cutsP 44 t) xs ys = (nbB (cutsP 44 t) xs && (nbB (cutsP 44 t) ys && ((nbT (cutsP 44 t) xs).toList == (nbT (cutsP 44 t) ys).toList)))) := rfl
  clear hx hy
  generalize nbT (cutsP 44 t) xs = tx at H1 HV
  generalize nbT (cutsP 44 t) ys = ty at H2 HV
  generalize nbB (cutsP 44 t) xs = bx at H1 HV
  generalize nbB (cutsP 44 t) ys = by' at H2 HV
  cases bx <;> cases by'
  all_goals
    go_enter Tryd.func33, Tryd.ntmps33
    go_wp2_with fail
    refine H1.out.mono ?_
    rintro e w1 ⟨rfl, b1⟩
    go_wp2_with fail
    refine (H2.out _ b1).mono ?_
    rintro e w2 ⟨rfl, b2⟩
    go_wp2_with fail
    go_ret
    exact ⟨retb (by rw [HV.out]; rfl), b1.trans (b2.mono b1.size)⟩

set_option maxHeartbeats 2000000 in
theorem FnExactNetworkOfBlocks_ok (t : ByteArray) (ao : Option Addr) (n c : Nat) (zs : List Int) (w : World) (_ : t.size ≤ maxLen) (h : RowI w ao n c zs) (hm : MaxLenIs w) :
    Calls Tryd.prog 8 #[.string t, .slice ao n c] w fun e w' => e = .returned (.bool true) ∧ Below w.heap.size w w' := by
  have hml := h.2.cap
  have hml' := h.2.le
  unfold maxLen at hml
  go_enter Tryd.func8, Tryd.ntmps8
  by_cases hb0 : 1048576 < t.size
  · go_wp2
    go_ret
    exact ⟨rfl, Below.refl _ _⟩
  by_cases hbig : 1048576 < n
  · go_wp2
    go_ret
    exact ⟨rfl, Below.refl _ _⟩
  · have hn : n * 8 ≤ 281474976710656 := by omega
    have ht : t.size ≤ 1048576 := by omega
    have hn2 : n ≤ 1048576 := by omega
    have HM := Lib.hid hm
    clear hm
    go_wp2_with fail
    refine (toIntS_ok _ _ _ zs _ h hn).mono ?_
    rintro e w1 ⟨x1, rfl, k1, b1⟩
    go_wp2_with fail
    refine (nobS_ok t _ _ _ zs _ ht k1.rowI hn2).mono ?_
    rintro e w2 ⟨rfl, b2⟩
    have c2 : Below w.heap.size w w2 := b1.trans (b2.mono b1.size)
    go_wp2_with fail
    refine (toIntS_ok _ _ _ zs _ (h.below c2 (Nat.le_refl _)) hn).mono ?_
    rintro e w3 ⟨x3, rfl, k3, b3⟩
    have c3 : Below w.heap.size w w3 := c2.trans (b3.mono c2.size)
    go_wp2_with fail
    refine (nobI_ok t _ _ _ zs _ ht k3.rowI hn2 (HM.out.below c3 (Nat.le_refl _))).mono ?_
    rintro e w4 ⟨rfl, b4⟩
    have c4 : Below w.heap.size w w4 := c3.trans (b4.mono c3.size)
    generalize nbT (cutsP 44 t) zs = u
    generalize nbB (cutsP 44 t) zs = ub
    go_wp2_with fail
    refine (toIntS_ok _ _ _ zs _ (h.below c4 (Nat.le_refl _)) hn).mono ?_
    rintro e w5 ⟨x5, rfl, k5, b5⟩
    have c5 : Below w.heap.size w w5 := c4.trans (b5.mono c4.size)
    go_wp2_with fail
    refine (eqIntS_ok _ _ _ _ _ _ zs zs _ ((k3.rowI.below b4 (Nat.le_refl _)).below b5 (Nat.le_refl _)) k5.rowI).mono ?_
    rintro e w6 ⟨rfl, b6⟩
    have c6 : Below w.heap.size w w6 := c5.trans (b6.mono c5.size)
    simp only [decide_true]
    go_wp2_with fail
    go_ret
    exact ⟨rfl, c6⟩

end Go.Proofs.YthgjmciiaikgoaaDoor
