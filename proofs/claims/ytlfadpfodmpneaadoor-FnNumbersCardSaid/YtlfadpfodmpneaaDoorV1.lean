/- Plain facts: bits of small states. -/
import Derived.Test.YtlfadpfodmpneaaDoorPure
namespace Go.Proofs.YtlfadpfodmpneaaDoor
open Go.RowKit

theorem andNot_fin : ∀ a b : Fin 32, bits .andNot .i64 (a.val : Int) (b.val : Int) = ((a.val &&& (31 - b.val) : Nat) : Int) := by decide +kernel
/-- 's &^ b' of small numbers. -/
theorem andNot_32 (a b : Nat) (ha : a < 32) (hb : b < 32) : bits .andNot .i64 (a : Int) (b : Int) = ((a &&& (31 - b) : Nat) : Int) := andNot_fin ⟨a, ha⟩ ⟨b, hb⟩
theorem not_bit : ∀ (b : Fin 32) (i : Fin 5), (31 - b.val).testBit i.val = !b.val.testBit i.val := by decide +kernel
theorem andNot_bit (a b i : Nat) (hb : b < 32) (hi : i < 5) : (a &&& (31 - b)).testBit i = (a.testBit i && !b.testBit i) := by
  rw [Nat.testBit_and, show (31 - b).testBit i = !b.testBit i from not_bit ⟨b, hb⟩ ⟨i, hi⟩]
theorem and_lt32 {a b : Nat} (ha : a < 32) : a &&& b < 32 := Nat.lt_of_le_of_lt Nat.and_le_left ha
/-- Two numbers below 32 that have the same five bits. -/
theorem eq_32 {a b : Nat} (ha : a < 32) (hb : b < 32) (h : ∀ i, i < 5 → a.testBit i = b.testBit i) : a = b := by
  apply Nat.eq_of_testBit_eq
  intro i
  by_cases hi : i < 5
  · exact h i hi
  · have h5 : (2 : Nat) ^ 5 ≤ 2 ^ i := Nat.pow_le_pow_right (by decide) (by omega)
    rw [Nat.testBit_lt_two_pow (show a < 2 ^ i by omega), Nat.testBit_lt_two_pow (show b < 2 ^ i by omega)]
/-- The digit as a bit. -/
theorem bit_test (s i : Nat) : s / 2 ^ i % 2 = if s.testBit i = true then 1 else 0 := by
  have := Nat.testBit_eq_decide_div_mod_eq (x := s) (i := i)
  rw [this]
  have h2 : s / 2 ^ i % 2 < 2 := Nat.mod_lt _ (by decide)
  by_cases h : s / 2 ^ i % 2 = 1
  · simp [h]
  · simp [h]; omega

/-- A state in which a switch has a value. -/
def setN (s i v : Nat) : Nat := (s &&& (31 - 2 ^ i)) ||| (v * 2 ^ i)
theorem set_fin : ∀ (s : Fin 32) (i : Fin 5) (v : Fin 2), setN s.val i.val v.val < 32 ∧ ∀ j : Fin 5, (setN s.val i.val v.val).testBit j.val = if j = i then decide (v.val = 1) else s.val.testBit j.val := by decide +kernel
theorem setN_lt {s i v : Nat} (hs : s < 32) (hi : i < 5) (hv : v < 2) : setN s i v < 32 := (set_fin ⟨s, hs⟩ ⟨i, hi⟩ ⟨v, hv⟩).1
theorem setN_bit {s i v j : Nat} (hs : s < 32) (hi : i < 5) (hv : v < 2) (hj : j < 5) : (setN s i v).testBit j = if j = i then decide (v = 1) else s.testBit j := by
  have := (set_fin ⟨s, hs⟩ ⟨i, hi⟩ ⟨v, hv⟩).2 ⟨j, hj⟩
  simpa [Fin.ext_iff] using this

end Go.Proofs.YtlfadpfodmpneaaDoor
