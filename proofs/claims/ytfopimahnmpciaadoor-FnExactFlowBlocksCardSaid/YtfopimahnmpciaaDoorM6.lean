/- Walks: a step of each block. -/
import Derived.Test.YtfopimahnmpciaaDoorM5
namespace Go.Proofs.YtfopimahnmpciaaDoor
open Go.RowKit

/-- What the program makes of a state and a block. -/
def blkN (ps : List ByteArray) (s b : Nat) : Nat := (s &&& (31 - b)) ||| (allTo ps s ps.length &&& b)
/-- Both sides make the same step. -/
theorem blkN_eq {ps : List ByteArray} (hn : netB ps = true) (h5 : ps.length ≤ 5) {s b : Nat} (hs : s < 2 ^ ps.length) (hb : b < 2 ^ ps.length) : blkN ps s b = stepTo ps s b ps.length := by
  have hp : (2 ^ ps.length : Nat) ≤ 32 := Nat.pow_le_pow_right (n := 2) (by decide) h5
  obtain ⟨h1, h2⟩ := stepTo_inv hn h5 b (show s < 32 by omega) ps.length (Nat.le_refl _)
  obtain ⟨h3, h4⟩ := allTo_inv hn h5 s ps.length (Nat.le_refl _)
  refine eq_32 (or_lt32 (and_lt32 (by omega)) (and_lt32 h3)) h1 fun i hi => ?_
  rw [blkN, Nat.testBit_or, andNot_bit s b i (by omega) hi, Nat.testBit_and, h4 i hi, h2 i hi]
  by_cases hib : b.testBit i = true
  · have hil : i < ps.length := by
      rcases Nat.lt_or_ge i ps.length with h | h
      · exact h
      · have := Nat.testBit_lt_two_pow (show b < 2 ^ i from Nat.lt_of_lt_of_le hb (Nat.pow_le_pow_right (by decide) h))
        rw [this] at hib; cases hib
    simp [hib, hil]
  · have hib' : b.testBit i = false := by simpa using hib
    simp [hib']

theorem stepTo_lt {ps : List ByteArray} (hn : netB ps = true) (h5 : ps.length ≤ 5) {s : Nat} (b : Nat) (hs : s < 2 ^ ps.length) : stepTo ps s b ps.length < 2 ^ ps.length := by
  have hp : (2 ^ ps.length : Nat) ≤ 32 := Nat.pow_le_pow_right (n := 2) (by decide) h5
  obtain ⟨h1, h2⟩ := stepTo_inv hn h5 b (show s < 32 by omega) ps.length (Nat.le_refl _)
  refine Nat.lt_pow_two_of_testBit _ fun i hi => ?_
  by_cases h : i < 5
  · rw [h2 i h, if_neg (by omega)]
    exact Nat.testBit_lt_two_pow (Nat.lt_of_lt_of_le hs (Nat.pow_le_pow_right (by decide) hi))
  · exact Nat.testBit_lt_two_pow (Nat.lt_of_lt_of_le h1 (show (2:Nat) ^ 5 ≤ 2 ^ i from Nat.pow_le_pow_right (by decide) (by omega)))

/-- A step of each of the first k blocks. -/
def runTo (ps : List ByteArray) (zs : List Int) (s : Nat) : Nat → Nat
  | 0 => s
  | k + 1 => stepTo ps (runTo ps zs s k) (gI zs k).toNat ps.length
theorem runTo_lt {ps : List ByteArray} (hn : netB ps = true) (h5 : ps.length ≤ 5) (zs : List Int) {s : Nat} (hs : s < 2 ^ ps.length) : ∀ k, runTo ps zs s k < 2 ^ ps.length
  | 0 => hs
  | k + 1 => stepTo_lt hn h5 _ (runTo_lt hn h5 zs hs k)

/-- A step of all switches, on both sides. -/
theorem all_step {ps : List ByteArray} (hn : netB ps = true) (h5 : ps.length ≤ 5) {s : Nat} (hs : s < 2 ^ ps.length) : allTo ps s ps.length = stepTo ps s (2 ^ ps.length - 1) ps.length := by
  have hp : (2 ^ ps.length : Nat) ≤ 32 := Nat.pow_le_pow_right (n := 2) (by decide) h5
  obtain ⟨h1, h2⟩ := stepTo_inv hn h5 (2 ^ ps.length - 1) (show s < 32 by omega) ps.length (Nat.le_refl _)
  obtain ⟨h3, h4⟩ := allTo_inv hn h5 s ps.length (Nat.le_refl _)
  refine eq_32 h3 h1 fun i hi => ?_
  rw [h4 i hi, h2 i hi, Nat.testBit_two_pow_sub_one]
  by_cases hil : i < ps.length
  · simp [hil]
  · have := Nat.testBit_lt_two_pow (show s < 2 ^ i from Nat.lt_of_lt_of_le hs (Nat.pow_le_pow_right (by decide) (by omega)))
    simp [hil, this]

end Go.Proofs.YtfopimahnmpciaaDoor
