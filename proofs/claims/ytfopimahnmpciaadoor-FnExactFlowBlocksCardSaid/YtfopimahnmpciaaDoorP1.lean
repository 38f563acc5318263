/- Plain facts: how an input acts on a table; the set of the switches for which something holds. -/
import Derived.Test.YtfopimahnmpciaaDoorV1
import Derived.Test.YtfopimahnmpciaaDoorPop
namespace Go.Proofs.YtfopimahnmpciaaDoor
open Go.RowKit

/-- Whether an input turns a table on (off) at a state. -/
def bitU (f : Nat → Nat) (i s : Nat) : Bool := decide (f (setN s i 0) < f (setN s i 1))
def bitD (f : Nat → Nat) (i s : Nat) : Bool := decide (f (setN s i 1) < f (setN s i 0))
/-- .. at one of the first N states. -/
def anyTo (p : Nat → Bool) (N : Nat) : Bool := (List.range N).any p
theorem anyTo_zero (p : Nat → Bool) : anyTo p 0 = false := rfl
theorem anyTo_next (p : Nat → Bool) (N : Nat) : anyTo p (N + 1) = (anyTo p N || p N) := by simp [anyTo, List.range_succ]
theorem anyTo_iff (p : Nat → Bool) (N : Nat) : anyTo p N = true ↔ ∃ s, s < N ∧ p s = true := by simp [anyTo]
theorem anyTo_hit {p : Nat → Bool} {N : Nat} (h : p N = true) : anyTo p (N + 1) = true := by rw [anyTo_next, h]; simp
theorem anyTo_miss {p : Nat → Bool} {N : Nat} (h : p N = false) : anyTo p (N + 1) = anyTo p N := by rw [anyTo_next, h]; simp
def upB (f : Nat → Nat) (i n : Nat) : Bool := anyTo (bitU f i) (2 ^ n)
def dnB (f : Nat → Nat) (i n : Nat) : Bool := anyTo (bitD f i) (2 ^ n)
/-- As the program finds it: at the states where the input is 0. -/
def lowU (f : Nat → Nat) (i s : Nat) : Bool := !s.testBit i && bitU f i s
def lowD (f : Nat → Nat) (i s : Nat) : Bool := !s.testBit i && bitD f i s

theorem setN_fin : ∀ (s : Fin 32) (i : Fin 5), (∀ v : Fin 2, setN (setN s.val i.val 0) i.val v.val = setN s.val i.val v.val) ∧ (setN s.val i.val 0).testBit i.val = false ∧ setN s.val i.val 0 ≤ s.val ∧ (s.val.testBit i.val = false → setN s.val i.val 0 = s.val ∧ setN s.val i.val 1 = s.val ||| 2 ^ i.val) := by decide +kernel
theorem setN_zero {s i : Nat} (hs : s < 32) (hi : i < 5) (h : s.testBit i = false) : setN s i 0 = s := ((setN_fin ⟨s, hs⟩ ⟨i, hi⟩).2.2.2 h).1
theorem setN_one {s i : Nat} (hs : s < 32) (hi : i < 5) (h : s.testBit i = false) : setN s i 1 = s ||| 2 ^ i := ((setN_fin ⟨s, hs⟩ ⟨i, hi⟩).2.2.2 h).2
theorem low_up (f : Nat → Nat) (i n : Nat) (hi : i < 5) (hn : n ≤ 5) : anyTo (lowU f i) (2 ^ n) = upB f i n := by
  have hp : (2 ^ n : Nat) ≤ 32 := Nat.pow_le_pow_right (n := 2) (by decide) hn
  rw [Bool.eq_iff_iff, upB, anyTo_iff, anyTo_iff]
  constructor
  · rintro ⟨s, h1, h2⟩
    simp only [lowU, Bool.and_eq_true] at h2
    exact ⟨s, h1, h2.2⟩
  · rintro ⟨s, h1, h2⟩
    obtain ⟨e1, e2, e3, _⟩ := setN_fin ⟨s, by omega⟩ ⟨i, hi⟩
    refine ⟨setN s i 0, Nat.lt_of_le_of_lt e3 h1, ?_⟩
    have e4 := e1 0
    have e5 := e1 1
    simp only [Fin.isValue, Fin.val_zero, Fin.val_one] at e4 e5
    rw [lowU, bitU, e4, e5, e2]
    simpa [bitU] using h2
theorem low_dn (f : Nat → Nat) (i n : Nat) (hi : i < 5) (hn : n ≤ 5) : anyTo (lowD f i) (2 ^ n) = dnB f i n := by
  have hp : (2 ^ n : Nat) ≤ 32 := Nat.pow_le_pow_right (n := 2) (by decide) hn
  rw [Bool.eq_iff_iff, dnB, anyTo_iff, anyTo_iff]
  constructor
  · rintro ⟨s, h1, h2⟩
    simp only [lowD, Bool.and_eq_true] at h2
    exact ⟨s, h1, h2.2⟩
  · rintro ⟨s, h1, h2⟩
    obtain ⟨e1, e2, e3, _⟩ := setN_fin ⟨s, by omega⟩ ⟨i, hi⟩
    refine ⟨setN s i 0, Nat.lt_of_le_of_lt e3 h1, ?_⟩
    have e4 := e1 0
    have e5 := e1 1
    simp only [Fin.isValue, Fin.val_zero, Fin.val_one] at e4 e5
    rw [lowD, bitD, e4, e5, e2]
    simpa [bitD] using h2

/-- The sign as a number and as a text. -/
def sgV (up dn : Bool) : Nat := (if up = true then 1 else 0) + (if dn = true then 2 else 0)
def sgT (up dn : Bool) : ByteArray := if (up && dn) = true then ⟨#[42]⟩ else if up = true then ⟨#[43]⟩ else if dn = true then ⟨#[45]⟩ else ⟨#[48]⟩
theorem sgT_zero (up dn : Bool) : (sgT up dn = ⟨#[48]⟩) ↔ (up || dn) = false := by cases up <;> cases dn <;> simp [sgT]
theorem sgV_pos (up dn : Bool) : 0 < sgV up dn ↔ (up || dn) = true := by cases up <;> cases dn <;> simp [sgV]
theorem sgV_lt (up dn : Bool) : sgV up dn < 4 := by cases up <;> cases dn <;> simp [sgV]

/-- The set of those of the first k switches for which something holds. -/
def setTo (p : Nat → Bool) : Nat → Nat
  | 0 => 0
  | k + 1 => if p k = true then setTo p k ||| 2 ^ k else setTo p k
theorem setTo_hit {p : Nat → Bool} {k : Nat} (h : p k = true) : setTo p (k + 1) = setTo p k ||| 2 ^ k := by rw [setTo, if_pos h]
theorem setTo_miss {p : Nat → Bool} {k : Nat} (h : p k = false) : setTo p (k + 1) = setTo p k := by rw [setTo, if_neg (by rw [h]; decide)]
theorem setTo_lt (p : Nat → Bool) : ∀ k, setTo p k < 2 ^ k
  | 0 => by simp [setTo]
  | k + 1 => by
    have ih := setTo_lt p k
    have h2 : 2 ^ k < 2 ^ (k + 1) := Nat.pow_lt_pow_right (by decide) (by omega)
    rw [setTo]
    split
    · exact Nat.or_lt_two_pow (by omega) h2
    · omega
theorem setTo_bit (p : Nat → Bool) (j : Nat) : ∀ k, (setTo p k).testBit j = (decide (j < k) && p j)
  | 0 => by simp [setTo]
  | k + 1 => by
    have ih := setTo_bit p j k
    by_cases e : j = k
    · subst e
      cases h : p j with
      | true => rw [setTo_hit h, Nat.testBit_or, Nat.testBit_two_pow_self]; simp
      | false => rw [setTo_miss h, ih, h]; simp
    · have e2 : decide (j < k + 1) = decide (j < k) := by rw [decide_eq_decide]; omega
      rw [e2]
      cases h : p k with
      | true => rw [setTo_hit h, Nat.testBit_or, ih, Nat.testBit_two_pow_of_ne (by omega)]; simp
      | false => rw [setTo_miss h, ih]
theorem setTo_lt63 (p : Nat → Bool) (k : Nat) (h : k ≤ 62) : setTo p k < 2 ^ 63 := Nat.lt_of_lt_of_le (setTo_lt p k) (Nat.pow_le_pow_right (by decide) (by omega))
/-- Two sets have a common switch. -/
theorem and_ne (a b : Nat) : a &&& b ≠ 0 ↔ ∃ j, a.testBit j = true ∧ b.testBit j = true := by
  constructor
  · intro h
    obtain ⟨j, hj⟩ := Nat.exists_testBit_of_ne_zero h
    rw [Nat.testBit_and, Bool.and_eq_true] at hj
    exact ⟨j, hj⟩
  · rintro ⟨j, h1, h2⟩ h
    have := congrArg (·.testBit j) h
    simp [h1, h2] at this

end Go.Proofs.YtfopimahnmpciaaDoor
