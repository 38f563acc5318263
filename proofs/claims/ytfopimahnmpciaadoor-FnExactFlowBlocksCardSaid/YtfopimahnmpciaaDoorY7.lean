/- Plain: blocks that flow: whatever is open and waits for nothing open. -/
import Derived.Test.YtfopimahnmpciaaDoorY1
import Derived.Test.YtfopimahnmpciaaDoorY3
namespace Go.Proofs.YtfopimahnmpciaaDoor
open Go.RowKit

/-- Whether all of the first j numbers that act on a number are done, and it is open. -/
def rdTo (A : Nat → Nat → Bool) (done k j : Nat) : Bool := !done.testBit k && (List.range j).all fun i => done.testBit i || !A i k
theorem rdTo_zero (A : Nat → Nat → Bool) (done k : Nat) : rdTo A done k 0 = !done.testBit k := by simp [rdTo]
theorem rdTo_next (A : Nat → Nat → Bool) (done k j : Nat) : rdTo A done k (j + 1) = (rdTo A done k j && (done.testBit j || !A j k)) := by simp [rdTo, List.range_succ, Bool.and_assoc]
theorem rdTo_end (A : Nat → Nat → Bool) (n done k : Nat) : rdTo A done k n = srcB A n done k := rfl
/-- The next block. -/
def blkF (ps : List ByteArray) (done : Nat) : Nat := setTo (srcB (actB ps) ps.length done) ps.length
theorem blkF_bit (ps : List ByteArray) (done k : Nat) : (blkF ps done).testBit k = (decide (k < ps.length) && srcB (actB ps) ps.length done k) := setTo_bit _ _ _
theorem blkF_lt (ps : List ByteArray) (done : Nat) : blkF ps done < 2 ^ ps.length := setTo_lt _ _
/-- The blocks that follow, when some switches are done. -/
def flF (ps : List ByteArray) : Nat → Nat → List Int
  | 0, _ => []
  | f + 1, done => if done = 2 ^ ps.length - 1 then [] else ((blkF ps done : Nat) : Int) :: flF ps f (done ||| blkF ps done)
theorem flF_end (ps : List ByteArray) (f : Nat) : flF ps f (2 ^ ps.length - 1) = [] := by
  cases f with
  | zero => rfl
  | succ f => rw [flF, if_pos rfl]
theorem flF_next {ps : List ByteArray} {f done : Nat} (h : done ≠ 2 ^ ps.length - 1) : flF ps (f + 1) done = ((blkF ps done : Nat) : Int) :: flF ps f (done ||| blkF ps done) := by rw [flF, if_neg h]
theorem flF_len (ps : List ByteArray) : ∀ f done, (flF ps f done).length ≤ f
  | 0, _ => Nat.le_refl _
  | f + 1, done => by
    rw [flF]
    split
    · simp
    · have := flF_len ps f (done ||| blkF ps done)
      simp; omega
/-- How many are open. -/
def opnN (done n : Nat) : Nat := cnt (fun i => !done.testBit i) n
theorem opn_le (done n : Nat) : opnN done n ≤ n := cnt_bound _ _
theorem opn_ex {done n : Nat} (hd : done < 2 ^ n) (h : done ≠ 2 ^ n - 1) : ∃ k, k < n ∧ done.testBit k = false := by
  refine Classical.byContradiction fun hno => h ?_
  refine eq_pow hd (by have := Nat.two_pow_pos n; omega) fun i hi => ?_
  rw [Nat.testBit_two_pow_sub_one]
  cases hb : done.testBit i with
  | true => simp [hi]
  | false => exact absurd ⟨i, hi, hb⟩ hno
theorem opn_zero {done n : Nat} (hd : done < 2 ^ n) (h : opnN done n = 0) : done = 2 ^ n - 1 := by
  refine Classical.byContradiction fun hne => ?_
  obtain ⟨k, hk, hb⟩ := opn_ex hd hne
  have := cnt_lt (p := fun _ => false) (q := fun i => !done.testBit i) n (fun _ _ h => by cases h) ⟨k, hk, by rw [hb]; rfl, rfl⟩
  rw [show cnt (fun i => !done.testBit i) n = 0 from h] at this
  omega
theorem opn_all (n : Nat) : opnN (2 ^ n - 1) n = 0 := by
  have : ∀ k, k ≤ n → cnt (fun i => !(2 ^ n - 1).testBit i) k = 0 := by
    intro k
    induction k with
    | zero => intro _; rfl
    | succ k ih =>
      intro hk
      rw [cnt_succ, ih (by omega), Nat.testBit_two_pow_sub_one]
      simp [show k < n by omega]
  exact this n (Nat.le_refl _)
/-- Without a circuit each block closes some. -/
theorem blk_step {ps : List ByteArray} (h5 : ps.length ≤ 5) (hc : circB (actB ps) ps.length = false) {done : Nat} (hd : done < 2 ^ ps.length) (h : done ≠ 2 ^ ps.length - 1) : opnN (done ||| blkF ps done) ps.length < opnN done ps.length := by
  obtain ⟨k, hk, hs⟩ := src_ex h5 hc (opn_ex hd h)
  refine cnt_lt _ (fun i _ hi => ?_) ⟨k, hk, ?_, ?_⟩
  · rw [Nat.testBit_or] at hi
    cases hb : done.testBit i with
    | true => rw [hb] at hi; simp at hi
    | false => rfl
  · rw [srcB, Bool.and_eq_true] at hs
    exact hs.1
  · rw [Nat.testBit_or, blkF_bit, hs, decide_eq_true hk]; simp
theorem blk_or_lt {ps : List ByteArray} {done : Nat} (hd : done < 2 ^ ps.length) : done ||| blkF ps done < 2 ^ ps.length := Nat.or_lt_two_pow hd (blkF_lt _ _)

end Go.Proofs.YtfopimahnmpciaaDoor
