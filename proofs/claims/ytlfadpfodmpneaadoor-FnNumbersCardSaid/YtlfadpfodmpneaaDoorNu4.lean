/- Walks: a canonical number read by the reference. -/
import Derived.Test.YtlfadpfodmpneaaDoorNu2
import Derived.Test.YtlfadpfodmpneaaDoorA1
namespace Go.Proofs.YtlfadpfodmpneaaDoor
open Go.RowKit

theorem decF_bad {l : List UInt8} {i : Nat} {b : UInt8} (hb : l[i]? = some b) (hd : Lib.digitVal b = none) : ∀ acc, Lib.decFrom acc l = none := by
  induction l generalizing i with
  | nil => simp at hb
  | cons a r ih =>
    intro acc
    cases i with
    | zero =>
      simp at hb
      subst hb
      simp [Lib.decFrom, hd]
    | succ i =>
      simp at hb
      simp only [Lib.decFrom]
      cases Lib.digitVal a with
      | none => rfl
      | some d => exact ih hb _
theorem decF_step {l : List UInt8} {i v d : Nat} {b : UInt8} (hb : l[i]? = some b) (hd : Lib.digitVal b = some d) (h : Lib.decFrom 0 (l.take i) = some v) : Lib.decFrom 0 (l.take (i + 1)) = some (v * 10 + d) := Lib.decFrom_take l i 0 v b d h hb hd
/-- What the reference's reading tells. -/
def NumOk (l : List UInt8) (n : Int) (b : Bool) : Prop := ((b && inB n 0 1000000) = (numO l).isSome) ∧ ∀ u, numO l = some u → n = (u : Int)
theorem numOk_no {l : List UInt8} (h : numO l = none) : NumOk l 0 false := ⟨by rw [h]; rfl, fun u hu => by rw [h] at hu; cases hu⟩
theorem numO_of {l : List UInt8} (h : ∀ u, u ≤ 1000000 → Lib.decDigits u ≠ l) : numO l = none := by
  cases hn : numO l with
  | none => rfl
  | some u => obtain ⟨h1, h2⟩ := numO_some.1 hn; exact absurd h2 (h u h1)
theorem dec_head48 {u : Nat} {r : List UInt8} (h : Lib.decDigits u = 48 :: r) : r = [] := by
  by_cases h0 : u = 0
  · subst h0
    rw [Lib.decDigits_one (by decide)] at h
    injection h with _ h2
    exact h2.symm
  · have := dec_head u (by omega)
    rw [h] at this
    exact absurd rfl this
theorem dec_not45 {u : Nat} {r : List UInt8} : Lib.decDigits u ≠ 45 :: r := fun h => by
  have := dec_dig u 45 (by rw [h]; simp)
  exact absurd this (by decide)
theorem dec_last {l : List UInt8} {v : Nat} (h : Lib.decFrom 0 l = some v) (hne : l ≠ []) (hh : l.length = 1 ∨ l.head? ≠ some 48) : NumOk l (v : Int) true := by
  have hc := dec_canon l.length l v (Nat.le_refl _) hne hh h
  by_cases hv : v ≤ 1000000
  · have hn : numO l = some v := numO_some.2 ⟨hv, hc⟩
    refine ⟨by rw [hn, Bool.true_and, inB_true (by omega)]; rfl, fun u hu => ?_⟩
    rw [hn] at hu
    rw [Option.some.inj hu]
  · have hn : numO l = none := numO_of fun u hu e => by
      have : u = v := by
        have h1 := dec_back u
        rw [e, h] at h1
        exact (Option.some.inj h1).symm
      omega
    refine ⟨?_, fun u hu => by rw [hn] at hu; cases hu⟩
    rw [hn, Bool.true_and]
    have : inB (v : Int) 0 1000000 = false := by
      rw [Bool.eq_false_iff]
      intro h2
      have := inB_iff.1 h2
      omega
    rw [this]; rfl
theorem neg_last {r : List UInt8} {v : Nat} (h : Lib.decFrom 0 r = some v) (hh : r.head? ≠ some 48) (hne : r ≠ []) : NumOk (45 :: r) (-(v : Int)) true := by
  have hn : numO (45 :: r) = none := numO_of fun u _ e => dec_not45 e
  have hv : 0 < v := by
    cases r with
    | nil => exact absurd rfl hne
    | cons b r' => exact decF_pos h (by simpa using hh)
  refine ⟨?_, fun u hu => by rw [hn] at hu; cases hu⟩
  rw [hn, Bool.true_and]
  have : inB (-(v : Int)) 0 1000000 = false := by
    rw [Bool.eq_false_iff]
    intro h2
    have := inB_iff.1 h2
    omega
  rw [this]; rfl
theorem decF_lt : ∀ (i : Nat) {l : List UInt8} {v : Nat}, Lib.decFrom 0 (l.take i) = some v → v < 10 ^ i
  | i, l, v, h => by
    have := Lib.decFrom_lt (l.take i) 0 v h
    have h2 : (10 : Nat) ^ (l.take i).length ≤ 10 ^ i := Nat.pow_le_pow_right (by decide) (by simp; omega)
    omega

end Go.Proofs.YtlfadpfodmpneaaDoor
