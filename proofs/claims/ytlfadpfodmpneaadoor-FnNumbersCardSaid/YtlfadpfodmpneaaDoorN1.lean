/- Plain facts: a text cut at a byte, as strings.Split tells it and as a loop does it. -/
import Derived.Test.YtlfadpfodmpneaaDoorPure
import Derived.Lib.Split
import Derived.Lib.SplitLaws
import Derived.Lib.CountLaws
import Derived.Lib.IndexBytes
namespace Go.Proofs.YtlfadpfodmpneaaDoor
open Go.RowKit

/-- The parts of a text between the bytes c. -/
def cutsP (c : UInt8) (s : ByteArray) : List ByteArray := Lib.splitB ⟨#[c]⟩ 0 (Lib.countB s ⟨#[c]⟩) s

theorem idx_one (s : ByteArray) (c : UInt8) : Lib.indexB s ⟨#[c]⟩ = Lib.indexByte s.data.toList c := by
  rw [Lib.one s ⟨#[c]⟩ rfl]
  congr 1
  show ((((⟨#[c]⟩ : ByteArray)[0]'(Nat.one_pos)).toNat : Nat) : Int).toNat.toUInt8 = c
  simp
  rfl
theorem idx_none {s : ByteArray} {c : UInt8} (h : ∀ k : Nat, s.data.toList[k]? ≠ some c) : Lib.indexB s ⟨#[c]⟩ = -1 := by
  rw [idx_one]
  have hg := Lib.indexByte_ge s.data.toList c
  by_cases hn : Lib.indexByte s.data.toList c = -1
  · exact hn
  · obtain ⟨o, ho⟩ := Int.eq_ofNat_of_zero_le (show 0 ≤ Lib.indexByte s.data.toList c by omega)
    exact absurd (Lib.indexByte_some ho).1 (h o)
theorem idx_at {s : ByteArray} {c : UInt8} {i : Nat} (h : s.data.toList[i]? = some c) (h2 : ∀ k, k < i → s.data.toList[k]? ≠ some c) : Lib.indexB s ⟨#[c]⟩ = i := by
  rw [idx_one]
  have hg := Lib.indexByte_ge s.data.toList c
  by_cases hn : Lib.indexByte s.data.toList c = -1
  · exact absurd h (Lib.indexByte_none hn i)
  · obtain ⟨o, ho⟩ := Int.eq_ofNat_of_zero_le (show 0 ≤ Lib.indexByte s.data.toList c by omega)
    obtain ⟨h3, h4⟩ := Lib.indexByte_some ho
    rcases Nat.lt_trichotomy o i with h5 | h5 | h5
    · exact absurd h3 (h2 o h5)
    · rw [ho, h5]
    · exact absurd h (h4 i h5)
theorem cutsP_miss {s : ByteArray} {c : UInt8} (h : ∀ k : Nat, s.data.toList[k]? ≠ some c) : cutsP c s = [s] := by
  rw [cutsP, Lib.countB_miss s _ (idx_none h), Lib.splitB_zero]
theorem cutsP_hit {s : ByteArray} {c : UInt8} {i : Nat} (h : s.data.toList[i]? = some c) (h2 : ∀ k, k < i → s.data.toList[k]? ≠ some c) :
    cutsP c s = s.extract 0 i :: cutsP c (s.extract (i + 1) s.size) := by
  have hi := idx_at h h2
  rw [cutsP, Lib.countB_hit s ⟨#[c]⟩ i (Nat.le_refl 1) hi, Nat.add_comm, Lib.splitB_hit _ 0 _ s i hi]
  rfl

/-- What the loop has after i bytes: the parts, and where the next begins. -/
def cutTo (c : UInt8) (s : ByteArray) : Nat → List ByteArray × Nat
  | 0 => ([], 0)
  | i + 1 => if s.data.toList[i]? = some c then ((cutTo c s i).1 ++ [s.extract (cutTo c s i).2 i], i + 1) else cutTo c s i
theorem cutTo_hit {c : UInt8} {s : ByteArray} {i : Nat} (h : s.data.toList[i]? = some c) : cutTo c s (i + 1) = ((cutTo c s i).1 ++ [s.extract (cutTo c s i).2 i], i + 1) := by rw [cutTo, if_pos h]
theorem cutTo_miss {c : UInt8} {s : ByteArray} {i : Nat} (h : s.data.toList[i]? ≠ some c) : cutTo c s (i + 1) = cutTo c s i := by rw [cutTo, if_neg h]
theorem extract_get (s : ByteArray) (a k : Nat) (h : a + k < s.size) : (s.extract a s.size).data.toList[k]? = s.data.toList[a + k]? := by
  have h' : a + k < s.data.size := h
  simp only [ByteArray.data_extract, Array.getElem?_toList]
  rw [Array.getElem?_extract]
  simp only [show s.size = s.data.size from rfl]
  rw [if_pos (by omega)]
theorem cutTo_inv (c : UInt8) (s : ByteArray) : ∀ i, i ≤ s.size → (cutTo c s i).2 ≤ i ∧ (∀ k, (cutTo c s i).2 ≤ k → k < i → s.data.toList[k]? ≠ some c) ∧ cutsP c s = (cutTo c s i).1 ++ cutsP c (s.extract (cutTo c s i).2 s.size)
  | 0, _ => ⟨Nat.le_refl _, fun k _ h => absurd h (Nat.not_lt_zero _), by
      have : s.extract 0 s.size = s := by simp
      simp [cutTo, this]⟩
  | i + 1, hi => by
    obtain ⟨h1, h2, h3⟩ := cutTo_inv c s i (by omega)
    by_cases h : s.data.toList[i]? = some c
    · rw [cutTo_hit h]
      refine ⟨Nat.le_refl _, fun k hk hk2 => absurd hk2 (by omega), ?_⟩
      generalize (cutTo c s i).1 = out at h3
      generalize (cutTo c s i).2 = fr at h1 h2 h3
      have hr : (s.extract fr s.size).data.toList[i - fr]? = some c := by
        rw [extract_get s fr (i - fr) (by omega), show fr + (i - fr) = i by omega]; exact h
      have hr2 : ∀ k, k < i - fr → (s.extract fr s.size).data.toList[k]? ≠ some c := fun k hk => by
        rw [extract_get s fr k (by omega)]; exact h2 (fr + k) (by omega) (by omega)
      have e1 : (s.extract fr s.size).extract 0 (i - fr) = s.extract fr i := by
        rw [ByteArray.extract_extract]
        congr 1
        omega
      have e2 : (s.extract fr s.size).extract (i - fr + 1) (s.extract fr s.size).size = s.extract (i + 1) s.size := by
        rw [ByteArray.extract_extract]
        have : (s.extract fr s.size).size = s.size - fr := by simp
        rw [this]
        congr 1 <;> omega
      rw [h3, cutsP_hit hr hr2, e1, e2]
      simp
    · rw [cutTo_miss h]
      exact ⟨by omega, fun k hk hk2 => by
        by_cases e : k = i
        · rw [e]; exact h
        · exact h2 k hk (by omega), h3⟩
/-- What the loop has at the end. -/
theorem cutTo_end (c : UInt8) (s : ByteArray) : cutsP c s = (cutTo c s s.size).1 ++ [s.extract (cutTo c s s.size).2 s.size] := by
  obtain ⟨h1, h2, h3⟩ := cutTo_inv c s s.size (Nat.le_refl _)
  rw [h3]
  congr 1
  refine cutsP_miss fun k => ?_
  by_cases hk : (cutTo c s s.size).2 + k < s.size
  · rw [extract_get s _ k hk]
    exact h2 _ (by omega) hk
  · have : (s.extract (cutTo c s s.size).2 s.size).data.toList.length ≤ k := by
      have e : (s.extract (cutTo c s s.size).2 s.size).data.toList.length = (s.extract (cutTo c s s.size).2 s.size).size := by simp
      rw [e]; simp; omega
    rw [List.getElem?_eq_none this]
    simp

end Go.Proofs.YtlfadpfodmpneaaDoor
