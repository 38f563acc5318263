/- What a term spreads to: plain. -/
import Derived.Test.YthgjmciiaikgoaaDoorH4
namespace Go.Proofs.YthgjmciiaikgoaaDoor
open Go.RowKit

theorem bits_ex (f : Nat → Nat) (hf : ∀ i, f i < 2) : ∀ n, ∃ s, s < 2 ^ n ∧ ∀ i, i < n → bN s i = f i
  | 0 => ⟨0, by simp, fun i hi => absurd hi (Nat.not_lt_zero _)⟩
  | n + 1 => by
    obtain ⟨s, h1, h2⟩ := bits_ex f hf n
    have hv := hf n
    refine ⟨s + f n * 2 ^ n, ?_, fun i hi => ?_⟩
    · rw [Nat.pow_succ]
      rcases (show f n = 0 ∨ f n = 1 by omega) with e | e <;> rw [e] <;> omega
    · have hp : 0 < 2 ^ i := Nat.two_pow_pos _
      by_cases e : i = n
      · subst e
        unfold bN
        rw [Nat.add_mul_div_right _ _ hp, Nat.div_eq_of_lt h1]
        omega
      · have hi' : i < n := by omega
        rw [← h2 i hi']
        unfold bN
        have e2 : (2 : Nat) ^ n = 2 * 2 ^ (n - i - 1) * 2 ^ i := by
          rw [← Nat.pow_succ', ← Nat.pow_add]
          congr 1
          omega
        rw [e2, ← Nat.mul_assoc, Nat.add_mul_div_right _ _ hp, ← Nat.mul_assoc, Nat.mul_comm (f n) 2, Nat.mul_assoc]
        omega
/-- A term has a state. -/
theorem term_has {l : List UInt8} (hl : l.all isT = true) : ∃ s, s < 2 ^ l.length ∧ hasT l s = true := by
  obtain ⟨s, h1, h2⟩ := bits_ex (fun i => if ltr l i = 1 then 1 else 0) (fun i => by split <;> decide) l.length
  refine ⟨s, h1, hasT_yes fun i hi => ?_⟩
  have := ltr_lt hl i
  rw [letB, h2 i hi]
  rcases (show ltr l i = 0 ∨ ltr l i = 1 ∨ ltr l i = 2 by omega) with e | e | e <;> simp [e]

/-- How many numbers below k are so. -/
def cnt (p : Nat → Bool) (k : Nat) : Nat := ((List.range k).filter p).length
theorem cnt_succ (p : Nat → Bool) (k : Nat) : cnt p (k + 1) = cnt p k + if p k = true then 1 else 0 := by
  unfold cnt
  rw [List.range_succ, List.filter_append, List.length_append]
  by_cases h : p k = true <;> simp [h]
theorem cnt_le {p q : Nat → Bool} : ∀ k, (∀ i, i < k → p i = true → q i = true) → cnt p k ≤ cnt q k
  | 0, _ => Nat.le_refl _
  | k + 1, h => by
    have := cnt_le k (fun i hi => h i (by omega))
    rw [cnt_succ, cnt_succ]
    by_cases hp : p k = true
    · rw [if_pos hp, if_pos (h k (by omega) hp)]; omega
    · rw [if_neg hp]; omega
theorem cnt_lt {p q : Nat → Bool} : ∀ k, (∀ i, i < k → p i = true → q i = true) → (∃ i, i < k ∧ q i = true ∧ p i = false) → cnt p k < cnt q k
  | 0, _, ⟨i, hi, _⟩ => absurd hi (Nat.not_lt_zero _)
  | k + 1, h, ⟨i, hi, h1, h2⟩ => by
    rw [cnt_succ, cnt_succ]
    by_cases e : i = k
    · subst e
      have := cnt_le i (fun j hj => h j (by omega))
      rw [if_neg (by rw [h2]; decide), if_pos h1]; omega
    · have := cnt_lt k (fun j hj => h j (by omega)) ⟨i, by omega, h1, h2⟩
      by_cases hp : p k = true
      · rw [if_pos hp, if_pos (h k (by omega) hp)]; omega
      · rw [if_neg hp]; omega
theorem cnt_bound (p : Nat → Bool) (k : Nat) : cnt p k ≤ k := Nat.le_trans (List.length_filter_le _ _) (by simp)

/-- Whether a state of a term leads a switch to a value. -/
def toB (ps : List ByteArray) (l : List UInt8) (i v : Nat) : Bool := (List.range (2 ^ l.length)).any fun s => hasT l s && (bitN ps i s == v)
theorem toB_yes {ps : List ByteArray} {l : List UInt8} {i v s : Nat} (h : s < 2 ^ l.length) (hs : hasT l s = true) (hv : bitN ps i s = v) : toB ps l i v = true := by
  rw [toB, List.any_eq_true]
  exact ⟨s, List.mem_range.2 h, by simp [hs, hv]⟩
theorem toB_get {ps : List ByteArray} {l : List UInt8} {i v : Nat} (h : toB ps l i v = true) : ∃ s, s < 2 ^ l.length ∧ hasT l s = true ∧ bitN ps i s = v := by
  rw [toB, List.any_eq_true] at h
  obtain ⟨s, h1, h2⟩ := h
  rw [Bool.and_eq_true, beq_iff_eq] at h2
  exact ⟨s, List.mem_range.1 h1, h2.1, h2.2⟩
/-- The letter of a switch after a round. -/
def spC (ps : List ByteArray) (l : List UInt8) (i : Nat) : UInt8 := if l.getD i 42 = 42 then (if toB ps l i 0 = false then 49 else if toB ps l i 1 = false then 48 else 42) else l.getD i 42
def spR (ps : List ByteArray) (l : List UInt8) : List UInt8 := (List.range l.length).map (spC ps l)
theorem spR_len (ps : List ByteArray) (l : List UInt8) : (spR ps l).length = l.length := by simp [spR]
theorem spR_get {ps : List ByteArray} {l : List UInt8} {i : Nat} (h : i < l.length) : (spR ps l).getD i 42 = spC ps l i := by simp [spR, List.getD, h]
theorem spC_star {ps : List ByteArray} {l : List UInt8} {i : Nat} (h : spC ps l i = 42) : l.getD i 42 = 42 := by
  unfold spC at h
  split at h
  · assumption
  · exact h
theorem spC_isT {ps : List ByteArray} {l : List UInt8} {i : Nat} (hl : l.all isT = true) (hi : i < l.length) : isT (spC ps l i) = true := by
  unfold spC
  split
  · split
    · decide
    · split <;> decide
  · have e : l.getD i 42 = l[i] := by simp [List.getD, hi]
    rw [e]
    exact List.all_eq_true.1 hl _ (List.getElem_mem hi)
theorem spR_isT {ps : List ByteArray} {l : List UInt8} (hl : l.all isT = true) : (spR ps l).all isT = true := by
  rw [List.all_eq_true]
  intro c hc
  simp only [spR, List.mem_map, List.mem_range] at hc
  obtain ⟨i, hi, rfl⟩ := hc
  exact spC_isT hl hi
/-- How many stars a term has. -/
def stars (l : List UInt8) : Nat := cnt (fun i => l.getD i 42 == 42) l.length
theorem stars_le (l : List UInt8) : stars l ≤ l.length := cnt_bound _ _
theorem stars_spR (ps : List ByteArray) (l : List UInt8) : stars (spR ps l) = cnt (fun i => spC ps l i == 42) l.length := by
  unfold stars cnt
  rw [spR_len]
  congr 1
  apply List.filter_congr
  intro i hi
  rw [spR_get (by simpa using hi)]
/-- Whether a round changes one of the first k letters. -/
def chgB (ps : List ByteArray) (l : List UInt8) (k : Nat) : Bool := (List.range k).any fun i => l.getD i 42 == 42 && spC ps l i != 42
theorem chgB_next (ps : List ByteArray) (l : List UInt8) (k : Nat) : chgB ps l (k + 1) = (chgB ps l k || (l.getD k 42 == 42 && spC ps l k != 42)) := by simp [chgB, List.range_succ]
theorem chg_stars {ps : List ByteArray} {l : List UInt8} (h : chgB ps l l.length = true) : stars (spR ps l) < stars l := by
  rw [stars_spR]
  rw [chgB, List.any_eq_true] at h
  obtain ⟨i, hi, h2⟩ := h
  rw [Bool.and_eq_true] at h2
  exact cnt_lt _ (fun j _ hj => by simpa using spC_star (by simpa using hj)) ⟨i, by simpa using hi, h2.1, by simpa using h2.2⟩
theorem chg_same {ps : List ByteArray} {l : List UInt8} (h : chgB ps l l.length = false) : spR ps l = l := by
  apply List.ext_getElem?
  intro i
  by_cases hi : i < l.length
  · have h3 : (spR ps l)[i]? = some (spC ps l i) := by simp [spR, hi]
    have e : l.getD i 42 = l[i] := by simp [List.getD, hi]
    rw [h3, List.getElem?_eq_getElem hi]
    congr 1
    rw [chgB, List.any_eq_false] at h
    have := h i (List.mem_range.2 hi)
    by_cases hs : l.getD i 42 = 42
    · have hc : spC ps l i = 42 := by
        rw [hs] at this
        simpa using this
      rw [hc, ← e, hs]
    · rw [spC, if_neg hs, e]
  · rw [List.getElem?_eq_none (by rw [spR_len]; omega), List.getElem?_eq_none (by omega)]
theorem same_chg {ps : List ByteArray} {l : List UInt8} (h : spR ps l ≠ l) : chgB ps l l.length = true := by
  cases hc : chgB ps l l.length with
  | true => rfl
  | false => exact absurd (chg_same hc) h

/-- Rounds, one after the other. -/
def spN (ps : List ByteArray) (l : List UInt8) : Nat → List UInt8
  | 0 => l
  | k + 1 => spR ps (spN ps l k)
theorem spN_len (ps : List ByteArray) (l : List UInt8) : ∀ k, (spN ps l k).length = l.length
  | 0 => rfl
  | k + 1 => by rw [spN, spR_len]; exact spN_len ps l k
theorem spN_isT {ps : List ByteArray} {l : List UInt8} (hl : l.all isT = true) : ∀ k, (spN ps l k).all isT = true
  | 0 => hl
  | k + 1 => spR_isT (spN_isT hl k)
theorem spN_fix {ps : List ByteArray} {l : List UInt8} {k : Nat} (h : spR ps (spN ps l k) = spN ps l k) : ∀ m, k ≤ m → spN ps l m = spN ps l k
  | 0, hm => by
    obtain rfl : k = 0 := by omega
    rfl
  | m + 1, hm => by
    by_cases e : k = m + 1
    · rw [e]
    · rw [spN, spN_fix h m (by omega), h]
/-- What a term spreads to. -/
def spL (ps : List ByteArray) (l : List UInt8) : List UInt8 := spN ps l 5
theorem spL_len (ps : List ByteArray) (l : List UInt8) : (spL ps l).length = l.length := spN_len ps l 5
theorem spL_eq {ps : List ByteArray} {l : List UInt8} {k : Nat} (h : spR ps (spN ps l k) = spN ps l k) (hk : k ≤ 5) : spN ps l k = spL ps l := (spN_fix h 5 hk).symm

/-- The value that all states of a term lead a switch to, or -1. -/
def frcV (ps : List ByteArray) (l : List UInt8) (i : Nat) : Int := if toB ps l i 0 = false then 1 else if toB ps l i 1 = false then 0 else -1
theorem frcV_range (ps : List ByteArray) (l : List UInt8) (i : Nat) : frcV ps l i = -1 ∨ frcV ps l i = 0 ∨ frcV ps l i = 1 := by
  unfold frcV
  split
  · exact .inr (.inr rfl)
  · split
    · exact .inr (.inl rfl)
    · exact .inl rfl
theorem spC_frc {ps : List ByteArray} {l : List UInt8} {i : Nat} (h : l.getD i 42 = 42) : spC ps l i = if frcV ps l i = 1 then 49 else if frcV ps l i = 0 then 48 else 42 := by
  unfold spC frcV
  rw [if_pos h]
  by_cases h0 : toB ps l i 0 = false
  · simp [h0]
  · by_cases h1 : toB ps l i 1 = false <;> simp [h0, h1]
theorem frc_same {ps : List ByteArray} {l : List UInt8} {i s0 : Nat} (h0 : s0 < 2 ^ l.length) (hs0 : hasT l s0 = true) (hb : bitN ps i s0 < 2) (h : ∀ s, s < 2 ^ l.length → hasT l s = true → bitN ps i s = bitN ps i s0) : frcV ps l i = (bitN ps i s0 : Nat) := by
  have hn : ∀ v, v ≠ bitN ps i s0 → toB ps l i v = false := fun v hv => by
    cases hc : toB ps l i v with
    | false => rfl
    | true =>
      obtain ⟨s, h1, h2, h3⟩ := toB_get hc
      exact absurd (h3.symm.trans (h s h1 h2)) hv
  have hy := toB_yes (ps := ps) (i := i) h0 hs0 rfl
  rcases (show bitN ps i s0 = 0 ∨ bitN ps i s0 = 1 by omega) with e | e
  · rw [e] at hy hn ⊢
    rw [frcV, if_neg (by rw [hy]; decide), if_pos (hn 1 (by decide))]
    rfl
  · rw [e] at hn ⊢
    rw [frcV, if_pos (hn 0 (by decide))]
    rfl
theorem frc_two {ps : List ByteArray} {l : List UInt8} {i s0 s1 : Nat} (h0 : s0 < 2 ^ l.length) (hs0 : hasT l s0 = true) (hb : bitN ps i s0 < 2) (h1 : s1 < 2 ^ l.length) (hs1 : hasT l s1 = true) (hb1 : bitN ps i s1 < 2) (hne : bitN ps i s1 ≠ bitN ps i s0) : frcV ps l i = -1 := by
  have hy := toB_yes (ps := ps) (i := i) h0 hs0 rfl
  have hy1 := toB_yes (ps := ps) (i := i) h1 hs1 rfl
  have : toB ps l i 0 = true ∧ toB ps l i 1 = true := by
    rcases (show bitN ps i s0 = 0 ∨ bitN ps i s0 = 1 by omega) with e | e
    · rw [e] at hy hne
      rw [show bitN ps i s1 = 1 by omega] at hy1
      exact ⟨hy, hy1⟩
    · rw [e] at hy hne
      rw [show bitN ps i s1 = 0 by omega] at hy1
      exact ⟨hy1, hy⟩
  rw [frcV, if_neg (by rw [this.1]; decide), if_neg (by rw [this.2]; decide)]

end Go.Proofs.YthgjmciiaikgoaaDoor
