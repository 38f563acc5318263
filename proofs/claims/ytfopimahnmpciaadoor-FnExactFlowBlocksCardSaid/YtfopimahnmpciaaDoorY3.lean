/- Plain: what does not act on a switch does not matter for it; steps of blocks. -/
import Derived.Test.YtfopimahnmpciaaDoorP3
import Derived.Test.YtfopimahnmpciaaDoorM7
namespace Go.Proofs.YtfopimahnmpciaaDoor
open Go.RowKit

theorem setN_same {s i v : Nat} (hs : s < 32) (hi : i < 5) (hv : v < 2) (h : s.testBit i = decide (v = 1)) : setN s i v = s :=
  eq_32 (setN_lt hs hi hv) hs fun j hj => by
    rw [setN_bit hs hi hv hj]
    split
    · rename_i e; rw [e, h]
    · rfl
theorem setN_pow {s i v n : Nat} (hs : s < 2 ^ n) (hi : i < n) (hv : v < 2) : setN s i v < 2 ^ n := by
  refine Nat.or_lt_two_pow (Nat.lt_of_le_of_lt Nat.and_le_left hs) ?_
  have := Nat.pow_lt_pow_right (show 1 < 2 by decide) hi
  rcases (show v = 0 ∨ v = 1 by omega) with rfl | rfl
  · simpa using Nat.two_pow_pos n
  · simpa using this
theorem pow_32 {n : Nat} (h5 : n ≤ 5) : (2 ^ n : Nat) ≤ 32 := Nat.pow_le_pow_right (n := 2) (by decide) h5

theorem act_none {ps : List ByteArray} {i k s : Nat} (h : actB ps i k = false) (hs : s < 2 ^ ps.length) : bitN ps k (setN s i 0) = bitN ps k (setN s i 1) := by
  rw [actB, Bool.or_eq_false_iff] at h
  have h1 : ¬ bitU (bitN ps k) i s = true := fun e => by
    have := (anyTo_iff (bitU (bitN ps k) i) (2 ^ ps.length)).2 ⟨s, hs, e⟩
    rw [show anyTo (bitU (bitN ps k) i) (2 ^ ps.length) = false from h.1] at this
    cases this
  have h2 : ¬ bitD (bitN ps k) i s = true := fun e => by
    have := (anyTo_iff (bitD (bitN ps k) i) (2 ^ ps.length)).2 ⟨s, hs, e⟩
    rw [show anyTo (bitD (bitN ps k) i) (2 ^ ps.length) = false from h.2] at this
    cases this
  simp only [bitU, bitD, decide_eq_true_iff] at h1 h2
  omega
theorem act_some {ps : List ByteArray} {i k : Nat} (h : actB ps i k = true) : ∃ s, s < 2 ^ ps.length ∧ bitN ps k (setN s i 0) ≠ bitN ps k (setN s i 1) := by
  rw [actB, Bool.or_eq_true] at h
  rcases h with h | h
  · obtain ⟨s, hs, e⟩ := (anyTo_iff _ _).1 h
    simp only [bitU, decide_eq_true_iff] at e
    exact ⟨s, hs, by omega⟩
  · obtain ⟨s, hs, e⟩ := (anyTo_iff _ _).1 h
    simp only [bitD, decide_eq_true_iff] at e
    exact ⟨s, hs, by omega⟩
theorem act_set {ps : List ByteArray} (h5 : ps.length ≤ 5) {i k s v : Nat} (h : actB ps i k = false) (hi : i < ps.length) (hs : s < 2 ^ ps.length) (hv : v < 2) : bitN ps k (setN s i v) = bitN ps k s := by
  have hp := pow_32 h5
  have h0 := act_none h hs
  cases hb : s.testBit i with
  | true =>
    have e : setN s i 1 = s := setN_same (by omega) (by omega) (by decide) (by rw [hb]; rfl)
    rw [e] at h0
    rcases (show v = 0 ∨ v = 1 by omega) with rfl | rfl
    · exact h0
    · rw [e]
  | false =>
    have e : setN s i 0 = s := setN_same (by omega) (by omega) (by decide) (by rw [hb]; rfl)
    rw [e] at h0
    rcases (show v = 0 ∨ v = 1 by omega) with rfl | rfl
    · rw [e]
    · exact h0.symm
/-- The first j switches of one state, the others of another one. -/
def hyb (s t : Nat) : Nat → Nat
  | 0 => s
  | j + 1 => setN (hyb s t j) j (bN t j)
theorem hyb_inv {s t n : Nat} (h5 : n ≤ 5) (hs : s < 2 ^ n) : ∀ j, j ≤ n → hyb s t j < 2 ^ n ∧ ∀ i, i < 5 → (hyb s t j).testBit i = if i < j then t.testBit i else s.testBit i
  | 0, _ => ⟨hs, fun i _ => by simp [hyb]⟩
  | j + 1, hj => by
    obtain ⟨h1, h2⟩ := hyb_inv h5 hs j (by omega)
    have hp := pow_32 h5
    refine ⟨setN_pow h1 (by omega) (bN_lt t j), fun i hi => ?_⟩
    rw [hyb, setN_bit (by omega) (by omega) (bN_lt t j) hi]
    by_cases e : i = j
    · subst e
      rw [if_pos rfl, if_pos (Nat.lt_succ_self _)]
      have := bit_test t i
      rw [show t / 2 ^ i % 2 = bN t i from rfl] at this
      rw [this]
      cases t.testBit i <;> rfl
    · rw [if_neg e, h2 i hi]
      by_cases h3 : i < j
      · simp [h3, show i < j + 1 by omega]
      · simp [h3, show ¬ i < j + 1 by omega]
/-- A switch's rule has the same value at two states that agree on all that act on it. -/
theorem bit_indep {ps : List ByteArray} (h5 : ps.length ≤ 5) {k s t : Nat} (hs : s < 2 ^ ps.length) (ht : t < 2 ^ ps.length) (h : ∀ i, i < ps.length → actB ps i k = true → s.testBit i = t.testBit i) : bitN ps k s = bitN ps k t := by
  have hp := pow_32 h5
  have key : ∀ j, j ≤ ps.length → bitN ps k (hyb s t j) = bitN ps k s := by
    intro j
    induction j with
    | zero => intro _; rfl
    | succ j ih =>
      intro hj
      obtain ⟨h1, h2⟩ := hyb_inv (t := t) h5 hs j (by omega)
      rw [← ih (by omega)]
      show bitN ps k (setN (hyb s t j) j (bN t j)) = _
      cases ha : actB ps j k with
      | false => exact act_set h5 ha (by omega) h1 (bN_lt t j)
      | true =>
        have e := h j (by omega) ha
        rw [setN_same (by omega) (by omega) (bN_lt t j)]
        rw [h2 j (by omega), if_neg (Nat.lt_irrefl _), e]
        have := bit_test t j
        rw [show t / 2 ^ j % 2 = bN t j from rfl] at this
        rw [this]
        cases t.testBit j <;> rfl
  have h3 := key ps.length (Nat.le_refl _)
  obtain ⟨h1, h2⟩ := hyb_inv (t := t) h5 hs ps.length (Nat.le_refl _)
  have e : hyb s t ps.length = t := eq_32 (by omega) (by omega) fun i hi => by
    rw [h2 i hi]
    split
    · rfl
    · rename_i hx
      have h4 : (2 : Nat) ^ ps.length ≤ 2 ^ i := Nat.pow_le_pow_right (by decide) (by omega)
      rw [Nat.testBit_lt_two_pow (show s < 2 ^ i by omega), Nat.testBit_lt_two_pow (show t < 2 ^ i by omega)]
  rw [e] at h3
  exact h3.symm

/-- The bits of a step of some switches. -/
theorem stepTo_bit {ps : List ByteArray} (hn : netB ps = true) (h5 : ps.length ≤ 5) {s b j : Nat} (hs : s < 2 ^ ps.length) (hj : j < ps.length) : (stepTo ps s b ps.length).testBit j = if b.testBit j = true then decide (bitN ps j s = 1) else s.testBit j := by
  have hp := pow_32 h5
  rw [(stepTo_inv hn h5 b (by omega) ps.length (Nat.le_refl _)).2 j (by omega)]
  simp [hj]
theorem allTo_bit {ps : List ByteArray} (hn : netB ps = true) (h5 : ps.length ≤ 5) {s j : Nat} (hj : j < ps.length) : (allTo ps s ps.length).testBit j = decide (bitN ps j s = 1) := by
  rw [(allTo_inv hn h5 s ps.length (Nat.le_refl _)).2 j (by omega)]
  simp [hj]
theorem allTo_lt {ps : List ByteArray} (hn : netB ps = true) (h5 : ps.length ≤ 5) (s : Nat) : allTo ps s ps.length < 2 ^ ps.length := by
  obtain ⟨h1, h2⟩ := allTo_inv hn h5 s ps.length (Nat.le_refl _)
  refine Nat.lt_pow_two_of_testBit _ fun i hi => ?_
  by_cases h : i < 5
  · rw [h2 i h]; simp; omega
  · exact Nat.testBit_lt_two_pow (Nat.lt_of_lt_of_le h1 (show (2:Nat) ^ 5 ≤ 2 ^ i from Nat.pow_le_pow_right (by decide) (by omega)))
/-- Two states of n switches with the same bits. -/
theorem eq_pow {n a b : Nat} (ha : a < 2 ^ n) (hb : b < 2 ^ n) (h : ∀ i, i < n → a.testBit i = b.testBit i) : a = b := by
  apply Nat.eq_of_testBit_eq
  intro i
  by_cases hi : i < n
  · exact h i hi
  · have h4 : (2 : Nat) ^ n ≤ 2 ^ i := Nat.pow_le_pow_right (by decide) (by omega)
    rw [Nat.testBit_lt_two_pow (show a < 2 ^ i by omega), Nat.testBit_lt_two_pow (show b < 2 ^ i by omega)]
theorem bit_eq {ps : List ByteArray} (hn : netB ps = true) {j s t : Nat} (hj : j < ps.length) (h : decide (bitN ps j s = 1) = decide (bitN ps j t = 1)) : bitN ps j s = bitN ps j t := by
  have h1 := bitN_lt (netB_get hn j hj).1 s
  have h2 := bitN_lt (netB_get hn j hj).1 t
  have h3 : bitN ps j s = 1 ↔ bitN ps j t = 1 := by simpa using h
  omega
theorem step_all {ps : List ByteArray} (hn : netB ps = true) (h5 : ps.length ≤ 5) {s : Nat} (hs : s < 2 ^ ps.length) : stepTo ps s (2 ^ ps.length - 1) ps.length = allTo ps s ps.length :=
  eq_pow (stepTo_lt hn h5 _ hs) (allTo_lt hn h5 s) fun j hj => by
    rw [stepTo_bit hn h5 hs hj, allTo_bit hn h5 hj, Nat.testBit_two_pow_sub_one]
    simp [hj]
/-- Two blocks at once, if none of the first acts on the second. -/
theorem step_join {ps : List ByteArray} (hn : netB ps = true) (h5 : ps.length ≤ 5) {s a b : Nat} (hs : s < 2 ^ ps.length) (h : ∀ i j, i < ps.length → j < ps.length → a.testBit i = true → b.testBit j = true → actB ps i j = false) :
    stepTo ps (stepTo ps s a ps.length) b ps.length = stepTo ps s (a ||| b) ps.length := by
  have h1 := stepTo_lt hn h5 a hs
  refine eq_pow (stepTo_lt hn h5 b h1) (stepTo_lt hn h5 _ hs) fun j hj => ?_
  have e1 := stepTo_bit hn h5 (b := b) h1 hj
  have e2 := stepTo_bit hn h5 (b := a ||| b) hs hj
  have e3 := stepTo_bit hn h5 (b := a) hs hj
  rw [e1, e2, Nat.testBit_or]
  cases hb : b.testBit j with
  | true =>
    have e : bitN ps j (stepTo ps s a ps.length) = bitN ps j s := bit_indep h5 h1 hs fun i hi ha => by
      rw [stepTo_bit hn h5 hs hi]
      cases hai : a.testBit i with
      | false => rfl
      | true =>
        rw [h i j hi hj hai hb] at ha
        cases ha
    rw [e]
    simp
  | false =>
    rw [e3]
    simp
/-- The steps of a list of blocks. -/
def runL (ps : List ByteArray) (s : Nat) (zs : List Int) : Nat := zs.foldl (fun s z => stepTo ps s z.toNat ps.length) s
theorem runL_nil (ps : List ByteArray) (s : Nat) : runL ps s [] = s := rfl
theorem runL_cons (ps : List ByteArray) (s : Nat) (z : Int) (zs : List Int) : runL ps s (z :: zs) = runL ps (stepTo ps s z.toNat ps.length) zs := rfl
theorem runL_app (ps : List ByteArray) (s : Nat) (xs ys : List Int) : runL ps s (xs ++ ys) = runL ps (runL ps s xs) ys := by simp [runL]
theorem runTo_take (ps : List ByteArray) (zs : List Int) (s : Nat) : ∀ k, k ≤ zs.length → runTo ps zs s k = runL ps s (zs.take k)
  | 0, _ => by simp [runTo, runL]
  | k + 1, hk => by
    rw [runTo, runTo_take ps zs s k (by omega), take_succ_of zs k _ (gI_lt (by omega)), runL_app]
    rfl
theorem runTo_all (ps : List ByteArray) (zs : List Int) (s : Nat) : runTo ps zs s zs.length = runL ps s zs := by rw [runTo_take ps zs s _ (Nat.le_refl _), List.take_length]
theorem runL_lt {ps : List ByteArray} (hn : netB ps = true) (h5 : ps.length ≤ 5) : ∀ (zs : List Int) {s : Nat}, s < 2 ^ ps.length → runL ps s zs < 2 ^ ps.length
  | [], _, hs => hs
  | _ :: zs, _, hs => runL_lt hn h5 zs (stepTo_lt hn h5 _ hs)

end Go.Proofs.YtfopimahnmpciaaDoor
