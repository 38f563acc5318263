/- Plain facts: how many switches a set has; the least set of several. -/
import Derived.Test.YtlfadpfodmpneaaDoorPure
namespace Go.Proofs.YtlfadpfodmpneaaDoor
open Go.RowKit

/-- The digit of a number. -/
def bN (s i : Nat) : Nat := s / 2 ^ i % 2
/-- How many switches a set has. -/
def popN (s : Nat) : Nat := bN s 0 + bN s 1 + bN s 2 + bN s 3 + bN s 4
def popTo (s k : Nat) : Nat := (List.range k).foldl (fun n i => n + bN s i) 0
theorem popTo_succ (s k : Nat) : popTo s (k + 1) = popTo s k + bN s k := by simp [popTo, List.range_succ]
theorem popTo_five (s : Nat) : popTo s 5 = popN s := by simp [popTo, popN, List.range_succ]
theorem bN_lt (s i : Nat) : bN s i < 2 := Nat.mod_lt _ (by decide)
theorem popTo_le (s : Nat) : ∀ k, popTo s k ≤ k
  | 0 => Nat.le_refl _
  | k + 1 => by rw [popTo_succ]; have := popTo_le s k; have := bN_lt s k; omega
theorem popN_le (s : Nat) : popN s ≤ 5 := by rw [← popTo_five]; exact popTo_le s 5

/-- b is the least of the sets from lo to hi (not with it) for which E says yes, by their number of switches first; or there is none, and b is -1. -/
def Best (E : Nat → Prop) (lo hi : Nat) (b : Int) : Prop :=
  (b = -1 ∧ ∀ t, lo ≤ t → t < hi → ¬ E t) ∨
  ∃ s : Nat, b = s ∧ lo ≤ s ∧ s < hi ∧ E s ∧ ∀ t, lo ≤ t → t < hi → E t → popN s < popN t ∨ (popN s = popN t ∧ s ≤ t)

theorem Best.unique {E : Nat → Prop} {lo hi : Nat} {b b' : Int} (h : Best E lo hi b) (h' : Best E lo hi b') : b = b' := by
  rcases h with ⟨rfl, hn⟩ | ⟨s, rfl, h1, h2, h3, h4⟩ <;> rcases h' with ⟨rfl, hn'⟩ | ⟨s', rfl, k1, k2, k3, k4⟩
  · rfl
  · exact absurd k3 (hn s' k1 k2)
  · exact absurd h3 (hn' s h1 h2)
  · have a := h4 s' k1 k2 k3
    have b := k4 s h1 h2 h3
    omega
theorem Best.start (E : Nat → Prop) (lo : Nat) : Best E lo lo (-1) := .inl ⟨rfl, fun t h1 h2 => by omega⟩
/-- One set more at the end. -/
theorem Best.skip {E : Nat → Prop} {lo hi : Nat} {b : Int} (h : Best E lo hi b) (hn : ¬ E hi ∨ ∃ s : Nat, b = s ∧ popN s ≤ popN hi) : Best E lo (hi + 1) b := by
  rcases h with ⟨rfl, h0⟩ | ⟨s, rfl, h1, h2, h3, h4⟩
  · rcases hn with hn | ⟨s, hs, _⟩
    · exact .inl ⟨rfl, fun t a b => by
        by_cases e : t = hi
        · rw [e]; exact hn
        · exact h0 t a (by omega)⟩
    · omega
  · refine .inr ⟨s, rfl, h1, by omega, h3, fun t a b ht => ?_⟩
    by_cases e : t = hi
    · subst e
      rcases hn with hn | ⟨s', hs, hp⟩
      · exact absurd ht hn
      · have : s = s' := by omega
        subst this
        omega
    · exact h4 t a (by omega) ht
theorem Best.take {E : Nat → Prop} {lo hi : Nat} {b : Int} (h : Best E lo hi b) (hlo : lo ≤ hi) (hE : E hi) (hp : ∀ s : Nat, b = s → popN hi < popN s) : Best E lo (hi + 1) hi := by
  refine .inr ⟨hi, rfl, hlo, by omega, hE, fun t a c ht => ?_⟩
  by_cases e : t = hi
  · rw [e]; exact .inr ⟨rfl, Nat.le_refl _⟩
  · rcases h with ⟨rfl, h0⟩ | ⟨s, rfl, h1, h2, h3, h4⟩
    · exact absurd ht (h0 t a (by omega))
    · have := h4 t a (by omega) ht
      have := hp s rfl
      omega
/-- One set more at the beginning. -/
theorem Best.skipDown {E : Nat → Prop} {lo hi : Nat} {b : Int} (h : Best E (lo + 1) hi b) (hn : ¬ E lo ∨ ∃ s : Nat, b = s ∧ popN s < popN lo) : Best E lo hi b := by
  rcases h with ⟨rfl, h0⟩ | ⟨s, rfl, h1, h2, h3, h4⟩
  · rcases hn with hn | ⟨s, hs, _⟩
    · exact .inl ⟨rfl, fun t a b => by
        by_cases e : t = lo
        · rw [e]; exact hn
        · exact h0 t (by omega) b⟩
    · omega
  · refine .inr ⟨s, rfl, by omega, h2, h3, fun t a b ht => ?_⟩
    by_cases e : t = lo
    · subst e
      rcases hn with hn | ⟨s', hs, hp⟩
      · exact absurd ht hn
      · have : s = s' := by omega
        subst this
        omega
    · exact h4 t (by omega) b ht
theorem Best.takeDown {E : Nat → Prop} {lo hi : Nat} {b : Int} (h : Best E (lo + 1) hi b) (hlo : lo < hi) (hE : E lo) (hp : ∀ s : Nat, b = s → popN lo ≤ popN s) : Best E lo hi lo := by
  refine .inr ⟨lo, rfl, Nat.le_refl _, hlo, hE, fun t a c ht => ?_⟩
  by_cases e : t = lo
  · rw [e]; exact .inr ⟨rfl, Nat.le_refl _⟩
  · rcases h with ⟨rfl, h0⟩ | ⟨s, rfl, h1, h2, h3, h4⟩
    · exact absurd ht (h0 t (by omega) c)
    · have := h4 t (by omega) c ht
      have := hp s rfl
      omega

noncomputable def least (E : Nat → Prop) (N : Nat) : Int := @Classical.epsilon Int ⟨0⟩ fun b => Best E 0 N b
theorem Best.eq_least {E : Nat → Prop} {N : Nat} {b : Int} (h : Best E 0 N b) : b = least E N := h.unique (@Classical.epsilon_spec Int (fun b => Best E 0 N b) ⟨b, h⟩)
theorem Best.range {E : Nat → Prop} {lo hi : Nat} {b : Int} (h : Best E lo hi b) : -1 ≤ b ∧ b < hi ∨ b = -1 := by
  rcases h with ⟨rfl, _⟩ | ⟨s, rfl, _, h2, _⟩ <;> omega

/-- How many numbers below k are so. -/
def cnt (p : Nat → Bool) (k : Nat) : Nat := ((List.range k).filter p).length
theorem cnt_succ (p : Nat → Bool) (k : Nat) : cnt p (k + 1) = cnt p k + if p k = true then 1 else 0 := by
  unfold cnt
  rw [List.range_succ, List.filter_append, List.length_append]
  by_cases h : p k = true <;> simp [h]
theorem cnt_le {p q : Nat → Bool} : ∀ k, (∀ i, i < k → p i = true → q i = true) → cnt p k ≤ cnt q k
  | 0, _ => Nat.le_refl _
  | k + 1, h => by
    have := cnt_le k (fun i hi => h i (by omega))
    rw [cnt_succ, cnt_succ]
    by_cases hp : p k = true
    · rw [if_pos hp, if_pos (h k (by omega) hp)]; omega
    · rw [if_neg hp]; omega
theorem cnt_lt {p q : Nat → Bool} : ∀ k, (∀ i, i < k → p i = true → q i = true) → (∃ i, i < k ∧ q i = true ∧ p i = false) → cnt p k < cnt q k
  | 0, _, ⟨i, hi, _⟩ => absurd hi (Nat.not_lt_zero _)
  | k + 1, h, ⟨i, hi, h1, h2⟩ => by
    rw [cnt_succ, cnt_succ]
    by_cases e : i = k
    · subst e
      have := cnt_le i (fun j hj => h j (by omega))
      rw [if_neg (by rw [h2]; decide), if_pos h1]; omega
    · have := cnt_lt k (fun j hj => h j (by omega)) ⟨i, by omega, h1, h2⟩
      by_cases hp : p k = true
      · rw [if_pos hp, if_pos (h k (by omega) hp)]; omega
      · rw [if_neg hp]; omega
theorem cnt_bound (p : Nat → Bool) (k : Nat) : cnt p k ≤ k := Nat.le_trans (List.length_filter_le _ _) (by simp)

end Go.Proofs.YtlfadpfodmpneaaDoor
