/- Plain: circuits of a relation on few numbers; without one, whatever is open has a source. -/
import Derived.Test.YtfopimahnmpciaaDoorPop
namespace Go.Proofs.YtfopimahnmpciaaDoor
open Go.RowKit

/-- Whether a way that began at a number and has come to another one, over a set, can be closed. -/
def walkB (A : Nat → Nat → Bool) (n first : Nat) : Nat → Nat → Nat → Bool
  | 0, _, _ => false
  | f + 1, last, set => A last first || (List.range n).any fun k => decide (first < k) && (A last k && (!set.testBit k && walkB A n first f k (set ||| 2 ^ k)))
/-- Whether there is a circuit. -/
def circB (A : Nat → Nat → Bool) (n : Nat) : Bool := (List.range n).any fun i => walkB A n i 6 i (2 ^ i)

theorem nodup_le : ∀ (n : Nat) (l : List Nat), l.Nodup → (∀ x ∈ l, x < n) → l.length ≤ n
  | 0, [], _, _ => Nat.le_refl _
  | 0, x :: _, _, h => absurd (h x (by simp)) (Nat.not_lt_zero _)
  | n + 1, l, hn, h => by
    by_cases hm : n ∈ l
    · have := nodup_le n (l.erase n) (hn.erase n) (fun x hx => by
        have h1 := (List.Nodup.mem_erase_iff hn).1 hx
        have := h x h1.2
        omega)
      rw [List.length_erase_of_mem hm] at this
      omega
    · exact Nat.le_succ_of_le (nodup_le n l hn fun x hx => by
        have := h x hx
        have : x ≠ n := fun e => hm (e ▸ hx)
        omega)

/-- Steps of a map. -/
def itN (f : Nat → Nat) (x : Nat) : Nat → Nat
  | 0 => x
  | k + 1 => f (itN f x k)
theorem itN_add (f : Nat → Nat) (x a : Nat) : ∀ b, itN f x (a + b) = itN f (itN f x a) b
  | 0 => rfl
  | b + 1 => by show f (itN f x (a + b)) = f _; rw [itN_add f x a b]
theorem itN_lt {f : Nat → Nat} {n x : Nat} (hf : ∀ k, k < n → f k < n) (hx : x < n) : ∀ k, itN f x k < n
  | 0 => hx
  | k + 1 => hf _ (itN_lt hf hx k)
theorem least_nat {P : Nat → Prop} : ∀ n, P n → ∃ m, P m ∧ ∀ k, k < m → ¬ P k := fun n h => by
  classical
  induction n using Nat.strongRecOn with
  | _ n ih =>
    by_cases hx : ∃ k, k < n ∧ P k
    · obtain ⟨k, hk, hp⟩ := hx
      exact ih k hk hp
    · exact ⟨n, h, fun k hk hp => hx ⟨k, hk, hp⟩⟩
theorem map_nodup {g : Nat → Nat} : ∀ (k : Nat), (∀ i j, i < j → j < k → g i ≠ g j) → ((List.range k).map g).Nodup
  | 0, _ => by simp
  | k + 1, h => by
    rw [List.range_succ, List.map_append, List.nodup_append]
    refine ⟨map_nodup k fun i j hi hj => h i j hi (by omega), by simp, fun a ha b hb => ?_⟩
    obtain ⟨i, hi, rfl⟩ := List.mem_map.1 ha
    simp only [List.map_cons, List.map_nil, List.mem_singleton] at hb
    subst hb
    exact h i k (by simpa using hi) (Nat.lt_succ_self _)
theorem it_hits {f : Nat → Nat} {n x : Nat} (hf : ∀ k, k < n → f k < n) (hx : x < n) : ∃ i j, i < j ∧ j ≤ n ∧ itN f x i = itN f x j := by
  classical
  apply Classical.byContradiction
  intro hno
  have := nodup_le n ((List.range (n + 1)).map (itN f x)) (map_nodup _ fun i j hi hj e => hno ⟨i, j, hi, by omega, e⟩) (fun y hy => by
    obtain ⟨i, _, rfl⟩ := List.mem_map.1 hy
    exact itN_lt hf hx i)
  simp at this
  omega

/-- A map without end has a circuit. -/
theorem circ_of {A : Nat → Nat → Bool} {n : Nat} (h5 : n ≤ 5) (f : Nat → Nat) (S : Nat → Prop) (x0 : Nat) (hx : x0 < n) (hf : ∀ k, k < n → f k < n ∧ S (f k)) (he : ∀ k, k < n → S k → A (f k) k = true) : circB A n = true := by
  have hfn : ∀ k, k < n → f k < n := fun k hk => (hf k hk).1
  -- a number that comes again
  have hper : ∃ m, (m < n ∧ ∃ p, 0 < p ∧ itN f m p = m) := by
    obtain ⟨i, j, hij, _, e⟩ := it_hits hfn hx
    refine ⟨itN f x0 i, itN_lt hfn hx i, j - i, by omega, ?_⟩
    rw [← itN_add, show i + (j - i) = j by omega, ← e]
  obtain ⟨m0, hm0⟩ := hper
  obtain ⟨m, ⟨hm, hp⟩, hmin⟩ := least_nat (P := fun m => m < n ∧ ∃ p, 0 < p ∧ itN f m p = m) m0 hm0
  obtain ⟨p0, hp0⟩ := hp
  obtain ⟨p, ⟨hp, hpe⟩, hpmin⟩ := least_nat (P := fun p => 0 < p ∧ itN f m p = m) p0 hp0
  have hge : ∀ t, m ≤ itN f m t := fun t => by
    apply Classical.byContradiction
    intro hlt
    refine hmin (itN f m t) (by omega) ⟨itN_lt hfn hm t, p, hp, ?_⟩
    rw [← itN_add, Nat.add_comm, itN_add, hpe]
  have hne : ∀ t, 0 < t → t < p → itN f m t ≠ m := fun t h1 h2 e => hpmin t h2 ⟨h1, e⟩
  have hdist : ∀ i j, i < j → j < p → itN f m i ≠ itN f m j := fun i j hij hj e => by
    have : itN f m (i + (p - j)) = m := by
      rw [itN_add, e, ← itN_add, show j + (p - j) = p by omega, hpe]
    exact hne (i + (p - j)) (by omega) (by omega) this
  have hpn : p ≤ n := by
    have := nodup_le n ((List.range p).map (itN f m)) (map_nodup _ hdist) (fun y hy => by
      obtain ⟨i, _, rfl⟩ := List.mem_map.1 hy
      exact itN_lt hfn hm i)
    simpa using this
  have hS : ∀ t, 0 < t → S (itN f m t) := fun t ht => by
    obtain ⟨u, rfl⟩ : ∃ u, t = u + 1 := ⟨t - 1, by omega⟩
    exact (hf _ (itN_lt hfn hm u)).2
  have hSm : S m := by rw [← hpe]; exact hS p hp
  have hS' : ∀ t, S (itN f m t) := fun t => by
    by_cases h : t = 0
    · subst h; exact hSm
    · exact hS t (by omega)
  have hedge : ∀ t, A (itN f m (t + 1)) (itN f m t) = true := fun t => he _ (itN_lt hfn hm t) (hS' t)
  -- the way, from the end of the map to its beginning
  have hway : ∀ q, q < p → ∀ fu last set, q < fu → last = itN f m (q + 1) → (∀ t, 0 < t → t ≤ q → set.testBit (itN f m t) = false) → walkB A n m fu last set = true := by
    intro q
    induction q with
    | zero =>
      intro _ fu last set hfu hl _
      obtain ⟨fu', rfl⟩ : ∃ u, fu = u + 1 := ⟨fu - 1, by omega⟩
      have h0 : A (itN f m (0 + 1)) m = true := hedge 0
      rw [walkB, hl, h0]
      rfl
    | succ q ih =>
      intro hq fu last set hfu hl hset
      obtain ⟨fu', rfl⟩ : ∃ u, fu = u + 1 := ⟨fu - 1, by omega⟩
      rw [walkB, Bool.or_eq_true, List.any_eq_true]
      refine .inr ⟨itN f m (q + 1), by rw [List.mem_range]; exact itN_lt hfn hm _, ?_⟩
      have hi := ih (by omega) fu' (itN f m (q + 1)) (set ||| 2 ^ itN f m (q + 1)) (by omega) rfl (fun t h1 h2 => by
        rw [Nat.testBit_or, hset t h1 (by omega), Nat.testBit_two_pow]
        have := hdist t (q + 1) (by omega) hq
        simp; omega)
      have h1 := hge (q + 1)
      have h2 := hne (q + 1) (by omega) hq
      rw [hl, hedge (q + 1), hset (q + 1) (by omega) (Nat.le_refl _), hi]
      simp; omega
  rw [circB, List.any_eq_true]
  refine ⟨m, by rw [List.mem_range]; exact hm, hway (p - 1) (by omega) 6 m (2 ^ m) (by omega) (by rw [show p - 1 + 1 = p by omega, hpe]) (fun t h1 h2 => ?_)⟩
  rw [Nat.testBit_two_pow]
  have := hne t h1 (by omega)
  simp; omega

/-- Whether all that act on a number that is open are done. -/
def srcB (A : Nat → Nat → Bool) (n done k : Nat) : Bool := !done.testBit k && (List.range n).all fun i => done.testBit i || !A i k
theorem src_ex {A : Nat → Nat → Bool} {n done : Nat} (h5 : n ≤ 5) (hc : circB A n = false) (hd : ∃ k, k < n ∧ done.testBit k = false) : ∃ k, k < n ∧ srcB A n done k = true := by
  classical
  apply Classical.byContradiction
  intro hno
  obtain ⟨k0, hk0, hd0⟩ := hd
  have hpred : ∀ k, k < n → done.testBit k = false → ∃ i, i < n ∧ done.testBit i = false ∧ A i k = true := fun k hk hdk => by
    apply Classical.byContradiction
    intro hn
    refine hno ⟨k, hk, ?_⟩
    rw [srcB, hdk, List.all_eq_true.2]
    · rfl
    · intro i hi
      have hi' : i < n := by simpa using hi
      cases h1 : done.testBit i with
      | true => rfl
      | false =>
        cases h2 : A i k with
        | false => rfl
        | true => exact absurd ⟨i, hi', h1, h2⟩ hn
  have hx : ∀ k, ∃ i, (k < n ∧ done.testBit k = false → i < n ∧ done.testBit i = false ∧ A i k = true) ∧ (¬ (k < n ∧ done.testBit k = false) → i = k0) := fun k => by
    by_cases h : k < n ∧ done.testBit k = false
    · obtain ⟨i, hi⟩ := hpred k h.1 h.2
      exact ⟨i, fun _ => hi, fun h' => absurd h h'⟩
    · exact ⟨k0, fun h' => absurd h' h, fun _ => rfl⟩
  let f : Nat → Nat := fun k => Classical.choose (hx k)
  have hf := fun k => Classical.choose_spec (hx k)
  have := circ_of (A := A) h5 f (fun k => done.testBit k = false) k0 hk0 (fun k hk => by
    by_cases h : done.testBit k = false
    · exact ⟨((hf k).1 ⟨hk, h⟩).1, ((hf k).1 ⟨hk, h⟩).2.1⟩
    · have e : f k = k0 := (hf k).2 fun h' => h h'.2
      rw [e]; exact ⟨hk0, hd0⟩) (fun k hk h => ((hf k).1 ⟨hk, h⟩).2.2)
  rw [this] at hc
  cases hc

end Go.Proofs.YtfopimahnmpciaaDoor
