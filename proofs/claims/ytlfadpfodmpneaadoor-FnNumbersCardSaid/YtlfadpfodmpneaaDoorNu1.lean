/- Plain: decimal numerals of numbers up to a million. -/
import Derived.Test.YtlfadpfodmpneaaDoorPure
import Derived.Lib.ItoaNum
import Derived.Lib.ItoaMem
import Derived.Lib.AtoiTie
namespace Go.Proofs.YtlfadpfodmpneaaDoor
open Go.RowKit

theorem decF_app (l : List UInt8) (b : UInt8) : ∀ acc, Lib.decFrom acc (l ++ [b]) = (Lib.decFrom acc l).bind fun n => (Lib.digitVal b).map fun d => n * 10 + d := by
  induction l with
  | nil =>
    intro acc
    simp only [List.nil_append, Lib.decFrom, Option.bind_some]
    cases Lib.digitVal b <;> rfl
  | cons a r ih =>
    intro acc
    simp only [List.cons_append, Lib.decFrom]
    cases Lib.digitVal a with
    | none => rfl
    | some d => exact ih _
theorem digV {d : Nat} (h : d < 10) : Lib.digitVal (UInt8.ofNat (48 + d)) = some d := by
  have key : ∀ d : Fin 10, Lib.digitVal (UInt8.ofNat (48 + d.val)) = some d.val := by decide +kernel
  exact key ⟨d, h⟩
theorem digV_inv {b : UInt8} {d : Nat} (h : Lib.digitVal b = some d) : d < 10 ∧ b = UInt8.ofNat (48 + d) := by
  unfold Lib.digitVal at h
  split at h
  · rename_i hb
    have e : b.toNat - 48 = d := Option.some.inj h
    refine ⟨by omega, ?_⟩
    apply UInt8.toNat_inj.1
    rw [show 48 + d = b.toNat by omega]
    simp
  · cases h
theorem dec_big {u : Nat} (h : ¬ u < 10) : Lib.decDigits u = Lib.decDigits (u / 10) ++ [UInt8.ofNat (48 + u % 10)] := by rw [Lib.decDigits, dif_neg h]
theorem dec_ne (u : Nat) : Lib.decDigits u ≠ [] := by
  by_cases h : u < 10
  · rw [Lib.decDigits_one h]; simp
  · rw [dec_big h]; simp
theorem dec_back (u : Nat) : Lib.decFrom 0 (Lib.decDigits u) = some u := by
  induction u using Nat.strongRecOn with
  | _ u ih =>
    by_cases h : u < 10
    · rw [Lib.decDigits_one h]
      simp only [Lib.decFrom, digV h]
      simp
    · rw [dec_big h, decF_app, ih (u / 10) (by omega), digV (by omega)]
      simp only [Option.bind_some, Option.map_some]
      congr 1
      omega
theorem dec_nat (u : Nat) : Lib.decNat (Lib.decDigits u) = some u := by
  rw [Lib.decNat, if_neg (by simpa using dec_ne u), dec_back]
/-- The letters of a numeral are digits. -/
theorem dec_dig (u : Nat) : ∀ b ∈ Lib.decDigits u, 48 ≤ b.toNat ∧ b.toNat ≤ 57 := by
  induction u using Nat.strongRecOn with
  | _ u ih =>
    have key : ∀ d : Fin 10, 48 ≤ (UInt8.ofNat (48 + d.val)).toNat ∧ (UInt8.ofNat (48 + d.val)).toNat ≤ 57 := by decide +kernel
    by_cases h : u < 10
    · rw [Lib.decDigits_one h]
      intro b hb
      rw [List.mem_singleton.1 hb]
      exact key ⟨u, h⟩
    · rw [dec_big h]
      intro b hb
      rw [List.mem_append, List.mem_singleton] at hb
      rcases hb with hb | rfl
      · exact ih (u / 10) (by omega) b hb
      · exact key ⟨u % 10, by omega⟩
/-- The first is no 0, but for 0 itself. -/
theorem dec_head (u : Nat) (h0 : 0 < u) : (Lib.decDigits u).head? ≠ some 48 := by
  induction u using Nat.strongRecOn with
  | _ u ih =>
    by_cases h : u < 10
    · rw [Lib.decDigits_one h]
      have key : ∀ d : Fin 10, 0 < d.val → UInt8.ofNat (48 + d.val) ≠ 48 := by decide +kernel
      simpa using key ⟨u, h⟩ h0
    · rw [dec_big h]
      have h2 := ih (u / 10) (by omega) (by omega)
      cases hd : Lib.decDigits (u / 10) with
      | nil => exact absurd hd (dec_ne _)
      | cons a r => rw [hd] at h2; simpa using h2
theorem decF_ge (l : List UInt8) : ∀ {acc u : Nat}, Lib.decFrom acc l = some u → acc ≤ u := by
  induction l with
  | nil => intro acc u h; simp only [Lib.decFrom] at h; have := Option.some.inj h; omega
  | cons b r ih =>
    intro acc u h
    simp only [Lib.decFrom] at h
    cases hd : Lib.digitVal b with
    | none => rw [hd] at h; cases h
    | some d => rw [hd] at h; have := ih h; omega
theorem decF_pos {b : UInt8} {r : List UInt8} {u : Nat} (h : Lib.decFrom 0 (b :: r) = some u) (hb : b ≠ 48) : 0 < u := by
  simp only [Lib.decFrom] at h
  cases hd : Lib.digitVal b with
  | none => rw [hd] at h; cases h
  | some d =>
    rw [hd] at h
    obtain ⟨h1, h2⟩ := digV_inv hd
    have := decF_ge r h
    have : d ≠ 0 := fun e => hb (by rw [h2, e]; rfl)
    omega
/-- A row of digits whose first is no 0 is the numeral of its number. -/
theorem dec_canon : ∀ (n : Nat) (l : List UInt8) (u : Nat), l.length ≤ n → l ≠ [] → (l.length = 1 ∨ l.head? ≠ some 48) → Lib.decFrom 0 l = some u → Lib.decDigits u = l
  | 0, l, _, hl, hne, _, _ => absurd (List.eq_nil_of_length_eq_zero (by omega)) hne
  | n + 1, l, u, hl, hne, hh, h => by
    obtain ⟨r, b, rfl⟩ : ∃ r b, l = r ++ [b] := ⟨l.dropLast, l.getLast hne, (List.dropLast_concat_getLast hne).symm⟩
    rw [decF_app] at h
    cases hr : Lib.decFrom 0 r with
    | none => rw [hr] at h; cases h
    | some v =>
      rw [hr] at h
      cases hd : Lib.digitVal b with
      | none => rw [hd] at h; cases h
      | some d =>
        rw [hd] at h
        simp only [Option.bind_some, Option.map_some] at h
        have hu : v * 10 + d = u := Option.some.inj h
        obtain ⟨h10, rfl⟩ := digV_inv hd
        cases hrr : r with
        | nil =>
          rw [hrr] at hr
          simp only [Lib.decFrom] at hr
          have : v = 0 := (Option.some.inj hr).symm
          rw [Lib.decDigits_one (by omega), show u = d by omega]; rfl
        | cons a r' =>
          rw [hrr] at hh hr hl
          have ha : a ≠ 48 := by
            rcases hh with hh | hh
            · simp at hh
            · simpa using hh
          have hv := decF_pos hr ha
          have ih := dec_canon n (a :: r') v (by simp at hl ⊢; omega) (by simp) (.inr (by simpa using ha)) hr
          rw [dec_big (by omega), show u / 10 = v by omega, show u % 10 = d by omega, ih]

/-- What a numeral of a number up to a million tells. -/
def numO (l : List UInt8) : Option Nat := match Lib.decFrom 0 l with
  | some u => if u ≤ 1000000 ∧ Lib.decDigits u = l then some u else none
  | none => none
theorem numO_some {l : List UInt8} {u : Nat} : numO l = some u ↔ u ≤ 1000000 ∧ Lib.decDigits u = l := by
  unfold numO
  constructor
  · intro h
    cases hd : Lib.decFrom 0 l with
    | none => rw [hd] at h; cases h
    | some v =>
      rw [hd] at h
      simp only at h
      split at h
      · rename_i hc
        have := Option.some.inj h
        subst this
        exact hc
      · cases h
  · rintro ⟨h1, rfl⟩
    rw [dec_back]
    simp [h1]
theorem numO_none {l : List UInt8} (h : numO l = none) {u : Nat} (hu : u ≤ 1000000) : Lib.decDigits u ≠ l := fun e => by
  rw [numO_some.2 ⟨hu, e⟩] at h; cases h
theorem nDig_le {u : Nat} (h : u ≤ 1000000) : Lib.nDigits u ≤ 7 := by
  refine Classical.byContradiction fun hn => ?_
  have key : ∀ (k u : Nat), k + 1 ≤ Lib.nDigits u → 10 ^ k ≤ u ∨ u = 0 ∧ k = 0 := by
    intro k
    induction k with
    | zero =>
      intro u _
      by_cases e : u = 0
      · exact .inr ⟨e, rfl⟩
      · exact .inl (by simp; omega)
    | succ k ih =>
      intro u hu
      by_cases hb : u < 10
      · rw [Lib.nDigits_small hb] at hu; omega
      · rw [Lib.nDigits_big hb] at hu
        rcases ih (u / 10) (by omega) with h1 | ⟨h1, _⟩
        · left; rw [Nat.pow_succ]; omega
        · omega
  rcases key 7 u (by omega) with h1 | ⟨_, h1⟩
  · have : (10 : Nat) ^ 7 = 10000000 := by decide
    omega
  · cases h1
theorem dec_len {u : Nat} (h : u ≤ 1000000) : (Lib.decDigits u).length ≤ 7 := by rw [Lib.decDigits_length]; exact nDig_le h

/-- What the library reads off the numeral of such a number. -/
theorem atoi_dec {u : Nat} (h : u ≤ 1000000) : Lib.atoiAll (Lib.decDigits u) = .ok (u : Int) := by
  have hl := dec_len h
  rw [Lib.atoiAll_short _ (by omega)]
  have hd := dec_dig u
  have hn := dec_nat u
  cases hc : Lib.decDigits u with
  | nil => exact absurd hc (dec_ne u)
  | cons b r =>
    rw [hc] at hd hn
    have hb := hd b (by simp)
    have h45 : (b == 45) = false := by rw [beq_eq_false_iff_ne]; intro e; rw [e] at hb; exact absurd hb (by decide)
    have h43 : (b == 43) = false := by rw [beq_eq_false_iff_ne]; intro e; rw [e] at hb; exact absurd hb (by decide)
    simp only [Lib.atoi, h45, h43, hn]
    rfl

end Go.Proofs.YtlfadpfodmpneaaDoor
