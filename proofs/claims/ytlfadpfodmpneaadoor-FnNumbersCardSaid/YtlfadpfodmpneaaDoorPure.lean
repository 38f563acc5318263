/- Plain facts: folds over the first k elements of a list; bits of small numbers. Nothing of the program stands here. -/
import Derived.WalkKit
namespace Go.Proofs.YtlfadpfodmpneaaDoor
open Go.RowKit

/-- Element i of a list of numbers. -/
def gI (zs : List Int) (i : Nat) : Int := zs.getD i 0
theorem gI_lt {zs : List Int} {i : Nat} (h : i < zs.length) : zs[i]? = some (gI zs i) := by simp [gI, List.getD, List.getElem?_eq_getElem h]
theorem gI_eq {zs : List Int} {i : Nat} (h : i < zs.length) : zs[i] = gI zs i := by simp [gI, List.getD, h]

section folds
variable {α σ : Type}
theorem take_succ_of (l : List α) (k : Nat) (x : α) (h : l[k]? = some x) : l.take (k + 1) = l.take k ++ [x] := by
  rw [List.take_add_one, h]; rfl
theorem foldM_succ (f : σ → α → Option σ) (s : σ) (l : List α) (k : Nat) (x : α) (h : l[k]? = some x) : (l.take (k + 1)).foldlM f s = ((l.take k).foldlM f s).bind fun t => f t x := by
  rw [take_succ_of l k x h, List.foldlM_append]
  cases (l.take k).foldlM f s with
  | none => rfl
  | some t => simp
theorem foldM_stop (f : σ → α → Option σ) (s : σ) (l : List α) (k : Nat) (h : (l.take k).foldlM f s = none) : l.foldlM f s = none := by
  conv => lhs; rw [← List.take_append_drop k l]
  rw [List.foldlM_append, h]; rfl
theorem foldM_end (f : σ → α → Option σ) (s : σ) (l : List α) (k : Nat) (hk : l.length ≤ k) : (l.take k).foldlM f s = l.foldlM f s := by rw [List.take_of_length_le hk]
theorem fold_succ (f : σ → α → σ) (s : σ) (l : List α) (k : Nat) (x : α) (h : l[k]? = some x) : (l.take (k + 1)).foldl f s = f ((l.take k).foldl f s) x := by
  rw [take_succ_of l k x h, List.foldl_append]; rfl
theorem foldM_hit {f : σ → α → Option σ} {s t : σ} {l : List α} {k : Nat} {x : α} (h : l[k]? = some x) (ht : (l.take k).foldlM f s = some t) : (l.take (k + 1)).foldlM f s = f t x := by
  rw [foldM_succ f s l k x h, ht]; rfl
theorem foldM_miss {f : σ → α → Option σ} {s t : σ} {l : List α} {k : Nat} {x : α} (h : l[k]? = some x) (ht : (l.take k).foldlM f s = some t) (hn : f t x = none) : l.foldlM f s = none :=
  foldM_stop f s l (k + 1) (by rw [foldM_hit h ht, hn])
end folds

/-! Bits of ints that are not negative. -/
theorem wraps_i64 (n : Int) (h₀ : 0 ≤ n) (h₁ : n < 2 ^ 63) : IntKind.i64.wrap n = n := by rw [IntKind.wrap_i64]; omega
theorem and_nat (a b : Nat) (ha : a < 2 ^ 63) (hb : b < 2 ^ 63) : bits .and .i64 (a : Int) (b : Int) = ((a &&& b : Nat) : Int) := (bits_nat .i64 63 (by decide) wraps_i64 a b ha hb).1
theorem or_nat (a b : Nat) (ha : a < 2 ^ 63) (hb : b < 2 ^ 63) : bits .or .i64 (a : Int) (b : Int) = ((a ||| b : Nat) : Int) := (bits_nat .i64 63 (by decide) wraps_i64 a b ha hb).2
theorem and_int (a b : Int) (h0 : 0 ≤ a) (h1 : a < 2 ^ 63) (k0 : 0 ≤ b) (k1 : b < 2 ^ 63) : bits .and .i64 a b = ((a.toNat &&& b.toNat : Nat) : Int) := by
  obtain ⟨m, rfl⟩ := Int.eq_ofNat_of_zero_le h0
  obtain ⟨n, rfl⟩ := Int.eq_ofNat_of_zero_le k0
  exact and_nat m n (by exact_mod_cast h1) (by exact_mod_cast k1)
theorem or_int (a b : Int) (h0 : 0 ≤ a) (h1 : a < 2 ^ 63) (k0 : 0 ≤ b) (k1 : b < 2 ^ 63) : bits .or .i64 a b = ((a.toNat ||| b.toNat : Nat) : Int) := by
  obtain ⟨m, rfl⟩ := Int.eq_ofNat_of_zero_le h0
  obtain ⟨n, rfl⟩ := Int.eq_ofNat_of_zero_le k0
  exact or_nat m n (by exact_mod_cast h1) (by exact_mod_cast k1)
theorem or_lt32 {a b : Nat} (ha : a < 32) (hb : b < 32) : a ||| b < 32 := Nat.or_lt_two_pow (n := 5) ha hb

theorem xor_nat (a b : Nat) (ha : a < 2 ^ 63) (hb : b < 2 ^ 63) : bits .xor .i64 (a : Int) (b : Int) = ((a ^^^ b : Nat) : Int) := by
  have ha' : a % 2 ^ IntKind.i64.bits = a := Nat.mod_eq_of_lt (Nat.lt_of_lt_of_le ha (by decide))
  have hb' : b % 2 ^ IntKind.i64.bits = b := Nat.mod_eq_of_lt (Nat.lt_of_lt_of_le hb (by decide))
  have hx : a ^^^ b < 2 ^ 63 := Nat.xor_lt_two_pow ha hb
  simp only [bits, BitVec.ofInt_natCast, BitVec.toNat_xor, BitVec.toNat_ofNat, ha', hb']
  exact wraps_i64 _ (Int.natCast_nonneg _) (by exact_mod_cast hx)
theorem xor_int (a b : Int) (h0 : 0 ≤ a) (h1 : a < 2 ^ 63) (k0 : 0 ≤ b) (k1 : b < 2 ^ 63) : bits .xor .i64 a b = ((a.toNat ^^^ b.toNat : Nat) : Int) := by
  obtain ⟨m, rfl⟩ := Int.eq_ofNat_of_zero_le h0
  obtain ⟨n, rfl⟩ := Int.eq_ofNat_of_zero_le k0
  exact xor_nat m n (by exact_mod_cast h1) (by exact_mod_cast k1)
/-- Two numbers have the same bits within a set just if what parts them has none there. -/
theorem xor_and (a b c : Nat) : (a ^^^ b) &&& c = 0 ↔ a &&& c = b &&& c := by
  constructor
  · intro h
    apply Nat.eq_of_testBit_eq
    intro i
    have := congrArg (·.testBit i) h
    simp only [Nat.testBit_and, Nat.testBit_xor, Nat.zero_testBit] at this ⊢
    revert this
    generalize a.testBit i = x
    generalize b.testBit i = y
    generalize c.testBit i = z
    cases x <;> cases y <;> cases z <;> simp
  · intro h
    apply Nat.eq_of_testBit_eq
    intro i
    have := congrArg (·.testBit i) h
    simp only [Nat.testBit_and, Nat.testBit_xor, Nat.zero_testBit] at this ⊢
    revert this
    generalize a.testBit i = x
    generalize b.testBit i = y
    generalize c.testBit i = z
    cases x <;> cases y <;> cases z <;> simp

/-- The lowest bit of a number shifted down. -/
theorem bit_int (a : Int) (i : Nat) (h0 : 0 ≤ a) (h1 : a < 2 ^ 63) : bits .and .i64 (a / 2 ^ i) 1 = ((a.toNat / 2 ^ i % 2 : Nat) : Int) := by
  obtain ⟨m, rfl⟩ := Int.eq_ofNat_of_zero_le h0
  have hm : m < 2 ^ 63 := by exact_mod_cast h1
  have e : ((m : Int) / 2 ^ i) = ((m / 2 ^ i : Nat) : Int) := by rw [Int.natCast_ediv]; simp
  have := and_nat (m / 2 ^ i) 1 (Nat.lt_of_le_of_lt (Nat.div_le_self _ _) hm) (by decide)
  rw [e]
  rw [show ((1 : Nat) : Int) = 1 from rfl] at this
  rw [this, Int.toNat_natCast, Nat.and_one_is_mod]

/-! Blocks: a list of sets, none empty, no two with a common switch. -/
def addB (top : Int) (t : Nat) (z : Int) : Option Nat := if 1 ≤ z ∧ z < top ∧ t &&& z.toNat = 0 then some (t ||| z.toNat) else none
def unionB (top : Int) (zs : List Int) : Option Nat := zs.foldlM (addB top) 0
def blocksV (zs : List Int) (m : Int) : Bool := decide (1 ≤ m ∧ m ≤ 5) && decide (unionB 32 zs = some (2 ^ m.toNat - 1))
def blocksI (zs : List Int) (m : Int) : Bool := decide (1 ≤ m ∧ m ≤ 5) && decide (unionB (2 ^ m.toNat) zs = some (2 ^ m.toNat - 1))

theorem fold_mono {P : Nat} {top : Int} (h : (2 : Int) ^ P ≤ top) : ∀ (zs : List Int) (s t : Nat), zs.foldlM (addB (2 ^ P)) s = some t → zs.foldlM (addB top) s = some t
  | [], _, _, e => e
  | z :: zs, s, t, e => by
    simp only [List.foldlM_cons] at e ⊢
    unfold addB at e ⊢
    split at e
    · rename_i hz
      rw [if_pos ⟨hz.1, by omega, hz.2.2⟩]
      exact fold_mono h zs _ _ e
    · cases e
theorem fold_ge : ∀ (zs : List Int) (top : Int) (s t : Nat), zs.foldlM (addB top) s = some t → s ≤ t
  | [], _, _, _, e => by cases e; exact Nat.le_refl _
  | z :: zs, top, s, t, e => by
    simp only [List.foldlM_cons] at e
    unfold addB at e
    split at e
    · exact Nat.le_trans Nat.left_le_or (fold_ge zs top _ t e)
    · cases e
theorem fold_same {P : Nat} {top : Int} (h : (2 : Int) ^ P ≤ top) : ∀ (zs : List Int) (s t : Nat), t < 2 ^ P → zs.foldlM (addB top) s = some t → zs.foldlM (addB (2 ^ P)) s = some t
  | [], _, _, _, e => e
  | z :: zs, s, t, ht, e => by
    simp only [List.foldlM_cons] at e ⊢
    unfold addB at e ⊢
    split at e
    · rename_i hz
      have hg := fold_ge zs top _ t e
      have h2 : z.toNat ≤ s ||| z.toNat := Nat.right_le_or
      rw [if_pos ⟨hz.1, by have : ((2 ^ P : Nat) : Int) = 2 ^ P := by simp
                           omega, hz.2.2⟩]
      exact fold_same h zs _ _ ht e
    · cases e
theorem blocks_same (zs : List Int) (m : Int) : blocksI zs m = blocksV zs m := by
  unfold blocksI blocksV
  by_cases hm : 1 ≤ m ∧ m ≤ 5
  · simp only [hm, and_self, decide_true, Bool.true_and]
    have h : (2 : Int) ^ m.toNat ≤ 32 := by
      have : (2 ^ m.toNat : Nat) ≤ 2 ^ 5 := Nat.pow_le_pow_right (by decide) (by omega)
      have h2 : ((2 ^ m.toNat : Nat) : Int) = 2 ^ m.toNat := by simp
      omega
    have hp : 0 < 2 ^ m.toNat := Nat.two_pow_pos _
    congr 1
    apply propext
    exact ⟨fun e => fold_mono h zs _ _ e, fun e => fold_same h zs _ _ (by omega) e⟩
  · simp [hm]

theorem eq_some (t p : Nat) : (((t : Nat) : Int) == ((p : Nat) : Int)) = decide (some t = some p) := by
  rw [Bool.eq_iff_iff, decide_eq_true_iff, beq_iff_eq]; simp; omega

/-- The number of all states less one, as the walk spells it. -/
theorem wrap_top {m : Int} (h : 1 ≤ m ∧ m ≤ 5) : wrap64 (wrap64 (2 ^ m.toNat) - 1) = ((2 ^ m.toNat - 1 : Nat) : Int) := by
  obtain ⟨n, rfl⟩ := Int.eq_ofNat_of_zero_le (show 0 ≤ m by omega)
  simp only [Int.toNat_natCast]
  have h1 : n = 1 ∨ n = 2 ∨ n = 3 ∨ n = 4 ∨ n = 5 := by omega
  rcases h1 with rfl | rfl | rfl | rfl | rfl <;> (unfold wrap64; omega)
theorem wrap_pow {m : Int} (h : 1 ≤ m ∧ m ≤ 5) : wrap64 (2 ^ m.toNat) = ((2 ^ m.toNat : Nat) : Int) := by
  obtain ⟨n, rfl⟩ := Int.eq_ofNat_of_zero_le (show 0 ≤ m by omega)
  simp only [Int.toNat_natCast]
  have h1 : n = 1 ∨ n = 2 ∨ n = 3 ∨ n = 4 ∨ n = 5 := by omega
  rcases h1 with rfl | rfl | rfl | rfl | rfl <;> (unfold wrap64; omega)
theorem wrap_pow_nat (k : Nat) (h : k ≤ 62) : wrap64 (2 ^ k) = ((2 ^ k : Nat) : Int) := by
  have h1 : (2 ^ k : Nat) ≤ 2 ^ 62 := Nat.pow_le_pow_right (by decide) h
  have h2 : ((2 ^ k : Nat) : Int) = 2 ^ k := by simp
  rw [← h2]
  generalize (2 ^ k : Nat) = p at h1
  unfold wrap64
  omega

theorem or_shl (t k : Nat) (ht : t < 2 ^ 63) (hk : k ≤ 62) : bits .or .i64 (t : Int) (wrap64 (2 ^ k)) = ((t ||| 2 ^ k : Nat) : Int) := by
  rw [wrap_pow_nat k hk, or_nat t (2 ^ k) ht (Nat.lt_of_le_of_lt (Nat.pow_le_pow_right (by decide) hk) (by decide))]

theorem beq_dec (a b : Int) : (a == b) = decide (a = b) := by by_cases h : a = b <;> simp [h]

/-! Terms. -/
/-- The byte of a term. -/
def isT (b : UInt8) : Bool := b == 42 || b == 48 || b == 49
theorem isT_iff (b : UInt8) : isT b = true ↔ (b.toNat : Int) = 42 ∨ (b.toNat : Int) = 48 ∨ (b.toNat : Int) = 49 := by
  unfold isT
  simp only [Bool.or_eq_true, beq_iff_eq, ← UInt8.toNat_inj]
  have e1 : (42 : UInt8).toNat = 42 := rfl
  have e2 : (48 : UInt8).toNat = 48 := rfl
  have e3 : (49 : UInt8).toNat = 49 := rfl
  omega
def termB (l : List UInt8) (m : Int) : Bool := decide (1 ≤ m ∧ m ≤ 5) && decide ((l.length : Int) = m) && l.all isT

/-- Where a byte stands in a text, or -1. -/
def findI : List UInt8 → Int → Int → Int
  | [], _, _ => -1
  | b :: l, c, at_ => if (b.toNat : Int) = c then at_ else findI l c (at_ + 1)
theorem findI_hit : ∀ (l : List UInt8) (c at_ : Int) (k : Nat) (hk : k < l.length), (∀ j (hj : j < k), (((l[j]'(by omega)).toNat : Nat) : Int) ≠ c) → ((l[k].toNat : Nat) : Int) = c → findI l c at_ = at_ + k
  | b :: l, c, at_, 0, _, _, h => by
    have h' : ((b.toNat : Nat) : Int) = c := by simpa using h
    rw [findI, if_pos h']; omega
  | b :: l, c, at_, k + 1, hk, hn, h => by
    have h0 := hn 0 (by omega)
    simp at h0
    rw [findI, if_neg h0, findI_hit l c (at_ + 1) k (by simpa using hk) (fun j hj => by have := hn (j + 1) (by omega); simpa using this) (by simpa using h)]
    omega
theorem findI_miss : ∀ (l : List UInt8) (c at_ : Int), (∀ j (hj : j < l.length), ((l[j].toNat : Nat) : Int) ≠ c) → findI l c at_ = -1
  | [], _, _, _ => rfl
  | b :: l, c, at_, hn => by
    have h0 := hn 0 (by simp)
    simp at h0
    rw [findI, if_neg h0, findI_miss l c (at_ + 1) (fun j hj => by have := hn (j + 1) (by simpa using hj); simpa using this)]
theorem findI_term (b : UInt8) : (findI [42, 48, 49] (b.toNat : Int) 0 < 0) ↔ isT b = false := by
  rw [← Bool.not_eq_true, isT_iff]
  have e1 : (42 : UInt8).toNat = 42 := rfl
  have e2 : (48 : UInt8).toNat = 48 := rfl
  have e3 : (49 : UInt8).toNat = 49 := rfl
  simp only [findI, e1, e2, e3]
  split
  · omega
  · split
    · omega
    · split <;> omega

/-- The set of switches that a term holds. -/
def heldN (l : List UInt8) : Nat := (List.range l.length).foldl (fun t i => if l.getD i 42 = 42 then t else t ||| 2 ^ i) 0
def heldTo (l : List UInt8) (k : Nat) : Nat := (List.range k).foldl (fun t i => if l.getD i 42 = 42 then t else t ||| 2 ^ i) 0
theorem heldTo_succ (l : List UInt8) (k : Nat) : heldTo l (k + 1) = if l.getD k 42 = 42 then heldTo l k else heldTo l k ||| 2 ^ k := by
  simp [heldTo, List.range_succ]
theorem heldTo_lt (l : List UInt8) : ∀ k, heldTo l k < 2 ^ k
  | 0 => by simp [heldTo]
  | k + 1 => by
    have ih := heldTo_lt l k
    have h2 : 2 ^ k < 2 ^ (k + 1) := Nat.pow_lt_pow_right (by decide) (by omega)
    rw [heldTo_succ]
    split
    · omega
    · exact Nat.or_lt_two_pow (by omega) h2
theorem heldTo_lt63 (l : List UInt8) (k : Nat) (h : k ≤ 63) : heldTo l k < 2 ^ 63 := Nat.lt_of_lt_of_le (heldTo_lt l k) (Nat.pow_le_pow_right (by decide) h)
end Go.Proofs.YtlfadpfodmpneaaDoor
