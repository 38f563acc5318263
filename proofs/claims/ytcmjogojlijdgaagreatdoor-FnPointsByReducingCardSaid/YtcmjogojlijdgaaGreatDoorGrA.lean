/- Walks and plain facts: several of my texts in one. -/
import Derived.WalkKit
import Derived.Test.YtcmjogojlijdgaaGreatDoorChecked
import Derived.WalkSpells
import Derived.WalkLawsBesides
import Derived.Deep.QuietTactic
import Derived.BigQuiet
import Derived.Lib.Hide
import Derived.ProofKit
import Derived.ChangeOld
import Derived.Deep.RegionLaw
import Derived.Lib.AppendZeros
import Derived.Laws.Tables
import Derived.Laws.CopyOwn
import Derived.Deep.MidRow
import Derived.Great.Walk
import Derived.Great.Ranges
import Derived.Laws.BytesArg
import Derived.Lib.Join
import Derived.Lib.Split
import Derived.Lib.SplitLaws
import Derived.Lib.CountLaws
import Derived.Lib.IndexBytes
/- Plain facts: folds over the first k elements of a list; bits of small numbers. Nothing of the program stands here. -/
namespace Go.Proofs.YtcmjogojlijdgaaGreatDoor
open Go.RowKit

/-- Element i of a list of numbers. -/
def gI (zs : List Int) (i : Nat) : Int := zs.getD i 0
theorem gI_lt {zs : List Int} {i : Nat} (h : i < zs.length) : zs[i]? = some (gI zs i) := by simp [gI, List.getD, List.getElem?_eq_getElem h]
theorem gI_eq {zs : List Int} {i : Nat} (h : i < zs.length) : zs[i] = gI zs i := by simp [gI, List.getD, h]

section folds
variable {α σ : Type}
theorem take_succ_of (l : List α) (k : Nat) (x : α) (h : l[k]? = some x) : l.take (k + 1) = l.take k ++ [x] := by
  rw [List.take_add_one, h]; rfl
theorem foldM_succ (f : σ → α → Option σ) (s : σ) (l : List α) (k : Nat) (x : α) (h : l[k]? = some x) : (l.take (k + 1)).foldlM f s = ((l.take k).foldlM f s).bind fun t => f t x := by
  rw [take_succ_of l k x h, List.foldlM_append]
  cases (l.take k).foldlM f s with
  | none => rfl
  | some t => simp
theorem foldM_stop (f : σ → α → Option σ) (s : σ) (l : List α) (k : Nat) (h : (l.take k).foldlM f s = none) : l.foldlM f s = none := by
  conv => lhs; rw [← List.take_append_drop k l]
  rw [List.foldlM_append, h]; rfl
theorem foldM_end (f : σ → α → Option σ) (s : σ) (l : List α) (k : Nat) (hk : l.length ≤ k) : (l.take k).foldlM f s = l.foldlM f s := by rw [List.take_of_length_le hk]
theorem fold_succ (f : σ → α → σ) (s : σ) (l : List α) (k : Nat) (x : α) (h : l[k]? = some x) : (l.take (k + 1)).foldl f s = f ((l.take k).foldl f s) x := by
  rw [take_succ_of l k x h, List.foldl_append]; rfl
theorem foldM_hit {f : σ → α → Option σ} {s t : σ} {l : List α} {k : Nat} {x : α} (h : l[k]? = some x) (ht : (l.take k).foldlM f s = some t) : (l.take (k + 1)).foldlM f s = f t x := by
  rw [foldM_succ f s l k x h, ht]; rfl
theorem foldM_miss {f : σ → α → Option σ} {s t : σ} {l : List α} {k : Nat} {x : α} (h : l[k]? = some x) (ht : (l.take k).foldlM f s = some t) (hn : f t x = none) : l.foldlM f s = none :=
  foldM_stop f s l (k + 1) (by rw [foldM_hit h ht, hn])
end folds

/-! Bits of ints that are not negative. -/
theorem wraps_i64 (n : Int) (h₀ : 0 ≤ n) (h₁ : n < 2 ^ 63) : IntKind.i64.wrap n = n := by rw [IntKind.wrap_i64]; omega
theorem and_nat (a b : Nat) (ha : a < 2 ^ 63) (hb : b < 2 ^ 63) : bits .and .i64 (a : Int) (b : Int) = ((a &&& b : Nat) : Int) := (bits_nat .i64 63 (by decide) wraps_i64 a b ha hb).1
theorem or_nat (a b : Nat) (ha : a < 2 ^ 63) (hb : b < 2 ^ 63) : bits .or .i64 (a : Int) (b : Int) = ((a ||| b : Nat) : Int) := (bits_nat .i64 63 (by decide) wraps_i64 a b ha hb).2
theorem and_int (a b : Int) (h0 : 0 ≤ a) (h1 : a < 2 ^ 63) (k0 : 0 ≤ b) (k1 : b < 2 ^ 63) : bits .and .i64 a b = ((a.toNat &&& b.toNat : Nat) : Int) := by
  obtain ⟨m, rfl⟩ := Int.eq_ofNat_of_zero_le h0
  obtain ⟨n, rfl⟩ := Int.eq_ofNat_of_zero_le k0
  exact and_nat m n (by exact_mod_cast h1) (by exact_mod_cast k1)
theorem or_int (a b : Int) (h0 : 0 ≤ a) (h1 : a < 2 ^ 63) (k0 : 0 ≤ b) (k1 : b < 2 ^ 63) : bits .or .i64 a b = ((a.toNat ||| b.toNat : Nat) : Int) := by
  obtain ⟨m, rfl⟩ := Int.eq_ofNat_of_zero_le h0
  obtain ⟨n, rfl⟩ := Int.eq_ofNat_of_zero_le k0
  exact or_nat m n (by exact_mod_cast h1) (by exact_mod_cast k1)
theorem or_lt32 {a b : Nat} (ha : a < 32) (hb : b < 32) : a ||| b < 32 := Nat.or_lt_two_pow (n := 5) ha hb

theorem xor_nat (a b : Nat) (ha : a < 2 ^ 63) (hb : b < 2 ^ 63) : bits .xor .i64 (a : Int) (b : Int) = ((a ^^^ b : Nat) : Int) := by
  have ha' : a % 2 ^ IntKind.i64.bits = a := Nat.mod_eq_of_lt (Nat.lt_of_lt_of_le ha (by decide))
  have hb' : b % 2 ^ IntKind.i64.bits = b := Nat.mod_eq_of_lt (Nat.lt_of_lt_of_le hb (by decide))
  have hx : a ^^^ b < 2 ^ 63 := Nat.xor_lt_two_pow ha hb
  simp only [bits, BitVec.ofInt_natCast, BitVec.toNat_xor, BitVec.toNat_ofNat, ha', hb']
  exact wraps_i64 _ (Int.natCast_nonneg _) (by exact_mod_cast hx)
theorem xor_int (a b : Int) (h0 : 0 ≤ a) (h1 : a < 2 ^ 63) (k0 : 0 ≤ b) (k1 : b < 2 ^ 63) : bits .xor .i64 a b = ((a.toNat ^^^ b.toNat : Nat) : Int) := by
  obtain ⟨m, rfl⟩ := Int.eq_ofNat_of_zero_le h0
  obtain ⟨n, rfl⟩ := Int.eq_ofNat_of_zero_le k0
  exact xor_nat m n (by exact_mod_cast h1) (by exact_mod_cast k1)
/-- Two numbers have the same bits within a set just if what parts them has none there. -/
theorem xor_and (a b c : Nat) : (a ^^^ b) &&& c = 0 ↔ a &&& c = b &&& c := by
  constructor
  · intro h
    apply Nat.eq_of_testBit_eq
    intro i
    have := congrArg (·.testBit i) h
    simp only [Nat.testBit_and, Nat.testBit_xor, Nat.zero_testBit] at this ⊢
    revert this
    generalize a.testBit i = x
    generalize b.testBit i = y
    generalize c.testBit i = z
    cases x <;> cases y <;> cases z <;> simp
  · intro h
    apply Nat.eq_of_testBit_eq
    intro i
    have := congrArg (·.testBit i) h
    simp only [Nat.testBit_and, Nat.testBit_xor, Nat.zero_testBit] at this ⊢
    revert this
    generalize a.testBit i = x
    generalize b.testBit i = y
    generalize c.testBit i = z
    cases x <;> cases y <;> cases z <;> simp

/-- The lowest bit of a number shifted down. -/
theorem bit_int (a : Int) (i : Nat) (h0 : 0 ≤ a) (h1 : a < 2 ^ 63) : bits .and .i64 (a / 2 ^ i) 1 = ((a.toNat / 2 ^ i % 2 : Nat) : Int) := by
  obtain ⟨m, rfl⟩ := Int.eq_ofNat_of_zero_le h0
  have hm : m < 2 ^ 63 := by exact_mod_cast h1
  have e : ((m : Int) / 2 ^ i) = ((m / 2 ^ i : Nat) : Int) := by rw [Int.natCast_ediv]; simp
  have := and_nat (m / 2 ^ i) 1 (Nat.lt_of_le_of_lt (Nat.div_le_self _ _) hm) (by decide)
  rw [e]
  rw [show ((1 : Nat) : Int) = 1 from rfl] at this
  rw [this, Int.toNat_natCast, Nat.and_one_is_mod]

/-! Blocks: a list of sets, none empty, no two with a common switch. -/
def addB (top : Int) (t : Nat) (z : Int) : Option Nat := if 1 ≤ z ∧ z < top ∧ t &&& z.toNat = 0 then some (t ||| z.toNat) else none
def unionB (top : Int) (zs : List Int) : Option Nat := zs.foldlM (addB top) 0
def blocksV (zs : List Int) (m : Int) : Bool := decide (1 ≤ m ∧ m ≤ 5) && decide (unionB 32 zs = some (2 ^ m.toNat - 1))
def blocksI (zs : List Int) (m : Int) : Bool := decide (1 ≤ m ∧ m ≤ 5) && decide (unionB (2 ^ m.toNat) zs = some (2 ^ m.toNat - 1))

theorem fold_mono {P : Nat} {top : Int} (h : (2 : Int) ^ P ≤ top) : ∀ (zs : List Int) (s t : Nat), zs.foldlM (addB (2 ^ P)) s = some t → zs.foldlM (addB top) s = some t
  | [], _, _, e => e
  | z :: zs, s, t, e => by
    simp only [List.foldlM_cons] at e ⊢
    unfold addB at e ⊢
    split at e
    · rename_i hz
      rw [if_pos ⟨hz.1, by omega, hz.2.2⟩]
      exact fold_mono h zs _ _ e
    · cases e
theorem fold_ge : ∀ (zs : List Int) (top : Int) (s t : Nat), zs.foldlM (addB top) s = some t → s ≤ t
  | [], _, _, _, e => by cases e; exact Nat.le_refl _
  | z :: zs, top, s, t, e => by
    simp only [List.foldlM_cons] at e
    unfold addB at e
    split at e
    · exact Nat.le_trans Nat.left_le_or (fold_ge zs top _ t e)
    · cases e
theorem fold_same {P : Nat} {top : Int} (h : (2 : Int) ^ P ≤ top) : ∀ (zs : List Int) (s t : Nat), t < 2 ^ P → zs.foldlM (addB top) s = some t → zs.foldlM (addB (2 ^ P)) s = some t
  | [], _, _, _, e => e
  | z :: zs, s, t, ht, e => by
    simp only [List.foldlM_cons] at e ⊢
    unfold addB at e ⊢
    split at e
    · rename_i hz
      have hg := fold_ge zs top _ t e
      have h2 : z.toNat ≤ s ||| z.toNat := Nat.right_le_or
      rw [if_pos ⟨hz.1, by have : ((2 ^ P : Nat) : Int) = 2 ^ P := by simp
                           omega, hz.2.2⟩]
      exact fold_same h zs _ _ ht e
    · cases e
theorem blocks_same (zs : List Int) (m : Int) : blocksI zs m = blocksV zs m := by
  unfold blocksI blocksV
  by_cases hm : 1 ≤ m ∧ m ≤ 5
  · simp only [hm, and_self, decide_true, Bool.true_and]
    have h : (2 : Int) ^ m.toNat ≤ 32 := by
      have : (2 ^ m.toNat : Nat) ≤ 2 ^ 5 := Nat.pow_le_pow_right (by decide) (by omega)
      have h2 : ((2 ^ m.toNat : Nat) : Int) = 2 ^ m.toNat := by simp
      omega
    have hp : 0 < 2 ^ m.toNat := Nat.two_pow_pos _
    congr 1
    apply propext
    exact ⟨fun e => fold_mono h zs _ _ e, fun e => fold_same h zs _ _ (by omega) e⟩
  · simp [hm]

theorem eq_some (t p : Nat) : (((t : Nat) : Int) == ((p : Nat) : Int)) = decide (some t = some p) := by
  rw [Bool.eq_iff_iff, decide_eq_true_iff, beq_iff_eq]; simp; omega

/-- The number of all states less one, as the walk spells it. -/
theorem wrap_top {m : Int} (h : 1 ≤ m ∧ m ≤ 5) : wrap64 (wrap64 (2 ^ m.toNat) - 1) = ((2 ^ m.toNat - 1 : Nat) : Int) := by
  obtain ⟨n, rfl⟩ := Int.eq_ofNat_of_zero_le (show 0 ≤ m by omega)
  simp only [Int.toNat_natCast]
  have h1 : n = 1 ∨ n = 2 ∨ n = 3 ∨ n = 4 ∨ n = 5 := by omega
  rcases h1 with rfl | rfl | rfl | rfl | rfl <;> (unfold wrap64; omega)
theorem wrap_pow {m : Int} (h : 1 ≤ m ∧ m ≤ 5) : wrap64 (2 ^ m.toNat) = ((2 ^ m.toNat : Nat) : Int) := by
  obtain ⟨n, rfl⟩ := Int.eq_ofNat_of_zero_le (show 0 ≤ m by omega)
  simp only [Int.toNat_natCast]
  have h1 : n = 1 ∨ n = 2 ∨ n = 3 ∨ n = 4 ∨ n = 5 := by omega
  rcases h1 with rfl | rfl | rfl | rfl | rfl <;> (unfold wrap64; omega)
theorem wrap_pow_nat (k : Nat) (h : k ≤ 62) : wrap64 (2 ^ k) = ((2 ^ k : Nat) : Int) := by
  have h1 : (2 ^ k : Nat) ≤ 2 ^ 62 := Nat.pow_le_pow_right (by decide) h
  have h2 : ((2 ^ k : Nat) : Int) = 2 ^ k := by simp
  rw [← h2]
  generalize (2 ^ k : Nat) = p at h1
  unfold wrap64
  omega

theorem or_shl (t k : Nat) (ht : t < 2 ^ 63) (hk : k ≤ 62) : bits .or .i64 (t : Int) (wrap64 (2 ^ k)) = ((t ||| 2 ^ k : Nat) : Int) := by
  rw [wrap_pow_nat k hk, or_nat t (2 ^ k) ht (Nat.lt_of_le_of_lt (Nat.pow_le_pow_right (by decide) hk) (by decide))]

theorem beq_dec (a b : Int) : (a == b) = decide (a = b) := by by_cases h : a = b <;> simp [h]

/-! Terms. -/
/-- The byte of a term. -/
def isT (b : UInt8) : Bool := b == 42 || b == 48 || b == 49
theorem isT_iff (b : UInt8) : isT b = true ↔ (b.toNat : Int) = 42 ∨ (b.toNat : Int) = 48 ∨ (b.toNat : Int) = 49 := by
  unfold isT
  simp only [Bool.or_eq_true, beq_iff_eq, ← UInt8.toNat_inj]
  have e1 : (42 : UInt8).toNat = 42 := rfl
  have e2 : (48 : UInt8).toNat = 48 := rfl
  have e3 : (49 : UInt8).toNat = 49 := rfl
  omega
def termB (l : List UInt8) (m : Int) : Bool := decide (1 ≤ m ∧ m ≤ 5) && decide ((l.length : Int) = m) && l.all isT

/-- Where a byte stands in a text, or -1. -/
def findI : List UInt8 → Int → Int → Int
  | [], _, _ => -1
  | b :: l, c, at_ => if (b.toNat : Int) = c then at_ else findI l c (at_ + 1)
theorem findI_hit : ∀ (l : List UInt8) (c at_ : Int) (k : Nat) (hk : k < l.length), (∀ j (hj : j < k), (((l[j]'(by omega)).toNat : Nat) : Int) ≠ c) → ((l[k].toNat : Nat) : Int) = c → findI l c at_ = at_ + k
  | b :: l, c, at_, 0, _, _, h => by
    have h' : ((b.toNat : Nat) : Int) = c := by simpa using h
    rw [findI, if_pos h']; omega
  | b :: l, c, at_, k + 1, hk, hn, h => by
    have h0 := hn 0 (by omega)
    simp at h0
    rw [findI, if_neg h0, findI_hit l c (at_ + 1) k (by simpa using hk) (fun j hj => by have := hn (j + 1) (by omega); simpa using this) (by simpa using h)]
    omega
theorem findI_miss : ∀ (l : List UInt8) (c at_ : Int), (∀ j (hj : j < l.length), ((l[j].toNat : Nat) : Int) ≠ c) → findI l c at_ = -1
  | [], _, _, _ => rfl
  | b :: l, c, at_, hn => by
    have h0 := hn 0 (by simp)
    simp at h0
    rw [findI, if_neg h0, findI_miss l c (at_ + 1) (fun j hj => by have := hn (j + 1) (by simpa using hj); simpa using this)]
theorem findI_term (b : UInt8) : (findI [42, 48, 49] (b.toNat : Int) 0 < 0) ↔ isT b = false := by
  rw [← Bool.not_eq_true, isT_iff]
  have e1 : (42 : UInt8).toNat = 42 := rfl
  have e2 : (48 : UInt8).toNat = 48 := rfl
  have e3 : (49 : UInt8).toNat = 49 := rfl
  simp only [findI, e1, e2, e3]
  split
  · omega
  · split
    · omega
    · split <;> omega

/-- The set of switches that a term holds. -/
def heldN (l : List UInt8) : Nat := (List.range l.length).foldl (fun t i => if l.getD i 42 = 42 then t else t ||| 2 ^ i) 0
def heldTo (l : List UInt8) (k : Nat) : Nat := (List.range k).foldl (fun t i => if l.getD i 42 = 42 then t else t ||| 2 ^ i) 0
theorem heldTo_succ (l : List UInt8) (k : Nat) : heldTo l (k + 1) = if l.getD k 42 = 42 then heldTo l k else heldTo l k ||| 2 ^ k := by
  simp [heldTo, List.range_succ]
theorem heldTo_lt (l : List UInt8) : ∀ k, heldTo l k < 2 ^ k
  | 0 => by simp [heldTo]
  | k + 1 => by
    have ih := heldTo_lt l k
    have h2 : 2 ^ k < 2 ^ (k + 1) := Nat.pow_lt_pow_right (by decide) (by omega)
    rw [heldTo_succ]
    split
    · omega
    · exact Nat.or_lt_two_pow (by omega) h2
theorem heldTo_lt63 (l : List UInt8) (k : Nat) (h : k ≤ 63) : heldTo l k < 2 ^ 63 := Nat.lt_of_lt_of_le (heldTo_lt l k) (Nat.pow_le_pow_right (by decide) h)
end Go.Proofs.YtcmjogojlijdgaaGreatDoor
/- Plain facts: bits of small states. -/
namespace Go.Proofs.YtcmjogojlijdgaaGreatDoor
open Go.RowKit

theorem andNot_fin : ∀ a b : Fin 32, bits .andNot .i64 (a.val : Int) (b.val : Int) = ((a.val &&& (31 - b.val) : Nat) : Int) := by decide +kernel
/-- 's &^ b' of small numbers. -/
theorem andNot_32 (a b : Nat) (ha : a < 32) (hb : b < 32) : bits .andNot .i64 (a : Int) (b : Int) = ((a &&& (31 - b) : Nat) : Int) := andNot_fin ⟨a, ha⟩ ⟨b, hb⟩
theorem not_bit : ∀ (b : Fin 32) (i : Fin 5), (31 - b.val).testBit i.val = !b.val.testBit i.val := by decide +kernel
theorem andNot_bit (a b i : Nat) (hb : b < 32) (hi : i < 5) : (a &&& (31 - b)).testBit i = (a.testBit i && !b.testBit i) := by
  rw [Nat.testBit_and, show (31 - b).testBit i = !b.testBit i from not_bit ⟨b, hb⟩ ⟨i, hi⟩]
theorem and_lt32 {a b : Nat} (ha : a < 32) : a &&& b < 32 := Nat.lt_of_le_of_lt Nat.and_le_left ha
/-- Two numbers below 32 that have the same five bits. -/
theorem eq_32 {a b : Nat} (ha : a < 32) (hb : b < 32) (h : ∀ i, i < 5 → a.testBit i = b.testBit i) : a = b := by
  apply Nat.eq_of_testBit_eq
  intro i
  by_cases hi : i < 5
  · exact h i hi
  · have h5 : (2 : Nat) ^ 5 ≤ 2 ^ i := Nat.pow_le_pow_right (by decide) (by omega)
    rw [Nat.testBit_lt_two_pow (show a < 2 ^ i by omega), Nat.testBit_lt_two_pow (show b < 2 ^ i by omega)]
/-- The digit as a bit. -/
theorem bit_test (s i : Nat) : s / 2 ^ i % 2 = if s.testBit i = true then 1 else 0 := by
  have := Nat.testBit_eq_decide_div_mod_eq (x := s) (i := i)
  rw [this]
  have h2 : s / 2 ^ i % 2 < 2 := Nat.mod_lt _ (by decide)
  by_cases h : s / 2 ^ i % 2 = 1
  · simp [h]
  · simp [h]; omega

/-- A state in which a switch has a value. -/
def setN (s i v : Nat) : Nat := (s &&& (31 - 2 ^ i)) ||| (v * 2 ^ i)
theorem set_fin : ∀ (s : Fin 32) (i : Fin 5) (v : Fin 2), setN s.val i.val v.val < 32 ∧ ∀ j : Fin 5, (setN s.val i.val v.val).testBit j.val = if j = i then decide (v.val = 1) else s.val.testBit j.val := by decide +kernel
theorem setN_lt {s i v : Nat} (hs : s < 32) (hi : i < 5) (hv : v < 2) : setN s i v < 32 := (set_fin ⟨s, hs⟩ ⟨i, hi⟩ ⟨v, hv⟩).1
theorem setN_bit {s i v j : Nat} (hs : s < 32) (hi : i < 5) (hv : v < 2) (hj : j < 5) : (setN s i v).testBit j = if j = i then decide (v = 1) else s.testBit j := by
  have := (set_fin ⟨s, hs⟩ ⟨i, hi⟩ ⟨v, hv⟩).2 ⟨j, hj⟩
  simpa [Fin.ext_iff] using this

end Go.Proofs.YtcmjogojlijdgaaGreatDoor
/- Plain facts: how many switches a set has; the least set of several. -/
namespace Go.Proofs.YtcmjogojlijdgaaGreatDoor
open Go.RowKit

/-- The digit of a number. -/
def bN (s i : Nat) : Nat := s / 2 ^ i % 2
/-- How many switches a set has. -/
def popN (s : Nat) : Nat := bN s 0 + bN s 1 + bN s 2 + bN s 3 + bN s 4
def popTo (s k : Nat) : Nat := (List.range k).foldl (fun n i => n + bN s i) 0
theorem popTo_succ (s k : Nat) : popTo s (k + 1) = popTo s k + bN s k := by simp [popTo, List.range_succ]
theorem popTo_five (s : Nat) : popTo s 5 = popN s := by simp [popTo, popN, List.range_succ]
theorem bN_lt (s i : Nat) : bN s i < 2 := Nat.mod_lt _ (by decide)
theorem popTo_le (s : Nat) : ∀ k, popTo s k ≤ k
  | 0 => Nat.le_refl _
  | k + 1 => by rw [popTo_succ]; have := popTo_le s k; have := bN_lt s k; omega
theorem popN_le (s : Nat) : popN s ≤ 5 := by rw [← popTo_five]; exact popTo_le s 5

/-- b is the least of the sets from lo to hi (not with it) for which E says yes, by their number of switches first; or there is none, and b is -1. -/
def Best (E : Nat → Prop) (lo hi : Nat) (b : Int) : Prop :=
  (b = -1 ∧ ∀ t, lo ≤ t → t < hi → ¬ E t) ∨
  ∃ s : Nat, b = s ∧ lo ≤ s ∧ s < hi ∧ E s ∧ ∀ t, lo ≤ t → t < hi → E t → popN s < popN t ∨ (popN s = popN t ∧ s ≤ t)

theorem Best.unique {E : Nat → Prop} {lo hi : Nat} {b b' : Int} (h : Best E lo hi b) (h' : Best E lo hi b') : b = b' := by
  rcases h with ⟨rfl, hn⟩ | ⟨s, rfl, h1, h2, h3, h4⟩ <;> rcases h' with ⟨rfl, hn'⟩ | ⟨s', rfl, k1, k2, k3, k4⟩
  · rfl
  · exact absurd k3 (hn s' k1 k2)
  · exact absurd h3 (hn' s h1 h2)
  · have a := h4 s' k1 k2 k3
    have b := k4 s h1 h2 h3
    omega
theorem Best.start (E : Nat → Prop) (lo : Nat) : Best E lo lo (-1) := .inl ⟨rfl, fun t h1 h2 => by omega⟩
/-- One set more at the end. -/
theorem Best.skip {E : Nat → Prop} {lo hi : Nat} {b : Int} (h : Best E lo hi b) (hn : ¬ E hi ∨ ∃ s : Nat, b = s ∧ popN s ≤ popN hi) : Best E lo (hi + 1) b := by
  rcases h with ⟨rfl, h0⟩ | ⟨s, rfl, h1, h2, h3, h4⟩
  · rcases hn with hn | ⟨s, hs, _⟩
    · exact .inl ⟨rfl, fun t a b => by
        by_cases e : t = hi
        · rw [e]; exact hn
        · exact h0 t a (by omega)⟩
    · omega
  · refine .inr ⟨s, rfl, h1, by omega, h3, fun t a b ht => ?_⟩
    by_cases e : t = hi
    · subst e
      rcases hn with hn | ⟨s', hs, hp⟩
      · exact absurd ht hn
      · have : s = s' := by omega
        subst this
        omega
    · exact h4 t a (by omega) ht
theorem Best.take {E : Nat → Prop} {lo hi : Nat} {b : Int} (h : Best E lo hi b) (hlo : lo ≤ hi) (hE : E hi) (hp : ∀ s : Nat, b = s → popN hi < popN s) : Best E lo (hi + 1) hi := by
  refine .inr ⟨hi, rfl, hlo, by omega, hE, fun t a c ht => ?_⟩
  by_cases e : t = hi
  · rw [e]; exact .inr ⟨rfl, Nat.le_refl _⟩
  · rcases h with ⟨rfl, h0⟩ | ⟨s, rfl, h1, h2, h3, h4⟩
    · exact absurd ht (h0 t a (by omega))
    · have := h4 t a (by omega) ht
      have := hp s rfl
      omega
/-- One set more at the beginning. -/
theorem Best.skipDown {E : Nat → Prop} {lo hi : Nat} {b : Int} (h : Best E (lo + 1) hi b) (hn : ¬ E lo ∨ ∃ s : Nat, b = s ∧ popN s < popN lo) : Best E lo hi b := by
  rcases h with ⟨rfl, h0⟩ | ⟨s, rfl, h1, h2, h3, h4⟩
  · rcases hn with hn | ⟨s, hs, _⟩
    · exact .inl ⟨rfl, fun t a b => by
        by_cases e : t = lo
        · rw [e]; exact hn
        · exact h0 t (by omega) b⟩
    · omega
  · refine .inr ⟨s, rfl, by omega, h2, h3, fun t a b ht => ?_⟩
    by_cases e : t = lo
    · subst e
      rcases hn with hn | ⟨s', hs, hp⟩
      · exact absurd ht hn
      · have : s = s' := by omega
        subst this
        omega
    · exact h4 t (by omega) b ht
theorem Best.takeDown {E : Nat → Prop} {lo hi : Nat} {b : Int} (h : Best E (lo + 1) hi b) (hlo : lo < hi) (hE : E lo) (hp : ∀ s : Nat, b = s → popN lo ≤ popN s) : Best E lo hi lo := by
  refine .inr ⟨lo, rfl, Nat.le_refl _, hlo, hE, fun t a c ht => ?_⟩
  by_cases e : t = lo
  · rw [e]; exact .inr ⟨rfl, Nat.le_refl _⟩
  · rcases h with ⟨rfl, h0⟩ | ⟨s, rfl, h1, h2, h3, h4⟩
    · exact absurd ht (h0 t (by omega) c)
    · have := h4 t (by omega) c ht
      have := hp s rfl
      omega

noncomputable def least (E : Nat → Prop) (N : Nat) : Int := @Classical.epsilon Int ⟨0⟩ fun b => Best E 0 N b
theorem Best.eq_least {E : Nat → Prop} {N : Nat} {b : Int} (h : Best E 0 N b) : b = least E N := h.unique (@Classical.epsilon_spec Int (fun b => Best E 0 N b) ⟨b, h⟩)
theorem Best.range {E : Nat → Prop} {lo hi : Nat} {b : Int} (h : Best E lo hi b) : -1 ≤ b ∧ b < hi ∨ b = -1 := by
  rcases h with ⟨rfl, _⟩ | ⟨s, rfl, _, h2, _⟩ <;> omega

/-- How many numbers below k are so. -/
def cnt (p : Nat → Bool) (k : Nat) : Nat := ((List.range k).filter p).length
theorem cnt_succ (p : Nat → Bool) (k : Nat) : cnt p (k + 1) = cnt p k + if p k = true then 1 else 0 := by
  unfold cnt
  rw [List.range_succ, List.filter_append, List.length_append]
  by_cases h : p k = true <;> simp [h]
theorem cnt_le {p q : Nat → Bool} : ∀ k, (∀ i, i < k → p i = true → q i = true) → cnt p k ≤ cnt q k
  | 0, _ => Nat.le_refl _
  | k + 1, h => by
    have := cnt_le k (fun i hi => h i (by omega))
    rw [cnt_succ, cnt_succ]
    by_cases hp : p k = true
    · rw [if_pos hp, if_pos (h k (by omega) hp)]; omega
    · rw [if_neg hp]; omega
theorem cnt_lt {p q : Nat → Bool} : ∀ k, (∀ i, i < k → p i = true → q i = true) → (∃ i, i < k ∧ q i = true ∧ p i = false) → cnt p k < cnt q k
  | 0, _, ⟨i, hi, _⟩ => absurd hi (Nat.not_lt_zero _)
  | k + 1, h, ⟨i, hi, h1, h2⟩ => by
    rw [cnt_succ, cnt_succ]
    by_cases e : i = k
    · subst e
      have := cnt_le i (fun j hj => h j (by omega))
      rw [if_neg (by rw [h2]; decide), if_pos h1]; omega
    · have := cnt_lt k (fun j hj => h j (by omega)) ⟨i, by omega, h1, h2⟩
      by_cases hp : p k = true
      · rw [if_pos hp, if_pos (h k (by omega) hp)]; omega
      · rw [if_neg hp]; omega
theorem cnt_bound (p : Nat → Bool) (k : Nat) : cnt p k ≤ k := Nat.le_trans (List.length_filter_le _ _) (by simp)

end Go.Proofs.YtcmjogojlijdgaaGreatDoor
/- Words shared by all walks of this seat: what a slice value reads as, what lies in new memory. -/
namespace Go.Proofs.YtcmjogojlijdgaaGreatDoor
open Go.RowKit

theorem i3 : (Tryz.prog.info? 3).map (fun i => (i.zero, i.size, i.bytes)) = some (some (.int .i64 0), 1, 8) := by kernel_rfl

/-- A slice value with the address ao, the length n and the capacity c reads, cell by cell, as f 0, f 1, .. -/
structure Row (w : World) (ao : Option Addr) (n c : Nat) (f : Nat → Value) : Prop where
  le : n ≤ c
  cap : c ≤ maxLen
  nil : ao = none → c = 0
  some : 0 < n → ∃ b o, ao = some ⟨b, o, none⟩ ∧ b < w.heap.size
  cell : ∀ b o, ao = Option.some ⟨b, o, none⟩ → ∀ i, i < n → w.cell? ⟨b, o + i, none⟩ = Option.some (f i)

/-- Of one-cell integers. -/
def RowI (w : World) (ao : Option Addr) (n c : Nat) (zs : List Int) : Prop := zs.length = n ∧ Row w ao n c fun i => .int .i64 (gI zs i)

theorem Row.below {B : Nat} {w w' : World} {ao : Option Addr} {n c : Nat} {f : Nat → Value} (h : Row w ao n c f) (hb : Below B w w') (hB : w.heap.size ≤ B) : Row w' ao n c f :=
  ⟨h.le, h.cap, h.nil, fun hn => let ⟨b, o, e, hbo⟩ := h.some hn; ⟨b, o, e, Nat.lt_of_lt_of_le hbo hb.size⟩, fun b o e i hi => by
    obtain ⟨b', o', e', hbo⟩ := h.some (by omega)
    rw [e] at e'
    cases e'
    exact (hb.cell (p := ⟨b, o + i, none⟩) (by show b < B; omega)).trans (h.cell b o e i hi)⟩

theorem RowI.below {B : Nat} {w w' : World} {ao : Option Addr} {n c : Nat} {zs : List Int} (h : RowI w ao n c zs) (hb : Below B w w') (hB : w.heap.size ≤ B) : RowI w' ao n c zs := ⟨h.1, h.2.below hb hB⟩

/-- Block g holds just these cells, and none of them is frozen. -/
def Blk (w : World) (g : Nat) (t : TypeId) (cs : List Value) : Prop := w.heap[g]? = some (.cells cs.toArray t (0, 0))

theorem Blk.lt {w : World} {g : Nat} {t : TypeId} {cs : List Value} (h : Blk w g t cs) : g < w.heap.size := lt_of_block h
theorem Blk.cell {w : World} {g : Nat} {t : TypeId} {cs : List Value} (h : Blk w g t cs) {i : Nat} {v : Value} (hv : cs[i]? = some v) : w.cell? ⟨g, i, none⟩ = some v := by
  unfold Blk at h; simp [World.cell?, h, hv]
theorem Blk.free {w : World} {g : Nat} {t : TypeId} {cs : List Value} (h : Blk w g t cs) (i : Nat) : w.frozen? ⟨g, i, none⟩ = false := by
  unfold Blk at h; simp [World.frozen?, h]
theorem Blk.set {w : World} {g : Nat} {t : TypeId} {cs : List Value} (h : Blk w g t cs) (i : Nat) (v : Value) : Blk (w.setCell ⟨g, i, none⟩ v) g t (cs.set i v) := by
  have hlt := h.lt
  unfold Blk at h ⊢
  have h' : w.heap[g] = .cells cs.toArray t (0, 0) := by simpa [Array.getElem?_eq_getElem hlt] using h
  show (w.heap.modify g _)[g]? = _
  rw [Array.getElem?_eq_getElem (by simpa using hlt), Array.getElem_modify_self, h']
  simp
theorem Blk.other {w : World} {g : Nat} {t : TypeId} {cs : List Value} (h : Blk w g t cs) {a : Addr} (ha : g ≠ a.block) (v : Value) : Blk (w.setCell a v) g t cs := by
  unfold Blk at h ⊢; rw [Below.heap_setCell _ _ _ _ ha]; exact h
theorem Blk.new (w : World) (t : TypeId) (cs : List Value) : Blk (w.alloc (.cells cs.toArray t)) w.heap.size t cs := heap_alloc_new w _
theorem Blk.alloc {w : World} {g : Nat} {t : TypeId} {cs : List Value} (h : Blk w g t cs) (o : Obj) : Blk (w.alloc o) g t cs := by
  unfold Blk at h ⊢; rw [Below.heap_alloc _ _ _ (lt_of_block h)]; exact h
theorem Blk.below {w w' : World} {B g : Nat} {t : TypeId} {cs : List Value} (h : Blk w g t cs) (hb : Below B w w') (hg : g < B) : Blk w' g t cs := by
  unfold Blk at h ⊢; rw [hb.block g hg]; exact h

/-- A row that the call itself has made: in blocks from B on, and it may be written. -/
structure Out (w : World) (B : Nat) (ao : Option Addr) (n c : Nat) (f : Nat → Value) : Prop where
  row : Row w ao n c f
  own : ∀ a, ao = some a → B ≤ a.block
  lt : ∀ a, ao = some a → a.block < w.heap.size
  free : ∀ b o, ao = some ⟨b, o, none⟩ → ∀ i, i < n → w.frozen? ⟨b, o + i, none⟩ = false

def OutI (w : World) (B : Nat) (ao : Option Addr) (n c : Nat) (zs : List Int) : Prop := zs.length = n ∧ Out w B ao n c fun i => .int .i64 (gI zs i)

theorem OutI.rowI {w : World} {B : Nat} {ao : Option Addr} {n c : Nat} {zs : List Int} (h : OutI w B ao n c zs) : RowI w ao n c zs := ⟨h.1, h.2.row⟩

/-- The cells of a list of numbers. -/
def ints (zs : List Int) : List Value := zs.map (.int .i64)

theorem ints_get (zs : List Int) (i : Nat) (h : i < zs.length) : (ints zs)[i]? = some (.int .i64 (gI zs i)) := by
  simp [ints, gI_lt h]

/-- A slice over the whole of a block of numbers. -/
theorem OutI.of_blk {w : World} {B g : Nat} {zs : List Int} {c : Nat} (h : Blk w g 3 (ints zs)) (hB : B ≤ g) (hc : zs.length ≤ c) (hm : c ≤ maxLen) : OutI w B (some ⟨g, 0, none⟩) zs.length c zs :=
  ⟨rfl, ⟨hc, hm, fun e => (by cases e), fun _ => ⟨g, 0, rfl, h.lt⟩, fun b o e i hi => by
    cases e
    rw [Nat.zero_add]
    exact h.cell (ints_get zs i hi)⟩, fun a e => by cases e; exact hB, fun a e => by cases e; exact h.lt, fun b o e i hi => by cases e; exact h.free _⟩

theorem OutI.of_blk' {w : World} {B g n : Nat} {zs : List Int} (h : Blk w g 3 (ints zs)) (hn : zs.length = n) (hB : B ≤ g) (hm : n ≤ maxLen) : OutI w B (some ⟨g, 0, none⟩) n n zs := by
  subst hn; exact OutI.of_blk h hB (Nat.le_refl _) hm

/-- What the frame of a law tells of a slice of ints that came in. -/
def IsRow (k : IntKind) (w : World) (a : Option Addr) (len cap : Nat) (zs : List Int) : Prop :=
  (a = none ∧ len = 0 ∧ cap = 0 ∧ zs = []) ∨
  ∃ x, a = some x ∧ len ≤ cap ∧ cap ≤ maxLen ∧ zs.length = cap ∧ (∀ i, i < zs.length → w.cell? (x.add i) = some (.int k (zs.getD i 0))) ∧ ∀ n ∈ zs, (Lit.int k n).wf = true

theorem IsRow.rowI {w : World} {a : Option Addr} {n c : Nat} {zs : List Int} (h : IsRow .i64 w a n c zs) : RowI w a n c (zs.take n) := by
  rcases h with ⟨rfl, rfl, rfl, rfl⟩ | ⟨x, rfl, hl, hm, hz, hcell, _⟩
  · exact ⟨rfl, Nat.le_refl _, Nat.zero_le _, fun _ => rfl, fun h => absurd h (Nat.lt_irrefl _), fun b o e => by cases e⟩
  · refine ⟨by simp; omega, hl, hm, fun e => (by cases e), fun hn => ?_, fun b o e i hi => ?_⟩
    · obtain ⟨b, off, spot⟩ := x
      have hc := hcell 0 (by omega)
      have hs : spot = none := by simpa [Addr.add] using World.cell?_spot hc
      subst hs
      exact ⟨b, off, rfl, World.block_lt_of_cell? w ⟨b, off, none⟩ (by simpa [Addr.add] using hc)⟩
    · cases e
      have hc := hcell i (by omega)
      have ha : (⟨b, o, none⟩ : Addr).add i = ⟨b, o + i, none⟩ := by unfold Addr.add; split <;> simp_all
      rw [ha] at hc
      rw [hc]
      simp [gI, List.getD, hi]

/-- A slice of ints that the call itself makes and appends to. -/
def OwnI (w : World) (B : Nat) (v : Value) (zs : List Int) : Prop := w.ownsRow B 3 1 v zs.length (ints zs)

theorem OwnI.nil (w : World) (B : Nat) : OwnI w B (.slice none 0 0) [] := World.ownsRow_nil _ _ _ _
theorem OwnI.alloc {w : World} {B : Nat} {v : Value} {zs : List Int} (h : OwnI w B v zs) (o : Obj) : OwnI (w.alloc o) B v zs := World.ownsRow.alloc h o
theorem OwnI.drew {w : World} {B : Nat} {v : Value} {zs : List Int} (h : OwnI w B v zs) : OwnI w.drew B v zs := h
theorem OwnI.drewN {w : World} {B : Nat} {v : Value} {zs : List Int} (h : OwnI w B v zs) (n : Nat) : OwnI (w.drewN n) B v zs := h
/-- A new slice literal. -/
theorem OwnI.lit (w : World) (B : Nat) (zs : List Int) (hB : B ≤ w.heap.size) (hm : zs.length ≤ maxLen) : OwnI (w.alloc (.cells (ints zs).toArray 3)) B (.slice (some ⟨w.heap.size, 0, none⟩) zs.length zs.length) zs :=
  ⟨by simp [ints], .inr ⟨w.heap.size, zs.length, _, rfl, hB, heap_alloc_new w _, Nat.le_refl _, hm, by simp [ints], by show (ints zs).take (zs.length * 1) = ints zs; exact List.take_of_length_le (by simp [ints])⟩⟩

/-- What the walk says of an owned slice: it is nil, or lies at the head of a block from B on; its cells read, and may be written. -/
theorem OwnI.out {w : World} {B : Nat} {v : Value} {zs : List Int} (h : OwnI w B v zs) : ∃ ao c, v = .slice ao zs.length c ∧ OutI w B ao zs.length c zs := by
  obtain ⟨_, ⟨rfl, hn⟩ | ⟨g, cap, cur, rfl, hg, hh, hle, hm, hs, ht⟩⟩ := h
  · refine ⟨none, 0, by rw [hn], rfl, ⟨⟨by omega, Nat.zero_le _, fun _ => rfl, fun h => absurd h (by omega), fun b o e => by cases e⟩, fun a e => (by cases e), fun a e => (by cases e), fun b o e => by cases e⟩⟩
  · refine ⟨some ⟨g, 0, none⟩, cap, rfl, rfl, ⟨⟨hle, hm, fun e => (by cases e), fun _ => ⟨g, 0, rfl, lt_of_block hh⟩, fun b o e i hi => ?_⟩, fun a e => (by cases e; exact hg), fun a e => (by cases e; exact lt_of_block hh), fun b o e i hi => ?_⟩⟩
    · cases e
      rw [Nat.zero_add, cell_of_row w g i cur 3 (0, 0) hh]
      have := ints_get zs i hi
      rw [← ht, List.getElem?_take] at this
      split at this
      · simpa using this
      · cases this
    · cases e
      simp [World.frozen?, hh]

theorem RowI.one (w : World) (x : Int) : RowI (w.alloc (.cells #[.int .i64 x] 3)) (some ⟨w.heap.size, 0, none⟩) 1 1 [x] :=
  (OutI.of_blk' (zs := [x]) (Blk.new w 3 [.int .i64 x]) rfl (Nat.zero_le _) (show 1 ≤ maxLen by decide)).rowI

theorem RowI.cells {w : World} {ao : Option Addr} {n c : Nat} {zs : List Int} (h : RowI w ao n c zs) : ∀ ad, ao = some ad → ∀ j u, (ints zs)[j]? = some u → w.cell? (ad.add j) = some u := by
  intro ad had j u hu
  have hj : j < zs.length := by
    have := (List.getElem?_eq_some_iff.1 hu).1
    simpa [ints] using this
  obtain ⟨b, o, rfl, _⟩ := h.2.some (by rw [← h.1]; omega)
  cases had
  have ha : (⟨b, o, none⟩ : Addr).add j = ⟨b, o + j, none⟩ := by unfold Addr.add; split <;> simp_all
  rw [ha, h.2.cell b o rfl j (by rw [← h.1]; exact hj), ← hu, ints_get zs j hj]

/-- 'append' of a row of ints to an owned slice. -/
theorem wpList_appI {w : World} {ops : Array Oper} {rest : List Oper} {o : Oper} {a : Act} {Q : Exit → Act → World → Prop} {B : Nat} {v : Value} {zs ys : List Int} {ao : Option Addr} {m c : Nat} (hown : OwnI w B v zs) (hr : RowI w ao m c ys)
    (hgd : o.guard = none) (s x : Operand) (ho : o.op = .call { callee := .builtin .append, args := #[s, x], argTypes := #[24, 24] }) (hs : a.eval s = v) (hx : a.eval x = .slice ao m c)
    (hbytes : (zs.length + m) * 8 ≤ 140737488355328) (hB : B ≤ w.heap.size)
    (h : ∀ v' w', OwnI w' B v' (zs ++ ys) → w.grownBy w' v.ownBlock → wpList Tryz.prog ops Q rest (a.put o.dst v') w') : wpList Tryz.prog ops Q (o :: rest) a w := by
  obtain ⟨i, hi, hz, hsz, hby⟩ := info_parts i3
  have hl : (ints ys).length = m * 1 := by simp [ints, hr.1]
  have h1 : ∀ u ∈ ints ys, u.oneCell' = true := ints_oneCell _ _
  have e1 : zs.length + m = (zs ++ ys).length := by simp [hr.1]
  have e2 : ints zs ++ ints ys = ints (zs ++ ys) := by simp [ints]
  cases hao : ao with
  | some ad =>
    subst hao
    refine wpList_append_own w hgd s x _ ho B 3 i (.int .i64 0) 1 8 Tryz.underlying24 hi hz hsz hby rfl (by decide) v _ _ hs hown ad m c (ints ys) hx hl (hr.cells ad rfl) h1 (by unfold maxLen; omega) hbytes hB ?_
    intro v' w' r1 r2 _
    exact h v' w' (by unfold OwnI; rw [← e1, ← e2]; exact r1) r2
  | none =>
    subst hao
    have hc0 := hr.2.nil rfl
    have hm0 : m = 0 := by have := hr.2.le; omega
    have hy : ys = [] := List.eq_nil_of_length_eq_zero (by rw [hr.1]; exact hm0)
    subst hc0 hm0 hy
    have hrun := run_append_owned_none (P := Tryz.prog) w B 24 o.type 3 i 1 Tryz.underlying24 hi v _ _ hown
    refine wpList_plain hgd fun K hK => ?_
    unfold Oper.wp
    simp [execOp, ho, resolve, invoke, builtin, hs, hx, hrun, Result.andThen]
    exact hK _ _ (h v w (by simpa using hown) (World.grownBy.refl _ _))

theorem own : ownKnob Tryz.prog.godebug = none := by kernel_rfl
theorem laidOut : laidOutB Tryz.prog = true := by kernel_rfl

theorem made_ints (n : Nat) : madeCells (Value.cells (.int .i64 0)) (n * 1) = (ints (List.replicate n 0)).toArray := by
  apply Array.ext
  · simp [madeCells, ints]
  · intro i h1 h2
    simp [madeCells, ints, Value.cells, Nat.mod_one]

theorem run_make_ints (n : Nat) (hn : n * 8 ≤ 281474976710656) (w : World) :
    (Instr.makeSlice 24 (.int .i64 (n : Int)) (.int .i64 (n : Int))).run Tryz.prog w = .ok (.slice (some ⟨w.heap.size, 0, none⟩) n n) (w.alloc (.cells (ints (List.replicate n 0)).toArray 3)) := by
  obtain ⟨i, hi, hz, hs, hby⟩ := info_parts i3
  have := run_make (P := Tryz.prog) w 24 3 i (.int .i64 0) Tryz.underlying24 hi hz .i64 .i64 n n (by omega) (Int.le_refl _) (by rw [hby]; omega) (by omega)
  rw [this, hs]
  simp only [Int.toNat_natCast, made_ints]

theorem grownBy_setCell {w0 w : World} {row : Option Nat} (h : w0.grownBy w row) {a : Addr} (ha : row = some a.block) (v : Value) : w0.grownBy (w.setCell a v) row :=
  ⟨h.os, h.tape, h.output, by simpa [World.setCell] using h.size, fun i hi hne => (Below.heap_setCell w a v i (fun e => hne (by rw [ha, e]))).trans (h.block i hi hne)⟩
theorem RowI.grown {w w' : World} {row : Option Nat} {ao : Option Addr} {n c : Nat} {zs : List Int} (h : RowI w ao n c zs) (hg : w.grownBy w' row) (hne : ∀ a, ao = some a → some a.block ≠ row) : RowI w' ao n c zs := by
  obtain ⟨hl, hle, hcap, hnil, hsome, hcell⟩ := h
  refine ⟨hl, hle, hcap, hnil, fun hn => ?_, fun b o e i hi => ?_⟩
  · obtain ⟨b, o, e, h1⟩ := hsome hn
    exact ⟨b, o, e, Nat.lt_of_lt_of_le h1 hg.size⟩
  · exact World.grownBy.cell (a := ⟨b, o + i, none⟩) hg (hcell b o e i hi) (by have := hne _ e; simpa using this)

end Go.Proofs.YtcmjogojlijdgaaGreatDoor
/- Walks: small functions on numbers and rows of numbers. -/
namespace Go.Proofs.YtcmjogojlijdgaaGreatDoor
open Go.RowKit

theorem retb {a b : Bool} (h : a = b) : Ending.returned (.bool a) = .returned (.bool b) := by rw [h]

def inB (a b c : Int) : Bool := decide (b ≤ a) && decide (a ≤ c)
theorem inB_iff {a b c : Int} : inB a b c = true ↔ b ≤ a ∧ a ≤ c := by simp [inB]
theorem inB_true {a b c : Int} (h : b ≤ a ∧ a ≤ c) : inB a b c = true := inB_iff.2 h
theorem inB_false {a b c : Int} (h : ¬ (b ≤ a ∧ a ≤ c)) : inB a b c = false := by rw [Bool.eq_false_iff]; exact fun h' => h (inB_iff.1 h')

set_option maxHeartbeats 400000 in
theorem l1In_ok (a b c : Int) (w : World) :
    Calls Tryz.prog 28 #[.int .i64 a, .int .i64 b, .int .i64 c] w fun e w' => e = .returned (.bool (inB a b c)) ∧ w = w' := by
  go_enter Tryz.func28, Tryz.ntmps28
  go_wp2 <;> (go_ret; exact ⟨retb (by simp [inB]; omega), rfl⟩)

/-- What toIntS has written after k rounds. -/
def partI (zs : List Int) (k : Nat) : List Int := zs.take k ++ List.replicate (zs.length - k) 0

theorem partI_set (zs : List Int) (k : Nat) (h : k < zs.length) : (ints (partI zs k)).set k (.int .i64 (gI zs k)) = ints (partI zs (k + 1)) := by
  apply List.ext_getElem?
  intro i
  simp [ints, partI, List.getElem?_set, List.getElem?_append, List.getElem?_take, gI, List.getD]
  have := List.getElem?_eq_getElem h
  grind
theorem partI_get (zs : List Int) (k : Nat) (h : k < zs.length) : (ints (partI zs k))[k]? = some (.int .i64 0) := by
  simp [ints, partI, List.getElem?_append, List.getElem?_replicate, Nat.min_eq_left (Nat.le_of_lt h)]; omega
theorem partI_end (zs : List Int) : partI zs zs.length = zs := by simp [partI]

theorem take_same {xs ys : List Int} {k : Nat} (h : xs.take k = ys.take k) (hx : k < xs.length) (hy : k < ys.length) (he : gI xs k = gI ys k) : xs.take (k + 1) = ys.take (k + 1) := by
  rw [List.take_succ_eq_append_getElem hx, List.take_succ_eq_append_getElem hy, h]
  have h1 : xs[k] = gI xs k := by simp [gI, List.getD, hx]
  have h2 : ys[k] = gI ys k := by simp [gI, List.getD, hy]
  rw [h1, h2, he]

theorem reti {a b : Int} (h : a = b) : Ending.returned (.int .i64 a) = .returned (.int .i64 b) := by rw [h]
theorem blk_reject {top : Int} {zs : List Int} {k t : Nat} (h : k < zs.length) (ht : (zs.take k).foldlM (addB top) 0 = some t) (hn : addB top t (gI zs k) = none) : unionB top zs = none :=
  foldM_miss (gI_lt h) ht hn

end Go.Proofs.YtcmjogojlijdgaaGreatDoor
/- Walks: the digit of a state. -/
namespace Go.Proofs.YtcmjogojlijdgaaGreatDoor
open Go.RowKit

set_option maxHeartbeats 400000 in
theorem l1Bit_ok (s i : Int) (w : World) (h0 : 0 ≤ s) (h1 : s < 2 ^ 62) (h2 : 0 ≤ i) (h3 : i < 64) :
    Calls Tryz.prog 85 #[.int .i64 s, .int .i64 i] w fun e w' => e = .returned (.int .i64 (bN s.toNat i.toNat : Nat)) ∧ w = w' := by
  obtain ⟨m, rfl⟩ := Int.eq_ofNat_of_zero_le h0
  obtain ⟨k, rfl⟩ := Int.eq_ofNat_of_zero_le h2
  have HB := Lib.hid (bit_int (m : Int) k h0 (by omega))
  go_enter Tryz.func85, Tryz.ntmps85
  go_wp2
  go_ret
  exact ⟨reti (by rw [HB.out]; rfl), rfl⟩

end Go.Proofs.YtcmjogojlijdgaaGreatDoor
/- Walks: bytes of texts, terms. -/
namespace Go.Proofs.YtcmjogojlijdgaaGreatDoor
open Go.RowKit

theorem at_list (s : ByteArray) (k : Nat) (h : k < s.size) : s.data.toList[k]'(by simpa using h) = s[k] := rfl

theorem ne_int {a b : Int} (h : a ≠ b) : (a != b) = true := by simp [h]
theorem eq_int {a b : Int} (h : a = b) : (a != b) = false := by simp [h]

theorem all_term {s : ByteArray} (h : ∀ j (h2 : j < s.size), isT s[j] = true) : s.data.toList.all isT = true := by
  refine List.all_eq_true.2 fun b hb => ?_
  obtain ⟨j, hj, rfl⟩ := List.getElem_of_mem hb
  exact h j (by simpa using hj)
theorem not_all_term {s : ByteArray} {k : Nat} (hlt : k < s.size) (h : ¬ isT s[k] = true) : s.data.toList.all isT = false := by
  rw [List.all_eq_false]
  exact ⟨s[k], by rw [← at_list s k hlt]; exact List.getElem_mem _, h⟩

theorem at_getD (s : ByteArray) (k : Nat) (h : k < s.size) : s.data.toList.getD k 42 = s[k] := by
  have : s.data.toList[k]? = some s[k] := by rw [List.getElem?_eq_getElem (by simpa using h)]; rfl
  simp [List.getD, this]
theorem star_iff (b : UInt8) : b = 42 ↔ ((b.toNat : Nat) : Int) = 42 := by
  have e1 : (42 : UInt8).toNat = 42 := rfl
  rw [← UInt8.toNat_inj, e1]; omega
theorem heldTo_star {s : ByteArray} {k : Nat} (h : k < s.size) (e : ((s[k].toNat : Nat) : Int) = 42) : heldTo s.data.toList (k + 1) = heldTo s.data.toList k := by
  rw [heldTo_succ, at_getD s k h, if_pos ((star_iff _).2 e)]
theorem heldTo_held {s : ByteArray} {k : Nat} (h : k < s.size) (e : ((s[k].toNat : Nat) : Int) ≠ 42) : heldTo s.data.toList (k + 1) = heldTo s.data.toList k ||| 2 ^ k := by
  rw [heldTo_succ, at_getD s k h, if_neg (fun h => e ((star_iff _).1 h))]

def heldV (l : List UInt8) : Int := if termB l l.length then heldTo l l.length else -1

end Go.Proofs.YtcmjogojlijdgaaGreatDoor
/- Walks: marks in a result, and whether they still hold. -/
namespace Go.Proofs.YtcmjogojlijdgaaGreatDoor
open Go.RowKit

/-- A cell of an own row is written. -/
theorem OutI.set {w : World} {B : Nat} {b o n c : Nat} {zs : List Int} (h : OutI w B (some ⟨b, o, none⟩) n c zs) (k : Nat) (hk : k < n) (v : Int) : OutI (w.setCell ⟨b, o + k, none⟩ (.int .i64 v)) B (some ⟨b, o, none⟩) n c (zs.set k v) := by
  obtain ⟨rfl, ⟨hle, hcap, hnil, hsome, hcell⟩, hown, hblk, hfree⟩ := h
  have hc := hcell b o rfl k hk
  refine ⟨by simp, ⟨hle, hcap, hnil, fun hn => ?_, fun b' o' e i hi => ?_⟩, hown, fun a e => (by simpa [World.setCell] using hblk a e), fun b' o' e i hi => ?_⟩
  · obtain ⟨b', o', e, hb⟩ := hsome hn
    exact ⟨b', o', e, by simpa [World.setCell] using hb⟩
  · cases e
    by_cases hik : i = k
    · subst hik
      rw [World.cell?_setCell_same' _ _ _ (by rw [hc]; rfl)]
      simp [gI, List.getD, hi]
    · have hne : (⟨b, o + k, none⟩ : Addr) ≠ ⟨b, o + i, none⟩ := fun e => by
        have := congrArg Addr.off e
        simp at this
        omega
      have e1 : (w.setCell ⟨b, o + k, none⟩ (.int .i64 v)).cell? ⟨b, o + i, none⟩ = w.cell? ⟨b, o + i, none⟩ := by
        first | exact World.cell?_setCell_other _ _ _ hne | exact World.cell?_setCell_other _ _ _ _ hne
      rw [e1, hcell b o rfl i hi]
      simp [gI, List.getD, show ¬ k = i by omega]
  · cases e
    have := hfree b o rfl i hi
    simpa using this

/-- Marks m, m + 1, .. for the first k of n elements. -/
def marks (m : Int) (k : Nat) (zs : List Int) : List Int := ((List.range k).map fun i : Nat => m + (i : Int)) ++ zs.drop k
theorem marks_len (m : Int) (k : Nat) (zs : List Int) (h : k ≤ zs.length) : (marks m k zs).length = zs.length := by simp [marks]; omega
theorem marks_set (m : Int) (k : Nat) (zs : List Int) (h : k < zs.length) : (marks m k zs).set k (m + k) = marks m (k + 1) zs := by
  apply List.ext_getElem?
  intro i
  simp [marks, List.getElem?_set, List.getElem?_append, List.range_succ]
  grind
theorem marks_get (m : Int) (k i : Nat) (zs : List Int) (h : i < k) : gI (marks m k zs) i = m + i := by
  simp [marks, gI, List.getD, List.getElem?_append, h]

/-- Only the block of a slice's own row has turned. -/
def blkOf (ao : Option Addr) : Option Nat := ao.map (·.block)

theorem OutI.grown {w w' : World} {row : Option Nat} {B : Nat} {ao : Option Addr} {n c : Nat} {zs : List Int} (h : OutI w B ao n c zs) (hg : w.grownBy w' row) (hne : ∀ a, ao = some a → some a.block ≠ row) : OutI w' B ao n c zs := by
  have hr := h.rowI.grown hg hne
  refine ⟨hr.1, ⟨hr.2, h.2.own, fun a e => Nat.lt_of_lt_of_le (h.2.lt a e) hg.size, fun b o e i hi => ?_⟩⟩
  obtain ⟨b', o', e', h1⟩ := h.2.row.some (by omega)
  rw [e] at e'
  cases e'
  rw [World.frozen?_of_block (w := w) (hg.block b h1 (hne _ e))]
  exact h.2.free b o e i hi
theorem Below.ofBlk {B : Nat} {w0 w w' : World} {ao : Option Addr} (h : Below B w0 w) (hg : w.grownBy w' (blkOf ao)) (hB : B ≤ w.heap.size) (hb : ∀ a, ao = some a → B ≤ a.block) : Below B w0 w' :=
  h.grown hg hB (fun k hk => by
    obtain ⟨a, ha, rfl⟩ := Option.map_eq_some_iff.1 hk
    exact hb a ha)
theorem OutI.below {w w' : World} {B B' : Nat} {ao : Option Addr} {n c : Nat} {zs : List Int} (h : OutI w B ao n c zs) (hb : Below B' w w') (hB : w.heap.size ≤ B') : OutI w' B ao n c zs :=
  h.grown (row := none) ⟨hb.os, hb.tape, hb.output, hb.size, fun k hk _ => hb.block k (by omega)⟩ (fun _ _ => by simp)

end Go.Proofs.YtcmjogojlijdgaaGreatDoor
/- Rows of strings: those that come in, and those that the call itself makes. -/
namespace Go.Proofs.YtcmjogojlijdgaaGreatDoor
open Go.RowKit

/-- Element i of a list of strings. -/
def gT (ts : List ByteArray) (i : Nat) : ByteArray := ts.getD i ⟨#[]⟩
theorem gT_lt {ts : List ByteArray} {i : Nat} (h : i < ts.length) : ts[i]? = some (gT ts i) := by simp [gT, List.getD, List.getElem?_eq_getElem h]

def RowT (w : World) (ao : Option Addr) (n c : Nat) (ts : List ByteArray) : Prop := ts.length = n ∧ Row w ao n c fun i => .string (gT ts i)
theorem RowT.below {B : Nat} {w w' : World} {ao : Option Addr} {n c : Nat} {ts : List ByteArray} (h : RowT w ao n c ts) (hb : Below B w w') (hB : w.heap.size ≤ B) : RowT w' ao n c ts := ⟨h.1, h.2.below hb hB⟩

def strs (ts : List ByteArray) : List Value := ts.map .string
theorem strs_get (ts : List ByteArray) (i : Nat) (h : i < ts.length) : (strs ts)[i]? = some (.string (gT ts i)) := by simp [strs, gT_lt h]
theorem strs_one (ts : List ByteArray) : ∀ u ∈ strs ts, u.oneCell' = true := fun u hu => by
  obtain ⟨t, _, rfl⟩ := List.mem_map.1 hu
  rfl

def OwnT (w : World) (B : Nat) (v : Value) (ts : List ByteArray) : Prop := w.ownsRow B 9 1 v ts.length (strs ts)
theorem OwnT.nil (w : World) (B : Nat) : OwnT w B (.slice none 0 0) [] := World.ownsRow_nil _ _ _ _
theorem OwnT.alloc {w : World} {B : Nat} {v : Value} {ts : List ByteArray} (h : OwnT w B v ts) (o : Obj) : OwnT (w.alloc o) B v ts := World.ownsRow.alloc h o
theorem OwnT.drewN {w : World} {B : Nat} {v : Value} {ts : List ByteArray} (h : OwnT w B v ts) (n : Nat) : OwnT (w.drewN n) B v ts := h
theorem OwnT.lit (w : World) (B : Nat) (ts : List ByteArray) (hB : B ≤ w.heap.size) (hm : ts.length ≤ maxLen) : OwnT (w.alloc (.cells (strs ts).toArray 9)) B (.slice (some ⟨w.heap.size, 0, none⟩) ts.length ts.length) ts :=
  ⟨by simp [strs], .inr ⟨w.heap.size, ts.length, _, rfl, hB, heap_alloc_new w _, Nat.le_refl _, hm, by simp [strs], by show (strs ts).take (ts.length * 1) = strs ts; exact List.take_of_length_le (by simp [strs])⟩⟩
theorem OwnT.below {w w' : World} {B B' : Nat} {v : Value} {ts : List ByteArray} (h : OwnT w B v ts) (hb : Below B' w w') (hB : w.heap.size ≤ B') : OwnT w' B v ts := by
  obtain ⟨h0, h1 | ⟨g, cap, cur, e, hg, hh, h2⟩⟩ := h
  · exact ⟨h0, .inl h1⟩
  · exact ⟨h0, .inr ⟨g, cap, cur, e, hg, by rw [hb.block g (by have := lt_of_block hh; omega)]; exact hh, h2⟩⟩
theorem OwnT.row {w : World} {B : Nat} {v : Value} {ts : List ByteArray} (h : OwnT w B v ts) : ∃ ao c, v = .slice ao ts.length c ∧ RowT w ao ts.length c ts := by
  obtain ⟨_, ⟨rfl, hn⟩ | ⟨g, cap, cur, rfl, hg, hh, hle, hm, hs, ht⟩⟩ := h
  · exact ⟨none, 0, by rw [hn], rfl, ⟨by omega, Nat.zero_le _, fun _ => rfl, fun h => absurd h (by omega), fun b o e => by cases e⟩⟩
  · refine ⟨some ⟨g, 0, none⟩, cap, rfl, rfl, ⟨hle, hm, fun e => (by cases e), fun _ => ⟨g, 0, rfl, lt_of_block hh⟩, fun b o e i hi => ?_⟩⟩
    cases e
    rw [Nat.zero_add, cell_of_row w g i cur 9 (0, 0) hh]
    have := strs_get ts i hi
    rw [← ht, List.getElem?_take] at this
    split at this
    · simpa using this
    · cases this

theorem i9 : (Tryz.prog.info? 9).map (fun i => (i.zero, i.size, i.bytes)) = some (some (.string ⟨#[]⟩), 1, 16) := by kernel_rfl

/-- 'append(out, s)'. -/
theorem wpList_appT {w : World} {ops : Array Oper} {rest : List Oper} {o : Oper} {a : Act} {Q : Exit → Act → World → Prop} {B : Nat} {v : Value} {ts : List ByteArray} {t : ByteArray} {g : Nat} (hown : OwnT w B v ts) (hr : w.cell? ⟨g, 0, none⟩ = some (.string t))
    (hgd : o.guard = none) (s x : Operand) (ho : o.op = .call { callee := .builtin .append, args := #[s, x], argTypes := #[51, 51] }) (hs : a.eval s = v) (hx : a.eval x = .slice (some ⟨g, 0, none⟩) 1 1)
    (hbytes : (ts.length + 1) * 16 ≤ 140737488355328) (hB : B ≤ w.heap.size)
    (h : ∀ v' w', OwnT w' B v' (ts ++ [t]) → w.grownBy w' v.ownBlock → wpList Tryz.prog ops Q rest (a.put o.dst v') w') : wpList Tryz.prog ops Q (o :: rest) a w := by
  obtain ⟨i, hi, hz, hsz, hby⟩ := info_parts i9
  have e1 : ts.length + 1 = (ts ++ [t]).length := by simp
  have e2 : strs ts ++ strs [t] = strs (ts ++ [t]) := by simp [strs]
  refine wpList_append_own w hgd s x _ ho B 9 i (.string ⟨#[]⟩) 1 16 Tryz.underlying51 hi hz hsz hby rfl (by decide) v _ _ hs hown ⟨g, 0, none⟩ 1 1 (strs [t]) hx rfl (fun j u hj => ?_) (strs_one _) (by unfold maxLen; omega) hbytes hB ?_
  · cases j with
    | zero => simp [strs] at hj; subst hj; exact hr
    | succ j => simp [strs] at hj
  · intro v' w' r1 r2 _
    exact h v' w' (by unfold OwnT; rw [← e1, ← e2]; exact r1) r2

/-- Texts joined by a text. -/
def joinF (f : Nat → ByteArray) (sep : ByteArray) : Nat → ByteArray
  | 0 => ⟨#[]⟩
  | k + 1 => (if 0 < k then joinF f sep k ++ sep else joinF f sep k) ++ f k
theorem joinF_one (f : Nat → ByteArray) (sep : ByteArray) : joinF f sep 1 = ⟨#[]⟩ ++ f 0 := rfl
theorem joinF_next (f : Nat → ByteArray) (sep : ByteArray) (k : Nat) (h : 0 < k) : joinF f sep (k + 1) = joinF f sep k ++ sep ++ f k := by simp [joinF, h]
theorem joinF_size (f : Nat → ByteArray) (sep : ByteArray) (M : Nat) (hs : sep.size ≤ 1) (hf : ∀ i, (f i).size ≤ M) : ∀ k, (joinF f sep k).size ≤ k * (M + 1)
  | 0 => by simp [joinF]; rfl
  | k + 1 => by
    have h1 := joinF_size f sep M hs hf k
    have h2 := hf k
    simp only [joinF]
    split
    · simp only [ByteArray.size_append]
      rw [Nat.add_mul]; omega
    · simp only [ByteArray.size_append]
      rw [Nat.add_mul]; omega

set_option maxHeartbeats 1000000 in
theorem l3Text_ok (ao : Option Addr) (n c : Nat) (ts : List ByteArray) (f : Nat → ByteArray) (w : World) (h : RowT w ao n c ts) (hf : ∀ i, i < n → gT ts i = f i) (hM : ∀ i, (f i).size ≤ 1048576) (hn : n ≤ 1048576) :
    Calls Tryz.prog 46 #[.slice ao n c] w fun e w' => e = .returned (.string (joinF f ⟨#[44]⟩ n)) ∧ w = w' := by
  obtain rfl := h.1
  go_enter Tryz.func46, Tryz.ntmps46
  go_wp2
  go_loop [3, 4] (fun s i => ∃ k : Nat, k ≤ ts.length ∧ i = .int .i64 k ∧ s = .string (joinF f ⟨#[44]⟩ k)) (fun _ i => ts.length - (intOf i).toNat)
  case atStart => exact ⟨0, Nat.zero_le _, rfl, rfl⟩
  case round =>
    obtain ⟨k, hk, rfl, rfl⟩ := hrel
    by_cases hlt : k < ts.length
    · obtain ⟨b, o, rfl, hbo⟩ := h.2.some (by omega)
      have hcx := h.2.cell b o rfl k hlt
      simp only [hf k hlt] at hcx
      have hlt' : (k : Int) < (ts.length : Int) := by omega
      have hz := joinF_size f ⟨#[44]⟩ 1048576 (by decide) hM k
      have hz2 : (joinF f ⟨#[44]⟩ k).size ≤ 1099512676352 := by
        have : k * (1048576 + 1) ≤ 1048576 * (1048576 + 1) := Nat.mul_le_mul_right _ (by omega)
        omega
      have hz3 := hM k
      have HN := Lib.hid (joinF_next f ⟨#[44]⟩ k)
      clear hz h hf hM
      by_cases h0 : 0 < k
      · generalize joinF f ⟨#[44]⟩ k = t at hz2 HN
        go_wp2
        go_round
        case rel => exact ⟨k + 1, by omega, by go_num, by rw [HN.out h0]⟩
        case measure => simp [intOf]; omega
      · obtain rfl : k = 0 := by omega
        have HN1 : Hid (joinF f ⟨#[44]⟩ 1 = joinF f ⟨#[44]⟩ 0 ++ f 0) := rfl
        generalize joinF f ⟨#[44]⟩ 0 = t at hz2 HN HN1
        rw [Nat.add_zero] at hcx
        go_wp2
        go_round
        case rel => exact ⟨1, by omega, rfl, by rw [HN1.out]⟩
        case measure => simp [intOf]; omega
    · obtain rfl : k = ts.length := by omega
      go_wp2
      go_ret
      exact ⟨rfl, rfl⟩

end Go.Proofs.YtcmjogojlijdgaaGreatDoor
/- Walks: digits as a text. -/
namespace Go.Proofs.YtcmjogojlijdgaaGreatDoor
open Go.RowKit

/-- Digits as a text. -/
def digT (zs : List Int) : ByteArray := ⟨(zs.map fun v => UInt8.ofNat (48 + v.toNat)).toArray⟩
theorem digT_size (zs : List Int) : (digT zs).size = zs.length := by simp [digT, ByteArray.size]
theorem digT_app (xs ys : List Int) : digT xs ++ digT ys = digT (xs ++ ys) := by
  apply ByteArray.ext
  simp [digT]
theorem digT_nil : digT [] = ⟨#[]⟩ := rfl
theorem digT_0 : digT [0] = ⟨#[48]⟩ := rfl
theorem digT_1 : digT [1] = ⟨#[49]⟩ := rfl
theorem digT_next {zs : List Int} {k : Nat} (hk : k < zs.length) : digT (zs.take (k + 1)) = digT (zs.take k) ++ digT [gI zs k] := by
  rw [digT_app, take_succ_of zs k _ (gI_lt hk)]

set_option maxHeartbeats 1000000 in
theorem l1Text_ok (ao : Option Addr) (n c : Nat) (zs : List Int) (w : World) (h : RowI w ao n c zs) (hd : ∀ i, i < n → gI zs i = 0 ∨ gI zs i = 1) (hn : n ≤ 1048576) :
    Calls Tryz.prog 84 #[.slice ao n c] w fun e w' => e = .returned (.string (digT zs)) ∧ Below w.heap.size w w' := by
  obtain rfl := h.1
  go_enter Tryz.func84, Tryz.ntmps84
  go_wp2
  go_loopw [3, 4] (fun s i wr => ∃ k : Nat, k ≤ zs.length ∧ i = .int .i64 k ∧ s = .string (digT (zs.take k)) ∧ Below w.heap.size w wr) (fun _ i _ => zs.length - (intOf i).toNat)
  case atStart => exact ⟨0, Nat.zero_le _, rfl, rfl, Below.refl _ _⟩
  case round =>
    obtain ⟨k, hk, rfl, rfl, hb⟩ := hrel
    by_cases hlt : k < zs.length
    · obtain ⟨b, o, rfl, hbo⟩ := h.2.some (by omega)
      have hcx := (h.below hb (Nat.le_refl _)).2.cell b o rfl k hlt
      have hlt' : (k : Int) < (zs.length : Int) := by omega
      have HN := Lib.hid (digT_next hlt)
      have hsz := digT_size (zs.take k)
      have hsz2 : (digT (zs.take k)).size ≤ 1048576 := by rw [hsz]; simp; omega
      clear hsz
      rcases hd k hlt with h0 | h0
      · rw [h0] at hcx
        have H0 := Lib.hid h0
        clear h h0 hd
        generalize digT (zs.take k) = t at hsz2 HN
        go_wp2
        go_quiet (fail)
        go_wp2
        go_roundw
        case rel => exact ⟨k + 1, by omega, by go_num, by rw [HN.out, H0.out]; rfl, _root_.Go.below_drewN hb _⟩
        case measure => simp [intOf]; omega
      · rw [h0] at hcx
        have H0 := Lib.hid h0
        clear h h0 hd
        generalize digT (zs.take k) = t at hsz2 HN
        go_wp2
        go_quiet (fail)
        go_wp2
        go_roundw
        case rel => exact ⟨k + 1, by omega, by go_num, by rw [HN.out, H0.out]; rfl, _root_.Go.below_drewN hb _⟩
        case measure => simp [intOf]; omega
    · obtain rfl : k = zs.length := by omega
      rw [List.take_length]
      go_wp2
      go_ret
      exact ⟨rfl, hb⟩

end Go.Proofs.YtcmjogojlijdgaaGreatDoor
/- Tables of the program: a struct of 33 cells, by laws that don't open it. -/
namespace Go.Proofs.YtcmjogojlijdgaaGreatDoor
open Go.RowKit

/-- The cells of a table. -/
def tabC (n : Int) (bs : List Int) : List Value := .int .i64 n :: bs.map (.int .u8)
def z32 : List Int := List.replicate 32 0
/-- A table as a value. -/
def tabV (n : Int) (bs : List Int) : Value := .agg (tabC n bs).toArray

theorem tabC_len (n : Int) (bs : List Int) : (tabC n bs).length = bs.length + 1 := by simp [tabC]
theorem tabC_zero (n : Int) (bs : List Int) : (tabC n bs)[0]? = some (.int .i64 n) := rfl
theorem tabC_get (n : Int) (bs : List Int) (k : Nat) (h : k < bs.length) : (tabC n bs)[1 + k]? = some (.int .u8 (gI bs k)) := by
  rw [Nat.add_comm]
  simp [tabC, gI_lt h]
theorem tabC_set (n : Int) (bs : List Int) (k : Nat) (v : Int) : (tabC n bs).set (1 + k) (.int .u8 v) = tabC n (bs.set k v) := by
  rw [Nat.add_comm]
  simp [tabC, List.map_set]
theorem tabC_one (n : Int) (bs : List Int) : (tabC n bs).toArray.all (·.oneCell') = true := by
  refine Array.all_eq_true_iff_forall_mem.2 fun v hv => ?_
  simp only [tabC, List.mem_toArray, List.mem_cons, List.mem_map] at hv
  rcases hv with rfl | ⟨x, _, rfl⟩ <;> rfl

theorem tab_size : (Tryz.prog.info? 66).map (·.size) = some 33 := by kernel_rfl
theorem tab_under : ∃ d, Tryz.prog.underlying 66 = some d ∧ d.isRow = true := ⟨_, Tryz.underlying66, rfl⟩

/-- '&T{}': a new table of zeros. -/
theorem wpList_tabAlloc {ops : Array Oper} {rest : List Oper} {o : Oper} {a : Act} {w : World} {Q : Exit → Act → World → Prop} (hg : o.guard = none) (ho : o.op = .alloc 66)
    (h : wpList Tryz.prog ops Q rest (a.put o.dst (.pointer (some ⟨w.heap.size, 0, none⟩))) (w.alloc (.cells (tabC 0 z32).toArray 66))) : wpList Tryz.prog ops Q (o :: rest) a w := by
  refine Go.Great.wpList_runTo hg o.dst rfl (.pointer (some ⟨w.heap.size, 0, none⟩)) _ ?_ h
  unfold execOp
  rw [ho]
  kernel_rfl

theorem tab_built (n : Int) : Tryz.prog.built 66 [(0, .int .i64 n)] = some (tabC n z32).toArray := by kernel_rfl
/-- 'T{n: n}'. -/
theorem wpList_tabBuild {ops : Array Oper} {rest : List Oper} {o : Oper} {a : Act} {w : World} {Q : Exit → Act → World → Prop} (hg : o.guard = none) (x : Operand) (ho : o.op = .build 66 #[(0, x)]) (n : Int) (hx : a.eval x = .int .i64 n)
    (h : wpList Tryz.prog ops Q rest (a.put o.dst (tabV n z32)) w) : wpList Tryz.prog ops Q (o :: rest) a w := by
  have e : (#[(0, x)].map fun (p : Nat × Operand) => (p.1, a.eval p.2)).toList = [(0, .int .i64 n)] := by simp [hx]
  refine wpList_build hg 66 #[(0, x)] ho ?_ ?_
  · show (Tryz.prog.built 66 (#[(0, x)].map fun (p : Nat × Operand) => (p.1, a.eval p.2)).toList).isSome = true
    rw [e, tab_built]; rfl
  · show wpList Tryz.prog ops Q rest (a.put o.dst (.agg ((Tryz.prog.built 66 (#[(0, x)].map fun (p : Nat × Operand) => (p.1, a.eval p.2)).toList).getD #[]))) w
    rw [e, tab_built]; exact h

/-- A table is stored in a variable of its own. -/
theorem wpList_tabStore {ops : Array Oper} {rest : List Oper} {o : Oper} {a : Act} {w : World} {Q : Exit → Act → World → Prop} (hg : o.guard = none) (x y : Operand) (ho : o.op = .store 66 x y)
    (g : Nat) (n : Int) (bs : List Int) (hx : a.eval x = .pointer (some ⟨g, 0, none⟩)) (hy : a.eval y = tabV n bs) (hl : bs.length = 32) (t : TypeId) (old : List Value) (hB : Blk w g t old) (ho33 : old.length = 33)
    (h : ∀ w', Blk w' g t (tabC n bs) → w.grownBy w' (some g) → w'.heap.size = w.heap.size → wpList Tryz.prog ops Q rest (a.put o.dst undef) w') : wpList Tryz.prog ops Q (o :: rest) a w := by
  have hs : (tabC n bs).toArray.size = 33 := by simp [tabC_len, hl]
  refine wpList_store_row hg 66 x y ho g (tabC n bs).toArray hx hy t old.toArray hB (by rw [hs]; exact tab_size) (by rw [hs]; simpa using ho33) (tabC_one n bs) (h _ ?_ ?_ ?_)
  · exact setRow_heap w g _ _ t _ hB
  · exact ⟨rfl, rfl, rfl, by simp, fun i hi hne => setRow_other w g i _ (fun e => hne (by rw [e]))⟩
  · simp

theorem tab_read {w : World} {g : Nat} {t : TypeId} {n : Int} {bs : List Int} (hB : Blk w g t (tabC n bs)) (hl : bs.length = 32) : (loadVar 66 ⟨g, 0, none⟩).run Tryz.prog w = .ok (tabV n bs) w := by
  obtain ⟨d, hd, hd2⟩ := tab_under
  refine run_loadVar_mid w g 0 66 (tabC n bs) d (fun j v hv => ?_) hd hd2 (by rw [tabC_len, hl]; exact tab_size)
  rw [Nat.zero_add]
  exact hB.cell hv

/-- A whole table is read. -/
theorem wpList_tabLoad {ops : Array Oper} {rest : List Oper} {o : Oper} {a : Act} {w : World} {Q : Exit → Act → World → Prop} (hg : o.guard = none) (x : Operand) (ho : o.op = .load 66 x)
    (g : Nat) (n : Int) (bs : List Int) (hx : a.eval x = .pointer (some ⟨g, 0, none⟩)) (hl : bs.length = 32) (t : TypeId) (hB : Blk w g t (tabC n bs))
    (h : wpList Tryz.prog ops Q rest (a.put o.dst (tabV n bs)) w) : wpList Tryz.prog ops Q (o :: rest) a w := by
  obtain ⟨d, hd, hd2⟩ := tab_under
  refine wpList_load_mid hg 66 x ho g 0 hx (tabC n bs) d (fun j v hv => ?_) hd hd2 (by rw [tabC_len, hl]; exact tab_size) h
  rw [Nat.zero_add]
  exact hB.cell hv

/-- A table that came in by value is laid in a variable. -/
theorem wpList_tabBox {ops : Array Oper} {rest : List Oper} {o : Oper} {a : Act} {w : World} {Q : Exit → Act → World → Prop} (hg : o.guard = none) (x : Operand) (ho : o.op = .box 66 x)
    (n : Int) (bs : List Int) (hx : a.eval x = tabV n bs)
    (h : wpList Tryz.prog ops Q rest (a.put o.dst (.pointer (some ⟨w.heap.size, 0, none⟩))) (w.alloc (.cells (tabC n bs).toArray 66))) : wpList Tryz.prog ops Q (o :: rest) a w :=
  Go.Great.wpList_boxTo hg 66 x ho o.dst rfl w.heap.size rfl (tabC n bs).toArray (by rw [hx]; rfl) h

set_option maxHeartbeats 1000000 in
theorem width_ok (n : Nat) (bs : List Int) (hn : n ≤ 62) (w : World) :
    Calls Tryz.prog 87 #[tabV n bs] w fun e w' => e = .returned (.int .i64 ((2 ^ n : Nat) : Int)) ∧ Below w.heap.size w w' := by
  have HP : Hid (wrap64 (2 ^ n) = ((2 ^ n : Nat) : Int)) := wrap_pow_nat n hn
  have hx := (Blk.new w 66 (tabC n bs)).cell (tabC_zero n bs)
  generalize hv : tabV n bs = v
  go_enter Tryz.func87, Tryz.ntmps87
  go_wp2_with (refine wpList_tabBox rfl _ rfl n bs hv.symm ?_)
  go_ret
  exact ⟨reti HP.out, (Below.refl _ _).alloc (Nat.le_refl _) _⟩

end Go.Proofs.YtcmjogojlijdgaaGreatDoor
/- Walks: a table of a value for each state; its text. -/
namespace Go.Proofs.YtcmjogojlijdgaaGreatDoor
open Go.RowKit

def eachL (f : Nat → Int) (k : Nat) : List Int := (List.range 32).map fun j => if j < k then f j else 0
theorem eachL_zero (f : Nat → Int) : eachL f 0 = z32 := by simp [eachL, z32]; rfl
theorem eachL_len (f : Nat → Int) (k : Nat) : (eachL f k).length = 32 := by simp [eachL]
theorem eachL_next (f : Nat → Int) (k : Nat) (hk : k < 32) : (eachL f k).set k (f k) = eachL f (k + 1) := by
  apply List.ext_getElem?
  intro i
  simp [eachL, List.getElem?_set]
  grind
theorem eachL_get (f : Nat → Int) (k j : Nat) (hj : j < 32) (h : j < k) : gI (eachL f k) j = f j := by simp [gI, eachL, List.getD, hj, h]

set_option maxHeartbeats 4000000 in
theorem each_ok (p : Nat) (hp : p ≤ 5) (g : Nat) (cap : Array Value) (f : Nat → Int) (w : World) (hg : ∀ args W, (callFunc g args).run Tryz.prog W = .ok (.enter g args) W)
    (hf : ∀ s, s < 2 ^ p → ∀ W, Below w.heap.size w W → Calls Tryz.prog g (#[.int .i64 s] ++ cap) W fun e W' => e = .returned (.int .u8 (f s)) ∧ Below W.heap.size W W') :
    Calls Tryz.prog 63 #[.int .i64 p, .func (.func g) #[] cap] w fun e w' => e = .returned (tabV p (eachL f (2 ^ p))) ∧ Below w.heap.size w w' := by
  have HF := Lib.hid hf
  clear hf
  have hp32 : (2 ^ p : Nat) ≤ 32 := Nat.pow_le_pow_right (n := 2) (by decide) hp
  have HW := Lib.hid (fun (bs : List Int) (W : World) => width_ok p bs (by omega) W)
  generalize hN : (2 ^ p : Nat) = N at hp32 HF HW
  clear hN
  have HB1 := Lib.hid (Blk.new (w.alloc (.cells (tabC 0 z32).toArray 66)) 66 (tabC 0 z32))
  go_enter Tryz.func63, Tryz.ntmps63
  go_wp2_with (first | (refine wpList_tabAlloc rfl rfl ?_) | (refine wpList_tabBuild rfl _ rfl _ rfl ?_) | (refine wpList_tabStore rfl _ _ rfl _ _ z32 rfl rfl rfl _ _ HB1.out rfl ?_; intro w1 k1 g1 z1) | (refine wpList_tabLoad rfl _ rfl _ _ z32 rfl rfl _ k1 ?_))
  have hsz : (w.alloc (.cells (tabC 0 z32).toArray 66)).heap.size = w.heap.size + 1 := by simp
  have hsz2 : ((w.alloc (.cells (tabC 0 z32).toArray 66)).alloc (.cells (tabC 0 z32).toArray 66)).heap.size = w.heap.size + 2 := by simp
  have k0 : Blk w1 w.heap.size 66 (tabC 0 z32) := by
    have h0 : Blk ((w.alloc (.cells (tabC 0 z32).toArray 66)).alloc (.cells (tabC 0 z32).toArray 66)) w.heap.size 66 (tabC 0 z32) := (Blk.new w 66 (tabC 0 z32)).alloc _
    unfold Blk at h0 ⊢
    rw [g1.block _ (by omega) (by rw [hsz]; simp)]
    exact h0
  have c1 : Below w.heap.size w w1 := (((Below.refl _ _).alloc (Nat.le_refl _) _).alloc (by omega) _).grown g1 (by omega) (fun j hj => by cases hj; omega)
  rw [hsz] at k1
  rw [hsz2] at z1
  clear g1 HB1 hsz hsz2
  refine (HW.out _ _).mono ?_
  rintro e w2 ⟨rfl, b2⟩
  have c2 : Below w.heap.size w w2 := c1.trans (b2.mono c1.size)
  have k0' := k0.below b2 k0.lt
  have k1' := k1.below b2 k1.lt
  have z2 : w.heap.size + 2 ≤ w2.heap.size := by have := b2.size; omega
  clear b2 c1 k0 k1 z1
  rw [show (z32 : List Int) = eachL f 0 from (eachL_zero f).symm] at k1'
  go_wp2_with fail
  go_loopw [11] (fun s wr => ∃ k : Nat, k ≤ N ∧ s = .int .i64 k ∧ Blk wr (w.heap.size + 1) 66 (tabC p (eachL f k)) ∧ Blk wr w.heap.size 66 (tabC 0 z32) ∧ Below w.heap.size w wr ∧ w.heap.size + 2 ≤ wr.heap.size) (fun s _ => N - (intOf s).toNat)
  case atStart => exact ⟨0, Nat.zero_le _, rfl, k1', k0', c2, z2⟩
  case round =>
    obtain ⟨k, hk, rfl, hB, h0, hb, hz⟩ := hrel
    have HZ := Lib.hid hz
    clear k1' k0' c2 z2 hz
    by_cases hkN : k < N
    · have hkw : (k : Int) < (N : Int) := by omega
      have hk32 : (k : Int) < 32 := by omega
      have HC := Lib.hid (HF.out k hkN wr hb)
      go_wp2_with fail
      refine HC.out.mono ?_
      rintro e w3 ⟨rfl, b3⟩
      have hB3 := hB.below b3 hB.lt
      have h03 := h0.below b3 h0.lt
      have hx3 := hB3.cell (tabC_get p (eachL f k) k (by rw [eachL_len]; omega))
      have hf3 := hB3.free (1 + k)
      have HS := Lib.hid (hB3.set (1 + k) (.int .u8 (f k)))
      have HO := Lib.hid (h03.other (a := ⟨w.heap.size + 1, 1 + k, none⟩) (by simp) (.int .u8 (f k)))
      have HB3 := Lib.hid (hb.trans (b3.mono hb.size))
      have HL3 := Lib.hid b3.size
      clear hB h0 hb b3 hB3 h03
      go_wp2_with fail
      go_roundw
      case rel => exact ⟨k + 1, by omega, by go_num, by have := HS.out; rw [tabC_set, eachL_next f k (by omega)] at this; exact this, HO.out, HB3.out.setCell (by simp) _, by have := HZ.out; have := HL3.out; simp [World.setCell]; omega⟩
      case measure => simp [intOf]; omega
    · obtain rfl : k = N := by omega
      have hkw : ¬ (k : Int) < (k : Int) := by omega
      go_wp2_with (first | (refine wpList_tabLoad rfl _ rfl _ _ (eachL f k) rfl (eachL_len f k) _ hB ?_) | (refine wpList_tabStore rfl _ _ rfl _ _ (eachL f k) rfl rfl (eachL_len f k) _ _ h0 rfl ?_; intro w4 k4 g4 z4))
      have c4 : Below w.heap.size w w4 := hb.grown g4 (by have := HZ.out; omega) (fun j hj => by cases hj; omega)
      have hrd := tab_read k4 (eachL_len f k)
      clear k4 hB h0 g4 HF HW hb
      refine bodyPost_ret (v := tabV p (eachL f k)) (by simp [results, Tryz.results63, asAddr, hrd]) rfl ⟨rfl, c4⟩
end Go.Proofs.YtcmjogojlijdgaaGreatDoor
/- Walks: the text of a table. -/
namespace Go.Proofs.YtcmjogojlijdgaaGreatDoor
open Go.RowKit

theorem rett {a b : ByteArray} (h : a = b) : Ending.returned (.string a) = .returned (.string b) := by rw [h]

/-- Cells of bytes. -/
def byC (xs : List Int) : List Value := xs.map (.int .u8)
theorem byC_get (xs : List Int) (k : Nat) (h : k < xs.length) : (byC xs)[k]? = some (.int .u8 (gI xs k)) := by simp [byC, gI_lt h]
theorem byC_set (xs : List Int) (k : Nat) (v : Int) : (byC xs).set k (.int .u8 v) = byC (xs.set k v) := by simp [byC, List.map_set]
theorem i5 : (Tryz.prog.info? 5).map (fun i => (i.zero, i.size, i.bytes)) = some (some (.int .u8 0), 1, 1) := by kernel_rfl
theorem made_bytes (n : Nat) : madeCells (Value.cells (.int .u8 0)) (n * 1) = (byC (List.replicate n 0)).toArray := by
  apply Array.ext
  · simp [madeCells, byC]
  · intro i h1 h2
    simp [madeCells, byC, Value.cells, Nat.mod_one]
theorem run_make_bytes (n : Nat) (hn : n ≤ 1048576) (w : World) :
    (Instr.makeSlice 22 (.int .i64 (n : Int)) (.int .i64 (n : Int))).run Tryz.prog w = .ok (.slice (some ⟨w.heap.size, 0, none⟩) n n) (w.alloc (.cells (byC (List.replicate n 0)).toArray 5)) := by
  obtain ⟨i, hi, hz, hs, hby⟩ := info_parts i5
  have := run_make (P := Tryz.prog) w 22 5 i (.int .u8 0) Tryz.underlying22 hi hz .i64 .i64 n n (by omega) (Int.le_refl _) (by rw [hby]; omega) (by omega)
  rw [this, hs]
  simp only [Int.toNat_natCast, made_bytes]

/-- What text has written after k rounds. -/
def txtTo (bs : List Int) (N k : Nat) : List Int := (List.range N).map fun j => if j < k then 48 + gI bs j else 0
theorem txtTo_zero (bs : List Int) (N : Nat) : txtTo bs N 0 = List.replicate N 0 := by
  apply List.ext_getElem <;> simp [txtTo]
theorem txtTo_len (bs : List Int) (N k : Nat) : (txtTo bs N k).length = N := by simp [txtTo]
theorem txtTo_next (bs : List Int) (N k : Nat) : (txtTo bs N k).set k (48 + gI bs k) = txtTo bs N (k + 1) := by
  apply List.ext_getElem?
  intro i
  simp [txtTo, List.getElem?_set]
  grind
theorem txtTo_get (bs : List Int) (N k j : Nat) (hj : j < N) (h : j < k) : gI (txtTo bs N k) j = 48 + gI bs j := by simp [gI, txtTo, List.getD, hj, h]

/-- The digits of a table as a text. -/
def bitT (bs : List Int) (N : Nat) : ByteArray := strOfNums (txtTo bs N N)

set_option maxHeartbeats 2000000 in
theorem text_ok (p : Nat) (bs : List Int) (hp : p ≤ 5) (hl : bs.length = 32) (hd : ∀ j, j < 2 ^ p → gI bs j = 0 ∨ gI bs j = 1) (w : World) :
    Calls Tryz.prog 49 #[tabV p bs] w fun e w' => e = .returned (.string (bitT bs (2 ^ p))) ∧ Below w.heap.size w w' := by
  have hp32 : (2 ^ p : Nat) ≤ 32 := Nat.pow_le_pow_right (n := 2) (by decide) hp
  have HW := Lib.hid (fun (W : World) => width_ok p bs (by omega) W)
  have HD := Lib.hid hd
  clear hd
  have HT := Lib.hid (show bitT bs (2 ^ p) = strOfNums (txtTo bs (2 ^ p) (2 ^ p)) from rfl)
  generalize hN : (2 ^ p : Nat) = N at hp32 HW HD HT
  clear hN
  have HB0 := Lib.hid (Blk.new w 66 (tabC p bs))
  have hb0 := (Below.refl w.heap.size w).alloc (Nat.le_refl _) (.cells (tabC p bs).toArray 66)
  have hmk := run_make_bytes N (by omega)
  go_enter Tryz.func49, Tryz.ntmps49
  go_wp2_with (first | (refine wpList_tabBox rfl _ rfl p bs rfl ?_) | (refine wpList_tabLoad rfl _ rfl _ p bs rfl hl _ HB0.out ?_))
  refine (HW.out _).mono ?_
  rintro e w2 ⟨rfl, b2⟩
  have c2 := hb0.trans (b2.mono hb0.size)
  have k2 := HB0.out.below b2 HB0.out.lt
  have hs2 : w.heap.size + 1 ≤ w2.heap.size := by have := b2.size; simpa using this
  clear b2 hb0
  go_wp2_with fail
  clear hmk
  go_loopw [10] (fun s wr => ∃ k : Nat, k ≤ N ∧ s = .int .i64 k ∧ Blk wr w2.heap.size 5 (byC (txtTo bs N k)) ∧ Blk wr w.heap.size 66 (tabC p bs) ∧ Below w.heap.size w wr) (fun s _ => N - (intOf s).toNat)
  case atStart => exact ⟨0, Nat.zero_le _, rfl, by rw [txtTo_zero]; exact Blk.new _ _ _, k2.alloc _, c2.alloc c2.size _⟩
  case round =>
    obtain ⟨k, hk, rfl, hB, hT, hb⟩ := hrel
    clear k2 c2
    by_cases hkN : k < N
    · have hkw : (k : Int) < (N : Int) := by omega
      have hk32 : (k : Int) < 32 := by omega
      have hx := hT.cell (tabC_get p bs k (by omega))
      have hy := hB.cell (byC_get (txtTo bs N k) k (by rw [txtTo_len]; omega))
      have hf := hB.free k
      have HS := Lib.hid (hB.set k (.int .u8 (48 + gI bs k)))
      have HO := Lib.hid (hT.other (a := ⟨w2.heap.size, k, none⟩) (by show w.heap.size ≠ w2.heap.size; omega) (.int .u8 (48 + gI bs k)))
      have HBe := Lib.hid hb
      have HL := Lib.hid hs2
      clear hB hT hb
      rcases HD.out k hkN with hq | hq
      all_goals
        rw [hq] at hx
        have HQ := Lib.hid hq
        clear hq
        go_wp2_with fail
        go_roundw
        case rel => exact ⟨k + 1, by omega, by go_num, by have := HS.out; rw [byC_set, txtTo_next, HQ.out] at this; exact this, by have := HO.out; rw [HQ.out] at this; exact this, HBe.out.setCell (by show w.heap.size ≤ w2.heap.size; have := HL.out; omega) _⟩
        case measure => simp [intOf]; omega
    · obtain rfl : k = N := by omega
      have hcv := run_convert_bytes_arg wr 22 5 Tryz.underlying22 Tryz.underlying5 w2.heap.size 0 k k (txtTo bs k k) (txtTo_len _ _ _) (fun i hi => by rw [Nat.zero_add]; exact hB.cell (byC_get _ i (by rw [txtTo_len]; exact hi))) 9 Tryz.underlying9
      clear hB hT
      go_wp2_with fail
      go_ret
      exact ⟨rett HT.out.symm, hb⟩

end Go.Proofs.YtcmjogojlijdgaaGreatDoor
/- Plain facts: the text of a table of values. -/
namespace Go.Proofs.YtcmjogojlijdgaaGreatDoor
open Go.RowKit

theorem bitT_each (f : Nat → Int) (N : Nat) (hN : N ≤ 32) (hf : ∀ j, 0 ≤ f j) : bitT (eachL f N) N = digT ((List.range N).map f) := by
  have e : txtTo (eachL f N) N N = (List.range N).map fun j => 48 + f j := by
    apply List.ext_getElem?
    intro i
    by_cases hi : i < N
    · have := eachL_get f N i (by omega) hi
      simp [txtTo, hi, this]
    · simp [txtTo, hi]
  rw [bitT, e]
  apply ByteArray.ext
  simp only [strOfNums, digT]
  congr 1
  simp only [List.map_map]
  apply List.map_congr_left
  intro j _
  have := hf j
  simp only [Function.comp]
  rw [show (48 + f j).toNat = 48 + (f j).toNat by omega]

end Go.Proofs.YtcmjogojlijdgaaGreatDoor
/- Plain facts: texts joined, as strings.Join tells it and as a loop does it. -/
namespace Go.Proofs.YtcmjogojlijdgaaGreatDoor
open Go.RowKit

theorem join_snoc (xs : List (List UInt8)) (y s : List UInt8) (h : xs ≠ []) : Lib.join (xs ++ [y]) s = Lib.join xs s ++ s ++ y := by
  cases xs with
  | nil => exact absurd rfl h
  | cons x r =>
    rw [List.cons_append, Lib.join_cons, Lib.join_cons]
    simp [Lib.joinTail, List.append_assoc]
def listF (f : Nat → ByteArray) (k : Nat) : List ByteArray := (List.range k).map f
theorem listF_next (f : Nat → ByteArray) (k : Nat) : listF f (k + 1) = listF f k ++ [f k] := by simp [listF, List.range_succ]
theorem listF_len (f : Nat → ByteArray) (k : Nat) : (listF f k).length = k := by simp [listF]
theorem join_eq (f : Nat → ByteArray) (sep : ByteArray) : ∀ n, 0 < n → (⟨(Lib.join ((listF f n).map (·.data.toList)) sep.data.toList).toArray⟩ : ByteArray) = joinF f sep n
  | 0, h => absurd h (Nat.lt_irrefl _)
  | 1, _ => by
    apply ByteArray.ext
    simp [listF, joinF, Lib.join_one]
  | n + 2, _ => by
    have ih := join_eq f sep (n + 1) (Nat.succ_pos _)
    rw [joinF_next f sep (n + 1) (Nat.succ_pos _), ← ih, listF_next, List.map_append, List.map_cons, List.map_nil, join_snoc _ _ _ (by intro e; have := congrArg List.length e; simp [listF_len] at this)]
    apply ByteArray.ext
    simp
theorem join_len (f : Nat → ByteArray) (sep : ByteArray) (n : Nat) (h : 0 < n) : (Lib.join ((listF f n).map (·.data.toList)) sep.data.toList).length = (joinF f sep n).size := by
  rw [← join_eq f sep n h]
  simp [ByteArray.size]

end Go.Proofs.YtcmjogojlijdgaaGreatDoor
/- Plain facts: a text cut at a byte, as strings.Split tells it and as a loop does it. -/
namespace Go.Proofs.YtcmjogojlijdgaaGreatDoor
open Go.RowKit

/-- The parts of a text between the bytes c. -/
def cutsP (c : UInt8) (s : ByteArray) : List ByteArray := Lib.splitB ⟨#[c]⟩ 0 (Lib.countB s ⟨#[c]⟩) s

theorem idx_one (s : ByteArray) (c : UInt8) : Lib.indexB s ⟨#[c]⟩ = Lib.indexByte s.data.toList c := by
  rw [Lib.one s ⟨#[c]⟩ rfl]
  congr 1
  show ((((⟨#[c]⟩ : ByteArray)[0]'(Nat.one_pos)).toNat : Nat) : Int).toNat.toUInt8 = c
  simp
  rfl
theorem idx_none {s : ByteArray} {c : UInt8} (h : ∀ k : Nat, s.data.toList[k]? ≠ some c) : Lib.indexB s ⟨#[c]⟩ = -1 := by
  rw [idx_one]
  have hg := Lib.indexByte_ge s.data.toList c
  by_cases hn : Lib.indexByte s.data.toList c = -1
  · exact hn
  · obtain ⟨o, ho⟩ := Int.eq_ofNat_of_zero_le (show 0 ≤ Lib.indexByte s.data.toList c by omega)
    exact absurd (Lib.indexByte_some ho).1 (h o)
theorem idx_at {s : ByteArray} {c : UInt8} {i : Nat} (h : s.data.toList[i]? = some c) (h2 : ∀ k, k < i → s.data.toList[k]? ≠ some c) : Lib.indexB s ⟨#[c]⟩ = i := by
  rw [idx_one]
  have hg := Lib.indexByte_ge s.data.toList c
  by_cases hn : Lib.indexByte s.data.toList c = -1
  · exact absurd h (Lib.indexByte_none hn i)
  · obtain ⟨o, ho⟩ := Int.eq_ofNat_of_zero_le (show 0 ≤ Lib.indexByte s.data.toList c by omega)
    obtain ⟨h3, h4⟩ := Lib.indexByte_some ho
    rcases Nat.lt_trichotomy o i with h5 | h5 | h5
    · exact absurd h3 (h2 o h5)
    · rw [ho, h5]
    · exact absurd h (h4 i h5)
theorem cutsP_miss {s : ByteArray} {c : UInt8} (h : ∀ k : Nat, s.data.toList[k]? ≠ some c) : cutsP c s = [s] := by
  rw [cutsP, Lib.countB_miss s _ (idx_none h), Lib.splitB_zero]
theorem cutsP_hit {s : ByteArray} {c : UInt8} {i : Nat} (h : s.data.toList[i]? = some c) (h2 : ∀ k, k < i → s.data.toList[k]? ≠ some c) :
    cutsP c s = s.extract 0 i :: cutsP c (s.extract (i + 1) s.size) := by
  have hi := idx_at h h2
  rw [cutsP, Lib.countB_hit s ⟨#[c]⟩ i (Nat.le_refl 1) hi, Nat.add_comm, Lib.splitB_hit _ 0 _ s i hi]
  rfl

/-- What the loop has after i bytes: the parts, and where the next begins. -/
def cutTo (c : UInt8) (s : ByteArray) : Nat → List ByteArray × Nat
  | 0 => ([], 0)
  | i + 1 => if s.data.toList[i]? = some c then ((cutTo c s i).1 ++ [s.extract (cutTo c s i).2 i], i + 1) else cutTo c s i
theorem cutTo_hit {c : UInt8} {s : ByteArray} {i : Nat} (h : s.data.toList[i]? = some c) : cutTo c s (i + 1) = ((cutTo c s i).1 ++ [s.extract (cutTo c s i).2 i], i + 1) := by rw [cutTo, if_pos h]
theorem cutTo_miss {c : UInt8} {s : ByteArray} {i : Nat} (h : s.data.toList[i]? ≠ some c) : cutTo c s (i + 1) = cutTo c s i := by rw [cutTo, if_neg h]
theorem extract_get (s : ByteArray) (a k : Nat) (h : a + k < s.size) : (s.extract a s.size).data.toList[k]? = s.data.toList[a + k]? := by
  have h' : a + k < s.data.size := h
  simp only [ByteArray.data_extract, Array.getElem?_toList]
  rw [Array.getElem?_extract]
  simp only [show s.size = s.data.size from rfl]
  rw [if_pos (by omega)]
theorem cutTo_inv (c : UInt8) (s : ByteArray) : ∀ i, i ≤ s.size → (cutTo c s i).2 ≤ i ∧ (∀ k, (cutTo c s i).2 ≤ k → k < i → s.data.toList[k]? ≠ some c) ∧ cutsP c s = (cutTo c s i).1 ++ cutsP c (s.extract (cutTo c s i).2 s.size)
  | 0, _ => ⟨Nat.le_refl _, fun k _ h => absurd h (Nat.not_lt_zero _), by
      have : s.extract 0 s.size = s := by simp
      simp [cutTo, this]⟩
  | i + 1, hi => by
    obtain ⟨h1, h2, h3⟩ := cutTo_inv c s i (by omega)
    by_cases h : s.data.toList[i]? = some c
    · rw [cutTo_hit h]
      refine ⟨Nat.le_refl _, fun k hk hk2 => absurd hk2 (by omega), ?_⟩
      generalize (cutTo c s i).1 = out at h3
      generalize (cutTo c s i).2 = fr at h1 h2 h3
      have hr : (s.extract fr s.size).data.toList[i - fr]? = some c := by
        rw [extract_get s fr (i - fr) (by omega), show fr + (i - fr) = i by omega]; exact h
      have hr2 : ∀ k, k < i - fr → (s.extract fr s.size).data.toList[k]? ≠ some c := fun k hk => by
        rw [extract_get s fr k (by omega)]; exact h2 (fr + k) (by omega) (by omega)
      have e1 : (s.extract fr s.size).extract 0 (i - fr) = s.extract fr i := by
        rw [ByteArray.extract_extract]
        congr 1
        omega
      have e2 : (s.extract fr s.size).extract (i - fr + 1) (s.extract fr s.size).size = s.extract (i + 1) s.size := by
        rw [ByteArray.extract_extract]
        have : (s.extract fr s.size).size = s.size - fr := by simp
        rw [this]
        congr 1 <;> omega
      rw [h3, cutsP_hit hr hr2, e1, e2]
      simp
    · rw [cutTo_miss h]
      exact ⟨by omega, fun k hk hk2 => by
        by_cases e : k = i
        · rw [e]; exact h
        · exact h2 k hk (by omega), h3⟩
/-- What the loop has at the end. -/
theorem cutTo_end (c : UInt8) (s : ByteArray) : cutsP c s = (cutTo c s s.size).1 ++ [s.extract (cutTo c s s.size).2 s.size] := by
  obtain ⟨h1, h2, h3⟩ := cutTo_inv c s s.size (Nat.le_refl _)
  rw [h3]
  congr 1
  refine cutsP_miss fun k => ?_
  by_cases hk : (cutTo c s s.size).2 + k < s.size
  · rw [extract_get s _ k hk]
    exact h2 _ (by omega) hk
  · have : (s.extract (cutTo c s s.size).2 s.size).data.toList.length ≤ k := by
      have e : (s.extract (cutTo c s s.size).2 s.size).data.toList.length = (s.extract (cutTo c s s.size).2 s.size).size := by simp
      rw [e]; simp; omega
    rw [List.getElem?_eq_none this]
    simp

end Go.Proofs.YtcmjogojlijdgaaGreatDoor
/- Walks: a text cut at a byte. -/
namespace Go.Proofs.YtcmjogojlijdgaaGreatDoor
open Go.RowKit

theorem at_byte (s : ByteArray) (k : Nat) (h : k < s.size) : s.data.toList[k]? = some s[k] := Lib.data_getElem? s k h
theorem cutTo_le (c : UInt8) (s : ByteArray) (i : Nat) (h : i ≤ s.size) : (cutTo c s i).2 ≤ i := (cutTo_inv c s i h).1
theorem cutTo_len (c : UInt8) (s : ByteArray) : ∀ i, (cutTo c s i).1.length ≤ i
  | 0 => Nat.le_refl _
  | i + 1 => by
    have := cutTo_len c s i
    by_cases h : s.data.toList[i]? = some c
    · rw [cutTo_hit h]; simp; omega
    · rw [cutTo_miss h]; omega

set_option maxHeartbeats 4000000 in
theorem l14Cut_ok (s : ByteArray) (c : UInt8) (w : World) (hs : s.size ≤ 1048576) :
    Calls Tryz.prog 51 #[.string s, .int .u8 c.toNat] w fun e w' => ∃ v, e = .returned v ∧ OwnT w' w.heap.size v (cutsP c s) ∧ Below w.heap.size w w' := by
  go_enter Tryz.func51, Tryz.ntmps51
  go_wp2
  go_loopw [5, 6, 7] (fun v f i wr => ∃ k : Nat, k ≤ s.size + 1 ∧ i = .int .i64 k ∧ (k ≤ s.size → OwnT wr w.heap.size v (cutTo c s k).1 ∧ f = .int .i64 (cutTo c s k).2) ∧ (s.size < k → OwnT wr w.heap.size v (cutsP c s)) ∧ Below w.heap.size w wr) (fun _ _ i _ => s.size + 1 - (intOf i).toNat)
  case atStart => exact ⟨0, Nat.zero_le _, rfl, fun _ => ⟨OwnT.lit _ _ [] (Nat.le_refl _) (by decide), rfl⟩, fun h => absurd h (Nat.not_lt_zero _), (Below.refl _ _).alloc (Nat.le_refl _) _⟩
  case round =>
    obtain ⟨k, hk, rfl, h1, h2, hb⟩ := hrel
    have HB := Lib.hid hb
    have H2 := Lib.hid h2
    clear h2 hb
    by_cases hle : k ≤ s.size
    · obtain ⟨ho, rfl⟩ := h1 hle
      have HO := Lib.hid ho
      have hfr := cutTo_le c s k hle
      have HL := Lib.hid (cutTo_len c s k)
      have hle' : (k : Int) ≤ (s.size : Int) := by omega
      clear h1 ho
      by_cases hlt : k < s.size
      · have hne : ((k : Int) == (s.size : Int)) = false := by
          have : ¬ (k : Int) = (s.size : Int) := by omega
          simpa using this
        by_cases hq : s[k] = c
        · have hqb : (((s[k].toNat : Nat) : Int) == ((c.toNat : Nat) : Int)) = true := by simp [hq]
          have HH := Lib.hid (cutTo_hit (c := c) (s := s) (i := k) (by rw [at_byte s k hlt, hq]))
          have HCe := Lib.hid (fun (W : World) => (Blk.new W 9 [.string (s.extract (cutTo c s k).2 k)]).cell (i := 0) rfl)
          clear hq
          generalize (cutTo c s k).2 = fr at hfr HH HCe
          have hfr' : (fr : Int) ≤ (k : Int) := by omega
          go_wp2_with (at_builtin; go_must (refine wpList_appT (OwnT.alloc HO.out _) (HCe.out _) rfl _ _ rfl rfl rfl (by have := HL.out; omega) (by have := HB.out.size; simp; omega) ?_); intro v3 w3 o3 g3)
          go_roundw
          case rel => exact ⟨k + 1, by omega, by go_num, fun _ => by rw [HH.out]; exact ⟨o3, by go_num⟩, fun h => by omega, (HB.out.alloc HB.out.size _).grown g3 (by have := HB.out.size; simp; omega) (fun j hj => (World.ownsRow.lt HO.out j hj).1)⟩
          case measure => simp [intOf] <;> omega
        · have hqb : (((s[k].toNat : Nat) : Int) == ((c.toNat : Nat) : Int)) = false := by
            rw [beq_eq_false_iff_ne]
            exact fun e => hq (Lib.byte_eq_of_toNat e)
          have HH := Lib.hid (cutTo_miss (c := c) (s := s) (i := k) (by rw [at_byte s k hlt]; simpa using hq))
          clear hq
          go_wp2_with fail
          go_roundw
          case rel => exact ⟨k + 1, by omega, by go_num, fun _ => by rw [HH.out]; exact ⟨HO.out, rfl⟩, fun h => by omega, HB.out⟩
          case measure => simp [intOf] <;> omega
      · obtain rfl : k = s.size := by omega
        have HE := Lib.hid (cutTo_end c s)
        have HCe := Lib.hid (fun (W : World) => (Blk.new W 9 [.string (s.extract (cutTo c s s.size).2 s.size)]).cell (i := 0) rfl)
        generalize (cutTo c s s.size).2 = fr at hfr HE HCe
        have hfr' : (fr : Int) ≤ (s.size : Int) := by omega
        go_wp2_with (at_builtin; go_must (refine wpList_appT (OwnT.alloc HO.out _) (HCe.out _) rfl _ _ rfl rfl rfl (by have := HL.out; omega) (by have := HB.out.size; simp; omega) ?_); intro v3 w3 o3 g3)
        go_roundw
        case rel => exact ⟨s.size + 1, by omega, by go_num, fun h => by omega, fun _ => by rw [HE.out]; exact o3, (HB.out.alloc HB.out.size _).grown g3 (by have := HB.out.size; simp; omega) (fun j hj => (World.ownsRow.lt HO.out j hj).1)⟩
        case measure => simp [intOf] <;> omega
    · have hlt : s.size < k := by omega
      have hle' : ¬ (k : Int) ≤ (s.size : Int) := by omega
      clear h1
      go_wp2
      go_ret
      exact ⟨_, rfl, H2.out hlt, HB.out⟩

end Go.Proofs.YtcmjogojlijdgaaGreatDoor
/- Walks: tables and networks as texts. -/
namespace Go.Proofs.YtcmjogojlijdgaaGreatDoor
open Go.RowKit

/-- Of how many inputs a table of so many values is; -1 if of none. -/
def inpV (k : Nat) : Int := if k = 2 then 1 else if k = 4 then 2 else if k = 8 then 3 else if k = 16 then 4 else if k = 32 then 5 else -1
theorem inpV_pow (n : Nat) (h : 1 ≤ n ∧ n ≤ 5) : inpV (2 ^ n) = n := by
  have : n = 1 ∨ n = 2 ∨ n = 3 ∨ n = 4 ∨ n = 5 := by omega
  rcases this with rfl | rfl | rfl | rfl | rfl <;> rfl
theorem inpV_none {k : Nat} (h : ∀ n : Nat, 1 ≤ n → n ≤ 5 → k ≠ 2 ^ n) : inpV k = -1 := by
  have h1 := h 1 (by omega) (by omega)
  have h2 := h 2 (by omega) (by omega)
  have h3 := h 3 (by omega) (by omega)
  have h4 := h 4 (by omega) (by omega)
  have h5 := h 5 (by omega) (by omega)
  simp only [inpV]
  rw [if_neg (by omega), if_neg (by omega), if_neg (by omega), if_neg (by omega), if_neg (by omega)]
theorem inpV_eq {k : Nat} {n : Nat} (hn : 1 ≤ n) (h : inpV k = n) : n ≤ 5 ∧ k = 2 ^ n := by
  simp only [inpV] at h
  split at h
  · have : n = 1 := by omega
    subst this; omega
  split at h
  · have : n = 2 := by omega
    subst this; omega
  split at h
  · have : n = 3 := by omega
    subst this; omega
  split at h
  · have : n = 4 := by omega
    subst this; omega
  split at h
  · have : n = 5 := by omega
    subst this; omega
  · omega

set_option maxHeartbeats 1000000 in
theorem l1Inputs_ok (k : Nat) (_ : k ≤ 1048576) (w : World) :
    Calls Tryz.prog 53 #[.int .i64 k] w fun e w' => e = .returned (.int .i64 (inpV k)) ∧ w = w' := by
  go_enter Tryz.func53, Tryz.ntmps53
  go_wp2
  go_loop [3] (fun i => ∃ q : Nat, 1 ≤ q ∧ q ≤ 6 ∧ i = .int .i64 q ∧ (∀ j : Nat, 1 ≤ j → j < q → k ≠ 2 ^ j)) (fun i => 6 - (intOf i).toNat)
  case atStart => exact ⟨1, by omega, by omega, rfl, fun j h1 h2 => by omega⟩
  case round =>
    obtain ⟨q, hq1, hq6, rfl, hno⟩ := hrel
    have HN := Lib.hid hno
    clear hno
    by_cases hlt : q < 6
    · have hq5 : (q : Int) ≤ 5 := by omega
      have hw : wrap64 (2 ^ q) = ((2 ^ q : Nat) : Int) := wrap_pow_nat q (by omega)
      by_cases he : k = 2 ^ q
      · have hb : ((k : Int) == wrap64 (2 ^ q)) = true := by rw [hw, he]; simp
        have HE := Lib.hid he
        clear he hw
        go_wp2
        go_ret
        exact ⟨reti (by rw [HE.out, inpV_pow q (by omega)]), rfl⟩
      · have hb : ((k : Int) == wrap64 (2 ^ q)) = false := by
          rw [hw, beq_eq_false_iff_ne]
          exact fun e => he (by exact_mod_cast e)
        have HE := Lib.hid he
        clear he hw
        go_wp2
        go_round
        case rel => exact ⟨q + 1, by omega, by omega, by go_num, fun j h1 h2 => by
            by_cases e : j = q
            · rw [e]; exact HE.out
            · exact HN.out j h1 (by omega)⟩
        case measure => simp [intOf]; omega
    · obtain rfl : q = 6 := by omega
      have HV := Lib.hid (inpV_none (k := k) fun n h1 h2 => HN.out n h1 (by omega))
      go_wp2
      go_ret
      exact ⟨reti HV.out.symm, rfl⟩

def isD (b : UInt8) : Bool := b == 48 || b == 49
theorem isD_int (b : UInt8) : isD b = true ↔ (b.toNat : Int) = 48 ∨ (b.toNat : Int) = 49 := by
  simp only [isD, Bool.or_eq_true, beq_iff_eq]
  constructor
  · rintro (rfl | rfl) <;> simp
  · rintro (h | h)
    · exact .inl (Lib.byte_eq_of_toNat (by rw [h]; rfl))
    · exact .inr (Lib.byte_eq_of_toNat (by rw [h]; rfl))
/-- Whether a text is of digits 0 and 1. -/
def digB (f : ByteArray) : Bool := f.data.toList.all isD
theorem digB_not {f : ByteArray} {k : Nat} (hk : k < f.size) (h : isD f[k] = false) : digB f = false := by
  rw [digB, List.all_eq_false]
  exact ⟨f[k], List.mem_of_getElem? (at_byte f k hk), by simp [h]⟩
theorem digB_yes {f : ByteArray} (h : ∀ k (hk : k < f.size), isD f[k] = true) : digB f = true := by
  rw [digB, List.all_eq_true]
  intro b hb
  obtain ⟨i, hi, rfl⟩ := List.getElem_of_mem hb
  have hi' : i < f.size := by simpa using hi
  have := at_byte f i hi'
  rw [List.getElem?_eq_getElem hi] at this
  rw [Option.some.inj this]
  exact h i hi'
def tvB (f : ByteArray) : Bool := digB f && decide (0 < inpV f.size)

set_option maxHeartbeats 1000000 in
theorem tblS_ok (f : ByteArray) (hs : f.size ≤ 1048576) (w : World) :
    Calls Tryz.prog 52 #[.string f] w fun e w' => e = .returned (.bool (tvB f)) ∧ w = w' := by
  go_enter Tryz.func52, Tryz.ntmps52
  go_wp2
  go_loop [3] (fun i => ∃ k : Nat, k ≤ f.size ∧ i = .int .i64 k ∧ (∀ j (_ : j < k) (h2 : j < f.size), isD f[j] = true)) (fun i => f.size - (intOf i).toNat)
  case atStart => exact ⟨0, Nat.zero_le _, rfl, fun j h => absurd h (Nat.not_lt_zero _)⟩
  case round =>
    obtain ⟨k, hk, rfl, hno⟩ := hrel
    have HN := Lib.hid hno
    clear hno
    by_cases hlt : k < f.size
    · by_cases h0 : ((f[k].toNat : Nat) : Int) = 48
      · have b0 : (((f[k].toNat : Nat) : Int) != 48) = false := by simp [h0]
        have HQ := Lib.hid ((isD_int f[k]).2 (.inl h0))
        clear h0
        go_wp2
        go_round
        case rel => exact ⟨k + 1, by omega, by go_num, fun j hj h2 => by
            by_cases e : j = k
            · subst e; exact HQ.out
            · exact HN.out j (by omega) h2⟩
        case measure => simp [intOf]; omega
      · have b0 : (((f[k].toNat : Nat) : Int) != 48) = true := by simp [h0]
        by_cases h1 : ((f[k].toNat : Nat) : Int) = 49
        · have b1 : (((f[k].toNat : Nat) : Int) != 49) = false := by simp [h1]
          have HQ := Lib.hid ((isD_int f[k]).2 (.inr h1))
          clear h0 h1
          go_wp2
          go_round
          case rel => exact ⟨k + 1, by omega, by go_num, fun j hj h2 => by
              by_cases e : j = k
              · subst e; exact HQ.out
              · exact HN.out j (by omega) h2⟩
          case measure => simp [intOf]; omega
        · have b1 : (((f[k].toNat : Nat) : Int) != 49) = true := by simp [h1]
          have hq : isD f[k] = false := by
            rw [Bool.eq_false_iff]
            intro e
            rcases (isD_int f[k]).1 e with e | e
            · exact h0 e
            · exact h1 e
          have HQ := Lib.hid (digB_not hlt hq)
          clear h0 h1 hq
          go_wp2
          go_ret
          exact ⟨retb (by rw [tvB, HQ.out]; rfl), rfl⟩
    · obtain rfl : k = f.size := by omega
      have HQ := Lib.hid (digB_yes (f := f) fun j hj => HN.out j hj hj)
      go_wp2_with (go_at_call 53; refine (l1Inputs_ok f.size hs _).mono ?_; rintro e w' ⟨rfl, rfl⟩)
      go_ret
      exact ⟨retb (by rw [tvB, HQ.out]; rfl), rfl⟩

end Go.Proofs.YtcmjogojlijdgaaGreatDoor
/- Walks: a network as a text. -/
namespace Go.Proofs.YtcmjogojlijdgaaGreatDoor
open Go.RowKit

/-- Whether parts are the tables of a network. -/
def netB (ps : List ByteArray) : Bool := ps.all fun t => digB t && decide (inpV t.size = (ps.length : Int))
theorem netB_not {ps : List ByteArray} {k : Nat} (hk : k < ps.length) (h : (digB (gT ps k) && decide (inpV (gT ps k).size = (ps.length : Int))) = false) : netB ps = false := by
  rw [netB, List.all_eq_false]
  exact ⟨gT ps k, List.mem_of_getElem? (gT_lt hk), by simpa using h⟩
theorem netB_yes {ps : List ByteArray} (h : ∀ k, k < ps.length → (digB (gT ps k) && decide (inpV (gT ps k).size = (ps.length : Int))) = true) : netB ps = true := by
  rw [netB, List.all_eq_true]
  intro t ht
  obtain ⟨i, hi, rfl⟩ := List.getElem_of_mem ht
  have := h i hi
  rwa [show gT ps i = ps[i] by simp [gT, List.getD, hi]] at this
theorem netB_get {ps : List ByteArray} (h : netB ps = true) (k : Nat) (hk : k < ps.length) : digB (gT ps k) = true ∧ inpV (gT ps k).size = (ps.length : Int) := by
  rw [netB, List.all_eq_true] at h
  have := h (gT ps k) (List.mem_of_getElem? (gT_lt hk))
  simpa using this
def netL (ps : List ByteArray) : List ByteArray := if netB ps = true then ps else []
theorem netL_yes {ps : List ByteArray} (h : netB ps = true) : netL ps = ps := by simp [netL, h]
theorem netL_no {ps : List ByteArray} (h : netB ps = false) : netL ps = [] := by simp [netL, h]
theorem retv {v : Value} {c d : Bool} (h : c = d) : Ending.returned (.tuple #[v, .bool c]) = .returned (.tuple #[v, .bool d]) := by rw [h]
theorem cutsP_size (c : UInt8) (s : ByteArray) (t : ByteArray) (ht : t ∈ cutsP c s) : t.size ≤ s.size := by
  rw [cutTo_end] at ht
  have key : ∀ i, ∀ t ∈ (cutTo c s i).1, t.size ≤ s.size := by
    intro i
    induction i with
    | zero => intro t ht; cases ht
    | succ i ih =>
      intro t ht
      by_cases h : s.data.toList[i]? = some c
      · rw [cutTo_hit h] at ht
        rcases List.mem_append.1 ht with h1 | h1
        · exact ih t h1
        · rw [List.mem_singleton.1 h1]; simp; omega
      · rw [cutTo_miss h] at ht; exact ih t ht
  rcases List.mem_append.1 ht with h1 | h1
  · exact key _ t h1
  · rw [List.mem_singleton.1 h1]; simp
theorem cutsP_pos (c : UInt8) (s : ByteArray) : 0 < (cutsP c s).length := by rw [cutTo_end]; simp
theorem cutsP_len (c : UInt8) (s : ByteArray) : (cutsP c s).length ≤ s.size + 1 := by
  rw [cutTo_end]
  have := cutTo_len c s s.size
  simp; omega

set_option maxHeartbeats 2000000 in
theorem l3Open_ok (s : ByteArray) (w : World) (hs : s.size ≤ 1048576) :
    Calls Tryz.prog 27 #[.string s] w fun e w' => ∃ v, e = .returned (.tuple #[v, .bool (netB (cutsP 44 s))]) ∧ OwnT w' w.heap.size v (netL (cutsP 44 s)) ∧ Below w.heap.size w w' := by
  have HC := Lib.hid (l14Cut_ok s 44 w hs)
  have hpl := cutsP_len 44 s
  have hpz := cutsP_size 44 s
  generalize cutsP 44 s = ps at HC hpl hpz
  go_enter Tryz.func27, Tryz.ntmps27
  go_wp2_with fail
  refine HC.out.mono ?_
  rintro e w1 ⟨v, rfl, o1, b1⟩
  have HO := Lib.hid o1
  obtain ⟨a, cp, rfl, q⟩ := o1.row
  have HS := Lib.hid (fun k (hk : k < ps.length) => Nat.le_trans (hpz (gT ps k) (List.mem_of_getElem? (gT_lt hk))) hs)
  clear hpz
  go_wp2_with fail
  go_loop [5] (fun i => ∃ k : Nat, k ≤ ps.length ∧ i = .int .i64 k ∧ (∀ j, j < k → (digB (gT ps j) && decide (inpV (gT ps j).size = (ps.length : Int))) = true)) (fun i => ps.length - (intOf i).toNat)
  case atStart => exact ⟨0, Nat.zero_le _, rfl, fun j h => absurd h (Nat.not_lt_zero _)⟩
  case round =>
    obtain ⟨k, hk, rfl, hno⟩ := hrel
    have HN := Lib.hid hno
    clear hno
    by_cases hlt : k < ps.length
    · obtain ⟨b, o, rfl, hbo⟩ := q.2.some (by omega)
      have hcx := q.2.cell b o rfl k hlt
      have hlt' : (k : Int) < (ps.length : Int) := by omega
      have hz := HS.out k hlt
      have HT := Lib.hid (tblS_ok (gT ps k) hz w1)
      have HI := Lib.hid (l1Inputs_ok (gT ps k).size hz w1)
      clear q
      cases ht : tvB (gT ps k) with
      | false =>
        have hb : (digB (gT ps k) && decide (inpV (gT ps k).size = (ps.length : Int))) = false := by
          rw [Bool.and_eq_false_iff]
          rw [tvB, Bool.and_eq_false_iff] at ht
          rcases ht with h | h
          · exact .inl h
          · refine .inr ?_
            simp only [decide_eq_false_iff_not] at h ⊢
            omega
        have HQ := Lib.hid (netB_not hlt hb)
        rw [ht] at HT
        clear ht hb
        go_wp2_with fail
        refine HT.out.mono ?_
        rintro e w2 ⟨rfl, rfl⟩
        go_wp2_with fail
        go_ret2
        exact ⟨_, retv HQ.out.symm, by rw [netL_no HQ.out]; exact OwnT.lit _ _ [] b1.size (by decide), b1.alloc b1.size _⟩
      | true =>
        rw [ht] at HT
        by_cases he : inpV (gT ps k).size = (ps.length : Int)
        · have hne : (inpV (gT ps k).size != (ps.length : Int)) = false := by simp [he]
          have hb : (digB (gT ps k) && decide (inpV (gT ps k).size = (ps.length : Int))) = true := by
            rw [tvB, Bool.and_eq_true] at ht
            rw [ht.1, decide_eq_true he]; rfl
          have HQ := Lib.hid hb
          clear ht hb he
          generalize inpV (gT ps k).size = u at hne HI
          go_wp2_with fail
          refine HT.out.mono ?_
          rintro e w2 ⟨rfl, rfl⟩
          go_wp2_with fail
          refine HI.out.mono ?_
          rintro e w2 ⟨rfl, rfl⟩
          go_wp2_with fail
          go_round
          case rel => exact ⟨k + 1, by omega, by go_num, fun j hj => by
              by_cases e : j = k
              · rw [e]; exact HQ.out
              · exact HN.out j (by omega)⟩
          case measure => simp [intOf]; omega
        · have hne : (inpV (gT ps k).size != (ps.length : Int)) = true := by simp [he]
          have hb : (digB (gT ps k) && decide (inpV (gT ps k).size = (ps.length : Int))) = false := by
            rw [decide_eq_false he]; simp
          have HQ := Lib.hid (netB_not hlt hb)
          clear ht hb he
          generalize inpV (gT ps k).size = u at hne HI
          go_wp2_with fail
          refine HT.out.mono ?_
          rintro e w2 ⟨rfl, rfl⟩
          go_wp2_with fail
          refine HI.out.mono ?_
          rintro e w2 ⟨rfl, rfl⟩
          go_wp2_with fail
          go_ret2
          exact ⟨_, retv HQ.out.symm, by rw [netL_no HQ.out]; exact OwnT.lit _ _ [] b1.size (by decide), b1.alloc b1.size _⟩
    · obtain rfl : k = ps.length := by omega
      have HQ := Lib.hid (netB_yes HN.out)
      clear q
      go_wp2_with fail
      go_ret2
      exact ⟨_, retv HQ.out.symm, by rw [netL_yes HQ.out]; exact HO.out, b1⟩

end Go.Proofs.YtcmjogojlijdgaaGreatDoor
