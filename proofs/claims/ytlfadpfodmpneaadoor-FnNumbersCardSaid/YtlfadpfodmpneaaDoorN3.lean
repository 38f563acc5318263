/- Walks: tables and networks as texts. -/
import Derived.Test.YtlfadpfodmpneaaDoorN2
import Derived.Test.YtlfadpfodmpneaaDoorA1
namespace Go.Proofs.YtlfadpfodmpneaaDoor
open Go.RowKit

/-- Of how many inputs a table of so many values is; -1 if of none. -/
def inpV (k : Nat) : Int := if k = 2 then 1 else if k = 4 then 2 else if k = 8 then 3 else if k = 16 then 4 else if k = 32 then 5 else -1
theorem inpV_pow (n : Nat) (h : 1 ≤ n ∧ n ≤ 5) : inpV (2 ^ n) = n := by
  have : n = 1 ∨ n = 2 ∨ n = 3 ∨ n = 4 ∨ n = 5 := by omega
  rcases this with rfl | rfl | rfl | rfl | rfl <;> rfl
theorem inpV_none {k : Nat} (h : ∀ n : Nat, 1 ≤ n → n ≤ 5 → k ≠ 2 ^ n) : inpV k = -1 := by
  have h1 := h 1 (by omega) (by omega)
  have h2 := h 2 (by omega) (by omega)
  have h3 := h 3 (by omega) (by omega)
  have h4 := h 4 (by omega) (by omega)
  have h5 := h 5 (by omega) (by omega)
  simp only [inpV]
  rw [if_neg (by omega), if_neg (by omega), if_neg (by omega), if_neg (by omega), if_neg (by omega)]
theorem inpV_eq {k : Nat} {n : Nat} (hn : 1 ≤ n) (h : inpV k = n) : n ≤ 5 ∧ k = 2 ^ n := by
  simp only [inpV] at h
  split at h
  · have : n = 1 := by omega
    subst this; omega
  split at h
  · have : n = 2 := by omega
    subst this; omega
  split at h
  · have : n = 3 := by omega
    subst this; omega
  split at h
  · have : n = 4 := by omega
    subst this; omega
  split at h
  · have : n = 5 := by omega
    subst this; omega
  · omega

def isD (b : UInt8) : Bool := b == 48 || b == 49
theorem isD_int (b : UInt8) : isD b = true ↔ (b.toNat : Int) = 48 ∨ (b.toNat : Int) = 49 := by
  simp only [isD, Bool.or_eq_true, beq_iff_eq]
  constructor
  · rintro (rfl | rfl) <;> simp
  · rintro (h | h)
    · exact .inl (Lib.byte_eq_of_toNat (by rw [h]; rfl))
    · exact .inr (Lib.byte_eq_of_toNat (by rw [h]; rfl))
/-- Whether a text is of digits 0 and 1. -/
def digB (f : ByteArray) : Bool := f.data.toList.all isD
theorem digB_not {f : ByteArray} {k : Nat} (hk : k < f.size) (h : isD f[k] = false) : digB f = false := by
  rw [digB, List.all_eq_false]
  exact ⟨f[k], List.mem_of_getElem? (at_byte f k hk), by simp [h]⟩
theorem digB_yes {f : ByteArray} (h : ∀ k (hk : k < f.size), isD f[k] = true) : digB f = true := by
  rw [digB, List.all_eq_true]
  intro b hb
  obtain ⟨i, hi, rfl⟩ := List.getElem_of_mem hb
  have hi' : i < f.size := by simpa using hi
  have := at_byte f i hi'
  rw [List.getElem?_eq_getElem hi] at this
  rw [Option.some.inj this]
  exact h i hi'
def tvB (f : ByteArray) : Bool := digB f && decide (0 < inpV f.size)

end Go.Proofs.YtlfadpfodmpneaaDoor
