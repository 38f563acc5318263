/- Walks: bytes of texts, terms. -/
import Derived.Test.YtlfeipibhdggcaaA1
namespace Go.Proofs.Ytlfeipibhdggcaa
open Go.RowKit

theorem at_list (s : ByteArray) (k : Nat) (h : k < s.size) : s.data.toList[k]'(by simpa using h) = s[k] := rfl

theorem ne_int {a b : Int} (h : a ≠ b) : (a != b) = true := by simp [h]
theorem eq_int {a b : Int} (h : a = b) : (a != b) = false := by simp [h]

theorem all_term {s : ByteArray} (h : ∀ j (h2 : j < s.size), isT s[j] = true) : s.data.toList.all isT = true := by
  refine List.all_eq_true.2 fun b hb => ?_
  obtain ⟨j, hj, rfl⟩ := List.getElem_of_mem hb
  exact h j (by simpa using hj)
theorem not_all_term {s : ByteArray} {k : Nat} (hlt : k < s.size) (h : ¬ isT s[k] = true) : s.data.toList.all isT = false := by
  rw [List.all_eq_false]
  exact ⟨s[k], by rw [← at_list s k hlt]; exact List.getElem_mem _, h⟩

theorem at_getD (s : ByteArray) (k : Nat) (h : k < s.size) : s.data.toList.getD k 42 = s[k] := by
  have : s.data.toList[k]? = some s[k] := by rw [List.getElem?_eq_getElem (by simpa using h)]; rfl
  simp [List.getD, this]
theorem star_iff (b : UInt8) : b = 42 ↔ ((b.toNat : Nat) : Int) = 42 := by
  have e1 : (42 : UInt8).toNat = 42 := rfl
  rw [← UInt8.toNat_inj, e1]; omega
theorem heldTo_star {s : ByteArray} {k : Nat} (h : k < s.size) (e : ((s[k].toNat : Nat) : Int) = 42) : heldTo s.data.toList (k + 1) = heldTo s.data.toList k := by
  rw [heldTo_succ, at_getD s k h, if_pos ((star_iff _).2 e)]
theorem heldTo_held {s : ByteArray} {k : Nat} (h : k < s.size) (e : ((s[k].toNat : Nat) : Int) ≠ 42) : heldTo s.data.toList (k + 1) = heldTo s.data.toList k ||| 2 ^ k := by
  rw [heldTo_succ, at_getD s k h, if_neg (fun h => e ((star_iff _).1 h))]

def heldV (l : List UInt8) : Int := if termB l l.length then heldTo l l.length else -1

end Go.Proofs.Ytlfeipibhdggcaa
