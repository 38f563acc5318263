/- Walks: a table read from a text, as the program does it. -/
import Derived.Test.YtlfadpfodmpneaaDoorN3
import Derived.Test.YtlfadpfodmpneaaDoorT2
namespace Go.Proofs.YtlfadpfodmpneaaDoor
open Go.RowKit

/-- The digit at a place of a text. -/
def byD (t : ByteArray) (s : Nat) : Int := (((t.data.toList.getD s 48).toNat : Nat) : Int) - 48
theorem byD_at (t : ByteArray) (s : Nat) (h : s < t.size) : byD t s = ((t[s].toNat : Nat) : Int) - 48 := by
  rw [byD, List.getD_eq_getElem?_getD, at_byte t s h]; rfl
theorem byD_bit {t : ByteArray} (h : digB t = true) (s : Nat) : byD t s = 0 ∨ byD t s = 1 := by
  by_cases hs : s < t.size
  · rw [digB, List.all_eq_true] at h
    have := (isD_int _).1 (h t[s] (List.mem_of_getElem? (at_byte t s hs)))
    rw [byD_at t s hs]; omega
  · rw [byD, List.getD_eq_getElem?_getD, List.getElem?_eq_none (by simp; omega)]
    exact .inl rfl

/-- What readTable gives. -/
def rtV (t : ByteArray) : Value := if tvB t = true then tabV (inpV t.size) (eachL (byD t) t.size) else tabV 0 z32
theorem rtV_no {t : ByteArray} (h : tvB t = false) : rtV t = tabV 0 z32 := by simp [rtV, h]
theorem rtV_yes {t : ByteArray} (h : tvB t = true) : rtV t = tabV (inpV t.size) (eachL (byD t) t.size) := by simp [rtV, h]

theorem retr {a a' : Value} {c c' : Bool} (h : a = a') (h' : c = c') : Ending.returned (.tuple #[a, .bool c]) = .returned (.tuple #[a', .bool c']) := by rw [h, h']

end Go.Proofs.YtlfadpfodmpneaaDoor
