/- Walks: a table of a value for each state; its text. -/
import Derived.Test.YtlfadpfodmpneaaDoorT1
namespace Go.Proofs.YtlfadpfodmpneaaDoor
open Go.RowKit

def eachL (f : Nat → Int) (k : Nat) : List Int := (List.range 32).map fun j => if j < k then f j else 0
theorem eachL_zero (f : Nat → Int) : eachL f 0 = z32 := by simp [eachL, z32]; rfl
theorem eachL_len (f : Nat → Int) (k : Nat) : (eachL f k).length = 32 := by simp [eachL]
theorem eachL_next (f : Nat → Int) (k : Nat) (hk : k < 32) : (eachL f k).set k (f k) = eachL f (k + 1) := by
  apply List.ext_getElem?
  intro i
  simp [eachL, List.getElem?_set]
  grind
theorem eachL_get (f : Nat → Int) (k j : Nat) (hj : j < 32) (h : j < k) : gI (eachL f k) j = f j := by simp [gI, eachL, List.getD, hj, h]

end Go.Proofs.YtlfadpfodmpneaaDoor
