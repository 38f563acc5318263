/- Plain facts: the text of a table of values. -/
import Derived.Test.YthgjmciiaikgoaaDoorT3
import Derived.Test.YthgjmciiaikgoaaDoorTx
namespace Go.Proofs.YthgjmciiaikgoaaDoor
open Go.RowKit

theorem bitT_each (f : Nat → Int) (N : Nat) (hN : N ≤ 32) (hf : ∀ j, 0 ≤ f j) : bitT (eachL f N) N = digT ((List.range N).map f) := by
  have e : txtTo (eachL f N) N N = (List.range N).map fun j => 48 + f j := by
    apply List.ext_getElem?
    intro i
    by_cases hi : i < N
    · have := eachL_get f N i (by omega) hi
      simp [txtTo, hi, this]
    · simp [txtTo, hi]
  rw [bitT, e]
  apply ByteArray.ext
  simp only [strOfNums, digT]
  congr 1
  simp only [List.map_map]
  apply List.map_congr_left
  intro j _
  have := hf j
  simp only [Function.comp]
  rw [show (48 + f j).toNat = 48 + (f j).toNat by omega]

end Go.Proofs.YthgjmciiaikgoaaDoor
