/- Walks: digits as a text. -/
import Derived.Test.YtlfadpfodmpneaaDoorA1
namespace Go.Proofs.YtlfadpfodmpneaaDoor
open Go.RowKit

/-- Digits as a text. -/
def digT (zs : List Int) : ByteArray := ⟨(zs.map fun v => UInt8.ofNat (48 + v.toNat)).toArray⟩
theorem digT_size (zs : List Int) : (digT zs).size = zs.length := by simp [digT, ByteArray.size]
theorem digT_app (xs ys : List Int) : digT xs ++ digT ys = digT (xs ++ ys) := by
  apply ByteArray.ext
  simp [digT]
theorem digT_nil : digT [] = ⟨#[]⟩ := rfl
theorem digT_0 : digT [0] = ⟨#[48]⟩ := rfl
theorem digT_1 : digT [1] = ⟨#[49]⟩ := rfl
theorem digT_next {zs : List Int} {k : Nat} (hk : k < zs.length) : digT (zs.take (k + 1)) = digT (zs.take k) ++ digT [gI zs k] := by
  rw [digT_app, take_succ_of zs k _ (gI_lt hk)]

end Go.Proofs.YtlfadpfodmpneaaDoor
