/- Walks: IsPossible; the laws on Explains and IsPossible. -/
import Derived.Test.YtlfeipibhdggcaaA7
namespace Go.Proofs.Ytlfeipibhdggcaa
open Go.RowKit Go.Maps

noncomputable def possV (zs : List (Int × Int)) (m : Int) : Bool := seenB zs m && (List.range m.toNat).all fun i => agreeB zs i (2 ^ m.toNat - 1) zs.length

theorem poss_yes {zs : List (Int × Int)} {m : Nat} (hs : seenB zs m = true) (h : ∀ i, i < m → Agree zs i (2 ^ m - 1) zs.length) : possV zs m = true := by
  rw [possV, hs, Bool.true_and, List.all_eq_true]
  intro i hi
  rw [Int.toNat_natCast] at hi ⊢
  exact agreeB_true (h i (List.mem_range.1 hi))
theorem poss_no {zs : List (Int × Int)} {m k : Nat} (hk : k < m) (h : ¬ Agree zs k (2 ^ m - 1) zs.length) : possV zs m = false := by
  rw [possV, Bool.and_eq_false_iff]
  right
  rw [List.all_eq_false, Int.toNat_natCast]
  exact ⟨k, List.mem_range.2 hk, by rw [agreeB_false h]; simp⟩

end Go.Proofs.Ytlfeipibhdggcaa
