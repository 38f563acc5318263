/- Tables of the program: a struct of 33 cells, by laws that don't open it. -/
import Derived.Test.YtlfadpfodmpneaaDoorA1
import Derived.Laws.Tables
import Derived.Laws.CopyOwn
import Derived.Deep.MidRow
import Derived.Great.Walk
import Derived.Great.Ranges
namespace Go.Proofs.YtlfadpfodmpneaaDoor
open Go.RowKit

/-- The cells of a table. -/
def tabC (n : Int) (bs : List Int) : List Value := .int .i64 n :: bs.map (.int .u8)
def z32 : List Int := List.replicate 32 0
/-- A table as a value. -/
def tabV (n : Int) (bs : List Int) : Value := .agg (tabC n bs).toArray

theorem tabC_len (n : Int) (bs : List Int) : (tabC n bs).length = bs.length + 1 := by simp [tabC]
theorem tabC_zero (n : Int) (bs : List Int) : (tabC n bs)[0]? = some (.int .i64 n) := rfl
theorem tabC_get (n : Int) (bs : List Int) (k : Nat) (h : k < bs.length) : (tabC n bs)[1 + k]? = some (.int .u8 (gI bs k)) := by
  rw [Nat.add_comm]
  simp [tabC, gI_lt h]
theorem tabC_set (n : Int) (bs : List Int) (k : Nat) (v : Int) : (tabC n bs).set (1 + k) (.int .u8 v) = tabC n (bs.set k v) := by
  rw [Nat.add_comm]
  simp [tabC, List.map_set]
theorem tabC_one (n : Int) (bs : List Int) : (tabC n bs).toArray.all (·.oneCell') = true := by
  refine Array.all_eq_true_iff_forall_mem.2 fun v hv => ?_
  simp only [tabC, List.mem_toArray, List.mem_cons, List.mem_map] at hv
  rcases hv with rfl | ⟨x, _, rfl⟩ <;> rfl

end Go.Proofs.YtlfadpfodmpneaaDoor
