/- Plain facts: texts joined, as strings.Join tells it and as a loop does it. -/
import Derived.Test.YtlfadpfodmpneaaDoorS1
import Derived.Lib.Join
namespace Go.Proofs.YtlfadpfodmpneaaDoor
open Go.RowKit

theorem join_snoc (xs : List (List UInt8)) (y s : List UInt8) (h : xs ≠ []) : Lib.join (xs ++ [y]) s = Lib.join xs s ++ s ++ y := by
  cases xs with
  | nil => exact absurd rfl h
  | cons x r =>
    rw [List.cons_append, Lib.join_cons, Lib.join_cons]
    simp [Lib.joinTail, List.append_assoc]
def listF (f : Nat → ByteArray) (k : Nat) : List ByteArray := (List.range k).map f
theorem listF_next (f : Nat → ByteArray) (k : Nat) : listF f (k + 1) = listF f k ++ [f k] := by simp [listF, List.range_succ]
theorem listF_len (f : Nat → ByteArray) (k : Nat) : (listF f k).length = k := by simp [listF]
theorem join_eq (f : Nat → ByteArray) (sep : ByteArray) : ∀ n, 0 < n → (⟨(Lib.join ((listF f n).map (·.data.toList)) sep.data.toList).toArray⟩ : ByteArray) = joinF f sep n
  | 0, h => absurd h (Nat.lt_irrefl _)
  | 1, _ => by
    apply ByteArray.ext
    simp [listF, joinF, Lib.join_one]
  | n + 2, _ => by
    have ih := join_eq f sep (n + 1) (Nat.succ_pos _)
    rw [joinF_next f sep (n + 1) (Nat.succ_pos _), ← ih, listF_next, List.map_append, List.map_cons, List.map_nil, join_snoc _ _ _ (by intro e; have := congrArg List.length e; simp [listF_len] at this)]
    apply ByteArray.ext
    simp
theorem join_len (f : Nat → ByteArray) (sep : ByteArray) (n : Nat) (h : 0 < n) : (Lib.join ((listF f n).map (·.data.toList)) sep.data.toList).length = (joinF f sep n).size := by
  rw [← join_eq f sep n h]
  simp [ByteArray.size]

end Go.Proofs.YtlfadpfodmpneaaDoor
