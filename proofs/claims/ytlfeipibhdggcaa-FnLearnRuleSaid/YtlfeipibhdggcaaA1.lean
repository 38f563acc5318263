/- Walks: small functions on numbers and rows of numbers. -/
import Derived.Test.YtlfeipibhdggcaaCore
namespace Go.Proofs.Ytlfeipibhdggcaa
open Go.RowKit

theorem retb {a b : Bool} (h : a = b) : Ending.returned (.bool a) = .returned (.bool b) := by rw [h]

def inB (a b c : Int) : Bool := decide (b ≤ a) && decide (a ≤ c)
theorem inB_iff {a b c : Int} : inB a b c = true ↔ b ≤ a ∧ a ≤ c := by simp [inB]
theorem inB_true {a b c : Int} (h : b ≤ a ∧ a ≤ c) : inB a b c = true := inB_iff.2 h
theorem inB_false {a b c : Int} (h : ¬ (b ≤ a ∧ a ≤ c)) : inB a b c = false := by rw [Bool.eq_false_iff]; exact fun h' => h (inB_iff.1 h')

set_option maxHeartbeats 400000 in
theorem l1In_ok (a b c : Int) (w : World) :
    Calls Try.prog 29 #[.int .i64 a, .int .i64 b, .int .i64 c] w fun e w' => e = .returned (.bool (inB a b c)) ∧ w = w' := by
  go_enter Try.func29, Try.ntmps29
  go_wp2 <;> (go_ret; exact ⟨retb (by simp [inB]; omega), rfl⟩)

/-- What toIntS has written after k rounds. -/
def partI (zs : List Int) (k : Nat) : List Int := zs.take k ++ List.replicate (zs.length - k) 0

theorem partI_set (zs : List Int) (k : Nat) (h : k < zs.length) : (ints (partI zs k)).set k (.int .i64 (gI zs k)) = ints (partI zs (k + 1)) := by
  apply List.ext_getElem?
  intro i
  simp [ints, partI, List.getElem?_set, List.getElem?_append, List.getElem?_take, gI, List.getD]
  have := List.getElem?_eq_getElem h
  grind
theorem partI_get (zs : List Int) (k : Nat) (h : k < zs.length) : (ints (partI zs k))[k]? = some (.int .i64 0) := by
  simp [ints, partI, List.getElem?_append, List.getElem?_replicate, Nat.min_eq_left (Nat.le_of_lt h)]; omega
theorem partI_end (zs : List Int) : partI zs zs.length = zs := by simp [partI]

theorem take_same {xs ys : List Int} {k : Nat} (h : xs.take k = ys.take k) (hx : k < xs.length) (hy : k < ys.length) (he : gI xs k = gI ys k) : xs.take (k + 1) = ys.take (k + 1) := by
  rw [List.take_succ_eq_append_getElem hx, List.take_succ_eq_append_getElem hy, h]
  have h1 : xs[k] = gI xs k := by simp [gI, List.getD, hx]
  have h2 : ys[k] = gI ys k := by simp [gI, List.getD, hy]
  rw [h1, h2, he]

theorem reti {a b : Int} (h : a = b) : Ending.returned (.int .i64 a) = .returned (.int .i64 b) := by rw [h]
theorem blk_reject {top : Int} {zs : List Int} {k t : Nat} (h : k < zs.length) (ht : (zs.take k).foldlM (addB top) 0 = some t) (hn : addB top t (gI zs k) = none) : unionB top zs = none :=
  foldM_miss (gI_lt h) ht hn

end Go.Proofs.Ytlfeipibhdggcaa
