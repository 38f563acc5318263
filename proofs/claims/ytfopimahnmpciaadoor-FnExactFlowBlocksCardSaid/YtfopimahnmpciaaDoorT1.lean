/- Tables of the program: a struct of 33 cells, by laws that don't open it. -/
import Derived.Test.YtfopimahnmpciaaDoorA1
import Derived.Laws.Tables
import Derived.Laws.CopyOwn
import Derived.Deep.MidRow
import Derived.Great.Walk
import Derived.Great.Ranges
namespace Go.Proofs.YtfopimahnmpciaaDoor
open Go.RowKit

/-- The cells of a table. -/
def tabC (n : Int) (bs : List Int) : List Value := .int .i64 n :: bs.map (.int .u8)
def z32 : List Int := List.replicate 32 0
/-- A table as a value. -/
def tabV (n : Int) (bs : List Int) : Value := .agg (tabC n bs).toArray

theorem tabC_len (n : Int) (bs : List Int) : (tabC n bs).length = bs.length + 1 := by simp [tabC]
theorem tabC_zero (n : Int) (bs : List Int) : (tabC n bs)[0]? = some (.int .i64 n) := rfl
theorem tabC_get (n : Int) (bs : List Int) (k : Nat) (h : k < bs.length) : (tabC n bs)[1 + k]? = some (.int .u8 (gI bs k)) := by
  rw [Nat.add_comm]
  simp [tabC, gI_lt h]
theorem tabC_set (n : Int) (bs : List Int) (k : Nat) (v : Int) : (tabC n bs).set (1 + k) (.int .u8 v) = tabC n (bs.set k v) := by
  rw [Nat.add_comm]
  simp [tabC, List.map_set]
theorem tabC_one (n : Int) (bs : List Int) : (tabC n bs).toArray.all (·.oneCell') = true := by
  refine Array.all_eq_true_iff_forall_mem.2 fun v hv => ?_
  simp only [tabC, List.mem_toArray, List.mem_cons, List.mem_map] at hv
  rcases hv with rfl | ⟨x, _, rfl⟩ <;> rfl

theorem tab_size : (Tryd.prog.info? 50).map (·.size) = some 33 := by kernel_rfl
theorem tab_under : ∃ d, Tryd.prog.underlying 50 = some d ∧ d.isRow = true := ⟨_, Tryd.underlying50, rfl⟩

/-- '&T{}': a new table of zeros. -/
theorem wpList_tabAlloc {ops : Array Oper} {rest : List Oper} {o : Oper} {a : Act} {w : World} {Q : Exit → Act → World → Prop} (hg : o.guard = none) (ho : o.op = .alloc 50)
    (h : wpList Tryd.prog ops Q rest (a.put o.dst (.pointer (some ⟨w.heap.size, 0, none⟩))) (w.alloc (.cells (tabC 0 z32).toArray 50))) : wpList Tryd.prog ops Q (o :: rest) a w := by
  refine Go.Great.wpList_runTo hg o.dst rfl (.pointer (some ⟨w.heap.size, 0, none⟩)) _ ?_ h
  unfold execOp
  rw [ho]
  kernel_rfl

theorem tab_built (n : Int) : Tryd.prog.built 50 [(0, .int .i64 n)] = some (tabC n z32).toArray := by kernel_rfl
/-- 'T{n: n}'. -/
theorem wpList_tabBuild {ops : Array Oper} {rest : List Oper} {o : Oper} {a : Act} {w : World} {Q : Exit → Act → World → Prop} (hg : o.guard = none) (x : Operand) (ho : o.op = .build 50 #[(0, x)]) (n : Int) (hx : a.eval x = .int .i64 n)
    (h : wpList Tryd.prog ops Q rest (a.put o.dst (tabV n z32)) w) : wpList Tryd.prog ops Q (o :: rest) a w := by
  have e : (#[(0, x)].map fun (p : Nat × Operand) => (p.1, a.eval p.2)).toList = [(0, .int .i64 n)] := by simp [hx]
  refine wpList_build hg 50 #[(0, x)] ho ?_ ?_
  · show (Tryd.prog.built 50 (#[(0, x)].map fun (p : Nat × Operand) => (p.1, a.eval p.2)).toList).isSome = true
    rw [e, tab_built]; rfl
  · show wpList Tryd.prog ops Q rest (a.put o.dst (.agg ((Tryd.prog.built 50 (#[(0, x)].map fun (p : Nat × Operand) => (p.1, a.eval p.2)).toList).getD #[]))) w
    rw [e, tab_built]; exact h

/-- A table is stored in a variable of its own. -/
theorem wpList_tabStore {ops : Array Oper} {rest : List Oper} {o : Oper} {a : Act} {w : World} {Q : Exit → Act → World → Prop} (hg : o.guard = none) (x y : Operand) (ho : o.op = .store 50 x y)
    (g : Nat) (n : Int) (bs : List Int) (hx : a.eval x = .pointer (some ⟨g, 0, none⟩)) (hy : a.eval y = tabV n bs) (hl : bs.length = 32) (t : TypeId) (old : List Value) (hB : Blk w g t old) (ho33 : old.length = 33)
    (h : ∀ w', Blk w' g t (tabC n bs) → w.grownBy w' (some g) → w'.heap.size = w.heap.size → wpList Tryd.prog ops Q rest (a.put o.dst undef) w') : wpList Tryd.prog ops Q (o :: rest) a w := by
  have hs : (tabC n bs).toArray.size = 33 := by simp [tabC_len, hl]
  refine wpList_store_row hg 50 x y ho g (tabC n bs).toArray hx hy t old.toArray hB (by rw [hs]; exact tab_size) (by rw [hs]; simpa using ho33) (tabC_one n bs) (h _ ?_ ?_ ?_)
  · exact setRow_heap w g _ _ t _ hB
  · exact ⟨rfl, rfl, rfl, by simp, fun i hi hne => setRow_other w g i _ (fun e => hne (by rw [e]))⟩
  · simp

theorem tab_read {w : World} {g : Nat} {t : TypeId} {n : Int} {bs : List Int} (hB : Blk w g t (tabC n bs)) (hl : bs.length = 32) : (loadVar 50 ⟨g, 0, none⟩).run Tryd.prog w = .ok (tabV n bs) w := by
  obtain ⟨d, hd, hd2⟩ := tab_under
  refine run_loadVar_mid w g 0 50 (tabC n bs) d (fun j v hv => ?_) hd hd2 (by rw [tabC_len, hl]; exact tab_size)
  rw [Nat.zero_add]
  exact hB.cell hv

/-- A whole table is read. -/
theorem wpList_tabLoad {ops : Array Oper} {rest : List Oper} {o : Oper} {a : Act} {w : World} {Q : Exit → Act → World → Prop} (hg : o.guard = none) (x : Operand) (ho : o.op = .load 50 x)
    (g : Nat) (n : Int) (bs : List Int) (hx : a.eval x = .pointer (some ⟨g, 0, none⟩)) (hl : bs.length = 32) (t : TypeId) (hB : Blk w g t (tabC n bs))
    (h : wpList Tryd.prog ops Q rest (a.put o.dst (tabV n bs)) w) : wpList Tryd.prog ops Q (o :: rest) a w := by
  obtain ⟨d, hd, hd2⟩ := tab_under
  refine wpList_load_mid hg 50 x ho g 0 hx (tabC n bs) d (fun j v hv => ?_) hd hd2 (by rw [tabC_len, hl]; exact tab_size) h
  rw [Nat.zero_add]
  exact hB.cell hv

/-- A table that came in by value is laid in a variable. -/
theorem wpList_tabBox {ops : Array Oper} {rest : List Oper} {o : Oper} {a : Act} {w : World} {Q : Exit → Act → World → Prop} (hg : o.guard = none) (x : Operand) (ho : o.op = .box 50 x)
    (n : Int) (bs : List Int) (hx : a.eval x = tabV n bs)
    (h : wpList Tryd.prog ops Q rest (a.put o.dst (.pointer (some ⟨w.heap.size, 0, none⟩))) (w.alloc (.cells (tabC n bs).toArray 50))) : wpList Tryd.prog ops Q (o :: rest) a w :=
  Go.Great.wpList_boxTo hg 50 x ho o.dst rfl w.heap.size rfl (tabC n bs).toArray (by rw [hx]; rfl) h

set_option maxHeartbeats 1000000 in
theorem width_ok (n : Nat) (bs : List Int) (hn : n ≤ 62) (w : World) :
    Calls Tryd.prog 37 #[tabV n bs] w fun e w' => e = .returned (.int .i64 ((2 ^ n : Nat) : Int)) ∧ Below w.heap.size w w' := by
  have HP : Hid (wrap64 (2 ^ n) = ((2 ^ n : Nat) : Int)) := wrap_pow_nat n hn
  have hx := (Blk.new w 50 (tabC n bs)).cell (tabC_zero n bs)
  generalize hv : tabV n bs = v
  go_enter Tryd.func37, Tryd.ntmps37
  go_wp2_with (refine wpList_tabBox rfl _ rfl n bs hv.symm ?_)
  go_ret
  exact ⟨reti HP.out, (Below.refl _ _).alloc (Nat.le_refl _) _⟩

end Go.Proofs.YtfopimahnmpciaaDoor
