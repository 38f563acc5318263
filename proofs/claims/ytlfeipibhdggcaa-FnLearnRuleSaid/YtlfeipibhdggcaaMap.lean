/- A map from ints to ints that the call itself makes, told by a function. -/
import Derived.Test.YtlfeipibhdggcaaCore
import Derived.Maps.OwnSet
namespace Go.Proofs.Ytlfeipibhdggcaa
open Go.RowKit Go.Maps

theorem lawInt : Keyed Try.prog 3 := int_keyed Try.underlying3
theorem zeroInt (w : World) : (zeroValue 3).run Try.prog w = .ok (.int .i64 0) w := by kernel_rfl

/-- Block b is a map of at most n entries; at x it has v just if F x = some v. -/
def MapI (w : World) (b n : Nat) (F : Int → Option Int) : Prop :=
  ∃ D : DataW Unit, w.ownsMap Try.prog 3 (plainElem Try.prog 3) b n D ∧
    ∀ x, Maps.has D (.int .i64 x) = (F x).isSome ∧ ∀ v, F x = some v → D.atKey (.int .i64 x) (.lit (.int .i64 0)) = .lit (.int .i64 v)

theorem MapI.lt {w : World} {b n : Nat} {F : Int → Option Int} (h : MapI w b n F) : b < w.heap.size := let ⟨_, h1, _⟩ := h; h1.lt
theorem MapI.made (w : World) : MapI (w.alloc (.map #[] 0)) w.heap.size 0 fun _ => none :=
  ⟨.map [], World.ownsMap_made _ _ _ _, fun x => ⟨rfl, fun v h => by cases h⟩⟩
theorem MapI.of_block {w w' : World} {b n : Nat} {F : Int → Option Int} (h : MapI w b n F) (hb : w'.heap[b]? = w.heap[b]?) : MapI w' b n F := by
  obtain ⟨D, ⟨es, clock, h1, h2⟩, h3⟩ := h
  exact ⟨D, ⟨es, clock, hb.trans h1, h2⟩, h3⟩
theorem MapI.below {w w' : World} {B b n : Nat} {F : Int → Option Int} (h : MapI w b n F) (hb : Below B w w') (hB : b < B) : MapI w' b n F := h.of_block (hb.block b hB)
theorem MapI.drewN {w : World} {b n : Nat} {F : Int → Option Int} (h : MapI w b n F) (k : Nat) : MapI (w.drewN k) b n F := h.of_block rfl
theorem MapI.alloc {w : World} {b n : Nat} {F : Int → Option Int} (h : MapI w b n F) (o : Obj) : MapI (w.alloc o) b n F := h.of_block (Below.heap_alloc _ _ _ h.lt)

theorem wf_key (x : Int) (h : -9223372036854775808 ≤ x ∧ x ≤ 9223372036854775807) : keyOf Try.prog 3 (.int .i64 x) = some (.int .i64 x) := keyOf_int_mk Try.underlying3 (WalkArith.wf_i64 h)

theorem MapI.look_ok {w : World} {b n : Nat} {F : Int → Option Int} (h : MapI w b n F) (x : Int) (hx : -9223372036854775808 ≤ x ∧ x ≤ 9223372036854775807) :
    (Instr.lookup 49 (.map (some b)) (.int .i64 x) true).run Try.prog w = .ok (.tuple #[.int .i64 ((F x).getD 0), .bool (F x).isSome]) w := by
  obtain ⟨D, h1, h2⟩ := h
  obtain ⟨v, ps, hrun, hv⟩ := h1.look_ok lawInt Try.underlying49 (zeroInt w) (zd := .lit (.int .i64 0)) (zp := []) (plainElem_int Try.underlying3 (by decide)) (wf_key x hx)
  obtain ⟨c, rfl, hc, _⟩ := plainElem_int_inv Try.underlying3 hv
  have hat : D.atKey (.int .i64 x) (.lit (.int .i64 0)) = .lit (.int .i64 c) := congrArg Prod.fst hc
  obtain ⟨e1, e2⟩ := h2 x
  rw [hrun, e1]
  cases hF : F x with
  | none =>
    rw [hF] at e1
    rw [atKey_of_not_has e1] at hat
    cases hat
    rfl
  | some u =>
    rw [e2 u hF] at hat
    cases hat
    rfl
theorem MapI.look {w : World} {b n : Nat} {F : Int → Option Int} (h : MapI w b n F) (x : Int) (hx : -9223372036854775808 ≤ x ∧ x ≤ 9223372036854775807) :
    (Instr.lookup 49 (.map (some b)) (.int .i64 x) false).run Try.prog w = .ok (.int .i64 ((F x).getD 0)) w := by
  obtain ⟨D, h1, h2⟩ := h
  obtain ⟨c, hrun, hat, _⟩ := h1.lookup_int lawInt Try.underlying49 Try.underlying3 (zeroInt w) (wf_key x hx)
  obtain ⟨e1, e2⟩ := h2 x
  rw [hrun]
  cases hF : F x with
  | none =>
    rw [hF] at e1
    rw [atKey_of_not_has e1] at hat
    cases hat
    rfl
  | some u =>
    rw [e2 u hF] at hat
    cases hat
    rfl

/-- F with v at x. -/
def putF (F : Int → Option Int) (x v : Int) : Int → Option Int := fun y => if y = x then some v else F y

theorem wpList_mapI {w : World} {ops : Array Oper} {rest : List Oper} {o : Oper} {a : Act} {Q : Exit → Act → World → Prop} {b n : Nat} {F : Int → Option Int} (h : MapI w b n F)
    (hg : o.guard = none) (m x v : Operand) (hop : o.op = Op.mapUpdate 49 m x v) (hm : a.eval m = .map (some b)) (hn : n < maxLen) (k u : Int) (hx : a.eval x = .int .i64 k) (hv : a.eval v = .int .i64 u)
    (hk : -9223372036854775808 ≤ k ∧ k ≤ 9223372036854775807) (hu : -9223372036854775808 ≤ u ∧ u ≤ 9223372036854775807)
    (hK : ∀ w', MapI w' b (n + 1) (putF F k u) → Below b w w' → w.grownBy w' (some b) → wpList Try.prog ops Q rest (a.put o.dst undef) w') : wpList Try.prog ops Q (o :: rest) a w := by
  obtain ⟨D, h1, h2⟩ := h
  refine wpList_mapUpdate_own w hg m x v _ hop 3 3 lawInt Try.underlying49 _ b n D hm h1 hn _ _ _ hx hv (wf_key k hk) _ [] (plainElem_int Try.underlying3 (WalkArith.wf_i64 hu)) ?_
  intro w' r1 r2
  have hlt := h1.lt
  refine hK w' ⟨_, r1, fun y => ?_⟩ ⟨r2.os, r2.tape, r2.output, r2.size, fun i hi => r2.block i (by omega) (by simp; omega)⟩ r2
  obtain ⟨e1, e2⟩ := h2 y
  by_cases hy : y = k
  · subst hy
    simp only [putF, if_true]
    exact ⟨has_put_same h1.isMap (by trivial) _, fun v hv => by cases hv; exact atKey_put_same h1.isMap (by trivial) _ _⟩
  · have hne : (Lit.int .i64 y) ≠ (.int .i64 k) := fun e => hy (by cases e; rfl)
    simp only [putF, if_neg hy]
    exact ⟨by rw [has_put_other hne]; exact e1, fun v hv => by rw [atKey_put_other hne]; exact e2 v hv⟩

end Go.Proofs.Ytlfeipibhdggcaa
