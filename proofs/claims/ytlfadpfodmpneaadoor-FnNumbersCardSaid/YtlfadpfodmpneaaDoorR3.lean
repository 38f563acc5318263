/- Walks: tables and networks that are drawn. -/
import Derived.Test.YtlfadpfodmpneaaDoorR2
import Derived.Test.YtlfadpfodmpneaaDoorTx
import Derived.Test.YtlfadpfodmpneaaDoorN3
import Derived.Test.YtlfadpfodmpneaaDoorM4
namespace Go.Proofs.YtlfadpfodmpneaaDoor
open Go.RowKit

/-- What lay below B is as it was, but for the source. -/
structure DrB (g B : Nat) (w w' : World) : Prop where
  os : w'.os = w.os
  tape : w'.tape = w.tape
  output : w'.output = w.output
  size : w.heap.size ≤ w'.heap.size
  block : ∀ i, i < B → i ≠ g → w'.heap[i]? = w.heap[i]?
theorem DrB.refl (g B : Nat) (w : World) : DrB g B w w := ⟨rfl, rfl, rfl, Nat.le_refl _, fun _ _ _ => rfl⟩
theorem DrB.trans {g B : Nat} {w w1 w2 : World} (h : DrB g B w w1) (k : DrB g B w1 w2) : DrB g B w w2 := ⟨k.os.trans h.os, k.tape.trans h.tape, k.output.trans h.output, Nat.le_trans h.size k.size, fun i a b => (k.block i a b).trans (h.block i a b)⟩
theorem DrB.mono {g B C : Nat} {w w' : World} (h : DrB g C w w') (hB : B ≤ C) : DrB g B w w' := ⟨h.os, h.tape, h.output, h.size, fun i a b => h.block i (by omega) b⟩
theorem DrB.ofB {g B : Nat} {w w' : World} (h : Below B w w') : DrB g B w w' := ⟨h.os, h.tape, h.output, h.size, fun i a _ => h.block i a⟩
theorem DrB.ofG {g : Nat} {w w' : World} (h : w.grownBy w' (some g)) : DrB g w.heap.size w w' := ⟨h.os, h.tape, h.output, h.size, fun i a b => h.block i a (fun e => b (Option.some.inj e))⟩
theorem DrB.grown {g B : Nat} {a w w' : World} {row : Option Nat} (h : DrB g B a w) (hg : w.grownBy w' row) (hB : B ≤ w.heap.size) (hr : ∀ k, row = some k → B ≤ k) : DrB g B a w' :=
  h.trans ⟨hg.os, hg.tape, hg.output, hg.size, fun i x _ => hg.block i (by omega) (fun e => by have := hr i (by rw [e]); omega)⟩
theorem DrB.alloc {g B : Nat} {a w : World} (h : DrB g B a w) (hB : B ≤ w.heap.size) (o : Obj) : DrB g B a (w.alloc o) := h.trans (DrB.ofB ((Below.refl B w).alloc hB o))
theorem DrB.below {g B : Nat} {w w' : World} (h : DrB g B w w') (hg : B ≤ g) : Below B w w' := ⟨h.os, h.tape, h.output, h.size, fun i a => h.block i a (by omega)⟩
theorem OwnI.dr {w w' : World} {B g C : Nat} {v : Value} {zs : List Int} (h : OwnI w B v zs) (hb : DrB g C w w') (hC : w.heap.size ≤ C) (hg : g < B) : OwnI w' B v zs := by
  obtain ⟨h0, h1 | ⟨q, cap, cur, e, hq, hh, h2⟩⟩ := h
  · exact ⟨h0, .inl h1⟩
  · exact ⟨h0, .inr ⟨q, cap, cur, e, hq, by rw [hb.block q (by have := lt_of_block hh; omega) (by omega)]; exact hh, h2⟩⟩
theorem OwnT.dr {w w' : World} {B g C : Nat} {v : Value} {ts : List ByteArray} (h : OwnT w B v ts) (hb : DrB g C w w') (hC : w.heap.size ≤ C) (hg : g < B) : OwnT w' B v ts := by
  obtain ⟨h0, h1 | ⟨q, cap, cur, e, hq, hh, h2⟩⟩ := h
  · exact ⟨h0, .inl h1⟩
  · exact ⟨h0, .inr ⟨q, cap, cur, e, hq, by rw [hb.block q (by have := lt_of_block hh; omega) (by omega)]; exact hh, h2⟩⟩

/-- A text of n inputs' digits. -/
def DT (n : Nat) (t : ByteArray) : Prop := digB t = true ∧ t.size = 2 ^ n
def bitsL (zs : List Int) : Prop := ∀ i, i < zs.length → gI zs i = 0 ∨ gI zs i = 1
theorem bitsL.nil : bitsL [] := fun i h => absurd h (by simp)
theorem bitsL.snoc {zs : List Int} {v : Int} (h : bitsL zs) (hv : v = 0 ∨ v = 1) : bitsL (zs ++ [v]) := fun i hi => by
  by_cases e : i < zs.length
  · have : gI (zs ++ [v]) i = gI zs i := by rw [gI, gI, List.getD_eq_getElem?_getD, List.getElem?_append_left e, ← List.getD_eq_getElem?_getD]
    rw [this]; exact h i e
  · have e2 : i = zs.length := by simp at hi; omega
    have : gI (zs ++ [v]) i = v := by simp [gI, List.getD, e2]
    rw [this]; exact hv
theorem digT_dig {zs : List Int} (h : bitsL zs) : digB (digT zs) = true := by
  rw [digB, List.all_eq_true]
  intro b hb
  simp only [digT] at hb
  obtain ⟨v, hv, rfl⟩ := List.mem_map.1 hb
  obtain ⟨i, hi, rfl⟩ := List.getElem_of_mem hv
  rw [gI_eq hi]
  rcases h i hi with e | e <;> rw [e] <;> rfl

/-- A text is drawn. -/
def TextP (g P : Nat) (Q : ByteArray → Prop) (w : World) (e : Ending) (w' : World) : Prop := ∃ t, e = .returned (.string t) ∧ Q t ∧ Rd w' g P ∧ DrB g w.heap.size w w'

theorem OwnI.oneApp {w w' : World} {B g P : Nat} {v : Value} {zs : List Int} {x : Int} {t : TypeId} (h : OwnI w B v zs) (hg : g < B) (hr : Rd w g P) (g5 : (w.alloc (.cells #[.int .i64 x] t)).grownBy w' v.ownBlock) : Rd w' g P :=
  (hr.below ((Below.refl _ _).alloc (Nat.le_refl _) _) (Nat.le_refl _)).grown g5 (fun j hj => by have := (World.ownsRow.lt h j hj).1; omega)

end Go.Proofs.YtlfadpfodmpneaaDoor
