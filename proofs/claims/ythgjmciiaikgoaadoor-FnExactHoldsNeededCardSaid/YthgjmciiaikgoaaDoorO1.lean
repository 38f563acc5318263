/- Rows of steps that were seen: those that the call itself makes. -/
import Derived.Test.YthgjmciiaikgoaaDoorA3
import Derived.Test.YthgjmciiaikgoaaDoorB1
import Derived.Deep.RegionLaw
import Derived.Lib.AppendZeros
namespace Go.Proofs.YthgjmciiaikgoaaDoor
open Go.RowKit

theorem cellsS_app (xs ys : List (Int × Int)) : cellsS (xs ++ ys) = cellsS xs ++ cellsS ys := by simp [cellsS]
theorem cellsS_one (zs : List (Int × Int)) : ∀ u ∈ cellsS zs, u.oneCell' = true := fun u hu => by
  simp only [cellsS, List.mem_flatMap, List.mem_cons, List.not_mem_nil, or_false] at hu
  obtain ⟨p, _, rfl | rfl⟩ := hu <;> rfl
/-- A slice of steps that the call itself makes. -/
def OwnS (w : World) (B : Nat) (v : Value) (zs : List (Int × Int)) : Prop := w.ownsRow B 63 2 v zs.length (cellsS zs)
theorem OwnS.nil (w : World) (B : Nat) : OwnS w B (.slice none 0 0) [] := World.ownsRow_nil _ _ _ _
theorem OwnS.alloc {w : World} {B : Nat} {v : Value} {zs : List (Int × Int)} (h : OwnS w B v zs) (o : Obj) : OwnS (w.alloc o) B v zs := World.ownsRow.alloc h o
theorem OwnS.lit (w : World) (B : Nat) (zs : List (Int × Int)) (hB : B ≤ w.heap.size) (hm : zs.length ≤ maxLen) : OwnS (w.alloc (.cells (cellsS zs).toArray 63)) B (.slice (some ⟨w.heap.size, 0, none⟩) zs.length zs.length) zs :=
  ⟨by rw [cellsS_len]; omega, .inr ⟨w.heap.size, zs.length, _, rfl, hB, heap_alloc_new w _, Nat.le_refl _, hm, by simp [cellsS_len]; omega, by rw [List.take_of_length_le (by rw [cellsS_len]; omega)]⟩⟩
theorem OwnS.below {w w' : World} {B B' : Nat} {v : Value} {zs : List (Int × Int)} (h : OwnS w B v zs) (hb : Below B' w w') (hB : w.heap.size ≤ B') : OwnS w' B v zs := by
  obtain ⟨h0, h1 | ⟨g, cap, cur, e, hg, hh, h2⟩⟩ := h
  · exact ⟨h0, .inl h1⟩
  · exact ⟨h0, .inr ⟨g, cap, cur, e, hg, by rw [hb.block g (by have := lt_of_block hh; omega)]; exact hh, h2⟩⟩
theorem OwnS.base {w : World} {B B' : Nat} {v : Value} {zs : List (Int × Int)} (h : OwnS w B v zs) (hB : B' ≤ B) : OwnS w B' v zs := by
  obtain ⟨h0, h1 | ⟨g, cap, cur, e, hg, h2⟩⟩ := h
  · exact ⟨h0, .inl h1⟩
  · exact ⟨h0, .inr ⟨g, cap, cur, e, by omega, h2⟩⟩
/-- What the walk says of it. -/
theorem OwnS.out {w : World} {B : Nat} {v : Value} {zs : List (Int × Int)} (h : OwnS w B v zs) : ∃ ao c, v = .slice ao zs.length c ∧ RowS w ao zs.length c zs ∧ (∀ a, ao = some a → B ≤ a.block ∧ a.block < w.heap.size) := by
  obtain ⟨_, ⟨rfl, hn⟩ | ⟨g, cap, cur, rfl, hg, hh, hle, hm, hs, ht⟩⟩ := h
  · have hz : zs = [] := List.eq_nil_of_length_eq_zero hn
    subst hz
    exact ⟨none, 0, rfl, ⟨rfl, Nat.le_refl _, Nat.zero_le _, fun h => absurd h (by simp), fun b o e => (by cases e), fun b o e => by cases e⟩, fun a e => by cases e⟩
  · refine ⟨some ⟨g, 0, none⟩, cap, rfl, ⟨rfl, hle, hm, fun _ => ⟨g, 0, rfl, lt_of_block hh⟩, fun b o e i hi => ?_, fun b o e i hi => ?_⟩, fun a e => by cases e; exact ⟨hg, lt_of_block hh⟩⟩
    · cases e
      have h1 := (cellsS_get zs i hi).1
      rw [← ht, List.getElem?_take, if_pos (by omega)] at h1
      rw [Nat.zero_add, cell_of_row w g _ cur 63 (0, 0) hh]
      simpa using h1
    · cases e
      have h2 := (cellsS_get zs i hi).2
      rw [← ht, List.getElem?_take, if_pos (by omega)] at h2
      rw [Nat.zero_add, cell_of_row w g _ cur 63 (0, 0) hh]
      simpa using h2

/-- 'append(out, x)'. -/
theorem wpList_appS {w : World} {ops : Array Oper} {rest : List Oper} {o : Oper} {a : Act} {Q : Exit → Act → World → Prop} {B : Nat} {v : Value} {zs : List (Int × Int)} {p : Int × Int} {g : Nat} (hown : OwnS w B v zs) (hr : Blk w g 63 [.int .i64 p.1, .int .i64 p.2])
    (hgd : o.guard = none) (s x : Operand) (ho : o.op = .call { callee := .builtin .append, args := #[s, x], argTypes := #[27, 27] }) (hs : a.eval s = v) (hx : a.eval x = .slice (some ⟨g, 0, none⟩) 1 1)
    (hbytes : zs.length + 1 ≤ 1048576) (hB : B ≤ w.heap.size)
    (h : ∀ v' w', OwnS w' B v' (zs ++ [p]) → w.grownBy w' v.ownBlock → wpList Tryd.prog ops Q rest (a.put o.dst v') w') : wpList Tryd.prog ops Q (o :: rest) a w := by
  obtain ⟨i, hi, hz, hsz, hby⟩ := info_parts i47
  have e1 : zs.length + 1 = (zs ++ [p]).length := by simp
  have e2 : cellsS zs ++ cellsS [p] = cellsS (zs ++ [p]) := (cellsS_app _ _).symm
  refine wpList_append_own w hgd s x _ ho B 63 i (.agg #[.int .i64 0, .int .i64 0]) 2 16 Tryd.underlying27 hi hz hsz hby rfl (by decide) v _ _ hs hown ⟨g, 0, none⟩ 1 1 (cellsS [p]) hx rfl (fun j u hj => ?_) (cellsS_one _) (by unfold maxLen; omega) (by omega) hB ?_
  · have ha : (⟨g, 0, none⟩ : Addr).add j = ⟨g, 0 + j, none⟩ := Addr.add_mid g 0 j
    rw [ha, Nat.zero_add]
    exact hr.cell hj
  · intro v' w' r1 r2 _
    exact h v' w' (by unfold OwnS; rw [← e1, ← e2]; exact r1) r2

end Go.Proofs.YthgjmciiaikgoaaDoor
