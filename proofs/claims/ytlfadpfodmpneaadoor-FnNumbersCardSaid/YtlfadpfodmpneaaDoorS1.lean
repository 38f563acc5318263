/- Rows of strings: those that come in, and those that the call itself makes. -/
import Derived.Test.YtlfadpfodmpneaaDoorA1
import Derived.Deep.RegionLaw
import Derived.Lib.AppendZeros
namespace Go.Proofs.YtlfadpfodmpneaaDoor
open Go.RowKit

/-- Element i of a list of strings. -/
def gT (ts : List ByteArray) (i : Nat) : ByteArray := ts.getD i ⟨#[]⟩
theorem gT_lt {ts : List ByteArray} {i : Nat} (h : i < ts.length) : ts[i]? = some (gT ts i) := by simp [gT, List.getD, List.getElem?_eq_getElem h]

def RowT (w : World) (ao : Option Addr) (n c : Nat) (ts : List ByteArray) : Prop := ts.length = n ∧ Row w ao n c fun i => .string (gT ts i)
theorem RowT.below {B : Nat} {w w' : World} {ao : Option Addr} {n c : Nat} {ts : List ByteArray} (h : RowT w ao n c ts) (hb : Below B w w') (hB : w.heap.size ≤ B) : RowT w' ao n c ts := ⟨h.1, h.2.below hb hB⟩

def strs (ts : List ByteArray) : List Value := ts.map .string
theorem strs_get (ts : List ByteArray) (i : Nat) (h : i < ts.length) : (strs ts)[i]? = some (.string (gT ts i)) := by simp [strs, gT_lt h]
theorem strs_one (ts : List ByteArray) : ∀ u ∈ strs ts, u.oneCell' = true := fun u hu => by
  obtain ⟨t, _, rfl⟩ := List.mem_map.1 hu
  rfl

def OwnT (w : World) (B : Nat) (v : Value) (ts : List ByteArray) : Prop := w.ownsRow B 9 1 v ts.length (strs ts)
theorem OwnT.nil (w : World) (B : Nat) : OwnT w B (.slice none 0 0) [] := World.ownsRow_nil _ _ _ _
theorem OwnT.alloc {w : World} {B : Nat} {v : Value} {ts : List ByteArray} (h : OwnT w B v ts) (o : Obj) : OwnT (w.alloc o) B v ts := World.ownsRow.alloc h o
theorem OwnT.drewN {w : World} {B : Nat} {v : Value} {ts : List ByteArray} (h : OwnT w B v ts) (n : Nat) : OwnT (w.drewN n) B v ts := h
theorem OwnT.lit (w : World) (B : Nat) (ts : List ByteArray) (hB : B ≤ w.heap.size) (hm : ts.length ≤ maxLen) : OwnT (w.alloc (.cells (strs ts).toArray 9)) B (.slice (some ⟨w.heap.size, 0, none⟩) ts.length ts.length) ts :=
  ⟨by simp [strs], .inr ⟨w.heap.size, ts.length, _, rfl, hB, heap_alloc_new w _, Nat.le_refl _, hm, by simp [strs], by show (strs ts).take (ts.length * 1) = strs ts; exact List.take_of_length_le (by simp [strs])⟩⟩
theorem OwnT.below {w w' : World} {B B' : Nat} {v : Value} {ts : List ByteArray} (h : OwnT w B v ts) (hb : Below B' w w') (hB : w.heap.size ≤ B') : OwnT w' B v ts := by
  obtain ⟨h0, h1 | ⟨g, cap, cur, e, hg, hh, h2⟩⟩ := h
  · exact ⟨h0, .inl h1⟩
  · exact ⟨h0, .inr ⟨g, cap, cur, e, hg, by rw [hb.block g (by have := lt_of_block hh; omega)]; exact hh, h2⟩⟩
theorem OwnT.row {w : World} {B : Nat} {v : Value} {ts : List ByteArray} (h : OwnT w B v ts) : ∃ ao c, v = .slice ao ts.length c ∧ RowT w ao ts.length c ts := by
  obtain ⟨_, ⟨rfl, hn⟩ | ⟨g, cap, cur, rfl, hg, hh, hle, hm, hs, ht⟩⟩ := h
  · exact ⟨none, 0, by rw [hn], rfl, ⟨by omega, Nat.zero_le _, fun _ => rfl, fun h => absurd h (by omega), fun b o e => by cases e⟩⟩
  · refine ⟨some ⟨g, 0, none⟩, cap, rfl, rfl, ⟨hle, hm, fun e => (by cases e), fun _ => ⟨g, 0, rfl, lt_of_block hh⟩, fun b o e i hi => ?_⟩⟩
    cases e
    rw [Nat.zero_add, cell_of_row w g i cur 9 (0, 0) hh]
    have := strs_get ts i hi
    rw [← ht, List.getElem?_take] at this
    split at this
    · simpa using this
    · cases this

theorem i9 : (Tryd.prog.info? 9).map (fun i => (i.zero, i.size, i.bytes)) = some (some (.string ⟨#[]⟩), 1, 16) := by kernel_rfl

/-- 'append(out, s)'. -/
theorem wpList_appT {w : World} {ops : Array Oper} {rest : List Oper} {o : Oper} {a : Act} {Q : Exit → Act → World → Prop} {B : Nat} {v : Value} {ts : List ByteArray} {t : ByteArray} {g : Nat} (hown : OwnT w B v ts) (hr : w.cell? ⟨g, 0, none⟩ = some (.string t))
    (hgd : o.guard = none) (s x : Operand) (ho : o.op = .call { callee := .builtin .append, args := #[s, x], argTypes := #[39, 39] }) (hs : a.eval s = v) (hx : a.eval x = .slice (some ⟨g, 0, none⟩) 1 1)
    (hbytes : (ts.length + 1) * 16 ≤ 140737488355328) (hB : B ≤ w.heap.size)
    (h : ∀ v' w', OwnT w' B v' (ts ++ [t]) → w.grownBy w' v.ownBlock → wpList Tryd.prog ops Q rest (a.put o.dst v') w') : wpList Tryd.prog ops Q (o :: rest) a w := by
  obtain ⟨i, hi, hz, hsz, hby⟩ := info_parts i9
  have e1 : ts.length + 1 = (ts ++ [t]).length := by simp
  have e2 : strs ts ++ strs [t] = strs (ts ++ [t]) := by simp [strs]
  refine wpList_append_own w hgd s x _ ho B 9 i (.string ⟨#[]⟩) 1 16 Tryd.underlying39 hi hz hsz hby rfl (by decide) v _ _ hs hown ⟨g, 0, none⟩ 1 1 (strs [t]) hx rfl (fun j u hj => ?_) (strs_one _) (by unfold maxLen; omega) hbytes hB ?_
  · cases j with
    | zero => simp [strs] at hj; subst hj; exact hr
    | succ j => simp [strs] at hj
  · intro v' w' r1 r2 _
    exact h v' w' (by unfold OwnT; rw [← e1, ← e2]; exact r1) r2

/-- Texts joined by a text. -/
def joinF (f : Nat → ByteArray) (sep : ByteArray) : Nat → ByteArray
  | 0 => ⟨#[]⟩
  | k + 1 => (if 0 < k then joinF f sep k ++ sep else joinF f sep k) ++ f k
theorem joinF_one (f : Nat → ByteArray) (sep : ByteArray) : joinF f sep 1 = ⟨#[]⟩ ++ f 0 := rfl
theorem joinF_next (f : Nat → ByteArray) (sep : ByteArray) (k : Nat) (h : 0 < k) : joinF f sep (k + 1) = joinF f sep k ++ sep ++ f k := by simp [joinF, h]
theorem joinF_size (f : Nat → ByteArray) (sep : ByteArray) (M : Nat) (hs : sep.size ≤ 1) (hf : ∀ i, (f i).size ≤ M) : ∀ k, (joinF f sep k).size ≤ k * (M + 1)
  | 0 => by simp [joinF]; rfl
  | k + 1 => by
    have h1 := joinF_size f sep M hs hf k
    have h2 := hf k
    simp only [joinF]
    split
    · simp only [ByteArray.size_append]
      rw [Nat.add_mul]; omega
    · simp only [ByteArray.size_append]
      rw [Nat.add_mul]; omega

end Go.Proofs.YtlfadpfodmpneaaDoor
