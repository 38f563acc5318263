/- Words shared by all walks of this seat: what a slice value reads as, what lies in new memory. -/
import Derived.Test.YtlfadpfodmpneaaDoorChecked
import Derived.WalkKit
import Derived.WalkSpells
import Derived.WalkLawsBesides
import Derived.Deep.QuietTactic
import Derived.BigQuiet
import Derived.Lib.Hide
import Derived.ProofKit
import Derived.ChangeOld
import Derived.Test.YtlfadpfodmpneaaDoorPure
namespace Go.Proofs.YtlfadpfodmpneaaDoor
open Go.RowKit

theorem i3 : (Tryd.prog.info? 3).map (fun i => (i.zero, i.size, i.bytes)) = some (some (.int .i64 0), 1, 8) := by kernel_rfl

/-- A slice value with the address ao, the length n and the capacity c reads, cell by cell, as f 0, f 1, .. -/
structure Row (w : World) (ao : Option Addr) (n c : Nat) (f : Nat → Value) : Prop where
  le : n ≤ c
  cap : c ≤ maxLen
  nil : ao = none → c = 0
  some : 0 < n → ∃ b o, ao = some ⟨b, o, none⟩ ∧ b < w.heap.size
  cell : ∀ b o, ao = Option.some ⟨b, o, none⟩ → ∀ i, i < n → w.cell? ⟨b, o + i, none⟩ = Option.some (f i)

/-- Of one-cell integers. -/
def RowI (w : World) (ao : Option Addr) (n c : Nat) (zs : List Int) : Prop := zs.length = n ∧ Row w ao n c fun i => .int .i64 (gI zs i)

theorem Row.below {B : Nat} {w w' : World} {ao : Option Addr} {n c : Nat} {f : Nat → Value} (h : Row w ao n c f) (hb : Below B w w') (hB : w.heap.size ≤ B) : Row w' ao n c f :=
  ⟨h.le, h.cap, h.nil, fun hn => let ⟨b, o, e, hbo⟩ := h.some hn; ⟨b, o, e, Nat.lt_of_lt_of_le hbo hb.size⟩, fun b o e i hi => by
    obtain ⟨b', o', e', hbo⟩ := h.some (by omega)
    rw [e] at e'
    cases e'
    exact (hb.cell (p := ⟨b, o + i, none⟩) (by show b < B; omega)).trans (h.cell b o e i hi)⟩

theorem RowI.below {B : Nat} {w w' : World} {ao : Option Addr} {n c : Nat} {zs : List Int} (h : RowI w ao n c zs) (hb : Below B w w') (hB : w.heap.size ≤ B) : RowI w' ao n c zs := ⟨h.1, h.2.below hb hB⟩

/-- Block g holds just these cells, and none of them is frozen. -/
def Blk (w : World) (g : Nat) (t : TypeId) (cs : List Value) : Prop := w.heap[g]? = some (.cells cs.toArray t (0, 0))

theorem Blk.lt {w : World} {g : Nat} {t : TypeId} {cs : List Value} (h : Blk w g t cs) : g < w.heap.size := lt_of_block h
theorem Blk.cell {w : World} {g : Nat} {t : TypeId} {cs : List Value} (h : Blk w g t cs) {i : Nat} {v : Value} (hv : cs[i]? = some v) : w.cell? ⟨g, i, none⟩ = some v := by
  unfold Blk at h; simp [World.cell?, h, hv]
theorem Blk.free {w : World} {g : Nat} {t : TypeId} {cs : List Value} (h : Blk w g t cs) (i : Nat) : w.frozen? ⟨g, i, none⟩ = false := by
  unfold Blk at h; simp [World.frozen?, h]
theorem Blk.set {w : World} {g : Nat} {t : TypeId} {cs : List Value} (h : Blk w g t cs) (i : Nat) (v : Value) : Blk (w.setCell ⟨g, i, none⟩ v) g t (cs.set i v) := by
  have hlt := h.lt
  unfold Blk at h ⊢
  have h' : w.heap[g] = .cells cs.toArray t (0, 0) := by simpa [Array.getElem?_eq_getElem hlt] using h
  show (w.heap.modify g _)[g]? = _
  rw [Array.getElem?_eq_getElem (by simpa using hlt), Array.getElem_modify_self, h']
  simp
theorem Blk.other {w : World} {g : Nat} {t : TypeId} {cs : List Value} (h : Blk w g t cs) {a : Addr} (ha : g ≠ a.block) (v : Value) : Blk (w.setCell a v) g t cs := by
  unfold Blk at h ⊢; rw [Below.heap_setCell _ _ _ _ ha]; exact h
theorem Blk.new (w : World) (t : TypeId) (cs : List Value) : Blk (w.alloc (.cells cs.toArray t)) w.heap.size t cs := heap_alloc_new w _
theorem Blk.alloc {w : World} {g : Nat} {t : TypeId} {cs : List Value} (h : Blk w g t cs) (o : Obj) : Blk (w.alloc o) g t cs := by
  unfold Blk at h ⊢; rw [Below.heap_alloc _ _ _ (lt_of_block h)]; exact h
theorem Blk.below {w w' : World} {B g : Nat} {t : TypeId} {cs : List Value} (h : Blk w g t cs) (hb : Below B w w') (hg : g < B) : Blk w' g t cs := by
  unfold Blk at h ⊢; rw [hb.block g hg]; exact h

/-- A row that the call itself has made: in blocks from B on, and it may be written. -/
structure Out (w : World) (B : Nat) (ao : Option Addr) (n c : Nat) (f : Nat → Value) : Prop where
  row : Row w ao n c f
  own : ∀ a, ao = some a → B ≤ a.block
  lt : ∀ a, ao = some a → a.block < w.heap.size
  free : ∀ b o, ao = some ⟨b, o, none⟩ → ∀ i, i < n → w.frozen? ⟨b, o + i, none⟩ = false

def OutI (w : World) (B : Nat) (ao : Option Addr) (n c : Nat) (zs : List Int) : Prop := zs.length = n ∧ Out w B ao n c fun i => .int .i64 (gI zs i)

theorem OutI.rowI {w : World} {B : Nat} {ao : Option Addr} {n c : Nat} {zs : List Int} (h : OutI w B ao n c zs) : RowI w ao n c zs := ⟨h.1, h.2.row⟩

/-- The cells of a list of numbers. -/
def ints (zs : List Int) : List Value := zs.map (.int .i64)

theorem ints_get (zs : List Int) (i : Nat) (h : i < zs.length) : (ints zs)[i]? = some (.int .i64 (gI zs i)) := by
  simp [ints, gI_lt h]

/-- A slice over the whole of a block of numbers. -/
theorem OutI.of_blk {w : World} {B g : Nat} {zs : List Int} {c : Nat} (h : Blk w g 3 (ints zs)) (hB : B ≤ g) (hc : zs.length ≤ c) (hm : c ≤ maxLen) : OutI w B (some ⟨g, 0, none⟩) zs.length c zs :=
  ⟨rfl, ⟨hc, hm, fun e => (by cases e), fun _ => ⟨g, 0, rfl, h.lt⟩, fun b o e i hi => by
    cases e
    rw [Nat.zero_add]
    exact h.cell (ints_get zs i hi)⟩, fun a e => by cases e; exact hB, fun a e => by cases e; exact h.lt, fun b o e i hi => by cases e; exact h.free _⟩

theorem OutI.of_blk' {w : World} {B g n : Nat} {zs : List Int} (h : Blk w g 3 (ints zs)) (hn : zs.length = n) (hB : B ≤ g) (hm : n ≤ maxLen) : OutI w B (some ⟨g, 0, none⟩) n n zs := by
  subst hn; exact OutI.of_blk h hB (Nat.le_refl _) hm

/-- What the frame of a law tells of a slice of ints that came in. -/
def IsRow (k : IntKind) (w : World) (a : Option Addr) (len cap : Nat) (zs : List Int) : Prop :=
  (a = none ∧ len = 0 ∧ cap = 0 ∧ zs = []) ∨
  ∃ x, a = some x ∧ len ≤ cap ∧ cap ≤ maxLen ∧ zs.length = cap ∧ (∀ i, i < zs.length → w.cell? (x.add i) = some (.int k (zs.getD i 0))) ∧ ∀ n ∈ zs, (Lit.int k n).wf = true

theorem IsRow.rowI {w : World} {a : Option Addr} {n c : Nat} {zs : List Int} (h : IsRow .i64 w a n c zs) : RowI w a n c (zs.take n) := by
  rcases h with ⟨rfl, rfl, rfl, rfl⟩ | ⟨x, rfl, hl, hm, hz, hcell, _⟩
  · exact ⟨rfl, Nat.le_refl _, Nat.zero_le _, fun _ => rfl, fun h => absurd h (Nat.lt_irrefl _), fun b o e => by cases e⟩
  · refine ⟨by simp; omega, hl, hm, fun e => (by cases e), fun hn => ?_, fun b o e i hi => ?_⟩
    · obtain ⟨b, off, spot⟩ := x
      have hc := hcell 0 (by omega)
      have hs : spot = none := by simpa [Addr.add] using World.cell?_spot hc
      subst hs
      exact ⟨b, off, rfl, World.block_lt_of_cell? w ⟨b, off, none⟩ (by simpa [Addr.add] using hc)⟩
    · cases e
      have hc := hcell i (by omega)
      have ha : (⟨b, o, none⟩ : Addr).add i = ⟨b, o + i, none⟩ := by unfold Addr.add; split <;> simp_all
      rw [ha] at hc
      rw [hc]
      simp [gI, List.getD, hi]

/-- A slice of ints that the call itself makes and appends to. -/
def OwnI (w : World) (B : Nat) (v : Value) (zs : List Int) : Prop := w.ownsRow B 3 1 v zs.length (ints zs)

theorem OwnI.nil (w : World) (B : Nat) : OwnI w B (.slice none 0 0) [] := World.ownsRow_nil _ _ _ _
theorem OwnI.alloc {w : World} {B : Nat} {v : Value} {zs : List Int} (h : OwnI w B v zs) (o : Obj) : OwnI (w.alloc o) B v zs := World.ownsRow.alloc h o
theorem OwnI.drew {w : World} {B : Nat} {v : Value} {zs : List Int} (h : OwnI w B v zs) : OwnI w.drew B v zs := h
theorem OwnI.drewN {w : World} {B : Nat} {v : Value} {zs : List Int} (h : OwnI w B v zs) (n : Nat) : OwnI (w.drewN n) B v zs := h
/-- A new slice literal. -/
theorem OwnI.lit (w : World) (B : Nat) (zs : List Int) (hB : B ≤ w.heap.size) (hm : zs.length ≤ maxLen) : OwnI (w.alloc (.cells (ints zs).toArray 3)) B (.slice (some ⟨w.heap.size, 0, none⟩) zs.length zs.length) zs :=
  ⟨by simp [ints], .inr ⟨w.heap.size, zs.length, _, rfl, hB, heap_alloc_new w _, Nat.le_refl _, hm, by simp [ints], by show (ints zs).take (zs.length * 1) = ints zs; exact List.take_of_length_le (by simp [ints])⟩⟩

/-- What the walk says of an owned slice: it is nil, or lies at the head of a block from B on; its cells read, and may be written. -/
theorem OwnI.out {w : World} {B : Nat} {v : Value} {zs : List Int} (h : OwnI w B v zs) : ∃ ao c, v = .slice ao zs.length c ∧ OutI w B ao zs.length c zs := by
  obtain ⟨_, ⟨rfl, hn⟩ | ⟨g, cap, cur, rfl, hg, hh, hle, hm, hs, ht⟩⟩ := h
  · refine ⟨none, 0, by rw [hn], rfl, ⟨⟨by omega, Nat.zero_le _, fun _ => rfl, fun h => absurd h (by omega), fun b o e => by cases e⟩, fun a e => (by cases e), fun a e => (by cases e), fun b o e => by cases e⟩⟩
  · refine ⟨some ⟨g, 0, none⟩, cap, rfl, rfl, ⟨⟨hle, hm, fun e => (by cases e), fun _ => ⟨g, 0, rfl, lt_of_block hh⟩, fun b o e i hi => ?_⟩, fun a e => (by cases e; exact hg), fun a e => (by cases e; exact lt_of_block hh), fun b o e i hi => ?_⟩⟩
    · cases e
      rw [Nat.zero_add, cell_of_row w g i cur 3 (0, 0) hh]
      have := ints_get zs i hi
      rw [← ht, List.getElem?_take] at this
      split at this
      · simpa using this
      · cases this
    · cases e
      simp [World.frozen?, hh]

theorem RowI.one (w : World) (x : Int) : RowI (w.alloc (.cells #[.int .i64 x] 3)) (some ⟨w.heap.size, 0, none⟩) 1 1 [x] :=
  (OutI.of_blk' (zs := [x]) (Blk.new w 3 [.int .i64 x]) rfl (Nat.zero_le _) (show 1 ≤ maxLen by decide)).rowI

theorem RowI.cells {w : World} {ao : Option Addr} {n c : Nat} {zs : List Int} (h : RowI w ao n c zs) : ∀ ad, ao = some ad → ∀ j u, (ints zs)[j]? = some u → w.cell? (ad.add j) = some u := by
  intro ad had j u hu
  have hj : j < zs.length := by
    have := (List.getElem?_eq_some_iff.1 hu).1
    simpa [ints] using this
  obtain ⟨b, o, rfl, _⟩ := h.2.some (by rw [← h.1]; omega)
  cases had
  have ha : (⟨b, o, none⟩ : Addr).add j = ⟨b, o + j, none⟩ := by unfold Addr.add; split <;> simp_all
  rw [ha, h.2.cell b o rfl j (by rw [← h.1]; exact hj), ← hu, ints_get zs j hj]

/-- 'append' of a row of ints to an owned slice. -/
theorem wpList_appI {w : World} {ops : Array Oper} {rest : List Oper} {o : Oper} {a : Act} {Q : Exit → Act → World → Prop} {B : Nat} {v : Value} {zs ys : List Int} {ao : Option Addr} {m c : Nat} (hown : OwnI w B v zs) (hr : RowI w ao m c ys)
    (hgd : o.guard = none) (s x : Operand) (ho : o.op = .call { callee := .builtin .append, args := #[s, x], argTypes := #[22, 22] }) (hs : a.eval s = v) (hx : a.eval x = .slice ao m c)
    (hbytes : (zs.length + m) * 8 ≤ 140737488355328) (hB : B ≤ w.heap.size)
    (h : ∀ v' w', OwnI w' B v' (zs ++ ys) → w.grownBy w' v.ownBlock → wpList Tryd.prog ops Q rest (a.put o.dst v') w') : wpList Tryd.prog ops Q (o :: rest) a w := by
  obtain ⟨i, hi, hz, hsz, hby⟩ := info_parts i3
  have hl : (ints ys).length = m * 1 := by simp [ints, hr.1]
  have h1 : ∀ u ∈ ints ys, u.oneCell' = true := ints_oneCell _ _
  have e1 : zs.length + m = (zs ++ ys).length := by simp [hr.1]
  have e2 : ints zs ++ ints ys = ints (zs ++ ys) := by simp [ints]
  cases hao : ao with
  | some ad =>
    subst hao
    refine wpList_append_own w hgd s x _ ho B 3 i (.int .i64 0) 1 8 Tryd.underlying22 hi hz hsz hby rfl (by decide) v _ _ hs hown ad m c (ints ys) hx hl (hr.cells ad rfl) h1 (by unfold maxLen; omega) hbytes hB ?_
    intro v' w' r1 r2 _
    exact h v' w' (by unfold OwnI; rw [← e1, ← e2]; exact r1) r2
  | none =>
    subst hao
    have hc0 := hr.2.nil rfl
    have hm0 : m = 0 := by have := hr.2.le; omega
    have hy : ys = [] := List.eq_nil_of_length_eq_zero (by rw [hr.1]; exact hm0)
    subst hc0 hm0 hy
    have hrun := run_append_owned_none (P := Tryd.prog) w B 22 o.type 3 i 1 Tryd.underlying22 hi v _ _ hown
    refine wpList_plain hgd fun K hK => ?_
    unfold Oper.wp
    simp [execOp, ho, resolve, invoke, builtin, hs, hx, hrun, Result.andThen]
    exact hK _ _ (h v w (by simpa using hown) (World.grownBy.refl _ _))

theorem own : ownKnob Tryd.prog.godebug = none := by kernel_rfl
theorem laidOut : laidOutB Tryd.prog = true := by kernel_rfl

theorem made_ints (n : Nat) : madeCells (Value.cells (.int .i64 0)) (n * 1) = (ints (List.replicate n 0)).toArray := by
  apply Array.ext
  · simp [madeCells, ints]
  · intro i h1 h2
    simp [madeCells, ints, Value.cells, Nat.mod_one]

theorem run_make_ints (n : Nat) (hn : n * 8 ≤ 281474976710656) (w : World) :
    (Instr.makeSlice 22 (.int .i64 (n : Int)) (.int .i64 (n : Int))).run Tryd.prog w = .ok (.slice (some ⟨w.heap.size, 0, none⟩) n n) (w.alloc (.cells (ints (List.replicate n 0)).toArray 3)) := by
  obtain ⟨i, hi, hz, hs, hby⟩ := info_parts i3
  have := run_make (P := Tryd.prog) w 22 3 i (.int .i64 0) Tryd.underlying22 hi hz .i64 .i64 n n (by omega) (Int.le_refl _) (by rw [hby]; omega) (by omega)
  rw [this, hs]
  simp only [Int.toNat_natCast, made_ints]

theorem grownBy_setCell {w0 w : World} {row : Option Nat} (h : w0.grownBy w row) {a : Addr} (ha : row = some a.block) (v : Value) : w0.grownBy (w.setCell a v) row :=
  ⟨h.os, h.tape, h.output, by simpa [World.setCell] using h.size, fun i hi hne => (Below.heap_setCell w a v i (fun e => hne (by rw [ha, e]))).trans (h.block i hi hne)⟩
theorem RowI.grown {w w' : World} {row : Option Nat} {ao : Option Addr} {n c : Nat} {zs : List Int} (h : RowI w ao n c zs) (hg : w.grownBy w' row) (hne : ∀ a, ao = some a → some a.block ≠ row) : RowI w' ao n c zs := by
  obtain ⟨hl, hle, hcap, hnil, hsome, hcell⟩ := h
  refine ⟨hl, hle, hcap, hnil, fun hn => ?_, fun b o e i hi => ?_⟩
  · obtain ⟨b, o, e, h1⟩ := hsome hn
    exact ⟨b, o, e, Nat.lt_of_lt_of_le h1 hg.size⟩
  · exact World.grownBy.cell (a := ⟨b, o + i, none⟩) hg (hcell b o e i hi) (by have := hne _ e; simpa using this)

end Go.Proofs.YtlfadpfodmpneaaDoor
