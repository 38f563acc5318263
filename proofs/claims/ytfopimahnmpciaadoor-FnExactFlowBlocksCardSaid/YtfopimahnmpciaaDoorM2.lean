/- Rows of tables. -/
import Derived.Test.YtfopimahnmpciaaDoorM1
import Derived.Great.BuildSlice
namespace Go.Proofs.YtfopimahnmpciaaDoor
open Go.RowKit

/-- The cells of tables of n inputs. -/
def netC (n : Int) (bss : List (List Int)) : List Value := bss.flatMap (tabC n)
def W32 (bss : List (List Int)) : Prop := ∀ bs ∈ bss, bs.length = 32
theorem netC_len (n : Int) : ∀ bss : List (List Int), W32 bss → (netC n bss).length = bss.length * 33
  | [], _ => rfl
  | bs :: bss, h => by
    have h1 := netC_len n bss (fun b hb => h b (List.mem_cons_of_mem _ hb))
    have h2 := h bs List.mem_cons_self
    simp only [netC, List.flatMap_cons, List.length_append, tabC_len, List.length_cons] at h1 ⊢
    rw [h2]; omega
theorem netC_app (n : Int) (xs ys : List (List Int)) : netC n (xs ++ ys) = netC n xs ++ netC n ys := by simp [netC]
theorem tabC_ones (n : Int) (bs : List Int) : ∀ u ∈ tabC n bs, u.oneCell' = true := fun u hu => by
  simp only [tabC, List.mem_cons, List.mem_map] at hu
  rcases hu with rfl | ⟨x, _, rfl⟩ <;> rfl

theorem i76 : (Tryd.prog.info? 50).map (fun i => (i.zero, i.size, i.bytes)) = some (some (tabV 0 z32), 33, 40) := by kernel_rfl

theorem tab_fill (n : Int) (bs : List Int) (hl : bs.length = 32) (c0 : Array Value) (h0 : c0.size = 33) :
    Instr.fill (fun i => some (i * 33, 33)) c0 [(0, tabV n bs)] = some (tabC n bs).toArray := by
  have hs : (tabC n bs).toArray.size = 33 := by simp [tabC_len, hl]
  have := Great.fill_whole (s := 33) (by omega) [tabV n bs] c0 (fun v hv => by rw [List.mem_singleton.1 hv]; exact hs) (by simp [h0])
  simpa [tabV, Value.cells] using this

/-- '[]T{t}': what 'append(out, t)' lays first. -/
theorem wpList_tabSlice {ops : Array Oper} {rest : List Oper} {o : Oper} {a : Act} {w : World} {Q : Exit → Act → World → Prop} (hg : o.guard = none) (x : Operand) (ho : o.op = .buildSlice 36 1 #[(0, x)])
    (n : Int) (bs : List Int) (hx : a.eval x = tabV n bs) (hl : bs.length = 32)
    (h : wpList Tryd.prog ops Q rest (a.put o.dst (.slice (some ⟨w.heap.size, 0, none⟩) 1 1)) (w.alloc (.cells (tabC n bs).toArray 50))) : wpList Tryd.prog ops Q (o :: rest) a w := by
  obtain ⟨i, hi, hz, hsz, hby⟩ := info_parts i76
  refine wpList_buildSlice hg 36 50 1 #[(0, x)] ho (tabC n bs).toArray i (tabV 0 z32) Tryd.underlying36 hi hz (by rw [hsz]; omega) (by rw [hsz]; omega) ?_ h
  have e : (#[(0, x)].map fun (p : Nat × Operand) => (p.1, a.eval p.2)).toList = [(0, tabV n bs)] := by simp [hx]
  rw [hsz]
  show Instr.fill _ _ (#[(0, x)].map fun (p : Nat × Operand) => (p.1, a.eval p.2)).toList = _
  rw [e]
  exact tab_fill n bs hl _ (by simp)

/-- A slice of tables that the call itself makes. -/
def OwnN (w : World) (B : Nat) (v : Value) (n : Int) (bss : List (List Int)) : Prop := w.ownsRow B 50 33 v bss.length (netC n bss)

theorem OwnN.nil (w : World) (B : Nat) (n : Int) : OwnN w B (.slice none 0 0) n [] := World.ownsRow_nil _ _ _ _
theorem OwnN.alloc {w : World} {B : Nat} {v : Value} {n : Int} {bss : List (List Int)} (h : OwnN w B v n bss) (o : Obj) : OwnN (w.alloc o) B v n bss := World.ownsRow.alloc h o
theorem OwnN.below {w w' : World} {B B' : Nat} {v : Value} {n : Int} {bss : List (List Int)} (h : OwnN w B v n bss) (hb : Below B' w w') (hB : w.heap.size ≤ B') : OwnN w' B v n bss := by
  obtain ⟨h0, h1 | ⟨g, cap, cur, e, hg, hh, h2⟩⟩ := h
  · exact ⟨h0, .inl h1⟩
  · exact ⟨h0, .inr ⟨g, cap, cur, e, hg, by rw [hb.block g (by have := lt_of_block hh; omega)]; exact hh, h2⟩⟩

/-- 'append(out, t)'. -/
theorem wpList_appN {w : World} {ops : Array Oper} {rest : List Oper} {o : Oper} {a : Act} {Q : Exit → Act → World → Prop} {B : Nat} {v : Value} {n : Int} {bss : List (List Int)} {bs : List Int} {g : Nat} (hown : OwnN w B v n bss) (hl : bs.length = 32) (hr : Blk w g 50 (tabC n bs))
    (hgd : o.guard = none) (s x : Operand) (ho : o.op = .call { callee := .builtin .append, args := #[s, x], argTypes := #[36, 36] }) (hs : a.eval s = v) (hx : a.eval x = .slice (some ⟨g, 0, none⟩) 1 1)
    (hbytes : bss.length + 1 ≤ 1048576) (hB : B ≤ w.heap.size)
    (h : ∀ v' w', OwnN w' B v' n (bss ++ [bs]) → w.grownBy w' v.ownBlock → wpList Tryd.prog ops Q rest (a.put o.dst v') w') : wpList Tryd.prog ops Q (o :: rest) a w := by
  obtain ⟨i, hi, hz, hsz, hby⟩ := info_parts i76
  have e1 : bss.length + 1 = (bss ++ [bs]).length := by simp
  have e2 : netC n bss ++ tabC n bs = netC n (bss ++ [bs]) := by simp [netC]
  refine wpList_append_own w hgd s x _ ho B 50 i (tabV 0 z32) 33 40 Tryd.underlying36 hi hz hsz hby rfl (by decide) v _ _ hs hown ⟨g, 0, none⟩ 1 1 (tabC n bs) hx (by rw [tabC_len, hl]) (fun j u hj => ?_) (tabC_ones n bs) (by unfold maxLen; omega) (by omega) hB ?_
  · have : (⟨g, 0, none⟩ : Addr).add j = ⟨g, 0 + j, none⟩ := Addr.add_mid g 0 j
    rw [this, Nat.zero_add]
    exact hr.cell hj
  · intro v' w' r1 r2 _
    exact h v' w' (by unfold OwnN; rw [← e1, ← e2]; exact r1) r2

/-- A slice value reads as tables. -/
structure RowN (w : World) (ao : Option Addr) (l c : Nat) (n : Int) (bss : List (List Int)) : Prop where
  len : bss.length = l
  wide : W32 bss
  le : l ≤ c
  cap : c ≤ maxLen
  some : 0 < l → ∃ b o, ao = Option.some ⟨b, o, none⟩ ∧ b < w.heap.size
  range : ∀ b o, ao = Option.some ⟨b, o, none⟩ → ∀ i bs, bss[i]? = Option.some bs → w.rangeAt b (o + i * 33) (tabC n bs)
theorem RowN.below {B : Nat} {w w' : World} {ao : Option Addr} {l c : Nat} {n : Int} {bss : List (List Int)} (h : RowN w ao l c n bss) (hb : Below B w w') (hB : w.heap.size ≤ B) : RowN w' ao l c n bss :=
  ⟨h.len, h.wide, h.le, h.cap, fun hn => let ⟨b, o, e, hbo⟩ := h.some hn; ⟨b, o, e, Nat.lt_of_lt_of_le hbo hb.size⟩, fun b o e i bs hi => by
    have hl : i < bss.length := (List.getElem?_eq_some_iff.1 hi).1
    obtain ⟨b', o', e', hbo⟩ := h.some (by rw [← h.len]; omega)
    rw [e] at e'
    cases e'
    intro j v hv
    exact (hb.cell (p := ⟨b, o + i * 33 + j, none⟩) (by show b < B; omega)).trans (h.range b o e i bs hi j v hv)⟩
theorem netC_get (n : Int) : ∀ (bss : List (List Int)) (_ : W32 bss) (i : Nat) (bs : List Int) (_ : bss[i]? = some bs) (j : Nat) (_ : j < 33), (netC n bss)[i * 33 + j]? = (tabC n bs)[j]?
  | [], _, _, _, h, _, _ => by simp at h
  | b0 :: bss, hw, 0, bs, h, j, hj => by
    have e : b0 = bs := by simpa using h
    subst e
    have := hw b0 List.mem_cons_self
    rw [Nat.zero_mul, Nat.zero_add]
    simp only [netC, List.flatMap_cons]
    rw [List.getElem?_append_left (by rw [tabC_len, this]; omega)]
  | b0 :: bss, hw, i + 1, bs, h, j, hj => by
    have h1 := netC_get n bss (fun b hb => hw b (List.mem_cons_of_mem _ hb)) i bs (by simpa using h) j hj
    have h2 := hw b0 List.mem_cons_self
    simp only [netC, List.flatMap_cons] at h1 ⊢
    rw [List.getElem?_append_right (by rw [tabC_len, h2]; omega), tabC_len, h2, ← h1]
    congr 1
    omega
theorem OwnN.row {w : World} {B : Nat} {v : Value} {n : Int} {bss : List (List Int)} (h : OwnN w B v n bss) (hw : W32 bss) : ∃ ao c, v = .slice ao bss.length c ∧ RowN w ao bss.length c n bss := by
  obtain ⟨_, ⟨rfl, hn⟩ | ⟨g, cap, cur, rfl, hg, hh, hle, hm, hs, ht⟩⟩ := h
  · exact ⟨none, 0, by rw [hn], rfl, hw, by omega, Nat.zero_le _, fun h => absurd h (by omega), fun b o e => by cases e⟩
  · refine ⟨some ⟨g, 0, none⟩, cap, rfl, rfl, hw, hle, hm, fun _ => ⟨g, 0, rfl, lt_of_block hh⟩, fun b o e i bs hi j v hv => ?_⟩
    cases e
    have hil : i < bss.length := (List.getElem?_eq_some_iff.1 hi).1
    have hj : j < 33 := by
      have h1 := (List.getElem?_eq_some_iff.1 hv).1
      rw [tabC_len, hw bs (List.mem_of_getElem? hi)] at h1
      exact h1
    rw [Nat.zero_add, cell_of_row w g _ cur 50 (0, 0) hh]
    have h1 := netC_get n bss hw i bs hi j hj
    rw [hv, ← ht, List.getElem?_take, if_pos (by omega)] at h1
    simpa using h1

end Go.Proofs.YtfopimahnmpciaaDoor
