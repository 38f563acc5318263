/- Walks: circuits by the reference; IsFlowing. -/
import Derived.Test.YtfopimahnmpciaaDoorP3
import Derived.Test.YtfopimahnmpciaaDoorF1
import Derived.Test.YtfopimahnmpciaaDoorA2
import Derived.Test.YtfopimahnmpciaaDoorS1
import Derived.Test.YtfopimahnmpciaaDoorAll
import Derived.Test.YtfopimahnmpciaaDoorY1
namespace Go.Proofs.YtfopimahnmpciaaDoor
open Go.RowKit

theorem anyTo_none {p : Nat → Bool} {k : Nat} (h : ∀ i, i < k → p i = false) : anyTo p k = false := by
  rw [anyTo, List.any_eq_false]
  intro i hi
  rw [h i (by simpa using hi)]
  decide
/-- One number more on a way. -/
def wkQ (A : Nat → Nat → Bool) (n first f last set k : Nat) : Bool := decide (first < k) && (A last k && (!set.testBit k && walkB A n first f k (set ||| 2 ^ k)))
theorem walkB_next (A : Nat → Nat → Bool) (n first f last set : Nat) : walkB A n first (f + 1) last set = (A last first || anyTo (wkQ A n first f last set) n) := rfl
theorem wkQ_low {A : Nat → Nat → Bool} {n first f last set k : Nat} (h : k ≤ first) : wkQ A n first f last set k = false := by rw [wkQ, decide_eq_false (by omega)]; rfl
/-- What the first numbers up to k tell. -/
def wkTo (A : Nat → Nat → Bool) (n first f last set k : Nat) : Bool := (decide (first < k) && A last first) || anyTo (wkQ A n first f last set) k
theorem wkTo_first (A : Nat → Nat → Bool) (n first f last set : Nat) : wkTo A n first f last set first = false := by
  rw [wkTo, decide_eq_false (Nat.lt_irrefl _), anyTo_none fun i hi => wkQ_low (by omega)]; rfl
theorem wkTo_one (A : Nat → Nat → Bool) (n first f last set : Nat) : wkTo A n first f last set (first + 1) = A last first := by
  rw [wkTo, decide_eq_true (Nat.lt_succ_self _), anyTo_none fun i hi => wkQ_low (by omega)]; simp
theorem wkTo_next {A : Nat → Nat → Bool} {n first f last set k : Nat} (h : first < k) : wkTo A n first f last set (k + 1) = (wkTo A n first f last set k || wkQ A n first f last set k) := by
  rw [wkTo, wkTo, anyTo_next, decide_eq_true h, decide_eq_true (by omega), Bool.or_assoc]
/-- One number more. -/
def wkS (A : Nat → Nat → Bool) (n first f last set k : Nat) : Bool := if k = first then A last first else wkQ A n first f last set k
theorem wkTo_step {A : Nat → Nat → Bool} {n first f last set k : Nat} (h : first ≤ k) : wkTo A n first f last set (k + 1) = (wkTo A n first f last set k || wkS A n first f last set k) := by
  unfold wkS
  split
  · rename_i e
    rw [e, wkTo_one, wkTo_first]; rfl
  · exact wkTo_next (by omega)
theorem wkTo_end {A : Nat → Nat → Bool} {n first f last set : Nat} (h : first < n) : wkTo A n first f last set n = walkB A n first (f + 1) last set := by
  rw [wkTo, walkB_next, decide_eq_true h]; rfl

/-- A way as the set of its switches. -/
def setW (way : List Nat) : Nat := way.foldl (fun t i => t ||| 2 ^ i) 0
theorem setW_snoc (way : List Nat) (k : Nat) : setW (way ++ [k]) = setW way ||| 2 ^ k := by simp [setW]
theorem setW_bit (way : List Nat) (j : Nat) : (setW way).testBit j = decide (j ∈ way) := by
  have key : ∀ (l : List Nat) (t : Nat), (l.foldl (fun t i => t ||| 2 ^ i) t).testBit j = (t.testBit j || decide (j ∈ l)) := by
    intro l
    induction l with
    | nil => intro t; simp
    | cons x l ih =>
      intro t
      rw [List.foldl_cons, ih, Nat.testBit_or, Nat.testBit_two_pow]
      by_cases e : x = j
      · subst e; simp
      · have e' : ¬ j = x := fun h => e h.symm
        simp [e, e']
  rw [setW, key]; simp
/-- How many switches are not on a way. -/
def freeN (way : List Nat) (n : Nat) : Nat := ((List.range n).filter fun i => !decide (i ∈ way)).length
theorem freeN_snoc {way : List Nat} {n k : Nat} (hk : k < n) (h : k ∉ way) : freeN (way ++ [k]) n < freeN way n := by
  unfold freeN
  rw [← List.countP_eq_length_filter, ← List.countP_eq_length_filter]
  have key : ∀ m, (m ≤ k → List.countP (fun i => !decide (i ∈ way ++ [k])) (List.range m) = List.countP (fun i => !decide (i ∈ way)) (List.range m)) ∧ (k < m → List.countP (fun i => !decide (i ∈ way ++ [k])) (List.range m) < List.countP (fun i => !decide (i ∈ way)) (List.range m)) := by
    intro m
    induction m with
    | zero => exact ⟨fun _ => rfl, fun h => absurd h (Nat.not_lt_zero _)⟩
    | succ m ih =>
      rw [List.range_succ, List.countP_append, List.countP_append]
      refine ⟨fun hm => ?_, fun hm => ?_⟩
      · have e : ¬ m = k := by omega
        rw [ih.1 (by omega)]
        simp [List.countP_cons, e]
      · by_cases e : m = k
        · subst e
          rw [ih.1 (Nat.le_refl _)]
          simp [h]
        · have := ih.2 (by omega)
          have e3 : List.countP (fun i => !decide (i ∈ way ++ [k])) [m] = List.countP (fun i => !decide (i ∈ way)) [m] := by simp [List.countP_cons, e]
          rw [e3]; omega
  exact (key n).2 hk
theorem freeN_le (way : List Nat) (n : Nat) : freeN way n ≤ n := Nat.le_trans (List.length_filter_le _ _) (by simp)
/-- The text of a way. -/
def wayT (way : List Nat) : ByteArray := digS (way.map fun i : Nat => (i : Int))
theorem wayT_size (way : List Nat) : (wayT way).size = way.length := by rw [wayT, digS_size, List.length_map]
theorem wayT_one (k : Nat) : wayT [k] = digS [(k : Int)] := rfl
theorem wayT_snoc (way : List Nat) (k : Nat) : wayT way ++ digS [(k : Int)] = wayT (way ++ [k]) := by
  rw [wayT, wayT, digS_app, List.map_append]; rfl
theorem wayT_get {way : List Nat} {n : Nat} (hw : ∀ x ∈ way, x < n) (h5 : n ≤ 5) (k : Nat) (hk : k < way.length) (hs : k < (wayT way).size) : (wayT way)[k].toNat = 48 + way[k] := by
  have h1 := hw way[k] (List.getElem_mem hk)
  have h2 : (wayT way).data.toList[k]? = some (UInt8.ofNat (48 + way[k])) := by
    simp only [wayT, digS, strOfNums, List.map_map, List.getElem?_map, List.getElem?_eq_getElem hk, Option.map_some, Function.comp]
    congr 2
  rw [at_byte _ k hs] at h2
  have h3 := Option.some.inj h2
  rw [h3]
  have key : ∀ n : Fin 5, (UInt8.ofNat (48 + n.val)).toNat = 48 + n.val := by decide +kernel
  exact key ⟨way[k], by omega⟩
theorem findI_neg (l : List UInt8) (c : Int) : ∀ at_ : Int, 0 ≤ at_ → (findI l c at_ < 0 ↔ ∀ b ∈ l, ((b.toNat : Nat) : Int) ≠ c) := by
  induction l with
  | nil => intro at_ _; simp [findI]
  | cons b l ih =>
    intro at_ h
    rw [findI]
    split
    · rename_i e
      constructor
      · intro h2; omega
      · intro h2; exact absurd e (h2 b (by simp))
    · rename_i e
      rw [ih (at_ + 1) (by omega)]
      constructor
      · intro h2 x hx
        rcases List.mem_cons.1 hx with rfl | hx
        · exact e
        · exact h2 x hx
      · intro h2 x hx
        exact h2 x (by simp [hx])
theorem wayT_find {way : List Nat} {n : Nat} (hw : ∀ x ∈ way, x < n) (h5 : n ≤ 5) (k : Nat) : findI (wayT way).data.toList (48 + (k : Int)) 0 < 0 ↔ k ∉ way := by
  rw [findI_neg _ _ 0 (Int.le_refl _)]
  constructor
  · intro h hm
    obtain ⟨j, hj, e⟩ := List.getElem_of_mem hm
    have hs : j < (wayT way).size := by rw [wayT_size]; exact hj
    have := h _ (List.mem_of_getElem? (at_byte _ j hs))
    rw [wayT_get hw h5 j hj hs, e] at this
    omega
  · intro h b hb e
    obtain ⟨j, hj, rfl⟩ := List.getElem_of_mem hb
    have hs : j < (wayT way).size := by simpa using hj
    have hjw : j < way.length := by rw [wayT_size] at hs; exact hs
    have h2 := at_byte (wayT way) j hs
    rw [List.getElem?_eq_getElem hj] at h2
    rw [Option.some.inj h2, wayT_get hw h5 j hjw hs] at e
    have : way[j] = k := by omega
    exact h (this ▸ List.getElem_mem hjw)

/-- The product of two signs. -/
def tmsN (a b : Nat) : Nat := if a = 3 ∨ b = 3 then 3 else if a = b then 1 else 2
theorem tmsN_range (a b : Nat) : 1 ≤ tmsN a b ∧ tmsN a b ≤ 3 := by
  unfold tmsN
  split
  · omega
  · split <;> omega
set_option maxHeartbeats 1000000 in
theorem l7Times_ok (a b : Nat) (w : World) :
    Calls Tryd.prog 38 #[.int .i64 a, .int .i64 b] w fun e w' => e = .returned (.int .i64 (tmsN a b : Nat)) ∧ w = w' := by
  by_cases ha : a = 3
  · have e : tmsN a b = 3 := by rw [tmsN, if_pos (.inl ha)]
    have h1 : ((a : Int) == 3) = true := by rw [ha]; rfl
    rw [e]
    clear ha
    go_enter Tryd.func38, Tryd.ntmps38
    go_wp2
    go_ret
    exact ⟨rfl, rfl⟩
  · have h1 : ((a : Int) == 3) = false := by rw [beq_eq_false_iff_ne]; omega
    by_cases hb : b = 3
    · have e : tmsN a b = 3 := by rw [tmsN, if_pos (.inr hb)]
      have h2 : ((b : Int) == 3) = true := by rw [hb]; rfl
      rw [e]
      clear ha hb
      go_enter Tryd.func38, Tryd.ntmps38
      go_wp2
      go_ret
      exact ⟨rfl, rfl⟩
    · have h2 : ((b : Int) == 3) = false := by rw [beq_eq_false_iff_ne]; omega
      by_cases hab : a = b
      · have e : tmsN a b = 1 := by rw [tmsN, if_neg (by omega), if_pos hab]
        have h3 : ((a : Int) == (b : Int)) = true := by rw [hab]; simp
        rw [e]
        clear ha hb hab
        go_enter Tryd.func38, Tryd.ntmps38
        go_wp2
        go_ret
        exact ⟨rfl, rfl⟩
      · have e : tmsN a b = 2 := by rw [tmsN, if_neg (by omega), if_neg hab]
        have h3 : ((a : Int) == (b : Int)) = false := by rw [beq_eq_false_iff_ne]; omega
        rw [e]
        clear ha hb hab
        go_enter Tryd.func38, Tryd.ntmps38
        go_wp2
        go_ret
        exact ⟨rfl, rfl⟩

theorem sgV_act {ps : List ByteArray} {i k : Nat} : (actB ps i k = true → 0 < sgV (upB (bitN ps k) i ps.length) (dnB (bitN ps k) i ps.length)) ∧ (actB ps i k = false → sgV (upB (bitN ps k) i ps.length) (dnB (bitN ps k) i ps.length) = 0) := by
  constructor
  · intro h; exact (sgV_pos _ _).2 h
  · intro h
    have := sgV_pos (upB (bitN ps k) i ps.length) (dnB (bitN ps k) i ps.length)
    rw [show (upB (bitN ps k) i ps.length || dnB (bitN ps k) i ps.length) = false from h] at this
    have h2 : ¬ 0 < sgV (upB (bitN ps k) i ps.length) (dnB (bitN ps k) i ps.length) := fun h3 => by have := this.1 h3; cases this
    omega

theorem OwnT.base' {w : World} {B B' : Nat} {v : Value} {ts : List ByteArray} (h : OwnT w B v ts) (hB : B' ≤ B) : OwnT w B' v ts := by
  obtain ⟨h0, h1 | ⟨g, cap, cur, e, hg, h2⟩⟩ := h
  · exact ⟨h0, .inl h1⟩
  · exact ⟨h0, .inr ⟨g, cap, cur, e, Nat.le_trans hB hg, h2⟩⟩

theorem RowT.cells {w : World} {ao : Option Addr} {n c : Nat} {ts : List ByteArray} (h : RowT w ao n c ts) : ∀ ad, ao = some ad → ∀ j u, (strs ts)[j]? = some u → w.cell? (ad.add j) = some u := by
  intro ad had j u hu
  have hj : j < ts.length := by
    have := (List.getElem?_eq_some_iff.1 hu).1
    simpa [strs] using this
  obtain ⟨b, o, rfl, _⟩ := h.2.some (by rw [← h.1]; omega)
  cases had
  have ha : (⟨b, o, none⟩ : Addr).add j = ⟨b, o + j, none⟩ := by unfold Addr.add; split <;> simp_all
  rw [ha, h.2.cell b o rfl j (by rw [← h.1]; exact hj), ← hu, strs_get ts j hj]

/-- 'append(out, more...)' of texts. -/
theorem wpList_appTs {w : World} {ops : Array Oper} {rest : List Oper} {o : Oper} {a : Act} {Q : Exit → Act → World → Prop} {B : Nat} {v : Value} {ts ys : List ByteArray} {ao : Option Addr} {m c : Nat} (hown : OwnT w B v ts) (hr : RowT w ao m c ys)
    (hgd : o.guard = none) (s x : Operand) (ho : o.op = .call { callee := .builtin .append, args := #[s, x], argTypes := #[28, 28] }) (hs : a.eval s = v) (hx : a.eval x = .slice ao m c)
    (hbytes : (ts.length + m) * 16 ≤ 140737488355328) (hB : B ≤ w.heap.size)
    (h : ∀ v' w', OwnT w' B v' (ts ++ ys) → w.grownBy w' v.ownBlock → wpList Tryd.prog ops Q rest (a.put o.dst v') w') : wpList Tryd.prog ops Q (o :: rest) a w := by
  obtain ⟨i, hi, hz, hsz, hby⟩ := info_parts i9
  have hl : (strs ys).length = m * 1 := by simp [strs, hr.1]
  have e1 : ts.length + m = (ts ++ ys).length := by simp [hr.1]
  have e2 : strs ts ++ strs ys = strs (ts ++ ys) := by simp [strs]
  cases hao : ao with
  | some ad =>
    subst hao
    refine wpList_append_own w hgd s x _ ho B 9 i (.string ⟨#[]⟩) 1 16 Tryd.underlying28 hi hz hsz hby rfl (by decide) v _ _ hs hown ad m c (strs ys) hx hl (hr.cells ad rfl) (strs_one _) (by unfold maxLen; omega) hbytes hB ?_
    intro v' w' r1 r2 _
    exact h v' w' (by unfold OwnT; rw [← e1, ← e2]; exact r1) r2
  | none =>
    subst hao
    have hc0 := hr.2.nil rfl
    have hm0 : m = 0 := by have := hr.2.le; omega
    have hy : ys = [] := List.eq_nil_of_length_eq_zero (by rw [hr.1]; exact hm0)
    subst hc0 hm0 hy
    have hrun := run_append_owned_none (P := Tryd.prog) w B 28 o.type 9 i 1 Tryd.underlying28 hi v _ _ hown
    refine wpList_plain hgd fun K hK => ?_
    unfold Oper.wp
    simp [execOp, ho, resolve, invoke, builtin, hs, hx, hrun, Result.andThen]
    exact hK _ _ (h v w (by simpa using hown) (World.grownBy.refl _ _))

/-- What a walk gives: some circuits, if there are some. -/
def WalkP (b : Bool) (M : Nat) (w : World) (e : Ending) (w' : World) : Prop := ∃ v ts, e = .returned v ∧ OwnT w' w.heap.size v ts ∧ ((0 < ts.length) ↔ b = true) ∧ ts.length ≤ M ∧ Below w.heap.size w w'

theorem pow_bound (f : Nat) : 1 + 5 * 6 ^ f ≤ 6 ^ (f + 1) := by
  have : 0 < 6 ^ f := Nat.pow_pos (by decide)
  rw [Nat.pow_succ]; omega

end Go.Proofs.YtfopimahnmpciaaDoor
