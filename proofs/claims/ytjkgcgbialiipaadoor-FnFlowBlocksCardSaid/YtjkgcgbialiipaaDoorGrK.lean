/- Walks and plain facts: several of my texts in one. -/
import Derived.Test.YtjkgcgbialiipaaDoorGrD
import Derived.Test.YtjkgcgbialiipaaDoorGrB
import Derived.Test.YtjkgcgbialiipaaDoorGrG
import Derived.Test.YtjkgcgbialiipaaDoorGrA
/- Plain: blocks that flow: whatever is open and waits for nothing open. -/
namespace Go.Proofs.YtjkgcgbialiipaaDoor
open Go.RowKit

/-- Whether all of the first j numbers that act on a number are done, and it is open. -/
def rdTo (A : Nat → Nat → Bool) (done k j : Nat) : Bool := !done.testBit k && (List.range j).all fun i => done.testBit i || !A i k
theorem rdTo_zero (A : Nat → Nat → Bool) (done k : Nat) : rdTo A done k 0 = !done.testBit k := by simp [rdTo]
theorem rdTo_next (A : Nat → Nat → Bool) (done k j : Nat) : rdTo A done k (j + 1) = (rdTo A done k j && (done.testBit j || !A j k)) := by simp [rdTo, List.range_succ, Bool.and_assoc]
theorem rdTo_end (A : Nat → Nat → Bool) (n done k : Nat) : rdTo A done k n = srcB A n done k := rfl
/-- The next block. -/
def blkF (ps : List ByteArray) (done : Nat) : Nat := setTo (srcB (actB ps) ps.length done) ps.length
theorem blkF_bit (ps : List ByteArray) (done k : Nat) : (blkF ps done).testBit k = (decide (k < ps.length) && srcB (actB ps) ps.length done k) := setTo_bit _ _ _
theorem blkF_lt (ps : List ByteArray) (done : Nat) : blkF ps done < 2 ^ ps.length := setTo_lt _ _
/-- The blocks that follow, when some switches are done. -/
def flF (ps : List ByteArray) : Nat → Nat → List Int
  | 0, _ => []
  | f + 1, done => if done = 2 ^ ps.length - 1 then [] else ((blkF ps done : Nat) : Int) :: flF ps f (done ||| blkF ps done)
theorem flF_end (ps : List ByteArray) (f : Nat) : flF ps f (2 ^ ps.length - 1) = [] := by
  cases f with
  | zero => rfl
  | succ f => rw [flF, if_pos rfl]
theorem flF_next {ps : List ByteArray} {f done : Nat} (h : done ≠ 2 ^ ps.length - 1) : flF ps (f + 1) done = ((blkF ps done : Nat) : Int) :: flF ps f (done ||| blkF ps done) := by rw [flF, if_neg h]
theorem flF_len (ps : List ByteArray) : ∀ f done, (flF ps f done).length ≤ f
  | 0, _ => Nat.le_refl _
  | f + 1, done => by
    rw [flF]
    split
    · simp
    · have := flF_len ps f (done ||| blkF ps done)
      simp; omega
/-- How many are open. -/
def opnN (done n : Nat) : Nat := cnt (fun i => !done.testBit i) n
theorem opn_le (done n : Nat) : opnN done n ≤ n := cnt_bound _ _
theorem opn_ex {done n : Nat} (hd : done < 2 ^ n) (h : done ≠ 2 ^ n - 1) : ∃ k, k < n ∧ done.testBit k = false := by
  refine Classical.byContradiction fun hno => h ?_
  refine eq_pow hd (by have := Nat.two_pow_pos n; omega) fun i hi => ?_
  rw [Nat.testBit_two_pow_sub_one]
  cases hb : done.testBit i with
  | true => simp [hi]
  | false => exact absurd ⟨i, hi, hb⟩ hno
theorem opn_zero {done n : Nat} (hd : done < 2 ^ n) (h : opnN done n = 0) : done = 2 ^ n - 1 := by
  refine Classical.byContradiction fun hne => ?_
  obtain ⟨k, hk, hb⟩ := opn_ex hd hne
  have := cnt_lt (p := fun _ => false) (q := fun i => !done.testBit i) n (fun _ _ h => by cases h) ⟨k, hk, by rw [hb]; rfl, rfl⟩
  rw [show cnt (fun i => !done.testBit i) n = 0 from h] at this
  omega
theorem opn_all (n : Nat) : opnN (2 ^ n - 1) n = 0 := by
  have : ∀ k, k ≤ n → cnt (fun i => !(2 ^ n - 1).testBit i) k = 0 := by
    intro k
    induction k with
    | zero => intro _; rfl
    | succ k ih =>
      intro hk
      rw [cnt_succ, ih (by omega), Nat.testBit_two_pow_sub_one]
      simp [show k < n by omega]
  exact this n (Nat.le_refl _)
/-- Without a circuit each block closes some. -/
theorem blk_step {ps : List ByteArray} (h5 : ps.length ≤ 5) (hc : circB (actB ps) ps.length = false) {done : Nat} (hd : done < 2 ^ ps.length) (h : done ≠ 2 ^ ps.length - 1) : opnN (done ||| blkF ps done) ps.length < opnN done ps.length := by
  obtain ⟨k, hk, hs⟩ := src_ex h5 hc (opn_ex hd h)
  refine cnt_lt _ (fun i _ hi => ?_) ⟨k, hk, ?_, ?_⟩
  · rw [Nat.testBit_or] at hi
    cases hb : done.testBit i with
    | true => rw [hb] at hi; simp at hi
    | false => rfl
  · rw [srcB, Bool.and_eq_true] at hs
    exact hs.1
  · rw [Nat.testBit_or, blkF_bit, hs, decide_eq_true hk]; simp
theorem blk_or_lt {ps : List ByteArray} {done : Nat} (hd : done < 2 ^ ps.length) : done ||| blkF ps done < 2 ^ ps.length := Nat.or_lt_two_pow hd (blkF_lt _ _)

end Go.Proofs.YtjkgcgbialiipaaDoor
/- Walks: circuits by the reference; IsFlowing. -/
namespace Go.Proofs.YtjkgcgbialiipaaDoor
open Go.RowKit

theorem anyTo_none {p : Nat → Bool} {k : Nat} (h : ∀ i, i < k → p i = false) : anyTo p k = false := by
  rw [anyTo, List.any_eq_false]
  intro i hi
  rw [h i (by simpa using hi)]
  decide
/-- One number more on a way. -/
def wkQ (A : Nat → Nat → Bool) (n first f last set k : Nat) : Bool := decide (first < k) && (A last k && (!set.testBit k && walkB A n first f k (set ||| 2 ^ k)))
theorem walkB_next (A : Nat → Nat → Bool) (n first f last set : Nat) : walkB A n first (f + 1) last set = (A last first || anyTo (wkQ A n first f last set) n) := rfl
theorem wkQ_low {A : Nat → Nat → Bool} {n first f last set k : Nat} (h : k ≤ first) : wkQ A n first f last set k = false := by rw [wkQ, decide_eq_false (by omega)]; rfl
/-- What the first numbers up to k tell. -/
def wkTo (A : Nat → Nat → Bool) (n first f last set k : Nat) : Bool := (decide (first < k) && A last first) || anyTo (wkQ A n first f last set) k
theorem wkTo_first (A : Nat → Nat → Bool) (n first f last set : Nat) : wkTo A n first f last set first = false := by
  rw [wkTo, decide_eq_false (Nat.lt_irrefl _), anyTo_none fun i hi => wkQ_low (by omega)]; rfl
theorem wkTo_one (A : Nat → Nat → Bool) (n first f last set : Nat) : wkTo A n first f last set (first + 1) = A last first := by
  rw [wkTo, decide_eq_true (Nat.lt_succ_self _), anyTo_none fun i hi => wkQ_low (by omega)]; simp
theorem wkTo_next {A : Nat → Nat → Bool} {n first f last set k : Nat} (h : first < k) : wkTo A n first f last set (k + 1) = (wkTo A n first f last set k || wkQ A n first f last set k) := by
  rw [wkTo, wkTo, anyTo_next, decide_eq_true h, decide_eq_true (by omega), Bool.or_assoc]
/-- One number more. -/
def wkS (A : Nat → Nat → Bool) (n first f last set k : Nat) : Bool := if k = first then A last first else wkQ A n first f last set k
theorem wkTo_step {A : Nat → Nat → Bool} {n first f last set k : Nat} (h : first ≤ k) : wkTo A n first f last set (k + 1) = (wkTo A n first f last set k || wkS A n first f last set k) := by
  unfold wkS
  split
  · rename_i e
    rw [e, wkTo_one, wkTo_first]; rfl
  · exact wkTo_next (by omega)
theorem wkTo_end {A : Nat → Nat → Bool} {n first f last set : Nat} (h : first < n) : wkTo A n first f last set n = walkB A n first (f + 1) last set := by
  rw [wkTo, walkB_next, decide_eq_true h]; rfl

/-- A way as the set of its switches. -/
def setW (way : List Nat) : Nat := way.foldl (fun t i => t ||| 2 ^ i) 0
theorem setW_snoc (way : List Nat) (k : Nat) : setW (way ++ [k]) = setW way ||| 2 ^ k := by simp [setW]
theorem setW_bit (way : List Nat) (j : Nat) : (setW way).testBit j = decide (j ∈ way) := by
  have key : ∀ (l : List Nat) (t : Nat), (l.foldl (fun t i => t ||| 2 ^ i) t).testBit j = (t.testBit j || decide (j ∈ l)) := by
    intro l
    induction l with
    | nil => intro t; simp
    | cons x l ih =>
      intro t
      rw [List.foldl_cons, ih, Nat.testBit_or, Nat.testBit_two_pow]
      by_cases e : x = j
      · subst e; simp
      · have e' : ¬ j = x := fun h => e h.symm
        simp [e, e']
  rw [setW, key]; simp
/-- How many switches are not on a way. -/
def freeN (way : List Nat) (n : Nat) : Nat := ((List.range n).filter fun i => !decide (i ∈ way)).length
theorem freeN_snoc {way : List Nat} {n k : Nat} (hk : k < n) (h : k ∉ way) : freeN (way ++ [k]) n < freeN way n := by
  unfold freeN
  rw [← List.countP_eq_length_filter, ← List.countP_eq_length_filter]
  have key : ∀ m, (m ≤ k → List.countP (fun i => !decide (i ∈ way ++ [k])) (List.range m) = List.countP (fun i => !decide (i ∈ way)) (List.range m)) ∧ (k < m → List.countP (fun i => !decide (i ∈ way ++ [k])) (List.range m) < List.countP (fun i => !decide (i ∈ way)) (List.range m)) := by
    intro m
    induction m with
    | zero => exact ⟨fun _ => rfl, fun h => absurd h (Nat.not_lt_zero _)⟩
    | succ m ih =>
      rw [List.range_succ, List.countP_append, List.countP_append]
      refine ⟨fun hm => ?_, fun hm => ?_⟩
      · have e : ¬ m = k := by omega
        rw [ih.1 (by omega)]
        simp [List.countP_cons, e]
      · by_cases e : m = k
        · subst e
          rw [ih.1 (Nat.le_refl _)]
          simp [h]
        · have := ih.2 (by omega)
          have e3 : List.countP (fun i => !decide (i ∈ way ++ [k])) [m] = List.countP (fun i => !decide (i ∈ way)) [m] := by simp [List.countP_cons, e]
          rw [e3]; omega
  exact (key n).2 hk
theorem freeN_le (way : List Nat) (n : Nat) : freeN way n ≤ n := Nat.le_trans (List.length_filter_le _ _) (by simp)
/-- The text of a way. -/
def wayT (way : List Nat) : ByteArray := digS (way.map fun i : Nat => (i : Int))
theorem wayT_size (way : List Nat) : (wayT way).size = way.length := by rw [wayT, digS_size, List.length_map]
theorem wayT_one (k : Nat) : wayT [k] = digS [(k : Int)] := rfl
theorem wayT_snoc (way : List Nat) (k : Nat) : wayT way ++ digS [(k : Int)] = wayT (way ++ [k]) := by
  rw [wayT, wayT, digS_app, List.map_append]; rfl
theorem wayT_get {way : List Nat} {n : Nat} (hw : ∀ x ∈ way, x < n) (h5 : n ≤ 5) (k : Nat) (hk : k < way.length) (hs : k < (wayT way).size) : (wayT way)[k].toNat = 48 + way[k] := by
  have h1 := hw way[k] (List.getElem_mem hk)
  have h2 : (wayT way).data.toList[k]? = some (UInt8.ofNat (48 + way[k])) := by
    simp only [wayT, digS, strOfNums, List.map_map, List.getElem?_map, List.getElem?_eq_getElem hk, Option.map_some, Function.comp]
    congr 2
  rw [at_byte _ k hs] at h2
  have h3 := Option.some.inj h2
  rw [h3]
  have key : ∀ n : Fin 5, (UInt8.ofNat (48 + n.val)).toNat = 48 + n.val := by decide +kernel
  exact key ⟨way[k], by omega⟩
theorem findI_neg (l : List UInt8) (c : Int) : ∀ at_ : Int, 0 ≤ at_ → (findI l c at_ < 0 ↔ ∀ b ∈ l, ((b.toNat : Nat) : Int) ≠ c) := by
  induction l with
  | nil => intro at_ _; simp [findI]
  | cons b l ih =>
    intro at_ h
    rw [findI]
    split
    · rename_i e
      constructor
      · intro h2; omega
      · intro h2; exact absurd e (h2 b (by simp))
    · rename_i e
      rw [ih (at_ + 1) (by omega)]
      constructor
      · intro h2 x hx
        rcases List.mem_cons.1 hx with rfl | hx
        · exact e
        · exact h2 x hx
      · intro h2 x hx
        exact h2 x (by simp [hx])
theorem wayT_find {way : List Nat} {n : Nat} (hw : ∀ x ∈ way, x < n) (h5 : n ≤ 5) (k : Nat) : findI (wayT way).data.toList (48 + (k : Int)) 0 < 0 ↔ k ∉ way := by
  rw [findI_neg _ _ 0 (Int.le_refl _)]
  constructor
  · intro h hm
    obtain ⟨j, hj, e⟩ := List.getElem_of_mem hm
    have hs : j < (wayT way).size := by rw [wayT_size]; exact hj
    have := h _ (List.mem_of_getElem? (at_byte _ j hs))
    rw [wayT_get hw h5 j hj hs, e] at this
    omega
  · intro h b hb e
    obtain ⟨j, hj, rfl⟩ := List.getElem_of_mem hb
    have hs : j < (wayT way).size := by simpa using hj
    have hjw : j < way.length := by rw [wayT_size] at hs; exact hs
    have h2 := at_byte (wayT way) j hs
    rw [List.getElem?_eq_getElem hj] at h2
    rw [Option.some.inj h2, wayT_get hw h5 j hjw hs] at e
    have : way[j] = k := by omega
    exact h (this ▸ List.getElem_mem hjw)

/-- The product of two signs. -/
def tmsN (a b : Nat) : Nat := if a = 3 ∨ b = 3 then 3 else if a = b then 1 else 2
theorem tmsN_range (a b : Nat) : 1 ≤ tmsN a b ∧ tmsN a b ≤ 3 := by
  unfold tmsN
  split
  · omega
  · split <;> omega
set_option maxHeartbeats 1000000 in
theorem l7Times_ok (a b : Nat) (w : World) :
    Calls Tryd.prog 211 #[.int .i64 a, .int .i64 b] w fun e w' => e = .returned (.int .i64 (tmsN a b : Nat)) ∧ w = w' := by
  by_cases ha : a = 3
  · have e : tmsN a b = 3 := by rw [tmsN, if_pos (.inl ha)]
    have h1 : ((a : Int) == 3) = true := by rw [ha]; rfl
    rw [e]
    clear ha
    go_enter Tryd.func211, Tryd.ntmps211
    go_wp2
    go_ret
    exact ⟨rfl, rfl⟩
  · have h1 : ((a : Int) == 3) = false := by rw [beq_eq_false_iff_ne]; omega
    by_cases hb : b = 3
    · have e : tmsN a b = 3 := by rw [tmsN, if_pos (.inr hb)]
      have h2 : ((b : Int) == 3) = true := by rw [hb]; rfl
      rw [e]
      clear ha hb
      go_enter Tryd.func211, Tryd.ntmps211
      go_wp2
      go_ret
      exact ⟨rfl, rfl⟩
    · have h2 : ((b : Int) == 3) = false := by rw [beq_eq_false_iff_ne]; omega
      by_cases hab : a = b
      · have e : tmsN a b = 1 := by rw [tmsN, if_neg (by omega), if_pos hab]
        have h3 : ((a : Int) == (b : Int)) = true := by rw [hab]; simp
        rw [e]
        clear ha hb hab
        go_enter Tryd.func211, Tryd.ntmps211
        go_wp2
        go_ret
        exact ⟨rfl, rfl⟩
      · have e : tmsN a b = 2 := by rw [tmsN, if_neg (by omega), if_neg hab]
        have h3 : ((a : Int) == (b : Int)) = false := by rw [beq_eq_false_iff_ne]; omega
        rw [e]
        clear ha hb hab
        go_enter Tryd.func211, Tryd.ntmps211
        go_wp2
        go_ret
        exact ⟨rfl, rfl⟩

theorem sgV_act {ps : List ByteArray} {i k : Nat} : (actB ps i k = true → 0 < sgV (upB (bitN ps k) i ps.length) (dnB (bitN ps k) i ps.length)) ∧ (actB ps i k = false → sgV (upB (bitN ps k) i ps.length) (dnB (bitN ps k) i ps.length) = 0) := by
  constructor
  · intro h; exact (sgV_pos _ _).2 h
  · intro h
    have := sgV_pos (upB (bitN ps k) i ps.length) (dnB (bitN ps k) i ps.length)
    rw [show (upB (bitN ps k) i ps.length || dnB (bitN ps k) i ps.length) = false from h] at this
    have h2 : ¬ 0 < sgV (upB (bitN ps k) i ps.length) (dnB (bitN ps k) i ps.length) := fun h3 => by have := this.1 h3; cases this
    omega

theorem OwnT.base' {w : World} {B B' : Nat} {v : Value} {ts : List ByteArray} (h : OwnT w B v ts) (hB : B' ≤ B) : OwnT w B' v ts := by
  obtain ⟨h0, h1 | ⟨g, cap, cur, e, hg, h2⟩⟩ := h
  · exact ⟨h0, .inl h1⟩
  · exact ⟨h0, .inr ⟨g, cap, cur, e, Nat.le_trans hB hg, h2⟩⟩

theorem RowT.cells {w : World} {ao : Option Addr} {n c : Nat} {ts : List ByteArray} (h : RowT w ao n c ts) : ∀ ad, ao = some ad → ∀ j u, (strs ts)[j]? = some u → w.cell? (ad.add j) = some u := by
  intro ad had j u hu
  have hj : j < ts.length := by
    have := (List.getElem?_eq_some_iff.1 hu).1
    simpa [strs] using this
  obtain ⟨b, o, rfl, _⟩ := h.2.some (by rw [← h.1]; omega)
  cases had
  have ha : (⟨b, o, none⟩ : Addr).add j = ⟨b, o + j, none⟩ := by unfold Addr.add; split <;> simp_all
  rw [ha, h.2.cell b o rfl j (by rw [← h.1]; exact hj), ← hu, strs_get ts j hj]

/-- 'append(out, more...)' of texts. -/
theorem wpList_appTs {w : World} {ops : Array Oper} {rest : List Oper} {o : Oper} {a : Act} {Q : Exit → Act → World → Prop} {B : Nat} {v : Value} {ts ys : List ByteArray} {ao : Option Addr} {m c : Nat} (hown : OwnT w B v ts) (hr : RowT w ao m c ys)
    (hgd : o.guard = none) (s x : Operand) (ho : o.op = .call { callee := .builtin .append, args := #[s, x], argTypes := #[87, 87] }) (hs : a.eval s = v) (hx : a.eval x = .slice ao m c)
    (hbytes : (ts.length + m) * 16 ≤ 140737488355328) (hB : B ≤ w.heap.size)
    (h : ∀ v' w', OwnT w' B v' (ts ++ ys) → w.grownBy w' v.ownBlock → wpList Tryd.prog ops Q rest (a.put o.dst v') w') : wpList Tryd.prog ops Q (o :: rest) a w := by
  obtain ⟨i, hi, hz, hsz, hby⟩ := info_parts i9
  have hl : (strs ys).length = m * 1 := by simp [strs, hr.1]
  have e1 : ts.length + m = (ts ++ ys).length := by simp [hr.1]
  have e2 : strs ts ++ strs ys = strs (ts ++ ys) := by simp [strs]
  cases hao : ao with
  | some ad =>
    subst hao
    refine wpList_append_own w hgd s x _ ho B 9 i (.string ⟨#[]⟩) 1 16 Tryd.underlying87 hi hz hsz hby rfl (by decide) v _ _ hs hown ad m c (strs ys) hx hl (hr.cells ad rfl) (strs_one _) (by unfold maxLen; omega) hbytes hB ?_
    intro v' w' r1 r2 _
    exact h v' w' (by unfold OwnT; rw [← e1, ← e2]; exact r1) r2
  | none =>
    subst hao
    have hc0 := hr.2.nil rfl
    have hm0 : m = 0 := by have := hr.2.le; omega
    have hy : ys = [] := List.eq_nil_of_length_eq_zero (by rw [hr.1]; exact hm0)
    subst hc0 hm0 hy
    have hrun := run_append_owned_none (P := Tryd.prog) w B 87 o.type 9 i 1 Tryd.underlying87 hi v _ _ hown
    refine wpList_plain hgd fun K hK => ?_
    unfold Oper.wp
    simp [execOp, ho, resolve, invoke, builtin, hs, hx, hrun, Result.andThen]
    exact hK _ _ (h v w (by simpa using hown) (World.grownBy.refl _ _))

/-- What a walk gives: some circuits, if there are some. -/
def WalkP (b : Bool) (M : Nat) (w : World) (e : Ending) (w' : World) : Prop := ∃ v ts, e = .returned v ∧ OwnT w' w.heap.size v ts ∧ ((0 < ts.length) ↔ b = true) ∧ ts.length ≤ M ∧ Below w.heap.size w w'

theorem pow_bound (f : Nat) : 1 + 5 * 6 ^ f ≤ 6 ^ (f + 1) := by
  have : 0 < 6 ^ f := Nat.pow_pos (by decide)
  rw [Nat.pow_succ]; omega

end Go.Proofs.YtjkgcgbialiipaaDoor
/- Walks: circuits by the reference; IsFlowing by the reference. -/
namespace Go.Proofs.YtjkgcgbialiipaaDoor
open Go.RowKit

theorem len_pos {ts ys : List ByteArray} {a b : Bool} (h : (0 < ts.length) ↔ a = true) (k : (0 < ys.length) ↔ b = true) : (0 < (ts ++ ys).length) ↔ (a || b) = true := by
  rw [List.length_append, Bool.or_eq_true, ← h, ← k]; omega
theorem len_one {ts : List ByteArray} {t : ByteArray} : (0 < (ts ++ [t]).length) ↔ true = true := by simp
theorem sg_cut (a : Nat) (h : 1 ≤ a ∧ a ≤ 3) : ∃ p : ByteArray, (⟨#[48, 43, 45, 42]⟩ : ByteArray).extract a (a + 1) = p ∧ p.size = 1 := by
  rcases (show a = 1 ∨ a = 2 ∨ a = 3 by omega) with rfl | rfl | rfl
  · exact ⟨_, rfl, rfl⟩
  · exact ⟨_, rfl, rfl⟩
  · exact ⟨_, rfl, rfl⟩

set_option maxRecDepth 100000 in
set_option maxHeartbeats 8000000 in
theorem l7Walk_ok (ps : List ByteArray) (hn : netB ps = true) (h5 : ps.length ≤ 5) : ∀ (f : Nat) (way : List Nat) (first last sign : Nat) (ao : Option Addr) (c : Nat) (w : World) (_ : RowT w ao ps.length c ps) (_ : ∀ x ∈ way, x < ps.length)
    (_ : way[0]? = some first) (_ : way[way.length - 1]? = some last) (_ : freeN way ps.length < f) (_ : way.length + f ≤ 7) (_ : 1 ≤ sign ∧ sign ≤ 3),
    Calls Tryd.prog 200 #[.slice ao ps.length c, .string (wayT way), .int .i64 sign] w (WalkP (walkB (actB ps) ps.length first f last (setW way)) (6 ^ f) w)
  | 0, _, _, _, _, _, _, _, _, _, _, _, hf, _, _ => absurd hf (Nat.not_lt_zero _)
  | f + 1, way, first, last, sign, ao, c, w, h, hw, hfi, hla, hf, hlen, hsg => by
    have hL0 : 0 < way.length := (List.getElem?_eq_some_iff.1 hfi).1
    have hfl : first < ps.length := hw _ (List.mem_of_getElem? hfi)
    have hll : last < ps.length := hw _ (List.mem_of_getElem? hla)
    obtain ⟨L, hL⟩ : ∃ L, way.length = L + 1 := ⟨way.length - 1, by omega⟩
    have hz : (wayT way).size = L + 1 := by rw [wayT_size, hL]
    have hs0 : 0 < (wayT way).size := by omega
    have hsL : L < (wayT way).size := by omega
    have e0 : (wayT way)[0].toNat = 48 + first := by
      rw [wayT_get hw h5 0 hL0 hs0]
      have := List.getElem?_eq_getElem hL0
      rw [hfi] at this
      rw [← Option.some.inj this]
    have eL : (wayT way)[L].toNat = 48 + last := by
      rw [wayT_get hw h5 L (by omega) hsL]
      have := List.getElem?_eq_getElem (l := way) (i := L) (by omega)
      rw [show way.length - 1 = L by omega] at hla
      rw [hla] at this
      rw [← Option.some.inj this]
    have h480 : (48 : Int) + (first : Int) - 48 = (first : Int) := by omega
    have h48l : (48 : Int) + (last : Int) - 48 = (last : Int) := by omega
    have HFind := Lib.hid (fun k => wayT_find hw h5 k)
    have HApp := Lib.hid (fun k => wayT_snoc way k)
    have HEnd := Lib.hid (wkTo_end (A := actB ps) (f := f) (last := last) (set := setW way) hfl)
    have HFirst := Lib.hid (wkTo_first (actB ps) ps.length first f last (setW way))
    have HStep := Lib.hid (fun k (hk : first ≤ k) => wkTo_step (A := actB ps) (n := ps.length) (f := f) (last := last) (set := setW way) hk)
    have HSf := Lib.hid (show wkS (actB ps) ps.length first f last (setW way) first = actB ps last first by rw [wkS, if_pos rfl])
    have HSn := Lib.hid (fun k (hk : first < k) (ha : actB ps last k = false) => show wkS (actB ps) ps.length first f last (setW way) k = false by rw [wkS, if_neg (by omega), wkQ, ha]; simp)
    have HSm := Lib.hid (fun k (hk : first < k) (hm : k ∈ way) => show wkS (actB ps) ps.length first f last (setW way) k = false by rw [wkS, if_neg (by omega), wkQ, setW_bit, decide_eq_true hm]; simp)
    have HSr := Lib.hid (fun k (hk : first < k) (ha : actB ps last k = true) (hm : k ∉ way) => show wkS (actB ps) ps.length first f last (setW way) k = walkB (actB ps) ps.length first f k (setW way ||| 2 ^ k) by rw [wkS, if_neg (by omega), wkQ, setW_bit, decide_eq_false hm, ha, decide_eq_true hk]; rfl)
    have HSign := Lib.hid (fun k W (hk : k < ps.length) (hW : Below w.heap.size w W) => l7Sign_ok ao ps.length c ps last k W (h.below hW (Nat.le_refl _)) hn h5 hll hk)
    have HAct := Lib.hid (fun k => sgV_act (ps := ps) (i := last) (k := k))
    have HRec := Lib.hid (fun k a W (hk : k < ps.length) (hnk : k ∉ way) (ha : 1 ≤ a ∧ a ≤ 3) (hW : Below w.heap.size w W) => by
      have := l7Walk_ok ps hn h5 f (way ++ [k]) first k a ao c W (h.below hW (Nat.le_refl _)) (fun x hx => by
        rcases List.mem_append.1 hx with hx | hx
        · exact hw x hx
        · rw [List.mem_singleton.1 hx]; exact hk) (by rw [List.getElem?_append_left hL0]; exact hfi) (by simp) (by have := freeN_snoc hk hnk; omega) (by simp; omega) ha
      rw [setW_snoc] at this
      exact this)
    have HPb := Lib.hid (pow_bound f)
    have h6 : (6 : Nat) ^ f ≤ 7776 := Nat.le_trans (Nat.pow_le_pow_right (by decide) (show f ≤ 5 by omega)) (by decide)
    have h1f : 1 ≤ 6 ^ f := Nat.pow_pos (by decide)
    generalize (6 : Nat) ^ f = M at HPb h6 h1f HRec
    generalize (6 : Nat) ^ (f + 1) = M6 at HPb ⊢
    have O0 := Lib.hid (OwnT.lit w w.heap.size [] (Nat.le_refl _) (by decide))
    have B0 : Hid (Below w.heap.size w (w.alloc (.cells #[] 9))) := (Below.refl _ _).alloc (Nat.le_refl _) _
    clear h hn hw hfi hla hf
    generalize wayT way = tx at hz hs0 hsL e0 eL HFind HApp ⊢
    generalize walkB (actB ps) ps.length first (f + 1) last (setW way) = bE at HEnd ⊢
    go_enter Tryd.func200, Tryd.ntmps200
    go_wp2_with fail
    go_loopw [7, 10] (fun v q wr => ∃ (k : Nat) (ts : List ByteArray), first ≤ k ∧ k ≤ ps.length ∧ q = .int .i64 k ∧ OwnT wr w.heap.size v ts ∧ ((0 < ts.length) ↔ wkTo (actB ps) ps.length first f last (setW way) k = true) ∧ ts.length ≤ (if first < k then 1 else 0) + k * M ∧ Below w.heap.size w wr) (fun _ q _ => ps.length - (intOf q).toNat)
    case atStart => exact ⟨first, [], Nat.le_refl _, Nat.le_of_lt hfl, rfl, O0.out, by rw [HFirst.out]; simp, by simp, B0.out⟩
    case round =>
      obtain ⟨k, ts, hk1, hk2, rfl, ho, hiff, hbd, hb⟩ := hrel
      have HO := Lib.hid ho
      have HB := Lib.hid hb
      have HIff := Lib.hid hiff
      have hk6 : k * M ≤ 5 * M := Nat.mul_le_mul_right _ (by omega)
      have htl : ts.length ≤ 46656 := by split at hbd <;> omega
      have HK6 := Lib.hid hk6
      have HBd := Lib.hid hbd
      clear ho hb hiff hbd hk6
      by_cases hkn : k < ps.length
      · have hkw : (k : Int) < (ps.length : Int) := by omega
        have HSk := Lib.hid (HSign.out k wr hkn HB.out)
        obtain ⟨hact1, hact0⟩ := HAct.out k
        have hsv := sgV_lt (upB (bitN ps k) last ps.length) (dnB (bitN ps k) last ps.length)
        generalize sgV (upB (bitN ps k) last ps.length) (dnB (bitN ps k) last ps.length) = sv at HSk hact1 hact0 hsv
        have HM := Lib.hid (Nat.succ_mul k M)
        cases ha : actB ps last k with
        | false =>
          have hsv0 := hact0 ha
          subst hsv0
          have HS0 : Hid (wkTo (actB ps) ps.length first f last (setW way) (k + 1) = wkTo (actB ps) ps.length first f last (setW way) k) := by
            have h2 := HStep.out k hk1
            by_cases e : k = first
            · have h3 : wkS (actB ps) ps.length first f last (setW way) k = false := by rw [e, HSf.out, ← e, ha]
              unfold Hid; rw [h2, h3, Bool.or_false]
            · unfold Hid; rw [h2, HSn.out k (by omega) ha, Bool.or_false]
          clear hact1 hact0 ha
          go_wp2_with fail
          refine HSk.out.mono ?_
          rintro e w2 ⟨rfl, rfl⟩
          go_wp2_with fail
          go_roundw
          case rel => exact ⟨k + 1, ts, by omega, by omega, by go_num, HO.out, by rw [HS0.out]; exact HIff.out, by rw [if_pos (by omega)]; have := HBd.out; split at this <;> (rw [HM.out]; omega), HB.out⟩
          case measure => simp [intOf]; omega
        | true =>
          have hsv1 := hact1 ha
          have HTm := Lib.hid (fun W => l7Times_ok sign sv W)
          have htr := tmsN_range sign sv
          generalize tmsN sign sv = al at HTm htr
          by_cases hkf : k = first
          · subst hkf
            have HS1 : Hid (wkTo (actB ps) ps.length k f last (setW way) (k + 1) = true) := by
              unfold Hid; rw [HStep.out k (Nat.le_refl _), HSf.out, ha, Bool.or_true]
            have hb0 : ((sv : Int) == 0) = false := by rw [beq_eq_false_iff_ne]; omega
            clear hact1 hact0 ha hsv
            rcases (show al = 1 ∨ al = 2 ∨ al = 3 by omega) with rfl | rfl | rfl
            all_goals
              go_wp2_with fail
              refine HSk.out.mono ?_
              rintro e w2 ⟨rfl, rfl⟩
              go_wp2_with fail
              refine (HTm.out _).mono ?_
              rintro e w2 ⟨rfl, rfl⟩
              go_wp2_with (at_builtin; refine wpList_appT (OwnT.alloc HO.out _) ((Blk.new wr 9 [_]).cell (i := 0) rfl) rfl _ _ rfl rfl rfl (by omega) (by have := HB.out.size; simp; omega) ?_; intro v6 w6 o6 g6)
              go_roundw
              case rel => exact ⟨k + 1, _, by omega, by omega, by go_num, o6, by rw [HS1.out]; simp, by rw [if_pos (by omega), List.length_append, List.length_singleton]; have := HBd.out; rw [if_neg (by omega)] at this; rw [HM.out]; omega, (HB.out.alloc HB.out.size _).grown g6 (by have := HB.out.size; simp; omega) (fun j hj => (World.ownsRow.lt HO.out j hj).1)⟩
              case measure => simp [intOf] <;> omega
          · have hlt : first < k := by omega
            have hb0 : ((sv : Int) == 0) = false := by rw [beq_eq_false_iff_ne]; omega
            have hbf : ((k : Int) == (first : Int)) = false := by rw [beq_eq_false_iff_ne]; omega
            have hw8 : IntKind.u8.wrap (48 + (k : Int)) = 48 + (k : Int) := by rw [IntKind.wrap_u8]; omega
            have HFk := Lib.hid (fun W => l14Find_ok tx (48 + (k : Int)) W (by unfold maxLen; omega))
            by_cases hm : k ∈ way
            · have HS0 : Hid (wkTo (actB ps) ps.length first f last (setW way) (k + 1) = wkTo (actB ps) ps.length first f last (setW way) k) := by
                unfold Hid; rw [HStep.out k hk1, HSm.out k hlt hm, Bool.or_false]
              have hfn : ¬ findI tx.data.toList (48 + (k : Int)) 0 < 0 := fun h => ((HFind.out k).1 h) hm
              clear hact1 hact0 ha hsv hm
              generalize findI tx.data.toList (48 + (k : Int)) 0 = fi at HFk hfn
              go_wp2_with fail
              refine HSk.out.mono ?_
              rintro e w2 ⟨rfl, rfl⟩
              go_wp2_with fail
              refine (HTm.out _).mono ?_
              rintro e w2 ⟨rfl, rfl⟩
              go_wp2_with fail
              refine (HFk.out _).mono ?_
              rintro e w2 ⟨rfl, rfl⟩
              go_wp2_with fail
              go_roundw
              case rel => exact ⟨k + 1, ts, by omega, by omega, by go_num, HO.out, by rw [HS0.out]; exact HIff.out, by rw [if_pos (by omega)]; have := HBd.out; rw [if_pos (by omega)] at this; rw [HM.out]; omega, HB.out⟩
              case measure => simp [intOf]; omega
            · have HS2 : Hid (wkTo (actB ps) ps.length first f last (setW way) (k + 1) = (wkTo (actB ps) ps.length first f last (setW way) k || walkB (actB ps) ps.length first f k (setW way ||| 2 ^ k))) := by
                unfold Hid; rw [HStep.out k hk1, HSr.out k hlt ha hm]
              have hfn : findI tx.data.toList (48 + (k : Int)) 0 < 0 := (HFind.out k).2 hm
              have HApk := Lib.hid (HApp.out k)
              have HDec := Lib.hid (fun W => l14Dec_digit k (by omega) W)
              have HRk := Lib.hid (fun W (hW : Below w.heap.size w W) => HRec.out k al W hkn hm htr hW)
              have hdz : (digS [(k : Int)]).size = 1 := digS_size _
              rw [← HApk.out] at HRk
              clear hact1 hact0 ha hsv hm
              generalize walkB (actB ps) ps.length first f k (setW way ||| 2 ^ k) = bR at HS2 HRk
              generalize digS [(k : Int)] = dk at HDec HRk HApk hdz
              generalize findI tx.data.toList (48 + (k : Int)) 0 = fi at HFk hfn
              go_wp2_with fail
              refine HSk.out.mono ?_
              rintro e w2 ⟨rfl, rfl⟩
              go_wp2_with fail
              refine (HTm.out _).mono ?_
              rintro e w2 ⟨rfl, rfl⟩
              go_wp2_with fail
              refine (HFk.out _).mono ?_
              rintro e w2 ⟨rfl, rfl⟩
              go_wp2_with fail
              refine (HDec.out _).mono ?_
              rintro e w3 ⟨rfl, b3⟩
              have C3 := Lib.hid (HB.out.trans (b3.mono HB.out.size))
              have O3 := Lib.hid (HO.out.below b3 (Nat.le_refl _))
              clear b3
              go_wp2_with fail
              refine (HRk.out _ C3.out).mono ?_
              rintro e w4 ⟨v4, ys, rfl, o4, i4, l4, b4⟩
              obtain ⟨ya, yc, rfl, y4⟩ := o4.row
              have C4 := Lib.hid (C3.out.trans (b4.mono C3.out.size))
              have O4 := Lib.hid (O3.out.below b4 (Nat.le_refl _))
              have I4 := Lib.hid i4
              have Y4 := Lib.hid y4
              clear b4 o4 i4 y4
              go_wp2_with (at_builtin; refine wpList_appTs O4.out Y4.out rfl _ _ rfl rfl rfl (by omega) C4.out.size ?_; intro v6 w6 o6 g6)
              go_roundw
              case rel => exact ⟨k + 1, _, by omega, by omega, by go_num, o6, by rw [HS2.out]; exact len_pos HIff.out I4.out, by rw [if_pos (by omega), List.length_append]; have := HBd.out; rw [if_pos (by omega)] at this; rw [HM.out]; omega, C4.out.grown g6 C4.out.size (fun j hj => (World.ownsRow.lt O4.out j hj).1)⟩
              case measure => simp [intOf] <;> omega
      · obtain rfl : k = ps.length := by omega
        have hend := HIff.out
        rw [HEnd.out] at hend
        have HE := Lib.hid hend
        clear hend
        go_wp2_with fail
        go_ret
        exact ⟨_, ts, rfl, HO.out, HE.out, by have hx := HBd.out; have := HPb.out; have := HK6.out; rw [if_pos hfl] at hx; omega, HB.out⟩

/-- Whether a network has a circuit. -/
def cirB (ps : List ByteArray) : Bool := circB (actB ps) ps.length
theorem freeN_one {i n : Nat} (h : i < n) : freeN [i] n < n := by
  have h1 := freeN_snoc (way := []) (n := n) (k := i) h (by simp)
  have h2 := freeN_le [] n
  simp only [List.nil_append] at h1
  omega

set_option maxHeartbeats 2000000 in
theorem l7Circuits_ok (ps : List ByteArray) (hn : netB ps = true) (h5 : ps.length ≤ 5) (ao : Option Addr) (c : Nat) (w : World) (h : RowT w ao ps.length c ps) :
    Calls Tryd.prog 177 #[.slice ao ps.length c] w (WalkP (cirB ps) 300000 w) := by
  have HW := Lib.hid (fun i W (hi : i < ps.length) (hW : Below w.heap.size w W) => by
    have := l7Walk_ok ps hn h5 6 [i] i i 1 ao c W (h.below hW (Nat.le_refl _)) (fun x hx => by rw [List.mem_singleton.1 hx]; exact hi) rfl rfl (by have := freeN_one hi; omega) (by simp) (by omega)
    rw [wayT_one, show setW [i] = 2 ^ i by simp [setW]] at this
    exact this)
  have HE : Hid (cirB ps = anyTo (fun i => walkB (actB ps) ps.length i 6 i (2 ^ i)) ps.length) := rfl
  have HDec := Lib.hid (fun k W (hk : k < ps.length) => l14Dec_digit k (by omega) W)
  have O0 := Lib.hid (OwnT.lit w w.heap.size [] (Nat.le_refl _) (by decide))
  have B0 : Hid (Below w.heap.size w (w.alloc (.cells #[] 9))) := (Below.refl _ _).alloc (Nat.le_refl _) _
  clear hn h
  generalize cirB ps = bE at HE ⊢
  go_enter Tryd.func177, Tryd.ntmps177
  go_wp2_with fail
  go_loopw [3, 4] (fun v q wr => ∃ (k : Nat) (ts : List ByteArray), k ≤ ps.length ∧ q = .int .i64 k ∧ OwnT wr w.heap.size v ts ∧ ((0 < ts.length) ↔ anyTo (fun i => walkB (actB ps) ps.length i 6 i (2 ^ i)) k = true) ∧ ts.length ≤ k * 46656 ∧ Below w.heap.size w wr) (fun _ q _ => ps.length - (intOf q).toNat)
  case atStart => exact ⟨0, [], Nat.zero_le _, rfl, O0.out, by simp [anyTo], by simp, B0.out⟩
  case round =>
    obtain ⟨k, ts, hk, rfl, ho, hiff, hbd, hb⟩ := hrel
    have HO := Lib.hid ho
    have HB := Lib.hid hb
    have HIff := Lib.hid hiff
    clear ho hb hiff
    by_cases hkn : k < ps.length
    · have hkw : (k : Int) < (ps.length : Int) := by omega
      have HN := Lib.hid (anyTo_next (fun i => walkB (actB ps) ps.length i 6 i (2 ^ i)) k)
      have HDk := Lib.hid (fun W => HDec.out k W hkn)
      have HWk := Lib.hid (fun W hW => HW.out k W hkn hW)
      generalize walkB (actB ps) ps.length k 6 k (2 ^ k) = bR at HN HWk
      generalize digS [(k : Int)] = dk at HDk HWk
      go_wp2_with fail
      refine (HDk.out _).mono ?_
      rintro e w3 ⟨rfl, b3⟩
      have C3 := Lib.hid (HB.out.trans (b3.mono HB.out.size))
      have O3 := Lib.hid (HO.out.below b3 (Nat.le_refl _))
      clear b3
      go_wp2_with fail
      refine (HWk.out _ C3.out).mono ?_
      rintro e w4 ⟨v4, ys, rfl, o4, i4, l4, b4⟩
      obtain ⟨ya, yc, rfl, y4⟩ := o4.row
      have C4 := Lib.hid (C3.out.trans (b4.mono C3.out.size))
      have O4 := Lib.hid (O3.out.below b4 (Nat.le_refl _))
      have I4 := Lib.hid i4
      have Y4 := Lib.hid y4
      clear b4 o4 i4 y4
      go_wp2_with (at_builtin; refine wpList_appTs O4.out Y4.out rfl _ _ rfl rfl rfl (by omega) C4.out.size ?_; intro v6 w6 o6 g6)
      go_roundw
      case rel => exact ⟨k + 1, _, by omega, by go_num, o6, by rw [HN.out]; exact len_pos HIff.out I4.out, by rw [List.length_append]; omega, C4.out.grown g6 C4.out.size (fun j hj => (World.ownsRow.lt O4.out j hj).1)⟩
      case measure => simp [intOf] <;> omega
    · obtain rfl : k = ps.length := by omega
      have hend := HIff.out
      rw [← HE.out] at hend
      have HE2 := Lib.hid hend
      clear hend
      go_wp2_with fail
      go_ret
      exact ⟨_, ts, rfl, HO.out, HE2.out, by omega, HB.out⟩

/-- Whether a text is a network without a circuit. -/
def flwB (ps : List ByteArray) : Bool := netB ps && !cirB ps
set_option maxHeartbeats 1000000 in
theorem flowS_ok (t : ByteArray) (w : World) (hs : t.size ≤ 1048576) :
    Calls Tryd.prog 127 #[.string t] w fun e w' => e = .returned (.bool (flwB (cutsP 44 t))) ∧ Below w.heap.size w w' := by
  have HO := Lib.hid (l3Open_ok t w hs)
  have hp0 := cutsP_pos 44 t
  generalize cutsP 44 t = ps at HO hp0 ⊢
  cases hb : netB ps with
  | false =>
    have HV : Hid (flwB ps = false) := by unfold Hid; rw [flwB, hb]; rfl
    rw [hb] at HO
    clear hb
    go_enter Tryd.func127, Tryd.ntmps127
    go_wp2_with fail
    refine HO.out.mono ?_
    rintro e w1 ⟨v, rfl, o1, b1⟩
    clear o1
    go_wp2_with fail
    go_ret
    exact ⟨retb HV.out.symm, b1⟩
  | true =>
    have HV : Hid (flwB ps = !cirB ps) := by unfold Hid; rw [flwB, hb]; rfl
    have h5 := net_le hb hp0
    have HN := Lib.hid (netL_yes hb)
    have HC := Lib.hid (fun ao c W h => l7Circuits_ok ps hb h5 ao c W h)
    rw [hb] at HO
    clear hb
    go_enter Tryd.func127, Tryd.ntmps127
    go_wp2_with fail
    refine HO.out.mono ?_
    rintro e w1 ⟨v, rfl, o1, b1⟩
    rw [HN.out] at o1
    obtain ⟨a, c, rfl, r1⟩ := o1.row
    have HC1 := Lib.hid (HC.out _ _ _ r1)
    have B1 := Lib.hid b1
    clear o1 r1 b1 HC
    go_wp2_with fail
    refine HC1.out.mono ?_
    rintro e w2 ⟨v2, ts, rfl, o2, i2, l2, b2⟩
    obtain ⟨ya, yc, rfl, y2⟩ := o2.row
    have B2 := Lib.hid (B1.out.trans (b2.mono B1.out.size))
    have HV2 : Hid (((ts.length : Int) == 0) = flwB ps) := by
      unfold Hid
      rw [HV.out]
      cases hc : cirB ps with
      | true =>
        have := i2.2 hc
        rw [beq_eq_false_iff_ne.2 (by omega)]; rfl
      | false =>
        have : ¬ 0 < ts.length := fun h => by have := i2.1 h; rw [hc] at this; cases this
        rw [beq_iff_eq.2 (by omega)]; rfl
    clear o2 y2 i2 b2
    go_wp2_with fail
    go_ret
    exact ⟨retb HV2.out, B2.out⟩

end Go.Proofs.YtjkgcgbialiipaaDoor
/- Walks: FlowBlocks by the reference. -/
namespace Go.Proofs.YtjkgcgbialiipaaDoor
open Go.RowKit

theorem OwnI.belowZ {w w' : World} {B B' : Nat} {v : Value} {zs : List Int} (h : OwnI w B v zs) (hb : Below B' w w') (hB : w.heap.size ≤ B') : OwnI w' B v zs := by
  obtain ⟨h0, h1 | ⟨g, cap, cur, e, hg, hh, h2⟩⟩ := h
  · exact ⟨h0, .inl h1⟩
  · exact ⟨h0, .inr ⟨g, cap, cur, e, hg, by rw [hb.block g (by have := lt_of_block hh; omega)]; exact hh, h2⟩⟩
theorem OwnI.baseZ {w : World} {B B' : Nat} {v : Value} {zs : List Int} (h : OwnI w B v zs) (hB : B' ≤ B) : OwnI w B' v zs := by
  obtain ⟨h0, h1 | ⟨g, cap, cur, e, hg, h2⟩⟩ := h
  · exact ⟨h0, .inl h1⟩
  · exact ⟨h0, .inr ⟨g, cap, cur, e, Nat.le_trans hB hg, h2⟩⟩
theorem flw_get {ps : List ByteArray} (h : flwB ps = true) : netB ps = true ∧ circB (actB ps) ps.length = false := by
  rw [flwB, Bool.and_eq_true] at h
  exact ⟨h.1, by have := h.2; rw [cirB] at this; simpa using this⟩
/-- What FlowBlocks gives. -/
def fbV (ps : List ByteArray) : List Int := if flwB ps = true then flF ps 5 0 else []
theorem fbV_no {ps : List ByteArray} (h : flwB ps = false) : fbV ps = [] := by simp [fbV, h]
theorem fbV_yes {ps : List ByteArray} (h : flwB ps = true) : fbV ps = flF ps 5 0 := by simp [fbV, h]
theorem fbV_len (ps : List ByteArray) : (fbV ps).length ≤ 5 := by
  unfold fbV
  split
  · exact flF_len _ _ _
  · simp
theorem bN_tst (s i : Nat) : bN s i = if s.testBit i = true then 1 else 0 := bit_test s i
theorem bit0 {s i : Nat} : (((bN s i : Nat) : Int) == 0) = !s.testBit i := by rw [bN_tst]; cases s.testBit i <;> rfl
theorem bit1 {s i : Nat} : (((bN s i : Nat) : Int) == 1) = s.testBit i := by rw [bN_tst]; cases s.testBit i <;> rfl

set_option maxRecDepth 100000 in
set_option maxHeartbeats 8000000 in
theorem fbS_ok (t : ByteArray) (w : World) (hs : t.size ≤ 1048576) :
    Calls Tryd.prog 52 #[.string t] w fun e w' => ∃ v, e = .returned (.tuple #[v, .bool (flwB (cutsP 44 t))]) ∧ OwnI w' w.heap.size v (fbV (cutsP 44 t)) ∧ Below w.heap.size w w' := by
  have HO := Lib.hid (l3Open_ok t w hs)
  have HF := Lib.hid (fun W => flowS_ok t W hs)
  have hp0 := cutsP_pos 44 t
  generalize cutsP 44 t = ps at HO HF hp0 ⊢
  cases hb : flwB ps with
  | false =>
    have HV := Lib.hid (fbV_no hb)
    rw [hb] at HF
    clear hb
    generalize netB ps = nb at HO
    go_enter Tryd.func52, Tryd.ntmps52
    go_wp2_with fail
    refine HO.out.mono ?_
    rintro e w1 ⟨v, rfl, o1, b1⟩
    have B1 := Lib.hid b1
    clear o1 b1
    have b2 : Below w1.heap.size w1 (w1.alloc (.cells #[] 3)) := (Below.refl _ _).alloc (Nat.le_refl _) _
    have B2 := Lib.hid (B1.out.trans (b2.mono B1.out.size))
    have O2 := Lib.hid (OwnI.lit w1 w.heap.size [] B1.out.size (by decide))
    clear b2
    go_wp2_with fail
    refine (HF.out _).mono ?_
    rintro e w3 ⟨rfl, b3⟩
    have B3 := Lib.hid (B2.out.trans (b3.mono B2.out.size))
    have O3 := Lib.hid (O2.out.belowZ b3 (Nat.le_refl _))
    clear b3
    go_wp2_with fail
    go_ret2
    exact ⟨_, rfl, by rw [HV.out]; exact O3.out, B3.out⟩
  | true =>
    obtain ⟨hn, hc⟩ := flw_get hb
    have HV := Lib.hid (fbV_yes hb)
    have h5 := net_le hn hp0
    have hp : (2 ^ ps.length : Nat) ≤ 32 := Nat.pow_le_pow_right (n := 2) (by decide) h5
    have HN := Lib.hid (netL_yes hn)
    rw [hb] at HF
    rw [hn] at HO
    have HSg := Lib.hid (fun ao c i k W (h : RowT W ao ps.length c ps) (hi : i < ps.length) (hk : k < ps.length) => l7Sign_ok ao ps.length c ps i k W h hn h5 hi hk)
    have HAct := Lib.hid (fun i k => sgV_act (ps := ps) (i := i) (k := k))
    have HStp := Lib.hid (fun done (hd : done < 2 ^ ps.length) (h : done ≠ 2 ^ ps.length - 1) => blk_step h5 hc hd h)
    have HAll := Lib.hid (fun (ao : Option Addr) (c : Nat) W => l3All_ok ao ps.length c W h5)
    have HNx := Lib.hid (fun f done (h : done ≠ 2 ^ ps.length - 1) => flF_next (ps := ps) (f := f) h)
    have HEn := Lib.hid (fun f => flF_end ps f)
    have HLt := Lib.hid (fun done (hd : done < 2 ^ ps.length) => blk_or_lt (ps := ps) hd)
    have HBl := Lib.hid (fun done => blkF_lt ps done)
    have HZe := Lib.hid (fun done (hd : done < 2 ^ ps.length) (h : opnN done ps.length = 0) => opn_zero hd h)
    have hp1 : 0 < 2 ^ ps.length := Nat.two_pow_pos _
    clear hb hn hc
    generalize (2 ^ ps.length : Nat) = N at hp hp1 HStp HAll HNx HEn HLt HBl HZe
    go_enter Tryd.func52, Tryd.ntmps52
    go_wp2_with fail
    refine HO.out.mono ?_
    rintro e w1 ⟨v, rfl, o1, b1⟩
    rw [HN.out] at o1
    have L1 := Lib.hid o1
    obtain ⟨a, c, rfl, r1⟩ := o1.row
    have B1 := Lib.hid b1
    clear o1 b1
    have b2 : Below w1.heap.size w1 (w1.alloc (.cells #[] 3)) := (Below.refl _ _).alloc (Nat.le_refl _) _
    have B2 := Lib.hid (B1.out.trans (b2.mono B1.out.size))
    have O2 := Lib.hid (OwnI.lit w1 w1.heap.size [] (Nat.le_refl _) (by decide))
    clear b2
    go_wp2_with fail
    refine (HF.out _).mono ?_
    rintro e w3 ⟨rfl, b3⟩
    have B3 := Lib.hid (B2.out.trans (b3.mono B2.out.size))
    have O3 := Lib.hid (O2.out.belowZ b3 (Nat.le_refl _))
    have D3 : Hid (Below w1.heap.size w1 w3) := ((Below.refl _ _).alloc (Nat.le_refl _) _).trans (b3.mono (by simp))
    have HR1 := Lib.hid r1
    clear b3 r1
    have HSw := Lib.hid (fun i k W (hW : Below w1.heap.size w1 W) hi hk => HSg.out a c i k W (HR1.out.below hW (Nat.le_refl _)) hi hk)
    clear HSg
    go_wp2_with fail
    go_loopw [6, 7] (fun v d wr => ∃ (f done : Nat) (pre : List Int), pre ++ flF ps f done = flF ps 5 0 ∧ done < N ∧ opnN done ps.length ≤ f ∧ pre.length + f ≤ 5 ∧ d = .int .i64 done ∧ OwnI wr w1.heap.size v pre ∧ Below w1.heap.size w1 wr) (fun _ d _ => opnN (intOf d).toNat ps.length)
    case atStart => exact ⟨5, 0, [], rfl, hp1, Nat.le_trans (opn_le _ _) h5, by simp, rfl, O3.out, D3.out⟩
    case round =>
      obtain ⟨f, done, pre, hpre, hd, hop, hpl, rfl, ho, hb⟩ := hrel
      have HPre := Lib.hid hpre
      have HO := Lib.hid ho
      have HB := Lib.hid hb
      have HOp := Lib.hid hop
      clear hpre ho hb hop
      by_cases hlast : done = N - 1
      · subst hlast
        have HE2 : Hid (pre = flF ps 5 0) := by
          have := HPre.out
          rw [HEn.out, List.append_nil] at this
          exact this
        have hne : (((N - 1 : Nat) : Int) != ((N - 1 : Nat) : Int)) = false := by simp
        generalize (N - 1 : Nat) = M at HAll hne
        go_wp2_with (go_at_call 91; refine (HAll.out _ _ _).mono ?_; rintro e w4 ⟨rfl, rfl⟩)
        go_ret2
        exact ⟨_, rfl, by rw [HV.out, ← HE2.out]; exact OwnI.baseZ HO.out B1.out.size, B1.out.trans (HB.out.mono B1.out.size)⟩
      · have hne : ((done : Int) != ((N - 1 : Nat) : Int)) = true := by rw [bne_iff_ne]; omega
        have HStk := Lib.hid (HStp.out done hd hlast)
        have hf0 : 0 < f := by
          have := HStk.out
          have := HOp.out
          omega
        obtain ⟨f', rfl⟩ : ∃ f', f = f' + 1 := ⟨f - 1, by omega⟩
        have HNk := Lib.hid (HNx.out f' done hlast)
        have HLk := Lib.hid (HLt.out done hd)
        have hbl := HBl.out done
        have HBe : Hid (blkF ps done = setTo (srcB (actB ps) ps.length done) ps.length) := rfl
        have hor : bits .or .i64 (done : Int) ((blkF ps done : Nat) : Int) = ((done ||| blkF ps done : Nat) : Int) := or_nat _ _ (by omega) (by omega)
        clear hlast
        generalize (N - 1 : Nat) = M at HAll hne
        go_wp2_with (go_at_call 91; refine (HAll.out _ _ _).mono ?_; rintro e w4 ⟨rfl, rfl⟩)
        go_loop [8, 9] (fun bl q => ∃ k : Nat, k ≤ ps.length ∧ q = .int .i64 k ∧ bl = .int .i64 (setTo (srcB (actB ps) ps.length done) k : Nat)) (fun _ q => ps.length - (intOf q).toNat)
        case atStart => exact ⟨0, Nat.zero_le _, rfl, rfl⟩
        case round =>
          obtain ⟨k, hk, rfl, rfl⟩ := hrel
          by_cases hkn : k < ps.length
          · have hkw : (k : Int) < (ps.length : Int) := by omega
            have hDk := Lib.hid (fun W => l1Bit_ok (done : Int) (k : Int) W (by omega) (by omega) (by omega) (by omega))
            rw [Int.toNat_natCast, Int.toNat_natCast] at hDk
            have h0 := bit0 (s := done) (i := k)
            rw [← rdTo_zero (actB ps) done k] at h0
            have hbl0 := bN_lt done k
            generalize bN done k = u at hDk h0 hbl0
            go_wp2_with (go_at_call 122; refine (hDk.out _).mono ?_; rintro e w4 ⟨rfl, rfl⟩)
            clear hDk
            go_loop [10, 11] (fun rd q => ∃ j : Nat, j ≤ ps.length ∧ q = .int .i64 j ∧ rd = .bool (rdTo (actB ps) done k j)) (fun _ q => ps.length - (intOf q).toNat)
            case atStart => exact ⟨0, Nat.zero_le _, rfl, rfl⟩
            case round =>
              obtain ⟨j, hj, rfl, rfl⟩ := hrel
              clear h0
              by_cases hjn : j < ps.length
              · have hjw : (j : Int) < (ps.length : Int) := by omega
                have HRn := Lib.hid (rdTo_next (actB ps) done k j)
                cases hr : rdTo (actB ps) done k j with
                | false =>
                  have HR0 : Hid (rdTo (actB ps) done k (j + 1) = false) := by unfold Hid; rw [HRn.out, hr]; rfl
                  clear hr
                  go_wp2_with fail
                  go_round
                  case rel => exact ⟨j + 1, by omega, by go_num, by rw [HR0.out]⟩
                  case measure => simp [intOf]; omega
                | true =>
                  have HSj := Lib.hid (HSw.out j k wr HB.out hjn hkn)
                  obtain ⟨ha1, ha0⟩ := HAct.out j k
                  generalize sgV (upB (bitN ps k) j ps.length) (dnB (bitN ps k) j ps.length) = sv at HSj ha1 ha0
                  cases hA : actB ps j k with
                  | false =>
                    have hs0 := ha0 hA
                    subst hs0
                    have HR0 : Hid (rdTo (actB ps) done k (j + 1) = true) := by unfold Hid; rw [HRn.out, hr, hA]; simp
                    clear hr hA ha1 ha0
                    go_wp2_with fail
                    refine HSj.out.mono ?_
                    rintro e w5 ⟨rfl, rfl⟩
                    go_wp2_with fail
                    go_round
                    case rel => exact ⟨j + 1, by omega, by go_num, by rw [HR0.out]⟩
                    case measure => simp [intOf]; omega
                  | true =>
                    have hs1 := ha1 hA
                    have hs2 : ((sv : Int) == 0) = false := by rw [beq_eq_false_iff_ne]; omega
                    have HR0 : Hid (rdTo (actB ps) done k (j + 1) = done.testBit j) := by unfold Hid; rw [HRn.out, hr, hA]; simp
                    have hDj := Lib.hid (fun W => l1Bit_ok (done : Int) (j : Int) W (by omega) (by omega) (by omega) (by omega))
                    rw [Int.toNat_natCast, Int.toNat_natCast] at hDj
                    have h1 := bit1 (s := done) (i := j)
                    have hbl1 := bN_lt done j
                    generalize bN done j = u1 at hDj h1 hbl1
                    generalize done.testBit j = tb at h1 HR0
                    clear hr hA ha1 ha0
                    go_wp2_with fail
                    refine HSj.out.mono ?_
                    rintro e w5 ⟨rfl, rfl⟩
                    go_wp2_with fail
                    refine (hDj.out _).mono ?_
                    rintro e w5 ⟨rfl, rfl⟩
                    go_wp2_with fail
                    go_round
                    case rel => exact ⟨j + 1, by omega, by go_num, by rw [HR0.out]⟩
                    case measure => simp [intOf]; omega
              · obtain rfl : j = ps.length := by omega
                have he := rdTo_end (actB ps) ps.length done k
                have hor2 := or_shl (setTo (srcB (actB ps) ps.length done) k) k (setTo_lt63 _ _ (by omega)) (by omega)
                cases hs : srcB (actB ps) ps.length done k with
                | false =>
                  have HT := Lib.hid (setTo_miss hs)
                  rw [hs] at he
                  simp only [he]
                  clear hs he hor2
                  go_wp2_with fail
                  go_round
                  case rel => exact ⟨k + 1, by omega, by go_num, by rw [HT.out]⟩
                  case measure => simp [intOf]; omega
                | true =>
                  have HT := Lib.hid (setTo_hit hs)
                  rw [hs] at he
                  simp only [he]
                  clear hs he
                  go_wp2_with fail
                  go_round
                  case rel => exact ⟨k + 1, by omega, by go_num, by rw [HT.out]⟩
                  case measure => simp [intOf]; omega
          · obtain rfl : k = ps.length := by omega
            rw [← HBe.out]
            have HLast : Hid (pre ++ [((blkF ps done : Nat) : Int)] ++ flF ps f' (done ||| blkF ps done) = flF ps 5 0) := by
              have := HPre.out
              rw [HNk.out] at this
              rw [← this, List.append_assoc]; rfl
            generalize (done ||| blkF ps done : Nat) = d2 at hor HLk HStk HLast
            generalize (blkF ps done : Nat) = bk at hor hbl HLast
            go_wp2_with (at_builtin; refine wpList_appI (OwnI.alloc HO.out _) (RowI.one _ _) rfl _ _ rfl rfl rfl (by omega) (by have := HB.out.size; simp; omega) ?_; intro v6 w6 o6 g6)
            go_roundw
            case rel => exact ⟨f', d2, _, HLast.out, HLk.out, by have := HStk.out; have := HOp.out; omega, by simp; omega, rfl, o6, (HB.out.alloc HB.out.size _).grown g6 (by have := HB.out.size; simp; omega) (fun j hj => (World.ownsRow.lt HO.out j hj).1)⟩
            case measure => simp only [intOf, Int.toNat_natCast]; exact HStk.out

end Go.Proofs.YtjkgcgbialiipaaDoor
