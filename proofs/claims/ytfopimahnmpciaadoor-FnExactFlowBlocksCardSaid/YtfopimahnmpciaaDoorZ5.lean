/- Walks: the sign of a row of switches, by the program; circuits that were found, in a captured variable. -/
import Derived.Test.YtfopimahnmpciaaDoorZ4
import Derived.Test.YtfopimahnmpciaaDoorZ2
import Derived.Test.YtfopimahnmpciaaDoorP3
import Derived.Maps.AppendAt
namespace Go.Proofs.YtfopimahnmpciaaDoor
open Go.RowKit

/-- A way as numbers. -/
def wayI (way : List Nat) : List Int := way.map fun i : Nat => (i : Int)
theorem wayI_len (way : List Nat) : (wayI way).length = way.length := by simp [wayI]
theorem wayI_get {way : List Nat} {j x : Nat} (h : way[j]? = some x) : gI (wayI way) j = (x : Int) := by simp [wayI, gI, List.getD, h]
theorem wayI_snoc (way : List Nat) (k : Nat) : wayI way ++ [(k : Int)] = wayI (way ++ [k]) := by simp [wayI]
theorem wayI_one (k : Nat) : wayI [k] = [(k : Int)] := rfl

theorem sgT_all (u d : Bool) : ((sgT u d).toList == [42]) = (u && d) ∧ ((sgT u d).toList == [45]) = (!u && d) := by cases u <;> cases d <;> decide +kernel

set_option maxHeartbeats 4000000 in
theorem signOf_ok (ao : Option Addr) (c : Nat) (ps : List ByteArray) (way : List Nat) (ro : Option Addr) (rc : Nat) (w : World) (h : RowN w ao ps.length c ps.length (bitsN ps ps.length)) (hr : RowI w ro way.length rc (wayI way)) (hn : netB ps = true) (h5 : ps.length ≤ 5) (hw : ∀ x ∈ way, x < ps.length) (hl : way.length ≤ 1000) :
    Calls Tryd.prog 28 #[.slice ao ps.length c, .slice ro way.length rc] w fun e w' => (∃ x : Int, e = .returned (.int .u8 x)) ∧ Below w.heap.size w w' := by
  have HS := Lib.hid (fun i k (hi : i < ps.length) (hk : k < ps.length) W => sign_ok ps.length i _ _ W h5 hi (tabIs_of hn h5 hk))
  clear hn
  go_enter Tryd.func28, Tryd.ntmps28
  go_wp2
  go_loopw [5, 10] (fun m q wr => ∃ k a : Nat, k ≤ way.length ∧ a ≤ k ∧ q = .int .i64 k ∧ m = .int .i64 a ∧ Below w.heap.size w wr) (fun _ q _ => way.length - (intOf q).toNat)
  case atStart => exact ⟨0, 0, Nat.zero_le _, Nat.le_refl _, rfl, rfl, Below.refl _ _⟩
  case round =>
    obtain ⟨k, a, hk, hak, rfl, rfl, hb⟩ := hrel
    have HB := Lib.hid hb
    by_cases hlt : k < way.length
    · have hlt' : (k : Int) < (way.length : Int) := by omega
      have hm0 : (0 : Int) < (way.length : Int) := by omega
      have hmn : ¬ (way.length : Int) = 0 := by omega
      have hmod : ((k : Int) + 1) % (way.length : Int) = (((k + 1) % way.length : Nat) : Int) := rfl
      have hml : (k + 1) % way.length < way.length := Nat.mod_lt _ (by omega)
      have hmlw : (((k + 1) % way.length : Nat) : Int) < (way.length : Int) := by omega
      obtain ⟨rq, r0, rfl, hrb⟩ := hr.2.some (by omega)
      have hrow := hr.below hb (Nat.le_refl _)
      obtain ⟨i, hi⟩ : ∃ i, way[k]? = some i := ⟨way[k], List.getElem?_eq_getElem hlt⟩
      have hil := hw i (List.mem_of_getElem? hi)
      generalize (k + 1) % way.length = km at hmod hml hmlw
      obtain ⟨j, hj⟩ : ∃ j, way[km]? = some j := ⟨way[km], List.getElem?_eq_getElem hml⟩
      have hjl := hw j (List.mem_of_getElem? hj)
      have cki := hrow.2.cell rq r0 rfl k hlt
      rw [wayI_get hi] at cki
      have ckj := hrow.2.cell rq r0 rfl km hml
      rw [wayI_get hj] at ckj
      obtain ⟨q, o, rfl, hbo⟩ := h.some (by omega)
      have hnet := h.below hb (Nat.le_refl _)
      have hbs : (bitsN ps ps.length)[j]? = some (eachL (byD (gT ps j)) (gT ps j).size) := by simp [bitsN, hjl]
      have HRg := Lib.hid (hnet.range q o rfl j _ hbs)
      have hjl' : (j : Int) < (ps.length : Int) := by omega
      have HL := Lib.hid (eachL_len (byD (gT ps j)) (gT ps j).size)
      have HSk := Lib.hid (HS.out i j hil hjl)
      clear hrow hbs h hb hr hnet hi hj hw
      generalize eachL (byD (gT ps j)) (gT ps j).size = bs at HRg HL HSk
      generalize upB (bitN ps j) i ps.length = u at HSk
      generalize dnB (bitN ps j) i ps.length = d at HSk
      obtain ⟨h42, h45⟩ := sgT_all u d
      generalize sgT u d = sg at HSk h42 h45
      cases u <;> cases d
      all_goals
        simp only [Bool.and_true, Bool.and_false, Bool.not_true, Bool.not_false] at h42 h45
        go_wp2_with (refine wpList_tabLoadAt rfl _ rfl q (o + j * 33) (ps.length : Int) bs rfl HL.out HRg.out ?_)
        refine (HSk.out _).mono ?_
        rintro e w5 ⟨rfl, b5⟩
        have C5 := Lib.hid (HB.out.trans (b5.mono HB.out.size))
        clear b5
        go_wp2_with fail
        first
          | (go_ret
             exact ⟨⟨_, rfl⟩, C5.out⟩)
          | (go_roundw
             case rel => first | exact ⟨k + 1, a + 1, by omega, by omega, by go_num, by go_num, C5.out⟩ | exact ⟨k + 1, a, by omega, by omega, by go_num, rfl, C5.out⟩
             case measure => simp [intOf] <;> omega)
    · obtain rfl : k = way.length := by omega
      have hm2 : (a : Int) % 2 = ((a % 2 : Nat) : Int) := rfl
      have hm3 : a % 2 < 2 := Nat.mod_lt _ (by omega)
      clear h hr hw
      rcases (show a % 2 = 0 ∨ a % 2 = 1 by omega) with hz | hz
      all_goals
        rw [hz] at hm2
        clear hz hm3
        go_wp2
        go_ret
        exact ⟨⟨_, rfl⟩, hb⟩

theorem icir : (Tryd.prog.info? 56).map (fun i => (i.zero, i.size, i.bytes)) = some (some (.agg #[.slice none 0 0, .int .i64 0, .int .u8 0]), 3, 40) := by kernel_rfl
/-- Circuits that were found: so many, in memory of the call's own. -/
def OwnC (w : World) (B : Nat) (v : Value) (n : Nat) : Prop := ∃ xs, w.ownsRow B 56 3 v n xs
theorem OwnC.nil (w : World) (B : Nat) : OwnC w B (.slice none 0 0) 0 := ⟨[], World.ownsRow_nil _ _ _ _⟩
theorem OwnC.alloc {w : World} {B : Nat} {v : Value} {n : Nat} (h : OwnC w B v n) (o : Obj) : OwnC (w.alloc o) B v n := let ⟨xs, hx⟩ := h; ⟨xs, World.ownsRow.alloc hx o⟩
theorem OwnC.lt {w : World} {B : Nat} {v : Value} {n : Nat} (h : OwnC w B v n) : ∀ k, v.ownBlock = some k → B ≤ k ∧ k < w.heap.size := let ⟨_, hx⟩ := h; World.ownsRow.lt hx
theorem OwnC.of {w w' : World} {B : Nat} {v : Value} {n : Nat} (h : OwnC w B v n) (hb : ∀ k, v.ownBlock = some k → w'.heap[k]? = w.heap[k]?) : OwnC w' B v n := by
  obtain ⟨xs, h0, h1 | ⟨g, cap, cur, e, hg, hh, h2⟩⟩ := h
  · exact ⟨xs, h0, .inl h1⟩
  · exact ⟨xs, h0, .inr ⟨g, cap, cur, e, hg, by rw [hb g (by rw [e]; rfl)]; exact hh, h2⟩⟩
theorem OwnC.slice {w : World} {B : Nat} {v : Value} {n : Nat} (h : OwnC w B v n) : ∃ ao c, v = .slice ao n c := by
  obtain ⟨xs, h0, ⟨rfl, hn⟩ | ⟨g, cap, cur, rfl, _⟩⟩ := h
  · exact ⟨none, 0, by rw [hn]⟩
  · exact ⟨_, _, rfl⟩

/-- 'append(out, c)' of a circuit, as one step of a region that draws. -/
theorem step_appC {w : World} {ops : Array Oper} {o : Oper} {a : Act} {K : Act → World → Prop} {Q : Exit → Act → World → Prop} {E : Prop} {B : Nat} {v : Value} {n : Nat} {x1 x2 x3 : Value} {g : Nat} (hown : OwnC w B v n) (hr : Blk w g 56 [x1, x2, x3]) (h1 : ∀ u ∈ [x1, x2, x3], u.oneCell' = true)
    (hgd : o.guard = none) (s x : Operand) (ho : o.op = .call { callee := .builtin .append, args := #[s, x], argTypes := #[39, 39] }) (hs : a.eval s = v) (hx : a.eval x = .slice (some ⟨g, 0, none⟩) 1 1)
    (hbytes : n + 1 ≤ 1048576) (hB : B ≤ w.heap.size)
    (h : ∀ v' w', OwnC w' B v' (n + 1) → w.grownBy w' v.ownBlock → (v'.ownBlock = v.ownBlock ∨ v'.ownBlock = some w.heap.size) → K (a.put o.dst v') w') : if Region.wanted o (yielded ops a.tmps) = true then Oper.wp Tryd.prog o a w K Q else E := by
  obtain ⟨i, hi, hz, hsz, hby⟩ := info_parts icir
  obtain ⟨xs, hown⟩ := hown
  rw [if_pos (by simp [Region.wanted, hgd])]
  obtain ⟨v', w', hr', h2, h3, _, h5⟩ := run_append_own_at (P := Tryd.prog) w B 39 o.type 56 i (.agg #[.slice none 0 0, .int .i64 0, .int .u8 0]) 3 40 Tryd.underlying39 hi hz hsz hby rfl (by decide) v _ _ hown ⟨g, 0, none⟩ 1 1 [x1, x2, x3] rfl (fun j u hj => by
    have ha : (⟨g, 0, none⟩ : Addr).add j = ⟨g, 0 + j, none⟩ := Addr.add_mid g 0 j
    rw [ha, Nat.zero_add]
    exact hr.cell hj) h1 (by unfold maxLen; omega) (by omega) hB
  unfold Oper.wp execOp
  simp only [ho, resolve, invoke, builtin, Sem.run_bind, Sem.run_pure, Result.andThen_ok, List.map_toArray, List.map_cons, List.map_nil, hs, hx, hr']
  exact h v' w' ⟨_, h2⟩ h3 h5

/-- What a call leaves alone: all but a variable and the row that it holds. -/
structure Kp (Bo : Nat) (w : World) (v : Value) (w' : World) (v' : Value) : Prop where
  os : w'.os = w.os
  tape : w'.tape = w.tape
  output : w'.output = w.output
  size : w.heap.size ≤ w'.heap.size
  block : ∀ i, i < w.heap.size → i ≠ Bo → some i ≠ v.ownBlock → w'.heap[i]? = w.heap[i]? ∧ some i ≠ v'.ownBlock
theorem Kp.refl (Bo : Nat) (w : World) (v : Value) : Kp Bo w v w v := ⟨rfl, rfl, rfl, Nat.le_refl _, fun _ _ _ h => ⟨rfl, h⟩⟩
theorem Kp.trans {Bo : Nat} {w w' w'' : World} {v v' v'' : Value} (h : Kp Bo w v w' v') (k : Kp Bo w' v' w'' v'') : Kp Bo w v w'' v'' :=
  ⟨k.os.trans h.os, k.tape.trans h.tape, k.output.trans h.output, Nat.le_trans h.size k.size, fun i hi h1 h2 => by
    obtain ⟨e1, n1⟩ := h.block i hi h1 h2
    obtain ⟨e2, n2⟩ := k.block i (Nat.lt_of_lt_of_le hi h.size) h1 n1
    exact ⟨e2.trans e1, n2⟩⟩
theorem Kp.below {Bo : Nat} {w w' w'' : World} {v v' : Value} (h : Kp Bo w v w' v') (hb : Below w'.heap.size w' w'') : Kp Bo w v w'' v' :=
  h.trans ⟨hb.os, hb.tape, hb.output, hb.size, fun i hi _ h2 => ⟨hb.block i hi, h2⟩⟩
theorem Kp.alloc {Bo : Nat} {w w' : World} {v v' : Value} (h : Kp Bo w v w' v') (o : Obj) : Kp Bo w v (w'.alloc o) v' := h.below ((Below.refl _ _).alloc (Nat.le_refl _) _)
theorem Kp.store {Bo : Nat} {w w' w1 : World} {v v' v1 : Value} (h : Kp Bo w v w' v') (hg : w'.grownBy w1 v'.ownBlock) (ha : v1.ownBlock = v'.ownBlock ∨ v1.ownBlock = some w'.heap.size) : Kp Bo w v (w1.setCell ⟨Bo, 0, none⟩ v1) v1 :=
  h.trans ⟨hg.os, hg.tape, hg.output, by simpa [World.setCell] using hg.size, fun i hi h1 h2 => ⟨(Below.heap_setCell _ _ _ _ h1).trans (hg.block i hi h2), by
    rcases ha with e | e
    · rw [e]; exact h2
    · rw [e]; intro h3; have := Option.some.inj h3; omega⟩⟩
theorem Kp.belowB {Bo B : Nat} {w w' : World} {v v' : Value} (h : Kp Bo w v w' v') (h1 : B ≤ Bo) (h2 : ∀ k, v.ownBlock = some k → B ≤ k) (h3 : B ≤ w.heap.size) : Below B w w' :=
  ⟨h.os, h.tape, h.output, h.size, fun i hi => (h.block i (by omega) (by omega) (fun e => by have := h2 i e.symm; omega)).1⟩

/-- A row that is neither the variable nor the row that it holds. -/
def Prot (Bo : Nat) (v : Value) (ro : Option Addr) : Prop := ∀ a, ro = some a → a.block ≠ Bo ∧ some a.block ≠ v.ownBlock
theorem RowI.kp {Bo : Nat} {w w' : World} {v v' : Value} {ro : Option Addr} {n c : Nat} {zs : List Int} (h : RowI w ro n c zs) (hn : 0 < n) (hk : Kp Bo w v w' v') (hp : Prot Bo v ro) : RowI w' ro n c zs ∧ Prot Bo v' ro := by
  obtain ⟨b, o, rfl, hb⟩ := h.2.some hn
  obtain ⟨p1, p2⟩ := hp _ rfl
  obtain ⟨e1, n1⟩ := hk.block b hb p1 p2
  refine ⟨⟨h.1, h.2.le, h.2.cap, h.2.nil, fun _ => ⟨b, o, rfl, Nat.lt_of_lt_of_le hb hk.size⟩, fun b' o' e i hi => ?_⟩, fun a e => by cases e; exact ⟨p1, n1⟩⟩
  cases e
  exact (World.cell?_of_block (a := ⟨b, o + i, none⟩) e1).trans (h.2.cell b o rfl i hi)

/-- The captured variables: the network, the circuits found so far, the function itself. -/
structure CS (w : World) (B Bw Bo Bk : Nat) (wv kv v : Value) (n : Nat) : Prop where
  base : B ≤ w.heap.size
  cw : Blk w Bw 36 [wv]
  co : Blk w Bo 39 [v]
  ck : Blk w Bk 53 [kv]
  own : OwnC w B v n
/-- The order of the blocks. -/
structure Ord (B0 B Bw Bo Bk : Nat) : Prop where
  a : B0 ≤ Bw
  b : B0 ≤ Bo
  c : B0 ≤ Bk
  wo : Bw ≠ Bo
  ko : Bk ≠ Bo
  x : Bw < B
  y : Bo < B
  z : Bk < B
theorem CS.below {w w' : World} {B Bw Bo Bk : Nat} {wv kv v : Value} {n : Nat} (h : CS w B Bw Bo Bk wv kv v n) (hb : Below w.heap.size w w') : CS w' B Bw Bo Bk wv kv v n :=
  ⟨Nat.le_trans h.base hb.size, h.cw.below hb h.cw.lt, h.co.below hb h.co.lt, h.ck.below hb h.ck.lt, h.own.of fun k hk => hb.block k (h.own.lt k hk).2⟩
theorem CS.alloc {w : World} {B Bw Bo Bk : Nat} {wv kv v : Value} {n : Nat} (h : CS w B Bw Bo Bk wv kv v n) (o : Obj) : CS (w.alloc o) B Bw Bo Bk wv kv v n := h.below ((Below.refl _ _).alloc (Nat.le_refl _) _)
theorem CS.store {w w1 : World} {B0 B Bw Bo Bk : Nat} {wv kv v v1 : Value} {n m : Nat} (h : CS w B Bw Bo Bk wv kv v n) (ho : Ord B0 B Bw Bo Bk) (hg : w.grownBy w1 v.ownBlock) (h1 : OwnC w1 B v1 m) : CS (w1.setCell ⟨Bo, 0, none⟩ v1) B Bw Bo Bk wv kv v1 m := by
  have ne : ∀ k, k < B → some k ≠ v.ownBlock := fun k hk e => by have := (h.own.lt k e.symm).1; omega
  have old : ∀ {k t cs}, Blk w k t cs → k < B → Blk w1 k t cs := fun {k t cs} hb hk => by unfold Blk at hb ⊢; rw [hg.block k (lt_of_block hb) (ne k hk)]; exact hb
  refine ⟨?_, (old h.cw ho.x).other (by exact ho.wo) v1, (old h.co ho.y).set 0 v1, (old h.ck ho.z).other (by exact ho.ko) v1, h1.of fun k hk => Below.heap_setCell _ _ _ _ ?_⟩
  · have h1 := h.base
    have h2 := hg.size
    simp only [World.setCell, Array.size_modify]
    omega
  · have h2 := (h1.lt k hk).1
    have h3 := ho.y
    show k ≠ Bo
    omega

end Go.Proofs.YtfopimahnmpciaaDoor
