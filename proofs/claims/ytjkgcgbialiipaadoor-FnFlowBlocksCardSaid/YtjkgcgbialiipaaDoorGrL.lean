/- Walks and plain facts: several of my texts in one. -/
import Derived.Test.YtjkgcgbialiipaaDoorGrE
import Derived.Test.YtjkgcgbialiipaaDoorGrB
import Derived.Test.YtjkgcgbialiipaaDoorGrK
import Derived.Maps.AppendAt
import Derived.Deep.RegionLaw
import Derived.Deep.RegionHeld3
import Derived.Deep.DeepCutAuto
import Derived.Laws.EntriesVeiled
/- Walks: a row of numbers cloned; the sign of a row of switches, by the program. -/
namespace Go.Proofs.YtjkgcgbialiipaaDoor
open Go.RowKit

set_option maxRecDepth 100000 in
set_option maxHeartbeats 2000000 in
theorem cloneI_ok (ao : Option Addr) (n c : Nat) (zs : List Int) (w : World) (h : RowI w ao n c zs) (hn : n ≤ 1048576) (h0 : 0 < n) :
    Calls Tryd.prog 172 #[.slice ao n c] w fun e w' => ∃ v, e = .returned v ∧ OwnI w' w.heap.size v zs ∧ Below w.heap.size w w' := by
  obtain ⟨b, o, rfl, hb⟩ := h.2.some h0
  have b1 : Below w.heap.size w (w.alloc (.cells #[] 3)) := (Below.refl _ _).alloc (Nat.le_refl _) _
  have HR := Lib.hid (h.below b1 (Nat.le_refl _))
  have B1 := Lib.hid b1
  clear b1 h
  have heq := Lib.run_eql_slice_nil (P := Tryd.prog) w 23 3 (some ⟨b, o, none⟩) n c 0 0 Tryd.underlying23
  go_enter Tryd.func172, Tryd.ntmps172
  go_wp2_with (at_builtin; refine wpList_appI (OwnI.lit _ w.heap.size [] (Nat.le_refl _) (by decide)) HR.out rfl _ _ rfl rfl rfl (by simp; omega) (by simp) ?_; intro v3 w3 o3 g3)
  go_ret
  exact ⟨_, rfl, o3, B1.out.grown g3 B1.out.size (fun j hj => (World.ownsRow.lt (OwnI.lit w w.heap.size [] (Nat.le_refl _) (by decide)) j hj).1)⟩

end Go.Proofs.YtjkgcgbialiipaaDoor
/- Walks: the sign of a row of switches, by the program; circuits that were found, in a captured variable. -/
namespace Go.Proofs.YtjkgcgbialiipaaDoor
open Go.RowKit

/-- A way as numbers. -/
def wayI (way : List Nat) : List Int := way.map fun i : Nat => (i : Int)
theorem wayI_len (way : List Nat) : (wayI way).length = way.length := by simp [wayI]
theorem wayI_get {way : List Nat} {j x : Nat} (h : way[j]? = some x) : gI (wayI way) j = (x : Int) := by simp [wayI, gI, List.getD, h]
theorem wayI_snoc (way : List Nat) (k : Nat) : wayI way ++ [(k : Int)] = wayI (way ++ [k]) := by simp [wayI]
theorem wayI_one (k : Nat) : wayI [k] = [(k : Int)] := rfl

theorem sgT_all (u d : Bool) : ((sgT u d).toList == [42]) = (u && d) ∧ ((sgT u d).toList == [45]) = (!u && d) := by cases u <;> cases d <;> decide +kernel

set_option maxHeartbeats 4000000 in
theorem signOf_ok (ao : Option Addr) (c : Nat) (ps : List ByteArray) (way : List Nat) (ro : Option Addr) (rc : Nat) (w : World) (h : RowN w ao ps.length c ps.length (bitsN ps ps.length)) (hr : RowI w ro way.length rc (wayI way)) (hn : netB ps = true) (h5 : ps.length ≤ 5) (hw : ∀ x ∈ way, x < ps.length) (hl : way.length ≤ 1000) :
    Calls Tryd.prog 173 #[.slice ao ps.length c, .slice ro way.length rc] w fun e w' => (∃ x : Int, e = .returned (.int .u8 x)) ∧ Below w.heap.size w w' := by
  have HS := Lib.hid (fun i k (hi : i < ps.length) (hk : k < ps.length) W => sign_ok ps.length i _ _ W h5 hi (tabIs_of hn h5 hk))
  clear hn
  go_enter Tryd.func173, Tryd.ntmps173
  go_wp2
  go_loopw [5, 10] (fun m q wr => ∃ k a : Nat, k ≤ way.length ∧ a ≤ k ∧ q = .int .i64 k ∧ m = .int .i64 a ∧ Below w.heap.size w wr) (fun _ q _ => way.length - (intOf q).toNat)
  case atStart => exact ⟨0, 0, Nat.zero_le _, Nat.le_refl _, rfl, rfl, Below.refl _ _⟩
  case round =>
    obtain ⟨k, a, hk, hak, rfl, rfl, hb⟩ := hrel
    have HB := Lib.hid hb
    by_cases hlt : k < way.length
    · have hlt' : (k : Int) < (way.length : Int) := by omega
      have hm0 : (0 : Int) < (way.length : Int) := by omega
      have hmn : ¬ (way.length : Int) = 0 := by omega
      have hmod : ((k : Int) + 1) % (way.length : Int) = (((k + 1) % way.length : Nat) : Int) := rfl
      have hml : (k + 1) % way.length < way.length := Nat.mod_lt _ (by omega)
      have hmlw : (((k + 1) % way.length : Nat) : Int) < (way.length : Int) := by omega
      obtain ⟨rq, r0, rfl, hrb⟩ := hr.2.some (by omega)
      have hrow := hr.below hb (Nat.le_refl _)
      obtain ⟨i, hi⟩ : ∃ i, way[k]? = some i := ⟨way[k], List.getElem?_eq_getElem hlt⟩
      have hil := hw i (List.mem_of_getElem? hi)
      generalize (k + 1) % way.length = km at hmod hml hmlw
      obtain ⟨j, hj⟩ : ∃ j, way[km]? = some j := ⟨way[km], List.getElem?_eq_getElem hml⟩
      have hjl := hw j (List.mem_of_getElem? hj)
      have cki := hrow.2.cell rq r0 rfl k hlt
      rw [wayI_get hi] at cki
      have ckj := hrow.2.cell rq r0 rfl km hml
      rw [wayI_get hj] at ckj
      obtain ⟨q, o, rfl, hbo⟩ := h.some (by omega)
      have hnet := h.below hb (Nat.le_refl _)
      have hbs : (bitsN ps ps.length)[j]? = some (eachL (byD (gT ps j)) (gT ps j).size) := by simp [bitsN, hjl]
      have HRg := Lib.hid (hnet.range q o rfl j _ hbs)
      have hjl' : (j : Int) < (ps.length : Int) := by omega
      have HL := Lib.hid (eachL_len (byD (gT ps j)) (gT ps j).size)
      have HSk := Lib.hid (HS.out i j hil hjl)
      clear hrow hbs h hb hr hnet hi hj hw
      generalize eachL (byD (gT ps j)) (gT ps j).size = bs at HRg HL HSk
      generalize upB (bitN ps j) i ps.length = u at HSk
      generalize dnB (bitN ps j) i ps.length = d at HSk
      obtain ⟨h42, h45⟩ := sgT_all u d
      generalize sgT u d = sg at HSk h42 h45
      cases u <;> cases d
      all_goals
        simp only [Bool.and_true, Bool.and_false, Bool.not_true, Bool.not_false] at h42 h45
        go_wp2_with (refine wpList_tabLoadAt rfl _ rfl q (o + j * 33) (ps.length : Int) bs rfl HL.out HRg.out ?_)
        refine (HSk.out _).mono ?_
        rintro e w5 ⟨rfl, b5⟩
        have C5 := Lib.hid (HB.out.trans (b5.mono HB.out.size))
        clear b5
        go_wp2_with fail
        first
          | (go_ret
             exact ⟨⟨_, rfl⟩, C5.out⟩)
          | (go_roundw
             case rel => first | exact ⟨k + 1, a + 1, by omega, by omega, by go_num, by go_num, C5.out⟩ | exact ⟨k + 1, a, by omega, by omega, by go_num, rfl, C5.out⟩
             case measure => simp [intOf] <;> omega)
    · obtain rfl : k = way.length := by omega
      have hm2 : (a : Int) % 2 = ((a % 2 : Nat) : Int) := rfl
      have hm3 : a % 2 < 2 := Nat.mod_lt _ (by omega)
      clear h hr hw
      rcases (show a % 2 = 0 ∨ a % 2 = 1 by omega) with hz | hz
      all_goals
        rw [hz] at hm2
        clear hz hm3
        go_wp2
        go_ret
        exact ⟨⟨_, rfl⟩, hb⟩

theorem icir : (Tryd.prog.info? 158).map (fun i => (i.zero, i.size, i.bytes)) = some (some (.agg #[.slice none 0 0, .int .i64 0, .int .u8 0]), 3, 40) := by kernel_rfl
/-- Circuits that were found: so many, in memory of the call's own. -/
def OwnC (w : World) (B : Nat) (v : Value) (n : Nat) : Prop := ∃ xs, w.ownsRow B 158 3 v n xs
theorem OwnC.nil (w : World) (B : Nat) : OwnC w B (.slice none 0 0) 0 := ⟨[], World.ownsRow_nil _ _ _ _⟩
theorem OwnC.alloc {w : World} {B : Nat} {v : Value} {n : Nat} (h : OwnC w B v n) (o : Obj) : OwnC (w.alloc o) B v n := let ⟨xs, hx⟩ := h; ⟨xs, World.ownsRow.alloc hx o⟩
theorem OwnC.lt {w : World} {B : Nat} {v : Value} {n : Nat} (h : OwnC w B v n) : ∀ k, v.ownBlock = some k → B ≤ k ∧ k < w.heap.size := let ⟨_, hx⟩ := h; World.ownsRow.lt hx
theorem OwnC.of {w w' : World} {B : Nat} {v : Value} {n : Nat} (h : OwnC w B v n) (hb : ∀ k, v.ownBlock = some k → w'.heap[k]? = w.heap[k]?) : OwnC w' B v n := by
  obtain ⟨xs, h0, h1 | ⟨g, cap, cur, e, hg, hh, h2⟩⟩ := h
  · exact ⟨xs, h0, .inl h1⟩
  · exact ⟨xs, h0, .inr ⟨g, cap, cur, e, hg, by rw [hb g (by rw [e]; rfl)]; exact hh, h2⟩⟩
theorem OwnC.slice {w : World} {B : Nat} {v : Value} {n : Nat} (h : OwnC w B v n) : ∃ ao c, v = .slice ao n c := by
  obtain ⟨xs, h0, ⟨rfl, hn⟩ | ⟨g, cap, cur, rfl, _⟩⟩ := h
  · exact ⟨none, 0, by rw [hn]⟩
  · exact ⟨_, _, rfl⟩

/-- 'append(out, c)' of a circuit, as one step of a region that draws. -/
theorem step_appC {w : World} {ops : Array Oper} {o : Oper} {a : Act} {K : Act → World → Prop} {Q : Exit → Act → World → Prop} {E : Prop} {B : Nat} {v : Value} {n : Nat} {x1 x2 x3 : Value} {g : Nat} (hown : OwnC w B v n) (hr : Blk w g 158 [x1, x2, x3]) (h1 : ∀ u ∈ [x1, x2, x3], u.oneCell' = true)
    (hgd : o.guard = none) (s x : Operand) (ho : o.op = .call { callee := .builtin .append, args := #[s, x], argTypes := #[120, 120] }) (hs : a.eval s = v) (hx : a.eval x = .slice (some ⟨g, 0, none⟩) 1 1)
    (hbytes : n + 1 ≤ 1048576) (hB : B ≤ w.heap.size)
    (h : ∀ v' w', OwnC w' B v' (n + 1) → w.grownBy w' v.ownBlock → (v'.ownBlock = v.ownBlock ∨ v'.ownBlock = some w.heap.size) → K (a.put o.dst v') w') : if Region.wanted o (yielded ops a.tmps) = true then Oper.wp Tryd.prog o a w K Q else E := by
  obtain ⟨i, hi, hz, hsz, hby⟩ := info_parts icir
  obtain ⟨xs, hown⟩ := hown
  rw [if_pos (by simp [Region.wanted, hgd])]
  obtain ⟨v', w', hr', h2, h3, _, h5⟩ := run_append_own_at (P := Tryd.prog) w B 120 o.type 158 i (.agg #[.slice none 0 0, .int .i64 0, .int .u8 0]) 3 40 Tryd.underlying120 hi hz hsz hby rfl (by decide) v _ _ hown ⟨g, 0, none⟩ 1 1 [x1, x2, x3] rfl (fun j u hj => by
    have ha : (⟨g, 0, none⟩ : Addr).add j = ⟨g, 0 + j, none⟩ := Addr.add_mid g 0 j
    rw [ha, Nat.zero_add]
    exact hr.cell hj) h1 (by unfold maxLen; omega) (by omega) hB
  unfold Oper.wp execOp
  simp only [ho, resolve, invoke, builtin, Sem.run_bind, Sem.run_pure, Result.andThen_ok, List.map_toArray, List.map_cons, List.map_nil, hs, hx, hr']
  exact h v' w' ⟨_, h2⟩ h3 h5

/-- What a call leaves alone: all but a variable and the row that it holds. -/
structure Kp (Bo : Nat) (w : World) (v : Value) (w' : World) (v' : Value) : Prop where
  os : w'.os = w.os
  tape : w'.tape = w.tape
  output : w'.output = w.output
  size : w.heap.size ≤ w'.heap.size
  block : ∀ i, i < w.heap.size → i ≠ Bo → some i ≠ v.ownBlock → w'.heap[i]? = w.heap[i]? ∧ some i ≠ v'.ownBlock
theorem Kp.refl (Bo : Nat) (w : World) (v : Value) : Kp Bo w v w v := ⟨rfl, rfl, rfl, Nat.le_refl _, fun _ _ _ h => ⟨rfl, h⟩⟩
theorem Kp.trans {Bo : Nat} {w w' w'' : World} {v v' v'' : Value} (h : Kp Bo w v w' v') (k : Kp Bo w' v' w'' v'') : Kp Bo w v w'' v'' :=
  ⟨k.os.trans h.os, k.tape.trans h.tape, k.output.trans h.output, Nat.le_trans h.size k.size, fun i hi h1 h2 => by
    obtain ⟨e1, n1⟩ := h.block i hi h1 h2
    obtain ⟨e2, n2⟩ := k.block i (Nat.lt_of_lt_of_le hi h.size) h1 n1
    exact ⟨e2.trans e1, n2⟩⟩
theorem Kp.below {Bo : Nat} {w w' w'' : World} {v v' : Value} (h : Kp Bo w v w' v') (hb : Below w'.heap.size w' w'') : Kp Bo w v w'' v' :=
  h.trans ⟨hb.os, hb.tape, hb.output, hb.size, fun i hi _ h2 => ⟨hb.block i hi, h2⟩⟩
theorem Kp.alloc {Bo : Nat} {w w' : World} {v v' : Value} (h : Kp Bo w v w' v') (o : Obj) : Kp Bo w v (w'.alloc o) v' := h.below ((Below.refl _ _).alloc (Nat.le_refl _) _)
theorem Kp.store {Bo : Nat} {w w' w1 : World} {v v' v1 : Value} (h : Kp Bo w v w' v') (hg : w'.grownBy w1 v'.ownBlock) (ha : v1.ownBlock = v'.ownBlock ∨ v1.ownBlock = some w'.heap.size) : Kp Bo w v (w1.setCell ⟨Bo, 0, none⟩ v1) v1 :=
  h.trans ⟨hg.os, hg.tape, hg.output, by simpa [World.setCell] using hg.size, fun i hi h1 h2 => ⟨(Below.heap_setCell _ _ _ _ h1).trans (hg.block i hi h2), by
    rcases ha with e | e
    · rw [e]; exact h2
    · rw [e]; intro h3; have := Option.some.inj h3; omega⟩⟩
theorem Kp.belowB {Bo B : Nat} {w w' : World} {v v' : Value} (h : Kp Bo w v w' v') (h1 : B ≤ Bo) (h2 : ∀ k, v.ownBlock = some k → B ≤ k) (h3 : B ≤ w.heap.size) : Below B w w' :=
  ⟨h.os, h.tape, h.output, h.size, fun i hi => (h.block i (by omega) (by omega) (fun e => by have := h2 i e.symm; omega)).1⟩

/-- A row that is neither the variable nor the row that it holds. -/
def Prot (Bo : Nat) (v : Value) (ro : Option Addr) : Prop := ∀ a, ro = some a → a.block ≠ Bo ∧ some a.block ≠ v.ownBlock
theorem RowI.kp {Bo : Nat} {w w' : World} {v v' : Value} {ro : Option Addr} {n c : Nat} {zs : List Int} (h : RowI w ro n c zs) (hn : 0 < n) (hk : Kp Bo w v w' v') (hp : Prot Bo v ro) : RowI w' ro n c zs ∧ Prot Bo v' ro := by
  obtain ⟨b, o, rfl, hb⟩ := h.2.some hn
  obtain ⟨p1, p2⟩ := hp _ rfl
  obtain ⟨e1, n1⟩ := hk.block b hb p1 p2
  refine ⟨⟨h.1, h.2.le, h.2.cap, h.2.nil, fun _ => ⟨b, o, rfl, Nat.lt_of_lt_of_le hb hk.size⟩, fun b' o' e i hi => ?_⟩, fun a e => by cases e; exact ⟨p1, n1⟩⟩
  cases e
  exact (World.cell?_of_block (a := ⟨b, o + i, none⟩) e1).trans (h.2.cell b o rfl i hi)

/-- The captured variables: the network, the circuits found so far, the function itself. -/
structure CS (w : World) (B Bw Bo Bk : Nat) (wv kv v : Value) (n : Nat) : Prop where
  base : B ≤ w.heap.size
  cw : Blk w Bw 82 [wv]
  co : Blk w Bo 120 [v]
  ck : Blk w Bk 155 [kv]
  own : OwnC w B v n
/-- The order of the blocks. -/
structure Ord (B0 B Bw Bo Bk : Nat) : Prop where
  a : B0 ≤ Bw
  b : B0 ≤ Bo
  c : B0 ≤ Bk
  wo : Bw ≠ Bo
  ko : Bk ≠ Bo
  x : Bw < B
  y : Bo < B
  z : Bk < B
theorem CS.below {w w' : World} {B Bw Bo Bk : Nat} {wv kv v : Value} {n : Nat} (h : CS w B Bw Bo Bk wv kv v n) (hb : Below w.heap.size w w') : CS w' B Bw Bo Bk wv kv v n :=
  ⟨Nat.le_trans h.base hb.size, h.cw.below hb h.cw.lt, h.co.below hb h.co.lt, h.ck.below hb h.ck.lt, h.own.of fun k hk => hb.block k (h.own.lt k hk).2⟩
theorem CS.alloc {w : World} {B Bw Bo Bk : Nat} {wv kv v : Value} {n : Nat} (h : CS w B Bw Bo Bk wv kv v n) (o : Obj) : CS (w.alloc o) B Bw Bo Bk wv kv v n := h.below ((Below.refl _ _).alloc (Nat.le_refl _) _)
theorem CS.store {w w1 : World} {B0 B Bw Bo Bk : Nat} {wv kv v v1 : Value} {n m : Nat} (h : CS w B Bw Bo Bk wv kv v n) (ho : Ord B0 B Bw Bo Bk) (hg : w.grownBy w1 v.ownBlock) (h1 : OwnC w1 B v1 m) : CS (w1.setCell ⟨Bo, 0, none⟩ v1) B Bw Bo Bk wv kv v1 m := by
  have ne : ∀ k, k < B → some k ≠ v.ownBlock := fun k hk e => by have := (h.own.lt k e.symm).1; omega
  have old : ∀ {k t cs}, Blk w k t cs → k < B → Blk w1 k t cs := fun {k t cs} hb hk => by unfold Blk at hb ⊢; rw [hg.block k (lt_of_block hb) (ne k hk)]; exact hb
  refine ⟨?_, (old h.cw ho.x).other (by exact ho.wo) v1, (old h.co ho.y).set 0 v1, (old h.ck ho.z).other (by exact ho.ko) v1, h1.of fun k hk => Below.heap_setCell _ _ _ _ ?_⟩
  · have h1 := h.base
    have h2 := hg.size
    simp only [World.setCell, Array.size_modify]
    omega
  · have h2 := (h1.lt k hk).1
    have h3 := ho.y
    show k ≠ Bo
    omega

end Go.Proofs.YtjkgcgbialiipaaDoor
/- Walks: all circuits, by the program. -/
namespace Go.Proofs.YtjkgcgbialiipaaDoor
open Go.RowKit

theorem below_d (w : World) : Below w.heap.size w w.drew := ⟨rfl, rfl, rfl, Nat.le_refl _, fun _ _ => rfl⟩
theorem below_ad (w : World) (o : Obj) : Below w.heap.size w (w.alloc o).drew := ((Below.refl _ w).alloc (Nat.le_refl _) o).trans ⟨rfl, rfl, rfl, Nat.le_refl _, fun _ _ => rfl⟩
theorem acts_bit {ps : List ByteArray} {i k : Nat} (hk : k < ps.length) : bN (actsN ps i) k = if actB ps i k = true then 1 else 0 := by
  rw [bN_tst, actsN, setTo_bit, decide_eq_true hk, Bool.true_and]
theorem acts_lt (ps : List ByteArray) (i : Nat) (h5 : ps.length ≤ 5) : actsN ps i < 32 := by
  have h1 := setTo_lt (actB ps i) ps.length
  have h2 := Nat.pow_le_pow_right (n := 2) (by decide) h5
  unfold actsN
  omega
theorem setW_lt {way : List Nat} {n : Nat} (h : ∀ x ∈ way, x < n) (h5 : n ≤ 5) : setW way < 32 := by
  have key : ∀ (l : List Nat) (t : Nat), (∀ x ∈ l, x < 5) → t < 2 ^ 5 → l.foldl (fun t i => t ||| 2 ^ i) t < 2 ^ 5 := by
    intro l
    induction l with
    | nil => intro t _ ht; exact ht
    | cons x l ih =>
      intro t hx ht
      rw [List.foldl_cons]
      exact ih _ (fun y hy => hx y (by simp [hy])) (Nat.or_lt_two_pow ht (Nat.pow_lt_pow_right (by decide) (hx x (by simp))))
  exact key way 0 (fun x hx => by have := h x hx; omega) (by decide)

theorem wrap64_id {x : Int} (h0 : -9223372036854775808 ≤ x) (h1 : x ≤ 9223372036854775807) : wrap64 x = x := by unfold wrap64; omega
theorem CS.grow_co {w w1 : World} {B0 B Bw Bo Bk : Nat} {wv kv v : Value} {n : Nat} (h : CS w B Bw Bo Bk wv kv v n) (ho : Ord B0 B Bw Bo Bk) (hg : w.grownBy w1 v.ownBlock) : Blk w1 Bo 120 [v] := by
  have hb := h.co
  unfold Blk at hb ⊢
  rw [hg.block Bo (lt_of_block hb) (fun e => by have := (h.own.lt Bo e.symm).1; have := ho.y; omega)]
  exact hb
theorem own_nextZ {w1 W w3 : World} {v : Value} {zs : List Int} (b : Below w1.heap.size w1 W) (h : OwnI W w1.heap.size v zs) (g : W.grownBy w3 v.ownBlock) : Below w1.heap.size w1 w3 := b.grown g b.size (fun j hj => (World.ownsRow.lt h j hj).1)
/-- What the walk over circuits leaves. -/
def CwP (B0 : Nat) (w0 : World) (B Bw Bo Bk : Nat) (wv kv : Value) (w : World) (v : Value) (n M : Nat) (b : Bool) (e : Ending) (w' : World) : Prop :=
  e = .returned (.tuple #[]) ∧ ∃ v' n', CS w' B Bw Bo Bk wv kv v' n' ∧ Kp Bo w v w' v' ∧ Below B0 w0 w' ∧ n ≤ n' ∧ n' ≤ n + M ∧ (n < n' ↔ b = true)

theorem grow_iff {n0 n1 n2 : Nat} {a b : Bool} (h1 : n0 ≤ n1) (h2 : n1 ≤ n2) (ha : n0 < n1 ↔ a = true) (hb : n1 < n2 ↔ b = true) : n0 < n2 ↔ (a || b) = true := by
  rw [Bool.or_eq_true, ← ha, ← hb]; omega

set_option maxRecDepth 100000 in
set_option maxHeartbeats 8000000 in
theorem cwalk_ok (ps : List ByteArray) (hn : netB ps = true) (h5 : ps.length ≤ 5) (ao : Option Addr) (c : Nat) (w0 : World) (B0 B Bw Bo Bk : Nat) (hord : Ord B0 B Bw Bo Bk) (hnet : ∀ W, Below B0 w0 W → RowN W ao ps.length c ps.length (bitsN ps ps.length)) :
    ∀ (f : Nat) (way : List Nat) (first last : Nat) (ro : Option Addr) (rc : Nat) (w : World) (v : Value) (n : Nat) (_ : RowI w ro way.length rc (wayI way)) (_ : Prot Bo v ro) (_ : ∀ x ∈ way, x < ps.length)
      (_ : way[0]? = some first) (_ : way[way.length - 1]? = some last) (_ : freeN way ps.length < f) (_ : way.length + f ≤ 7) (_ : n + 6 ^ f ≤ 1000000) (_ : Below B0 w0 w)
      (_ : CS w B Bw Bo Bk (.slice ao ps.length c) (.func (.func 171) #[] #[.pointer (some ⟨Bw, 0, none⟩), .pointer (some ⟨Bo, 0, none⟩), .pointer (some ⟨Bk, 0, none⟩)]) v n),
      Calls Tryd.prog 171 #[.slice ro way.length rc, .int .i64 (setW way : Nat), .pointer (some ⟨Bw, 0, none⟩), .pointer (some ⟨Bo, 0, none⟩), .pointer (some ⟨Bk, 0, none⟩)] w
        (CwP B0 w0 B Bw Bo Bk (.slice ao ps.length c) (.func (.func 171) #[] #[.pointer (some ⟨Bw, 0, none⟩), .pointer (some ⟨Bo, 0, none⟩), .pointer (some ⟨Bk, 0, none⟩)]) w v n (6 ^ f) (walkB (actB ps) ps.length first f last (setW way)))
  | 0, _, _, _, _, _, _, _, _, _, _, _, _, _, hf, _, _, _, _ => absurd hf (Nat.not_lt_zero _)
  | f + 1, way, first, last, ro, rc, w, v, n, hr, hpr, hw, hfi, hla, hf, hlen, hcap, hb0, hcs => by
    have hL0 : 0 < way.length := (List.getElem?_eq_some_iff.1 hfi).1
    have hfl : first < ps.length := hw _ (List.mem_of_getElem? hfi)
    have hll : last < ps.length := hw _ (List.mem_of_getElem? hla)
    have HEnd := Lib.hid (wkTo_end (A := actB ps) (f := f) (last := last) (set := setW way) hfl)
    have HOne := Lib.hid (wkTo_one (actB ps) ps.length first f last (setW way))
    have HStep := Lib.hid (fun k (hk : first < k) => wkTo_next (A := actB ps) (n := ps.length) (f := f) (last := last) (set := setW way) hk)
    have HSn := Lib.hid (fun k (ha : actB ps last k = false) => show wkQ (actB ps) ps.length first f last (setW way) k = false by rw [wkQ, ha]; simp)
    have HSm := Lib.hid (fun k (hm : (setW way).testBit k = true) => show wkQ (actB ps) ps.length first f last (setW way) k = false by rw [wkQ, hm]; simp)
    have HSr := Lib.hid (fun k (hk : first < k) (ha : actB ps last k = true) (hm : (setW way).testBit k = false) => show wkQ (actB ps) ps.length first f last (setW way) k = walkB (actB ps) ps.length first f k (setW way ||| 2 ^ k) by rw [wkQ, hm, ha, decide_eq_true hk]; rfl)
    have HAct := Lib.hid (fun W (hW : Below B0 w0 W) => acts_ok ao c ps last W (hnet W hW) hn h5 hll)
    have HBit := Lib.hid (fun k (hk : k < ps.length) => acts_bit (ps := ps) (i := last) hk)
    have hal := acts_lt ps last h5
    have hsl := setW_lt hw h5
    have HSb := Lib.hid (fun k => bN_tst (setW way) k)
    have HPb := Lib.hid (pow_bound f)
    have h6 : (6 : Nat) ^ f ≤ 7776 := Nat.le_trans (Nat.pow_le_pow_right (by decide) (show f ≤ 5 by omega)) (by decide)
    have hOr := Lib.hid hord
    have HSg := Lib.hid (fun W (hW : Below B0 w0 W) (h : RowI W ro way.length rc (wayI way)) => signOf_ok ao c ps way ro rc W (hnet W hW) h hn h5 hw (by omega))
    have HRec : Hid (∀ k ro' rc' W v' n', RowI W ro' (way ++ [k]).length rc' (wayI (way ++ [k])) → Prot Bo v' ro' → k < ps.length → (setW way).testBit k = false → n' + 6 ^ f ≤ 1000000 → Below B0 w0 W →
        CS W B Bw Bo Bk (.slice ao ps.length c) (.func (.func 171) #[] #[.pointer (some ⟨Bw, 0, none⟩), .pointer (some ⟨Bo, 0, none⟩), .pointer (some ⟨Bk, 0, none⟩)]) v' n' →
        Calls Tryd.prog 171 #[.slice ro' (way ++ [k]).length rc', .int .i64 (setW way ||| 2 ^ k : Nat), .pointer (some ⟨Bw, 0, none⟩), .pointer (some ⟨Bo, 0, none⟩), .pointer (some ⟨Bk, 0, none⟩)] W
          (CwP B0 w0 B Bw Bo Bk (.slice ao ps.length c) (.func (.func 171) #[] #[.pointer (some ⟨Bw, 0, none⟩), .pointer (some ⟨Bo, 0, none⟩), .pointer (some ⟨Bk, 0, none⟩)]) W v' n' (6 ^ f) (walkB (actB ps) ps.length first f k (setW way ||| 2 ^ k)))) := by
      intro k ro' rc' W v' n' g1 g2 g3 g4 g5 g6 g7
      have hnk : k ∉ way := by
        intro hm
        rw [setW_bit, decide_eq_true hm] at g4
        cases g4
      have := cwalk_ok ps hn h5 ao c w0 B0 B Bw Bo Bk hord hnet f (way ++ [k]) first k ro' rc' W v' n' g1 g2 (fun x hx => by
        rcases List.mem_append.1 hx with hx | hx
        · exact hw x hx
        · rw [List.mem_singleton.1 hx]; exact g3) (by rw [List.getElem?_append_left hL0]; exact hfi) (by simp) (by have := freeN_snoc g3 hnk; omega) (by simp; omega) g5 g6 g7
      rw [setW_snoc] at this
      exact this
    clear hord hnet hn hf
    have HRow := Lib.hid hr
    have HPr := Lib.hid hpr
    have HB0 := Lib.hid hb0
    have HCs := Lib.hid hcs
    have HClo := Lib.hid (fun W (h : RowI W ro way.length rc (wayI way)) => cloneI_ok ro way.length rc (wayI way) W h (by omega) hL0)
    obtain ⟨rb, r0, rfl, hrb⟩ := hr.2.some hL0
    obtain ⟨L, hL⟩ : ∃ L, way.length = L + 1 := ⟨way.length - 1, by omega⟩
    have c0 := hr.2.cell rb r0 rfl 0 hL0
    rw [wayI_get hfi] at c0
    have cL := hr.2.cell rb r0 rfl L (by omega)
    rw [wayI_get (by rw [hL] at hla; exact hla)] at cL
    have cw := hcs.cw.cell (i := 0) rfl
    rw [Nat.add_zero] at c0
    have HFi := Lib.hid hfi
    clear hr hpr hb0 hcs hw hfi hla
    have HRow2 : Hid (∀ W u, Kp Bo w v W u → RowI W (some ⟨rb, r0, none⟩) way.length rc (wayI way) ∧ Prot Bo u (some ⟨rb, r0, none⟩)) := fun W u hk => HRow.out.kp hL0 hk HPr.out
    have hL5 : L ≤ 5 := by omega
    have hLw : wrap64 (L : Int) = (L : Int) := wrap64_id (by omega) (by omega)
    rw [hL] at HSg HClo HRow2 ⊢
    generalize (6 : Nat) ^ f = M at HPb h6 HRec
    generalize (6 : Nat) ^ (f + 1) = M6 at HPb hcap ⊢
    have hcap' : n ≤ 1000000 := by omega
    have HCap := Lib.hid hcap
    generalize walkB (actB ps) ps.length first (f + 1) last (setW way) = bE at HEnd ⊢
    have HL := Lib.hid hL
    clear hL hlen hcap hL0
    go_enter Tryd.func171, Tryd.ntmps171
    go_wp2_with fail
    refine (HAct.out _ HB0.out).mono ?_
    rintro e w1 ⟨rfl, b1⟩
    have hnd : ∀ k, v.ownBlock = some k → B0 ≤ k := fun k hk => by have := (HCs.out.own.lt k hk).1; have := hOr.out.a; have := hOr.out.x; omega
    have hB0s : B0 ≤ w.heap.size := by have := hOr.out.a; have := hOr.out.x; have := HCs.out.base; omega
    have K1 := Lib.hid ((Kp.refl Bo w v).below b1)
    have C1 := Lib.hid (HCs.out.below b1)
    have B1 := Lib.hid (HB0.out.trans (b1.mono hB0s))
    have c01 := (b1.cell (p := ⟨rb, r0, none⟩) hrb).trans c0
    have e1 : bits .and .i64 ((actsN ps last : Int) / 2 ^ first) 1 = ((bN (actsN ps last) first : Nat) : Int) := bit_int _ first (by omega) (by omega)
    have HBf := Lib.hid (HBit.out first hfl)
    clear b1 c0 cL cw hLw
    generalize actsN ps last = on at hal HBit e1 HBf
    generalize bN on first = u1 at e1 HBf
    go_upto_if 25 with fail
    go_cut [] (fun wx => ∃ v1 n1, CS wx B Bw Bo Bk (.slice ao ps.length c) (.func (.func 171) #[] #[.pointer (some ⟨Bw, 0, none⟩), .pointer (some ⟨Bo, 0, none⟩), .pointer (some ⟨Bk, 0, none⟩)]) v1 n1 ∧ Kp Bo w v wx v1 ∧ Below B0 w0 wx ∧ n ≤ n1 ∧ n1 ≤ n + 1 ∧ (n < n1 ↔ actB ps last first = true))
    case first =>
      cases hA : actB ps last first with
      | false =>
        rw [hA, if_neg (by decide)] at HBf
        have hu : ((u1 : Int) == 1) = false := by rw [HBf.out]; rfl
        go_wp2_with fail
        go_meet
        exact ⟨v, n, C1.out, K1.out, B1.out, Nat.le_refl _, by omega, by rw [hA]; simp⟩
      | true =>
        rw [hA, if_pos rfl] at HBf
        have hu : ((u1 : Int) == 1) = true := by rw [HBf.out]; rfl
        have hcO := C1.out.co.cell (i := 0) rfl
        have hcW := C1.out.cw.cell (i := 0) rfl
        have HAt := Lib.hid (fun W (hW : Below w1.heap.size w1 W) => (show CS W B Bw Bo Bk _ _ v n ∧ Below B0 w0 W ∧ Kp Bo w v W v from ⟨C1.out.below hW, B1.out.trans (hW.mono (Nat.le_trans hB0s K1.out.size)), K1.out.below hW⟩))
        have HCl1 : Hid (∀ W, Below w1.heap.size w1 W → Calls Tryd.prog 172 #[.slice (some ⟨rb, r0, none⟩) (L + 1) rc] W fun e w' => ∃ v, e = .returned v ∧ OwnI w' W.heap.size v (wayI way) ∧ Below w1.heap.size w1 w') := fun W hW => (HClo.out W ((HRow2.out W v (HAt.out W hW).2.2).1)).mono (by rintro e w' ⟨v, h1, h2, h3⟩; exact ⟨v, h1, h2, hW.trans (h3.mono hW.size)⟩)
        have HSg1 : Hid (∀ W, Below w1.heap.size w1 W → Calls Tryd.prog 173 #[.slice ao ps.length c, .slice (some ⟨rb, r0, none⟩) (L + 1) rc] W fun e w' => (∃ x : Int, e = .returned (.int .u8 x)) ∧ Below w1.heap.size w1 w') := fun W hW => (HSg.out W (HAt.out W hW).2.1 ((HRow2.out W v (HAt.out W hW).2.2).1)).mono (by rintro e w' ⟨h1, h3⟩; exact ⟨h1, hW.trans (h3.mono hW.size)⟩)
        go_wp2_with fail
        go_region_law (first
          | (go_simp; go_at_call 172; refine (HCl1.out _ ?_).mono ?_; (exact below_d _); rintro e w5 ⟨v5, rfl, o5, b5⟩; obtain ⟨z5, y5, rfl, _⟩ := o5.out; have a5 := HAt.out _ b5; have hcO5 := a5.1.co.cell (i := 0) rfl; have hcW5 := a5.1.cw.cell (i := 0) rfl)
          | (go_simp; go_at_call 173; refine (HSg1.out _ b5).mono ?_; rintro e w6 ⟨⟨x6, rfl⟩, b6⟩; have a6 := HAt.out _ b6; have hcO6 := a6.1.co.cell (i := 0) rfl; have hcA6 : ∀ o, (w6.alloc o).cell? ⟨Bo, 0, none⟩ = some v := fun o => (a6.1.alloc o).co.cell (i := 0) rfl)
          | (refine step_appC (OwnC.alloc a6.1.own _) (Blk.new _ _ _) ?_ rfl _ _ rfl rfl rfl (by omega) (by have := a6.1.base; simp; omega) ?_; (intro u hu; simp at hu; rcases hu with rfl | rfl | rfl <;> rfl); intro v7 w7 o7 g7 t7; obtain ⟨z7, y7, rfl⟩ := o7.slice; have k7 := CS.grow_co (a6.1.alloc _) hOr.out g7; have hcO7 := k7.cell (i := 0) rfl; have hfO7 := k7.free 0; have c7 := Lib.hid ((a6.1.alloc _).store hOr.out g7 o7); have q7 := Lib.hid ((a6.2.2.alloc _).store g7 t7); clear k7 g7 o7 t7))
        all_goals
          go_wp2_with fail
          go_meet
          exact ⟨_, n + 1, c7.out, q7.out, HB0.out.trans (q7.out.belowB (Nat.le_trans hOr.out.b (Nat.le_refl _)) hnd hB0s), by omega, by omega, by rw [hA]; simp⟩
    case rest =>
      obtain ⟨v1, n1, cs1, kp1, bb1, l1, m1, i1⟩ := hcut
      have CS1 := Lib.hid cs1
      have KP1 := Lib.hid kp1
      have BB1 := Lib.hid bb1
      have I1 := Lib.hid i1
      have c02 := (HRow2.out wc v1 kp1).1.2.cell rb r0 rfl 0 (by omega)
      rw [wayI_get HFi.out, Nat.add_zero] at c02
      have cw2 := cs1.cw.cell (i := 0) rfl
      clear cs1 kp1 bb1 i1 c01 e1 HBf C1 K1 B1
      go_wp2_with fail
      obtain ⟨wo, hwo⟩ : ∃ wo : World, wo = wc := ⟨_, rfl⟩
      subst hwo
      go_loopw [9] (fun q wr => ∃ (k : Nat) (u : Value) (m : Nat), first < k ∧ k ≤ ps.length ∧ q = .int .i64 k ∧ CS wr B Bw Bo Bk (.slice ao ps.length c) (.func (.func 171) #[] #[.pointer (some ⟨Bw, 0, none⟩), .pointer (some ⟨Bo, 0, none⟩), .pointer (some ⟨Bk, 0, none⟩)]) u m ∧ Kp Bo w v wr u ∧ Below B0 w0 wr ∧ n ≤ m ∧ m ≤ n + 1 + (k - 1) * M ∧ (n < m ↔ wkTo (actB ps) ps.length first f last (setW way) k = true)) (fun q _ => ps.length - (intOf q).toNat)
      case atStart => exact ⟨first + 1, v1, n1, by omega, by omega, by go_num, CS1.out, KP1.out, BB1.out, l1, by have : 0 ≤ (first + 1 - 1) * M := Nat.zero_le _; omega, by rw [HOne.out]; exact I1.out⟩
      case round =>
        obtain ⟨k, u, m, hfk, hkn, rfl, hcs, hkp, hbb, hnm, hmb, hiff⟩ := hrel
        have HCS := Lib.hid hcs
        have HKP := Lib.hid hkp
        have HBB := Lib.hid hbb
        have HIff := Lib.hid hiff
        have cw3 := hcs.cw.cell (i := 0) rfl
        have ck3 := hcs.ck.cell (i := 0) rfl
        clear hcs hkp hbb hiff
        by_cases hlt : k < ps.length
        · have hlt' : (k : Int) < (ps.length : Int) := by omega
          have e3 : bits .and .i64 ((on : Int) / 2 ^ k) 1 = ((bN on k : Nat) : Int) := bit_int _ k (by omega) (by omega)
          have e4 : bits .and .i64 (((setW way : Nat) : Int) / 2 ^ k) 1 = ((bN (setW way) k : Nat) : Int) := bit_int _ k (by omega) (by omega)
          have hB3 := HBit.out k hlt
          have hB4 := HSb.out k
          have hkM : (k - 1) * M + M = (k + 1 - 1) * M := by rw [← Nat.succ_mul]; congr 1; omega
          have HkM := Lib.hid hkM
          have hst := HStep.out k hfk
          clear hkM
          cases hA : actB ps last k with
          | false =>
            rw [HSn.out k hA, Bool.or_false] at hst
            have HSt := Lib.hid hst
            rw [hA, if_neg (by decide)] at hB3
            rw [hB3] at e3
            clear hst hB3 hB4 e4 hA
            go_wp2_with fail
            go_roundw
            case rel => exact ⟨k + 1, u, m, by omega, by omega, by go_num, HCS.out, HKP.out, HBB.out, hnm, by rw [← HkM.out]; omega, by rw [HSt.out]; exact HIff.out⟩
            case measure => simp [intOf] <;> omega
          | true =>
            rw [hA, if_pos rfl] at hB3
            rw [hB3] at e3
            clear hB3
            cases hm : (setW way).testBit k with
            | true =>
              rw [HSm.out k hm, Bool.or_false] at hst
              have HSt := Lib.hid hst
              rw [hm, if_pos rfl] at hB4
              rw [hB4] at e4
              clear hst hB4 hA hm
              go_wp2_with fail
              go_roundw
              case rel => exact ⟨k + 1, u, m, by omega, by omega, by go_num, HCS.out, HKP.out, HBB.out, hnm, by rw [← HkM.out]; omega, by rw [HSt.out]; exact HIff.out⟩
              case measure => simp [intOf] <;> omega
            | false =>
              rw [HSr.out k hfk hA hm] at hst
              have HSt := Lib.hid hst
              rw [hm, if_neg (by decide)] at hB4
              rw [hB4] at e4
              have hor := or_shl (setW way) k (by omega) (by omega)
              have hMm : (k + 1 - 1) * M ≤ 4 * M := Nat.mul_le_mul_right _ (by omega)
              have hmm : m + M ≤ 1000000 := by have := HkM.out; have := HPb.out; have := HCap.out; omega
              have hBo := HCS.out.co.lt
              have hBy : ((wayI way).length + 1) * 8 ≤ 140737488355328 := by rw [wayI_len]; have := HL.out; omega
              have HBy := Lib.hid hBy
              have hszr : B0 ≤ wr.heap.size := Nat.le_trans hB0s HKP.out.size
              have HRk : Hid (∀ W v6, Below wr.heap.size wr W → OwnI W wr.heap.size v6 (wayI way ++ [(k : Int)]) → Calls Tryd.prog 171 #[v6, .int .i64 (setW way ||| 2 ^ k : Nat), .pointer (some ⟨Bw, 0, none⟩), .pointer (some ⟨Bo, 0, none⟩), .pointer (some ⟨Bk, 0, none⟩)] W fun e w' => e = .returned (.tuple #[]) ∧
                  ∃ u' m', CS w' B Bw Bo Bk (.slice ao ps.length c) (.func (.func 171) #[] #[.pointer (some ⟨Bw, 0, none⟩), .pointer (some ⟨Bo, 0, none⟩), .pointer (some ⟨Bk, 0, none⟩)]) u' m' ∧ Kp Bo w v w' u' ∧ Below B0 w0 w' ∧ m ≤ m' ∧ m' ≤ m + M ∧ (n < m' ↔ wkTo (actB ps) ps.length first f last (setW way) (k + 1) = true)) := by
                intro W v6 hW o6
                obtain ⟨a6, c6, rfl, q6⟩ := o6.out
                have hrow := q6.rowI
                rw [wayI_snoc, wayI_len] at hrow ⊢
                refine (HRec.out k a6 c6 W u m hrow (fun a e => ⟨?_, ?_⟩) hlt hm hmm (HBB.out.trans (hW.mono hszr)) (HCS.out.below hW)).mono ?_
                · have := q6.2.own a e
                  omega
                · intro e2
                  have h1 := q6.2.own a e
                  have h2 := (HCS.out.own.lt _ e2.symm).2
                  omega
                · rintro e w' ⟨rfl, u', m', h1, h2, h3, h4, h5, h6⟩
                  exact ⟨rfl, u', m', h1, (HKP.out.below hW).trans h2, h3, h4, h5, by rw [HSt.out]; exact grow_iff hnm h4 HIff.out h6⟩
              have HCl8 : Hid (∀ W, Below wr.heap.size wr W → Calls Tryd.prog 172 #[.slice (some ⟨rb, r0, none⟩) (L + 1) rc] W fun e w' => ∃ v, e = .returned v ∧ OwnI w' wr.heap.size v (wayI way) ∧ Below W.heap.size W w' ∧ Below wr.heap.size wr w') := fun W hW => (HClo.out W (((HRow2.out wr u HKP.out).1).below hW (Nat.le_refl _))).mono (by rintro e w' ⟨v, h1, h2, h3⟩; exact ⟨v, h1, OwnI.baseZ h2 hW.size, h3, hW.trans (h3.mono hW.size)⟩)
              have hkA : ∀ o, (wr.alloc o).cell? ⟨Bk, 0, none⟩ = some (.func (.func 171) #[] #[.pointer (some ⟨Bw, 0, none⟩), .pointer (some ⟨Bo, 0, none⟩), .pointer (some ⟨Bk, 0, none⟩)]) := fun o => (HCS.out.alloc o).ck.cell (i := 0) rfl
              have HKA := Lib.hid hkA
              have hwr : IntKind.i64.wrap (2 ^ k) = wrap64 (2 ^ k) := by rw [IntKind.wrap_i64, wrap64]
              have hor2 : bits .or .i64 ((setW way : Nat) : Int) (IntKind.i64.wrap (2 ^ k)) = ((setW way ||| 2 ^ k : Nat) : Int) := by rw [hwr]; exact hor
              generalize setW way ||| 2 ^ k = sk at hor hor2 HRk
              clear hwr
              clear hst hB4 hA hm hMm hmm hBo hBy hkA
              go_wp2_with fail
              go_region_held3 (fun w' => w'.cell? ⟨Bk, 0, none⟩ = some (.func (.func 171) #[] #[.pointer (some ⟨Bw, 0, none⟩), .pointer (some ⟨Bo, 0, none⟩), .pointer (some ⟨Bk, 0, none⟩)]))
                (first | exact ck3 | exact HKA.out _ | exact hk7 | exact hk6 | exact hk5 | exact hk5A _)
                (first
                  | (go_at_call 172; refine (HCl8.out _ ?_).mono ?_; (first | exact below_d _ | exact below_ad _ _); rintro e w5 ⟨v5, rfl, o5, b5, c5⟩; have hk5 := (HCS.out.below c5).ck.cell (i := 0) rfl; have hk5A : ∀ o, (w5.alloc o).cell? ⟨Bk, 0, none⟩ = some (.func (.func 171) #[] #[.pointer (some ⟨Bw, 0, none⟩), .pointer (some ⟨Bo, 0, none⟩), .pointer (some ⟨Bk, 0, none⟩)]) := fun o => ((HCS.out.below c5).alloc o).ck.cell (i := 0) rfl; (first | (have x5 := (RowI.drew (RowI.one wr (k : Int))).below b5 (Nat.le_refl _)) | skip))
                  | (refine step_appI o5 x5 rfl _ _ rfl rfl rfl HBy.out c5.size ?_; intro v6 w6 o6 g6; have c6 := own_nextZ c5 o5 g6; have hk6 := (HCS.out.below c6).ck.cell (i := 0) rfl)
                  | (refine step_appI (OwnI.alloc o5 _) (RowI.one _ _) rfl _ _ rfl rfl rfl HBy.out (by have := c5.size; simp; omega) ?_; intro v6 w6 o6 g6; have c6 := own_nextZ (c5.alloc c5.size _) (OwnI.alloc o5 _) g6; have hk6 := (HCS.out.below c6).ck.cell (i := 0) rfl)
                  | (go_at_call 171; refine (HRk.out _ _ c6 o6).mono ?_; rintro e w7 ⟨rfl, u7, m7, cs7, kp7, bb7, l7, n7, i7⟩; have hk7 := cs7.ck.cell (i := 0) rfl))
              all_goals
                have CS7 := Lib.hid cs7
                have KP7 := Lib.hid kp7
                have BB7 := Lib.hid bb7
                have I7 := Lib.hid i7
                clear cs7 kp7 bb7 i7
                go_wp2_with fail
                go_roundw
                case rel => exact ⟨k + 1, u7, m7, by omega, by omega, by go_num, CS7.out, KP7.out, BB7.out, by omega, by rw [← HkM.out]; omega, I7.out⟩
                case measure => simp [intOf] <;> omega
        · obtain rfl : k = ps.length := by omega
          have hlt' : ¬ (ps.length : Int) < (ps.length : Int) := by omega
          have HIf := Lib.hid (HEnd.out ▸ HIff.out)
          have HPm := Lib.hid (show (ps.length - 1) * M ≤ 4 * M from Nat.mul_le_mul_right _ (by omega))
          go_wp2_with fail
          go_end0
          exact ⟨rfl, u, m, HCS.out, HKP.out, HBB.out, hnm, by have := HPb.out; have := HPm.out; omega, HIf.out⟩

end Go.Proofs.YtjkgcgbialiipaaDoor
/- Walks: all circuits, IsFlowing and FlowBlocks by the program. -/
namespace Go.Proofs.YtjkgcgbialiipaaDoor
open Go.RowKit

theorem cs_start (w : World) (wv kv : Value) : CS (((w.alloc (.cells #[wv] 82)).alloc (.cells #[.slice none 0 0] 120)).alloc (.cells #[kv] 155)) (w.heap.size + 1 + 1 + 1) w.heap.size (w.heap.size + 1) (w.heap.size + 1 + 1) wv kv (.slice none 0 0) 0 := by
  have h1 := ((Blk.new w 82 [wv]).alloc (.cells #[.slice none 0 0] 120)).alloc (.cells #[kv] 155)
  have h2 := (Blk.new (w.alloc (.cells #[wv] 82)) 120 [.slice none 0 0]).alloc (.cells #[kv] 155)
  have h3 := Blk.new ((w.alloc (.cells #[wv] 82)).alloc (.cells #[.slice none 0 0] 120)) 155 [kv]
  rw [show (w.alloc (.cells #[wv] 82)).heap.size = w.heap.size + 1 by simp] at h2
  rw [show ((w.alloc (.cells #[wv] 82)).alloc (.cells #[.slice none 0 0] 120)).heap.size = w.heap.size + 1 + 1 by simp] at h3
  exact ⟨by simp, h1, h2, h3, OwnC.nil _ _⟩

/-- What circuits gives: a row, empty if there is no circuit. -/
def CirP (b : Bool) (w : World) (e : Ending) (w' : World) : Prop := ∃ a c m, e = .returned (.slice a m c) ∧ (0 < m ↔ b = true) ∧ m ≤ 1000000 ∧ Below w.heap.size w w'

set_option maxRecDepth 100000 in
set_option maxHeartbeats 4000000 in
theorem circuits_ok (ps : List ByteArray) (hn : netB ps = true) (h5 : ps.length ≤ 5) (ao : Option Addr) (c : Nat) (w : World) (h : RowN w ao ps.length c ps.length (bitsN ps ps.length)) :
    Calls Tryd.prog 125 #[.slice ao ps.length c] w (CirP (cirB ps) w) := by
  have hmf : ∀ (fn : Fn) (first cap : Array Value) (w : World), (Instr.makeFunc fn first cap).run Tryd.prog w = .ok (.func fn first cap) w := fun _ _ _ _ => rfl
  have hord : Ord w.heap.size (w.heap.size + 1 + 1 + 1) w.heap.size (w.heap.size + 1) (w.heap.size + 1 + 1) := ⟨by omega, by omega, by omega, by omega, by omega, by omega, by omega, by omega⟩
  have HE : Hid (cirB ps = anyTo (fun i => walkB (actB ps) ps.length i 6 i (2 ^ i)) ps.length) := rfl
  have HW : Hid (∀ (i : Nat) ro rc W u m, RowI W ro 1 rc [(i : Int)] → Prot (w.heap.size + 1) u ro → i < ps.length → m + 46656 ≤ 1000000 → Below w.heap.size w W →
      CS W (w.heap.size + 1 + 1 + 1) w.heap.size (w.heap.size + 1) (w.heap.size + 1 + 1) (.slice ao ps.length c) (.func (.func 171) #[] #[.pointer (some ⟨w.heap.size, 0, none⟩), .pointer (some ⟨w.heap.size + 1, 0, none⟩), .pointer (some ⟨w.heap.size + 1 + 1, 0, none⟩)]) u m →
      Calls Tryd.prog 171 #[.slice ro 1 rc, .int .i64 (2 ^ i : Nat), .pointer (some ⟨w.heap.size, 0, none⟩), .pointer (some ⟨w.heap.size + 1, 0, none⟩), .pointer (some ⟨w.heap.size + 1 + 1, 0, none⟩)] W
        (CwP w.heap.size w (w.heap.size + 1 + 1 + 1) w.heap.size (w.heap.size + 1) (w.heap.size + 1 + 1) (.slice ao ps.length c) (.func (.func 171) #[] #[.pointer (some ⟨w.heap.size, 0, none⟩), .pointer (some ⟨w.heap.size + 1, 0, none⟩), .pointer (some ⟨w.heap.size + 1 + 1, 0, none⟩)]) W u m 46656 (walkB (actB ps) ps.length i 6 i (2 ^ i)))) := by
    intro i ro rc W u m g1 g2 g3 g4 g5 g6
    have := cwalk_ok ps hn h5 ao c w w.heap.size (w.heap.size + 1 + 1 + 1) w.heap.size (w.heap.size + 1) (w.heap.size + 1 + 1) hord (fun W hW => h.below hW (Nat.le_refl _)) 6 [i] i i ro rc W u m g1 g2 (fun x hx => by rw [List.mem_singleton.1 hx]; exact g3) rfl rfl (by have := freeN_one g3; omega) (by simp) (by rw [show (6 : Nat) ^ 6 = 46656 by decide]; exact g4) g5 g6
    rw [show setW [i] = 2 ^ i by simp [setW]] at this
    exact this
  have C0 := Lib.hid (cs_start w (.slice ao ps.length c) (.func (.func 171) #[] #[.pointer (some ⟨w.heap.size, 0, none⟩), .pointer (some ⟨w.heap.size + 1, 0, none⟩), .pointer (some ⟨w.heap.size + 1 + 1, 0, none⟩)]))
  have hwr : ∀ k : Nat, k ≤ 62 → IntKind.i64.wrap (2 ^ k) = ((2 ^ k : Nat) : Int) := fun k hk => by
    rw [← wrap_pow_nat k hk, IntKind.wrap_i64, wrap64]
  have HWr := Lib.hid hwr
  clear hn h hord hwr
  generalize cirB ps = bE at HE ⊢
  go_enter Tryd.func125, Tryd.ntmps125
  go_wp2_with fail
  go_loopw [9] (fun q wr => ∃ (k : Nat) (u : Value) (m : Nat), k ≤ ps.length ∧ q = .int .i64 k ∧ CS wr (w.heap.size + 1 + 1 + 1) w.heap.size (w.heap.size + 1) (w.heap.size + 1 + 1) (.slice ao ps.length c) (.func (.func 171) #[] #[.pointer (some ⟨w.heap.size, 0, none⟩), .pointer (some ⟨w.heap.size + 1, 0, none⟩), .pointer (some ⟨w.heap.size + 1 + 1, 0, none⟩)]) u m ∧ Below w.heap.size w wr ∧ m ≤ k * 46656 ∧ (0 < m ↔ anyTo (fun i => walkB (actB ps) ps.length i 6 i (2 ^ i)) k = true)) (fun q _ => ps.length - (intOf q).toNat)
  case atStart => exact ⟨0, _, 0, Nat.zero_le _, rfl, C0.out, (((Below.refl _ _).alloc (Nat.le_refl _) _).alloc (by simp) _).alloc (by simp; omega) _, by simp, by simp [anyTo]⟩
  case round =>
    obtain ⟨k, u, m, hk, rfl, hcs, hb, hmb, hiff⟩ := hrel
    have HCS := Lib.hid hcs
    have HB := Lib.hid hb
    have HIff := Lib.hid hiff
    have ck3 := hcs.ck.cell (i := 0) rfl
    have co3 := hcs.co.cell (i := 0) rfl
    clear hcs hb hiff
    by_cases hkn : k < ps.length
    · have hkw : (k : Int) < (ps.length : Int) := by omega
      have HN := Lib.hid (anyTo_next (fun i => walkB (actB ps) ps.length i 6 i (2 ^ i)) k)
      have hsh := HWr.out k (by omega)
      have hBo := HCS.out.co.lt
      have HWk := Lib.hid (HW.out k (some ⟨wr.heap.size, 0, none⟩) 1 (wr.alloc (.cells #[.int .i64 (k : Int)] 3)).drew u m (RowI.drew (RowI.one wr (k : Int))) (fun a e => by
        cases e
        exact ⟨by show wr.heap.size ≠ w.heap.size + 1; omega, fun e2 => by have := (HCS.out.own.lt _ e2.symm).2; exact absurd this (Nat.lt_irrefl _)⟩) hkn (by omega) (HB.out.trans ((below_ad wr _).mono HB.out.size)) (HCS.out.below (below_ad wr _)))
      have hkA : ∀ o, (wr.alloc o).cell? ⟨w.heap.size + 1 + 1, 0, none⟩ = some (.func (.func 171) #[] #[.pointer (some ⟨w.heap.size, 0, none⟩), .pointer (some ⟨w.heap.size + 1, 0, none⟩), .pointer (some ⟨w.heap.size + 1 + 1, 0, none⟩)]) := fun o => (HCS.out.alloc o).ck.cell (i := 0) rfl
      have HKA := Lib.hid hkA
      generalize walkB (actB ps) ps.length k 6 k (2 ^ k) = bR at HN HWk
      generalize (2 ^ k : Nat) = N at hsh HWk
      clear hkA hBo
      go_wp2_with fail
      go_region_held3 (fun w' => w'.cell? ⟨w.heap.size + 1 + 1, 0, none⟩ = some (.func (.func 171) #[] #[.pointer (some ⟨w.heap.size, 0, none⟩), .pointer (some ⟨w.heap.size + 1, 0, none⟩), .pointer (some ⟨w.heap.size + 1 + 1, 0, none⟩)]))
        (first | exact ck3 | exact HKA.out _ | exact hk7)
        (first
          | (go_at_call 171; refine HWk.out.mono ?_; rintro e w7 ⟨rfl, u7, m7, cs7, kp7, bb7, l7, n7, i7⟩; have hk7 := cs7.ck.cell (i := 0) rfl))
      all_goals
        have CS7 := Lib.hid cs7
        have BB7 := Lib.hid bb7
        have I7 := Lib.hid i7
        clear cs7 kp7 bb7 i7
        go_wp2_with fail
        go_roundw
        case rel => exact ⟨k + 1, u7, m7, by omega, by go_num, CS7.out, BB7.out, by omega, by rw [HN.out]; exact grow_iff (Nat.zero_le _) l7 HIff.out I7.out⟩
        case measure => simp [intOf] <;> omega
    · obtain rfl : k = ps.length := by omega
      have hend := HIff.out
      rw [← HE.out] at hend
      have HE2 := Lib.hid hend
      obtain ⟨za, zc, rfl⟩ := HCS.out.own.slice
      clear hend
      go_wp2_with fail
      go_ret
      exact ⟨za, zc, m, rfl, HE2.out, by omega, HB.out⟩

set_option maxHeartbeats 1000000 in
theorem flowI_ok (t : ByteArray) (w : World) (hs : t.size ≤ 1048576) (hm : MaxLenIs w) :
    Calls Tryd.prog 53 #[.string t] w fun e w' => e = .returned (.bool (flwB (cutsP 44 t))) ∧ Below w.heap.size w w' := by
  have HO := Lib.hid (readNetwork_ok t w hs hm)
  have hp0 := cutsP_pos 44 t
  generalize cutsP 44 t = ps at HO hp0 ⊢
  cases hb : netB ps with
  | false =>
    have HV : Hid (flwB ps = false) := by unfold Hid; rw [flwB, hb]; rfl
    rw [hb] at HO
    clear hb hm
    go_enter Tryd.func53, Tryd.ntmps53
    go_wp2_with fail
    refine HO.out.mono ?_
    rintro e w1 ⟨v, rfl, o1, b1⟩
    clear o1
    go_wp2_with fail
    go_ret
    exact ⟨retb HV.out.symm, b1⟩
  | true =>
    have HV : Hid (flwB ps = !cirB ps) := by unfold Hid; rw [flwB, hb]; rfl
    have h5 := net_le hb hp0
    have HN := Lib.hid (netN_yes hb)
    have hlen := bitsN_len ps ps.length
    have HC := Lib.hid (fun ao c W h => circuits_ok ps hb h5 ao c W h)
    rw [hb] at HO
    clear hb hm
    go_enter Tryd.func53, Tryd.ntmps53
    go_wp2_with fail
    refine HO.out.mono ?_
    rintro e w1 ⟨v, rfl, o1, b1⟩
    rw [HN.out] at o1
    obtain ⟨a, c, rfl, r1⟩ := o1.row (bitsN_wide ps ps.length)
    rw [hlen] at r1 ⊢
    have HC1 := Lib.hid (HC.out _ _ _ r1)
    have B1 := Lib.hid b1
    clear o1 r1 b1 HC hlen
    go_wp2_with fail
    refine HC1.out.mono ?_
    rintro e w2 ⟨za, zc, m, rfl, i2, l2, b2⟩
    have B2 := Lib.hid (B1.out.trans (b2.mono B1.out.size))
    have HV2 : Hid (((m : Int) == 0) = flwB ps) := by
      unfold Hid
      rw [HV.out]
      cases hc : cirB ps with
      | true =>
        have := i2.2 hc
        rw [beq_eq_false_iff_ne.2 (by omega)]; rfl
      | false =>
        have : ¬ 0 < m := fun h => by have := i2.1 h; rw [hc] at this; cases this
        rw [beq_iff_eq.2 (by omega)]; rfl
    clear i2 b2
    go_wp2_with fail
    go_ret
    exact ⟨retb HV2.out, B2.out⟩

end Go.Proofs.YtjkgcgbialiipaaDoor
