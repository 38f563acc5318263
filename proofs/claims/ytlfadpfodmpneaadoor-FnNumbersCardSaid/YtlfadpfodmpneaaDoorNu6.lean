/- Walks: ParseNumbers on both sides. -/
import Derived.Test.YtlfadpfodmpneaaDoorNu5
import Derived.Test.YtlfadpfodmpneaaDoorNu3
import Derived.Test.YtlfadpfodmpneaaDoorSp
import Derived.Test.YtlfadpfodmpneaaDoorN2
import Derived.Test.YtlfadpfodmpneaaDoorN4
import Derived.Lib.AtoiErrMem
namespace Go.Proofs.YtlfadpfodmpneaaDoor
open Go.RowKit

set_option maxHeartbeats 1000000 in
theorem ClipN_ok (ao : Option Addr) (n c : Nat) (w : World) (hn : n ≤ c) (hc : c ≤ maxLen) (ha : ao = none → c = 0) (hs : ∀ a, ao = some a → ∃ b o, a = ⟨b, o, none⟩) :
    Calls Tryd.prog 28 #[.slice ao n c] w fun e w' => e = .returned (.slice ao n n) ∧ w = w' := by
  unfold maxLen at hc
  cases ao with
  | none =>
    obtain rfl := ha rfl
    obtain rfl : n = 0 := by omega
    go_enter Tryd.func28, Tryd.ntmps28
    go_wp2
    go_ret
    exact ⟨rfl, rfl⟩
  | some a =>
    obtain ⟨b, o, rfl⟩ := hs a rfl
    go_enter Tryd.func28, Tryd.ntmps28
    go_wp2
    go_ret
    exact ⟨rfl, rfl⟩
theorem OwnI.outN {w : World} {B : Nat} {v : Value} {zs : List Int} (h : OwnI w B v zs) : ∃ ao c, v = .slice ao zs.length c ∧ OutI w B ao zs.length c zs ∧ (∀ a, ao = some a → ∃ b o, a = ⟨b, o, none⟩) := by
  have h0 := h
  obtain ⟨_, ⟨rfl, hn⟩ | ⟨g, cap, cur, rfl, hg, hh, hle, hm, hs, ht⟩⟩ := h
  · obtain ⟨ao, c, e, ho⟩ := h0.out
    injection e with e1 e2 e3
    exact ⟨ao, c, by rw [← e1, ← e2, ← e3], ho, fun a ha => by rw [← e1] at ha; cases ha⟩
  · obtain ⟨ao, c, e, ho⟩ := h0.out
    injection e with e1 e2 e3
    exact ⟨ao, c, by rw [← e1, ← e3], ho, fun a ha => by rw [← e1] at ha; cases ha; exact ⟨_, _, rfl⟩⟩
theorem OutI.clipN {w : World} {B : Nat} {ao : Option Addr} {n c : Nat} {zs : List Int} (h : OutI w B ao n c zs) : OutI w B ao n n zs :=
  ⟨h.1, ⟨Nat.le_refl _, Nat.le_trans h.2.row.le h.2.row.cap, fun e => by have := h.2.row.nil e; have := h.2.row.le; omega, h.2.row.some, h.2.row.cell⟩, h.2.own, h.2.lt, h.2.free⟩
theorem OwnI.belowN {w w' : World} {B B' : Nat} {v : Value} {zs : List Int} (h : OwnI w B v zs) (hb : Below B' w w') (hB : w.heap.size ≤ B') : OwnI w' B v zs := by
  obtain ⟨h0, h1 | ⟨g, cap, cur, e, hg, hh, h2⟩⟩ := h
  · exact ⟨h0, .inl h1⟩
  · exact ⟨h0, .inr ⟨g, cap, cur, e, hg, by rw [hb.block g (by have := lt_of_block hh; omega)]; exact hh, h2⟩⟩
theorem outNilN (w : World) (B : Nat) : OutI w B none 0 0 [] := ⟨rfl, ⟨⟨Nat.le_refl _, Nat.zero_le _, fun _ => rfl, fun h => absurd h (Nat.lt_irrefl _), fun b o e => by cases e⟩, fun a e => (by cases e), fun a e => (by cases e), fun b o e => by cases e⟩⟩
theorem OutI.baseN {w : World} {B B' : Nat} {ao : Option Addr} {n c : Nat} {zs : List Int} (h : OutI w B ao n c zs) (hB : B' ≤ B) : OutI w B' ao n c zs := ⟨h.1, h.2.row, fun a e => Nat.le_trans hB (h.2.own a e), h.2.lt, h.2.free⟩

/-- The number of a part. -/
def nmO (ts : List ByteArray) (i : Nat) : Option Nat := numO (gT ts i).data.toList
/-- The numbers of the first k parts. -/
def nmL (ts : List ByteArray) (k : Nat) : List Int := (List.range k).map fun i => (((nmO ts i).getD 0 : Nat) : Int)
theorem nmL_len (ts : List ByteArray) (k : Nat) : (nmL ts k).length = k := by simp [nmL]
theorem nmL_next (ts : List ByteArray) (k : Nat) : nmL ts (k + 1) = nmL ts k ++ [(((nmO ts k).getD 0 : Nat) : Int)] := by simp [nmL, List.range_succ]
theorem nmL_get {ts : List ByteArray} {k i : Nat} (h : i < k) : gI (nmL ts k) i = (((nmO ts i).getD 0 : Nat) : Int) := by simp [nmL, gI, List.getD, h]
/-- Whether a text is one of numbers. -/
def pnB (ts : List ByteArray) : Bool := decide (ts.length ≤ 32) && (List.range ts.length).all fun i => (nmO ts i).isSome
def pnV (ts : List ByteArray) : List Int := if pnB ts = true then nmL ts ts.length else []
theorem pnB_long {ts : List ByteArray} (h : 32 < ts.length) : pnB ts = false := by simp [pnB]; omega
theorem pnB_bad {ts : List ByteArray} {i : Nat} (hi : i < ts.length) (h : nmO ts i = none) : pnB ts = false := by
  rw [pnB, Bool.and_eq_false_iff]
  right
  rw [List.all_eq_false]
  exact ⟨i, List.mem_range.2 hi, by rw [h]; decide⟩
theorem pnB_yes {ts : List ByteArray} (h : ts.length ≤ 32) (ha : ∀ i, i < ts.length → (nmO ts i).isSome = true) : pnB ts = true := by
  rw [pnB, decide_eq_true h, Bool.true_and, List.all_eq_true]
  exact fun i hi => ha i (List.mem_range.1 hi)
theorem pnV_no {ts : List ByteArray} (h : pnB ts = false) : pnV ts = [] := by simp [pnV, h]
theorem pnV_yes {ts : List ByteArray} (h : pnB ts = true) : pnV ts = nmL ts ts.length := by simp [pnV, h]
theorem pnV_len (ts : List ByteArray) : (pnV ts).length ≤ 32 := by
  unfold pnV
  split
  · rename_i h
    rw [nmL_len]
    rw [pnB, Bool.and_eq_true, decide_eq_true_iff] at h
    exact h.1
  · simp

theorem own_neN {w : World} {B B' : Nat} {e e' : TypeId} {s s' : Nat} {v u : Value} {n m : Nat} {xs ys : List Value} (he : e ≠ e') (h : w.ownsRow B e s v n xs) (h' : w.ownsRow B' e' s' u m ys) : v.ownBlock = none ∨ v.ownBlock ≠ u.ownBlock := by
  obtain ⟨_, ⟨rfl, _⟩ | ⟨g, cap, cur, rfl, _, hg, _⟩⟩ := h
  · exact .inl rfl
  · obtain ⟨_, ⟨rfl, _⟩ | ⟨g', cap', cur', rfl, _, hg', _⟩⟩ := h'
    · exact .inr (by simp [Value.ownBlock])
    · refine .inr fun hh => ?_
      have : g = g' := by simpa [Value.ownBlock] using hh
      subst this
      rw [hg] at hg'
      injection hg' with e1
      injection e1 with _ e2
      exact he e2
theorem OwnT.baseN {w : World} {B B' : Nat} {v : Value} {ts : List ByteArray} (h : OwnT w B v ts) (hB : B' ≤ B) : OwnT w B' v ts := by
  obtain ⟨h0, h1 | ⟨g, cap, cur, e, hg, h2⟩⟩ := h
  · exact ⟨h0, .inl h1⟩
  · exact ⟨h0, .inr ⟨g, cap, cur, e, Nat.le_trans hB hg, h2⟩⟩
theorem OwnT.keptI {w w' : World} {B B' : Nat} {v u : Value} {ts : List ByteArray} {zs : List Int} {o : Obj} (h : OwnT w B v ts) (hz : OwnI w B' u zs) (hg : (w.alloc o).grownBy w' u.ownBlock) : OwnT w' B v ts :=
  World.ownsRow.kept (OwnT.alloc h o) hg (own_neN (by decide) h hz)

set_option maxHeartbeats 4000000 in
theorem pnS_ok (t : ByteArray) (w : World) (hs : t.size ≤ 1048576) :
    Calls Tryd.prog 10 #[.string t] w fun e w' => ∃ v, e = .returned (.tuple #[v, .bool (pnB (cutsP 32 t))]) ∧ OwnI w' w.heap.size v (pnV (cutsP 32 t)) ∧ Below w.heap.size w w' := by
  have b0 : Below w.heap.size w (w.alloc (.cells #[] 3)) := (Below.refl _ _).alloc (Nat.le_refl _) _
  have B0 := Lib.hid b0
  have O0 := Lib.hid (OwnI.lit w w.heap.size [] (Nat.le_refl _) (by decide))
  have HC := Lib.hid (fun W => l14Cut_ok t 32 W hs)
  have hpl := cutsP_len 32 t
  have hpz := cutsP_size 32 t
  have hp0 := cutsP_pos 32 t
  generalize cutsP 32 t = ps at HC hpl hpz hp0 ⊢
  have HSz := Lib.hid (fun k (hk : k < ps.length) => Nat.le_trans (hpz (gT ps k) (List.mem_of_getElem? (gT_lt hk))) hs)
  clear hpz b0
  go_enter Tryd.func10, Tryd.ntmps10
  go_wp2_with fail
  refine (HC.out _).mono ?_
  rintro e w1 ⟨v1, rfl, o1, b1⟩
  obtain ⟨pa, pc, rfl, r1⟩ := o1.row
  have B1 := Lib.hid (B0.out.trans (b1.mono B0.out.size))
  have O1 := Lib.hid (O0.out.belowN b1 (Nat.le_refl _))
  have P1 := Lib.hid (o1.baseN B0.out.size)
  clear o1 b1 r1
  go_wp2_with fail
  go_loopw [4, 6] (fun v q wr => ∃ k : Nat, k ≤ ps.length ∧ q = .int .i64 k ∧ OwnI wr w.heap.size v (nmL ps k) ∧ (∀ j, j < k → (nmO ps j).isSome = true) ∧ (0 < k → ps.length ≤ 32) ∧ OwnT wr w.heap.size (.slice pa ps.length pc) ps ∧ Below w.heap.size w wr) (fun _ q _ => ps.length - (intOf q).toNat)
  case atStart => exact ⟨0, Nat.zero_le _, rfl, O1.out, fun j hj => absurd hj (Nat.not_lt_zero _), fun h => absurd h (Nat.lt_irrefl _), P1.out, B1.out⟩
  case round =>
    obtain ⟨k, hk, rfl, ho, hall, h32, hpt, hb⟩ := hrel
    have HO := Lib.hid ho
    have HAl := Lib.hid hall
    have HPt := Lib.hid hpt
    obtain ⟨pa', pc', ee, rpt⟩ := hpt.row
    injection ee with e1 e2 e3
    subst e1 e3
    have HB := Lib.hid hb
    have H32 := Lib.hid h32
    have hlen := nmL_len ps k
    clear ho hall hb h32 e2
    by_cases hlt : k < ps.length
    · have hltw : (k : Int) < (ps.length : Int) := by omega
      obtain ⟨b, o, rfl, hbo⟩ := rpt.2.some (by omega)
      have hcx := rpt.2.cell b o rfl k hlt
      clear rpt hpt
      have HNm := Lib.hid (l14Num_ok (gT ps k) wr (HSz.out k hlt))
      have HOf : Hid (nmO ps k = numO (gT ps k).data.toList) := rfl
      have HNx := Lib.hid (nmL_next ps k)
      have HPb := Lib.hid (fun h => pnB_bad (ts := ps) hlt h)
      generalize gT ps k = p at hcx HNm HOf
      go_wp2_with fail
      refine HNm.out.mono ?_
      rintro e w2 ⟨n, ok, rfl, hnok, rfl⟩
      have HNk := Lib.hid hnok
      clear hnok
      cases ok with
      | false =>
        have HNo : Hid (nmO ps k = none) := by
          unfold Hid
          rw [HOf.out]
          have := HNk.out.1
          rw [Bool.false_and] at this
          cases h : numO p.data.toList with
          | none => rfl
          | some u => rw [h] at this; cases this
        have HF := Lib.hid (HPb.out HNo.out)
        have HV := Lib.hid (pnV_no HF.out)
        go_wp2_with fail
        go_ret2
        exact ⟨_, retv HF.out.symm, by rw [HV.out]; exact OwnI.lit _ w.heap.size [] HB.out.size (by decide), HB.out.alloc HB.out.size _⟩
      | true =>
        have HIn := Lib.hid (fun W => l1In_ok n 0 1000000 W)
        cases hin : inB n 0 1000000 with
        | false =>
          have HNo : Hid (nmO ps k = none) := by
            unfold Hid
            rw [HOf.out]
            have := HNk.out.1
            rw [hin] at this
            cases h : numO p.data.toList with
            | none => rfl
            | some u => rw [h] at this; cases this
          have HF := Lib.hid (HPb.out HNo.out)
          have HV := Lib.hid (pnV_no HF.out)
          rw [hin] at HIn
          clear hin
          go_wp2_with fail
          refine (HIn.out _).mono ?_
          rintro e w3 ⟨rfl, rfl⟩
          go_wp2_with fail
          go_ret2
          exact ⟨_, retv HF.out.symm, by rw [HV.out]; exact OwnI.lit _ w.heap.size [] HB.out.size (by decide), HB.out.alloc HB.out.size _⟩
        | true =>
          have HSo : Hid (nmO ps k = some n.toNat) := by
            unfold Hid
            rw [HOf.out]
            have := HNk.out.1
            rw [hin] at this
            cases h : numO p.data.toList with
            | none => rw [h] at this; cases this
            | some u => rw [HNk.out.2 u h]; rfl
          have HNat : Hid (((n.toNat : Nat) : Int) = n) := by
            have := inB_iff.1 hin
            unfold Hid
            omega
          rw [hin] at HIn
          clear hin
          by_cases hlong : 32 < ps.length
          · have hlw : (32 : Int) < (ps.length : Int) := by omega
            have HF := Lib.hid (pnB_long hlong)
            have HV := Lib.hid (pnV_no HF.out)
            go_wp2_with fail
            refine (HIn.out _).mono ?_
            rintro e w3 ⟨rfl, rfl⟩
            go_wp2_with fail
            go_ret2
            exact ⟨_, retv HF.out.symm, by rw [HV.out]; exact OwnI.lit _ w.heap.size [] HB.out.size (by decide), HB.out.alloc HB.out.size _⟩
          · have hlw : ¬ (32 : Int) < (ps.length : Int) := by omega
            go_wp2_with fail
            refine (HIn.out _).mono ?_
            rintro e w3 ⟨rfl, rfl⟩
            go_wp2_with (at_builtin; refine wpList_appI (OwnI.alloc HO.out _) (RowI.one _ _) rfl _ _ rfl rfl rfl (by omega) (by have := HB.out.size; simp; omega) ?_; intro v6 w6 o6 g6)
            go_roundw
            case rel => exact ⟨k + 1, by omega, by go_num, by rw [HNx.out, HSo.out, Option.getD_some, HNat.out]; exact o6, fun j hj => by
                by_cases e : j = k
                · rw [e, HSo.out]; rfl
                · exact HAl.out j (by omega), fun _ => by omega, HPt.out.keptI HO.out g6, (HB.out.alloc HB.out.size _).grown g6 (by have := HB.out.size; simp; omega) (fun j hj => (World.ownsRow.lt HO.out j hj).1)⟩
            case measure => simp [intOf] <;> omega
    · have hltw : ¬ (k : Int) < (ps.length : Int) := by omega
      obtain rfl : k = ps.length := by omega
      have HT := Lib.hid (pnB_yes (H32.out hp0) HAl.out)
      have HV := Lib.hid (pnV_yes HT.out)
      go_wp2_with fail
      go_ret2
      exact ⟨_, retv HT.out.symm, by rw [HV.out]; exact HO.out, HB.out⟩

/-- The library's two errors are as its text lays them. -/
def ErrsAre (w : World) : Prop := (∃ te pe, w.cell? ⟨0, 0, none⟩ = some (.iface te pe)) ∧ ∃ te pe, w.cell? ⟨1, 0, none⟩ = some (.iface te pe)
theorem ErrsAre.below {w w' : World} {B : Nat} (h : ErrsAre w) (hb : Below B w w') (hB : w.heap.size ≤ B) : ErrsAre w' := by
  obtain ⟨⟨a, b, h1⟩, c, d, h2⟩ := h
  have l1 := World.block_lt_of_cell? w ⟨0, 0, none⟩ h1
  have l2 := World.block_lt_of_cell? w ⟨1, 0, none⟩ h2
  exact ⟨⟨a, b, (hb.cell (p := ⟨0, 0, none⟩) (Nat.lt_of_lt_of_le l1 hB)).trans h1⟩, c, d, (hb.cell (p := ⟨1, 0, none⟩) (Nat.lt_of_lt_of_le l2 hB)).trans h2⟩
theorem below_bw (w : World) (t : TypeId) (x : ByteArray) : Below w.heap.size w (Lib.bytesWorld w t x) := Lib.bytesWorld_below w t x
/-- What the library's reading gives. -/
def AtoiP (l : List UInt8) (w : World) (e : Ending) (w' : World) : Prop := ∃ (n : Int) (ev : Value), e = .returned (.tuple #[.int .i64 n, ev]) ∧ Below w.heap.size w w' ∧ ((ev = .nilIface ∧ Lib.atoiAll l = .ok n) ∨ ((∃ te pe, ev = .iface te pe) ∧ ∀ v, Lib.atoiAll l ≠ .ok v))
theorem atoi_ok (p : ByteArray) (w : World) (hp : p.size ≤ 1048576) (he : ErrsAre w) :
    Calls Tryd.prog 27 #[.string p] w (AtoiP p.data.toList w) := by
  cases ha : Lib.atoiAll p.data.toList
  · rename_i n
    refine (Tryd.strconv_Atoi_ok p (by omega) n ha w).mono ?_
    rintro e w' ⟨rfl, hw⟩
    refine ⟨n, _, rfl, ?_, .inl ⟨rfl, ha⟩⟩
    rcases hw with rfl | ⟨t, rfl⟩
    · exact Below.refl _ _
    · exact below_bw _ _ _
  · obtain ⟨⟨te, pe, h1⟩, _⟩ := he
    refine (Any.strconv_Atoi_syntax Tryd.laysC172 p (by omega) ha _ w h1 (.inr ⟨te, pe, rfl⟩)).mono ?_
    rintro e w' ⟨N, rfl, _, _, hb⟩
    exact ⟨_, _, rfl, hb, .inr ⟨⟨_, _, rfl⟩, fun v e => by rw [ha] at e; cases e⟩⟩
  · obtain ⟨_, te, pe, h1⟩ := he
    refine (Tryd.strconv_Atoi_range p (by omega) ha _ w h1 (.inr ⟨te, pe, rfl⟩)).mono ?_
    rintro e w' ⟨N, rfl, _, _, hb⟩
    exact ⟨_, _, rfl, hb, .inr ⟨⟨_, _, rfl⟩, fun v e => by rw [ha] at e; cases e⟩⟩

theorem numO_atoi {l : List UInt8} {u : Nat} (h : numO l = some u) : Lib.atoiAll l = .ok (u : Int) := by
  obtain ⟨h1, h2⟩ := numO_some.1 h
  rw [← h2]; exact atoi_dec h1
theorem numO_err {l : List UInt8} (h : ∀ v, Lib.atoiAll l ≠ .ok v) : numO l = none := by
  cases hn : numO l with
  | none => rfl
  | some u => exact absurd (numO_atoi hn) (h _)
theorem numO_out {l : List UInt8} {n : Int} (h : Lib.atoiAll l = .ok n) (hr : n < 0 ∨ 1000000 < n ∨ itB n ≠ ⟨l.toArray⟩) : numO l = none := by
  cases hn : numO l with
  | none => rfl
  | some u =>
    have h1 := numO_atoi hn
    rw [h] at h1
    have e : n = (u : Int) := by injection h1
    obtain ⟨h2, h3⟩ := numO_some.1 hn
    rcases hr with hr | hr | hr
    · omega
    · omega
    · exact absurd (by rw [e, itB_nat, h3]) hr
theorem numO_in {l : List UInt8} {n : Int} (h0 : 0 ≤ n) (h1 : n ≤ 1000000) (hr : itB n = ⟨l.toArray⟩) : numO l = some n.toNat := by
  obtain ⟨u, rfl⟩ := Int.eq_ofNat_of_zero_le h0
  rw [itB_nat] at hr
  refine numO_some.2 ⟨by simp; omega, ?_⟩
  have : (Lib.decDigits u).toArray = l.toArray := by injection hr
  simpa using this

set_option maxHeartbeats 4000000 in
theorem pnI_ok (t : ByteArray) (w : World) (hs : t.size ≤ 1048576) (hm : MaxLenIs w) (hp : PowIs w) (he : ErrsAre w) :
    Calls Tryd.prog 11 #[.string t] w fun e w' => ∃ a l, e = .returned (.tuple #[.slice a l l, .bool (pnB (cutsP 32 t))]) ∧ OutI w' w.heap.size a l l (pnV (cutsP 32 t)) ∧ Below w.heap.size w w' := by
  have HC := Lib.hid (split_ok t 32 w hs hm)
  have hpl := cutsP_len 32 t
  have hpz := cutsP_size 32 t
  have hp0 := cutsP_pos 32 t
  generalize cutsP 32 t = ps at HC hpl hpz hp0 ⊢
  have HSz := Lib.hid (fun k (hk : k < ps.length) => Nat.le_trans (hpz (gT ps k) (List.mem_of_getElem? (gT_lt hk))) hs)
  have b1 : Below w.heap.size w (w.alloc (.cells (strs ps).toArray 9)) := (Below.refl _ _).alloc (Nat.le_refl _) _
  have R1 := Lib.hid (fun W (hW : Below (w.alloc (.cells (strs ps).toArray 9)).heap.size (w.alloc (.cells (strs ps).toArray 9)) W) => (RowT.of_blk (Blk.new w 9 (strs ps)) (by unfold maxLen; omega)).below hW (Nat.le_refl _))
  have HP := Lib.hid (fun W (hW : Below w.heap.size w W) => hp.below hW (Nat.le_refl _))
  have HEr := Lib.hid (fun W (hW : Below w.heap.size w W) => he.below hW (Nat.le_refl _))
  have B1 := Lib.hid b1
  have hsz : w.heap.size ≤ (w.alloc (.cells (strs ps).toArray 9)).heap.size := b1.size
  have HSiz := Lib.hid hsz
  clear hpz b1 hp he hm hsz
  go_enter Tryd.func11, Tryd.ntmps11
  go_wp2_with fail
  refine HC.out.mono ?_
  rintro e w1 ⟨rfl, hw1⟩
  rw [← hw1] at R1 B1 HSiz
  have HW1 := Lib.hid hw1
  clear hw1
  by_cases hlong : 32 < ps.length
  · have hlw : (32 : Int) < (ps.length : Int) := by omega
    have HF := Lib.hid (pnB_long hlong)
    have HV := Lib.hid (pnV_no HF.out)
    go_wp2_with fail
    go_ret2
    exact ⟨none, 0, retv HF.out.symm, by rw [HV.out]; exact outNilN _ _, B1.out⟩
  · have hlw : ¬ (32 : Int) < (ps.length : Int) := by omega
    go_wp2_with fail
    go_loopw [5, 17] (fun v q wr => ∃ k : Nat, k ≤ ps.length ∧ q = .int .i64 k ∧ OwnI wr w1.heap.size v (nmL ps k) ∧ (∀ j, j < k → (nmO ps j).isSome = true) ∧ Below w1.heap.size w1 wr) (fun _ q _ => ps.length - (intOf q).toNat)
    case atStart => exact ⟨0, Nat.zero_le _, rfl, OwnI.nil _ _, fun j hj => absurd hj (Nat.not_lt_zero _), Below.refl _ _⟩
    case round =>
      obtain ⟨k, hk, rfl, ho, hall, hb⟩ := hrel
      have HO := Lib.hid ho
      have HAl := Lib.hid hall
      have HB := Lib.hid hb
      have hlen := nmL_len ps k
      clear ho hall hb
      by_cases hlt : k < ps.length
      · have hltw : (k : Int) < (ps.length : Int) := by omega
        have hcx := (R1.out _ HB.out).2.cell _ 0 rfl k hlt
        rw [Nat.zero_add] at hcx
        have HAt := Lib.hid (fun W (hW : Below w1.heap.size w1 W) => atoi_ok (gT ps k) W (HSz.out k hlt) (HEr.out W (B1.out.trans (hW.mono B1.out.size))))
        have HIt := Lib.hid (fun n W (h0 : 0 ≤ n) (h1 : n ≤ 1000000) (hW : Below w1.heap.size w1 W) => itoa_ok n (by omega) (by omega) W (HP.out W (B1.out.trans (hW.mono B1.out.size))))
        have HOf : Hid (nmO ps k = numO (gT ps k).data.toList) := rfl
        have HNx := Lib.hid (nmL_next ps k)
        have HPb := Lib.hid (fun h => pnB_bad (ts := ps) hlt h)
        have hpk := HSz.out k hlt
        generalize gT ps k = p at hcx HAt HOf hpk
        go_wp2_with fail
        refine (HAt.out _ HB.out).mono ?_
        rintro e w2 ⟨n, ev, rfl, b2, hcase⟩
        have C2 := Lib.hid (HB.out.trans (b2.mono HB.out.size))
        have O2 := Lib.hid (HO.out.belowN b2 (Nat.le_refl _))
        clear b2
        rcases hcase with ⟨rfl, hok⟩ | ⟨⟨te, pe, rfl⟩, hbad⟩
        · have HOk := Lib.hid hok
          clear hok
          by_cases hn0 : n < 0
          · have HF := Lib.hid (HPb.out (HOf.out.trans (numO_out HOk.out (.inl hn0))))
            have HV := Lib.hid (pnV_no HF.out)
            go_wp2_with fail
            go_ret2
            exact ⟨none, 0, retv HF.out.symm, by rw [HV.out]; exact outNilN _ _, B1.out.trans (C2.out.mono B1.out.size)⟩
          · by_cases hn1 : 1000000 < n
            · have HF := Lib.hid (HPb.out (HOf.out.trans (numO_out HOk.out (.inr (.inl hn1)))))
              have HV := Lib.hid (pnV_no HF.out)
              go_wp2_with fail
              go_ret2
              exact ⟨none, 0, retv HF.out.symm, by rw [HV.out]; exact outNilN _ _, B1.out.trans (C2.out.mono B1.out.size)⟩
            · have HIn := Lib.hid (fun W hW => HIt.out n W (by omega) (by omega) hW)
              have hit : (itB n).size ≤ 21 := itB_le (by omega) (by omega)
              by_cases heq : itB n = p
              · have HSo : Hid (nmO ps k = some n.toNat) := HOf.out.trans (numO_in (by omega) (by omega) (by rw [heq]))
                have HNat : Hid (((n.toNat : Nat) : Int) = n) := by unfold Hid; omega
                rw [heq] at HIn
                clear heq
                go_wp2_with fail
                refine (HIn.out _ C2.out).mono ?_
                rintro e w3 ⟨rfl, b3⟩
                have C3 := Lib.hid (C2.out.trans (b3.mono C2.out.size))
                have O3 := Lib.hid (O2.out.belowN b3 (Nat.le_refl _))
                clear b3
                go_wp2_with (at_builtin; refine wpList_appI (OwnI.alloc O3.out _) (RowI.one _ _) rfl _ _ rfl rfl rfl (by omega) (by have := C3.out.size; simp; omega) ?_; intro v6 w6 o6 g6)
                go_roundw
                case rel => exact ⟨k + 1, by omega, by go_num, by rw [HNx.out, HSo.out, Option.getD_some, HNat.out]; exact o6, fun j hj => by
                    by_cases e : j = k
                    · rw [e, HSo.out]; rfl
                    · exact HAl.out j (by omega), (C3.out.alloc C3.out.size _).grown g6 (by have := C3.out.size; simp; omega) (fun j hj => (World.ownsRow.lt O3.out j hj).1)⟩
                case measure => simp [intOf] <;> omega
              · have heb : ((itB n).toList == p.toList) = false := by
                  rw [beq_eq_false_iff_ne, Lib.toList_data, Lib.toList_data]
                  intro e2
                  exact heq (ByteArray.ext (Array.toList_inj.1 e2))
                have HF := Lib.hid (HPb.out (HOf.out.trans (numO_out HOk.out (.inr (.inr heq)))))
                have HV := Lib.hid (pnV_no HF.out)
                generalize itB n = q at HIn hit heb heq
                go_wp2_with fail
                refine (HIn.out _ C2.out).mono ?_
                rintro e w3 ⟨rfl, b3⟩
                have C3 := Lib.hid (C2.out.trans (b3.mono C2.out.size))
                clear b3
                go_wp2_with fail
                go_ret2
                exact ⟨none, 0, retv HF.out.symm, by rw [HV.out]; exact outNilN _ _, B1.out.trans (C3.out.mono B1.out.size)⟩
        · have HF := Lib.hid (HPb.out (HOf.out.trans (numO_err hbad)))
          have HV := Lib.hid (pnV_no HF.out)
          clear hbad
          go_wp2_with fail
          go_ret2
          exact ⟨none, 0, retv HF.out.symm, by rw [HV.out]; exact outNilN _ _, B1.out.trans (C2.out.mono B1.out.size)⟩
      · obtain rfl : k = ps.length := by omega
        have hltw : ¬ (ps.length : Int) < (ps.length : Int) := by omega
        have HT := Lib.hid (pnB_yes (by omega) HAl.out)
        have HV := Lib.hid (pnV_yes HT.out)
        obtain ⟨oa, oc, rfl, q, hsp⟩ := HO.out.outN
        rw [hlen] at q ⊢
        have HCl := Lib.hid (fun W => ClipN_ok oa ps.length oc W q.2.row.le q.2.row.cap q.2.row.nil hsp)
        have HQ := Lib.hid q
        clear q hsp hlen
        go_wp2_with fail
        refine (HCl.out _).mono ?_
        rintro e w3 ⟨rfl, rfl⟩
        go_wp2_with fail
        go_ret2
        exact ⟨oa, _, retv HT.out.symm, by rw [HV.out]; exact (HQ.out.baseN B1.out.size).clipN, B1.out.trans (HB.out.mono B1.out.size)⟩

end Go.Proofs.YtlfadpfodmpneaaDoor
