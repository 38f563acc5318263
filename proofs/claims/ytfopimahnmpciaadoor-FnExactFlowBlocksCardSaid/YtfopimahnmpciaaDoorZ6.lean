/- Walks: all circuits, by the program. -/
import Derived.Test.YtfopimahnmpciaaDoorZ5
import Derived.Test.YtfopimahnmpciaaDoorZ3
import Derived.Deep.RegionLaw
import Derived.Deep.RegionHeld3
import Derived.Deep.DeepCutAuto
namespace Go.Proofs.YtfopimahnmpciaaDoor
open Go.RowKit

theorem below_d (w : World) : Below w.heap.size w w.drew := ⟨rfl, rfl, rfl, Nat.le_refl _, fun _ _ => rfl⟩
theorem below_ad (w : World) (o : Obj) : Below w.heap.size w (w.alloc o).drew := ((Below.refl _ w).alloc (Nat.le_refl _) o).trans ⟨rfl, rfl, rfl, Nat.le_refl _, fun _ _ => rfl⟩
theorem acts_bit {ps : List ByteArray} {i k : Nat} (hk : k < ps.length) : bN (actsN ps i) k = if actB ps i k = true then 1 else 0 := by
  rw [bN_tst, actsN, setTo_bit, decide_eq_true hk, Bool.true_and]
theorem acts_lt (ps : List ByteArray) (i : Nat) (h5 : ps.length ≤ 5) : actsN ps i < 32 := by
  have h1 := setTo_lt (actB ps i) ps.length
  have h2 := Nat.pow_le_pow_right (n := 2) (by decide) h5
  unfold actsN
  omega
theorem setW_lt {way : List Nat} {n : Nat} (h : ∀ x ∈ way, x < n) (h5 : n ≤ 5) : setW way < 32 := by
  have key : ∀ (l : List Nat) (t : Nat), (∀ x ∈ l, x < 5) → t < 2 ^ 5 → l.foldl (fun t i => t ||| 2 ^ i) t < 2 ^ 5 := by
    intro l
    induction l with
    | nil => intro t _ ht; exact ht
    | cons x l ih =>
      intro t hx ht
      rw [List.foldl_cons]
      exact ih _ (fun y hy => hx y (by simp [hy])) (Nat.or_lt_two_pow ht (Nat.pow_lt_pow_right (by decide) (hx x (by simp))))
  exact key way 0 (fun x hx => by have := h x hx; omega) (by decide)

theorem wrap64_id {x : Int} (h0 : -9223372036854775808 ≤ x) (h1 : x ≤ 9223372036854775807) : wrap64 x = x := by unfold wrap64; omega
theorem CS.grow_co {w w1 : World} {B0 B Bw Bo Bk : Nat} {wv kv v : Value} {n : Nat} (h : CS w B Bw Bo Bk wv kv v n) (ho : Ord B0 B Bw Bo Bk) (hg : w.grownBy w1 v.ownBlock) : Blk w1 Bo 39 [v] := by
  have hb := h.co
  unfold Blk at hb ⊢
  rw [hg.block Bo (lt_of_block hb) (fun e => by have := (h.own.lt Bo e.symm).1; have := ho.y; omega)]
  exact hb
theorem own_nextZ {w1 W w3 : World} {v : Value} {zs : List Int} (b : Below w1.heap.size w1 W) (h : OwnI W w1.heap.size v zs) (g : W.grownBy w3 v.ownBlock) : Below w1.heap.size w1 w3 := b.grown g b.size (fun j hj => (World.ownsRow.lt h j hj).1)
/-- What the walk over circuits leaves. -/
def CwP (B0 : Nat) (w0 : World) (B Bw Bo Bk : Nat) (wv kv : Value) (w : World) (v : Value) (n M : Nat) (b : Bool) (e : Ending) (w' : World) : Prop :=
  e = .returned (.tuple #[]) ∧ ∃ v' n', CS w' B Bw Bo Bk wv kv v' n' ∧ Kp Bo w v w' v' ∧ Below B0 w0 w' ∧ n ≤ n' ∧ n' ≤ n + M ∧ (n < n' ↔ b = true)

theorem grow_iff {n0 n1 n2 : Nat} {a b : Bool} (h1 : n0 ≤ n1) (h2 : n1 ≤ n2) (ha : n0 < n1 ↔ a = true) (hb : n1 < n2 ↔ b = true) : n0 < n2 ↔ (a || b) = true := by
  rw [Bool.or_eq_true, ← ha, ← hb]; omega

set_option maxRecDepth 100000 in
set_option maxHeartbeats 8000000 in
theorem cwalk_ok (ps : List ByteArray) (hn : netB ps = true) (h5 : ps.length ≤ 5) (ao : Option Addr) (c : Nat) (w0 : World) (B0 B Bw Bo Bk : Nat) (hord : Ord B0 B Bw Bo Bk) (hnet : ∀ W, Below B0 w0 W → RowN W ao ps.length c ps.length (bitsN ps ps.length)) :
    ∀ (f : Nat) (way : List Nat) (first last : Nat) (ro : Option Addr) (rc : Nat) (w : World) (v : Value) (n : Nat) (_ : RowI w ro way.length rc (wayI way)) (_ : Prot Bo v ro) (_ : ∀ x ∈ way, x < ps.length)
      (_ : way[0]? = some first) (_ : way[way.length - 1]? = some last) (_ : freeN way ps.length < f) (_ : way.length + f ≤ 7) (_ : n + 6 ^ f ≤ 1000000) (_ : Below B0 w0 w)
      (_ : CS w B Bw Bo Bk (.slice ao ps.length c) (.func (.func 26) #[] #[.pointer (some ⟨Bw, 0, none⟩), .pointer (some ⟨Bo, 0, none⟩), .pointer (some ⟨Bk, 0, none⟩)]) v n),
      Calls Tryd.prog 26 #[.slice ro way.length rc, .int .i64 (setW way : Nat), .pointer (some ⟨Bw, 0, none⟩), .pointer (some ⟨Bo, 0, none⟩), .pointer (some ⟨Bk, 0, none⟩)] w
        (CwP B0 w0 B Bw Bo Bk (.slice ao ps.length c) (.func (.func 26) #[] #[.pointer (some ⟨Bw, 0, none⟩), .pointer (some ⟨Bo, 0, none⟩), .pointer (some ⟨Bk, 0, none⟩)]) w v n (6 ^ f) (walkB (actB ps) ps.length first f last (setW way)))
  | 0, _, _, _, _, _, _, _, _, _, _, _, _, _, hf, _, _, _, _ => absurd hf (Nat.not_lt_zero _)
  | f + 1, way, first, last, ro, rc, w, v, n, hr, hpr, hw, hfi, hla, hf, hlen, hcap, hb0, hcs => by
    have hL0 : 0 < way.length := (List.getElem?_eq_some_iff.1 hfi).1
    have hfl : first < ps.length := hw _ (List.mem_of_getElem? hfi)
    have hll : last < ps.length := hw _ (List.mem_of_getElem? hla)
    have HEnd := Lib.hid (wkTo_end (A := actB ps) (f := f) (last := last) (set := setW way) hfl)
    have HOne := Lib.hid (wkTo_one (actB ps) ps.length first f last (setW way))
    have HStep := Lib.hid (fun k (hk : first < k) => wkTo_next (A := actB ps) (n := ps.length) (f := f) (last := last) (set := setW way) hk)
    have HSn := Lib.hid (fun k (ha : actB ps last k = false) => show wkQ (actB ps) ps.length first f last (setW way) k = false by rw [wkQ, ha]; simp)
    have HSm := Lib.hid (fun k (hm : (setW way).testBit k = true) => show wkQ (actB ps) ps.length first f last (setW way) k = false by rw [wkQ, hm]; simp)
    have HSr := Lib.hid (fun k (hk : first < k) (ha : actB ps last k = true) (hm : (setW way).testBit k = false) => show wkQ (actB ps) ps.length first f last (setW way) k = walkB (actB ps) ps.length first f k (setW way ||| 2 ^ k) by rw [wkQ, hm, ha, decide_eq_true hk]; rfl)
    have HAct := Lib.hid (fun W (hW : Below B0 w0 W) => acts_ok ao c ps last W (hnet W hW) hn h5 hll)
    have HBit := Lib.hid (fun k (hk : k < ps.length) => acts_bit (ps := ps) (i := last) hk)
    have hal := acts_lt ps last h5
    have hsl := setW_lt hw h5
    have HSb := Lib.hid (fun k => bN_tst (setW way) k)
    have HPb := Lib.hid (pow_bound f)
    have h6 : (6 : Nat) ^ f ≤ 7776 := Nat.le_trans (Nat.pow_le_pow_right (by decide) (show f ≤ 5 by omega)) (by decide)
    have hOr := Lib.hid hord
    have HSg := Lib.hid (fun W (hW : Below B0 w0 W) (h : RowI W ro way.length rc (wayI way)) => signOf_ok ao c ps way ro rc W (hnet W hW) h hn h5 hw (by omega))
    have HRec : Hid (∀ k ro' rc' W v' n', RowI W ro' (way ++ [k]).length rc' (wayI (way ++ [k])) → Prot Bo v' ro' → k < ps.length → (setW way).testBit k = false → n' + 6 ^ f ≤ 1000000 → Below B0 w0 W →
        CS W B Bw Bo Bk (.slice ao ps.length c) (.func (.func 26) #[] #[.pointer (some ⟨Bw, 0, none⟩), .pointer (some ⟨Bo, 0, none⟩), .pointer (some ⟨Bk, 0, none⟩)]) v' n' →
        Calls Tryd.prog 26 #[.slice ro' (way ++ [k]).length rc', .int .i64 (setW way ||| 2 ^ k : Nat), .pointer (some ⟨Bw, 0, none⟩), .pointer (some ⟨Bo, 0, none⟩), .pointer (some ⟨Bk, 0, none⟩)] W
          (CwP B0 w0 B Bw Bo Bk (.slice ao ps.length c) (.func (.func 26) #[] #[.pointer (some ⟨Bw, 0, none⟩), .pointer (some ⟨Bo, 0, none⟩), .pointer (some ⟨Bk, 0, none⟩)]) W v' n' (6 ^ f) (walkB (actB ps) ps.length first f k (setW way ||| 2 ^ k)))) := by
      intro k ro' rc' W v' n' g1 g2 g3 g4 g5 g6 g7
      have hnk : k ∉ way := by
        intro hm
        rw [setW_bit, decide_eq_true hm] at g4
        cases g4
      have := cwalk_ok ps hn h5 ao c w0 B0 B Bw Bo Bk hord hnet f (way ++ [k]) first k ro' rc' W v' n' g1 g2 (fun x hx => by
        rcases List.mem_append.1 hx with hx | hx
        · exact hw x hx
        · rw [List.mem_singleton.1 hx]; exact g3) (by rw [List.getElem?_append_left hL0]; exact hfi) (by simp) (by have := freeN_snoc g3 hnk; omega) (by simp; omega) g5 g6 g7
      rw [setW_snoc] at this
      exact this
    clear hord hnet hn hf
    have HRow := Lib.hid hr
    have HPr := Lib.hid hpr
    have HB0 := Lib.hid hb0
    have HCs := Lib.hid hcs
    have HClo := Lib.hid (fun W (h : RowI W ro way.length rc (wayI way)) => cloneI_ok ro way.length rc (wayI way) W h (by omega) hL0)
    obtain ⟨rb, r0, rfl, hrb⟩ := hr.2.some hL0
    obtain ⟨L, hL⟩ : ∃ L, way.length = L + 1 := ⟨way.length - 1, by omega⟩
    have c0 := hr.2.cell rb r0 rfl 0 hL0
    rw [wayI_get hfi] at c0
    have cL := hr.2.cell rb r0 rfl L (by omega)
    rw [wayI_get (by rw [hL] at hla; exact hla)] at cL
    have cw := hcs.cw.cell (i := 0) rfl
    rw [Nat.add_zero] at c0
    have HFi := Lib.hid hfi
    clear hr hpr hb0 hcs hw hfi hla
    have HRow2 : Hid (∀ W u, Kp Bo w v W u → RowI W (some ⟨rb, r0, none⟩) way.length rc (wayI way) ∧ Prot Bo u (some ⟨rb, r0, none⟩)) := fun W u hk => HRow.out.kp hL0 hk HPr.out
    have hL5 : L ≤ 5 := by omega
    have hLw : wrap64 (L : Int) = (L : Int) := wrap64_id (by omega) (by omega)
    rw [hL] at HSg HClo HRow2 ⊢
    generalize (6 : Nat) ^ f = M at HPb h6 HRec
    generalize (6 : Nat) ^ (f + 1) = M6 at HPb hcap ⊢
    have hcap' : n ≤ 1000000 := by omega
    have HCap := Lib.hid hcap
    generalize walkB (actB ps) ps.length first (f + 1) last (setW way) = bE at HEnd ⊢
    have HL := Lib.hid hL
    clear hL hlen hcap hL0
    go_enter Tryd.func26, Tryd.ntmps26
    go_wp2_with fail
    refine (HAct.out _ HB0.out).mono ?_
    rintro e w1 ⟨rfl, b1⟩
    have hnd : ∀ k, v.ownBlock = some k → B0 ≤ k := fun k hk => by have := (HCs.out.own.lt k hk).1; have := hOr.out.a; have := hOr.out.x; omega
    have hB0s : B0 ≤ w.heap.size := by have := hOr.out.a; have := hOr.out.x; have := HCs.out.base; omega
    have K1 := Lib.hid ((Kp.refl Bo w v).below b1)
    have C1 := Lib.hid (HCs.out.below b1)
    have B1 := Lib.hid (HB0.out.trans (b1.mono hB0s))
    have c01 := (b1.cell (p := ⟨rb, r0, none⟩) hrb).trans c0
    have e1 : bits .and .i64 ((actsN ps last : Int) / 2 ^ first) 1 = ((bN (actsN ps last) first : Nat) : Int) := bit_int _ first (by omega) (by omega)
    have HBf := Lib.hid (HBit.out first hfl)
    clear b1 c0 cL cw hLw
    generalize actsN ps last = on at hal HBit e1 HBf
    generalize bN on first = u1 at e1 HBf
    go_upto_if 25 with fail
    go_cut [] (fun wx => ∃ v1 n1, CS wx B Bw Bo Bk (.slice ao ps.length c) (.func (.func 26) #[] #[.pointer (some ⟨Bw, 0, none⟩), .pointer (some ⟨Bo, 0, none⟩), .pointer (some ⟨Bk, 0, none⟩)]) v1 n1 ∧ Kp Bo w v wx v1 ∧ Below B0 w0 wx ∧ n ≤ n1 ∧ n1 ≤ n + 1 ∧ (n < n1 ↔ actB ps last first = true))
    case first =>
      cases hA : actB ps last first with
      | false =>
        rw [hA, if_neg (by decide)] at HBf
        have hu : ((u1 : Int) == 1) = false := by rw [HBf.out]; rfl
        go_wp2_with fail
        go_meet
        exact ⟨v, n, C1.out, K1.out, B1.out, Nat.le_refl _, by omega, by rw [hA]; simp⟩
      | true =>
        rw [hA, if_pos rfl] at HBf
        have hu : ((u1 : Int) == 1) = true := by rw [HBf.out]; rfl
        have hcO := C1.out.co.cell (i := 0) rfl
        have hcW := C1.out.cw.cell (i := 0) rfl
        have HAt := Lib.hid (fun W (hW : Below w1.heap.size w1 W) => (show CS W B Bw Bo Bk _ _ v n ∧ Below B0 w0 W ∧ Kp Bo w v W v from ⟨C1.out.below hW, B1.out.trans (hW.mono (Nat.le_trans hB0s K1.out.size)), K1.out.below hW⟩))
        have HCl1 : Hid (∀ W, Below w1.heap.size w1 W → Calls Tryd.prog 27 #[.slice (some ⟨rb, r0, none⟩) (L + 1) rc] W fun e w' => ∃ v, e = .returned v ∧ OwnI w' W.heap.size v (wayI way) ∧ Below w1.heap.size w1 w') := fun W hW => (HClo.out W ((HRow2.out W v (HAt.out W hW).2.2).1)).mono (by rintro e w' ⟨v, h1, h2, h3⟩; exact ⟨v, h1, h2, hW.trans (h3.mono hW.size)⟩)
        have HSg1 : Hid (∀ W, Below w1.heap.size w1 W → Calls Tryd.prog 28 #[.slice ao ps.length c, .slice (some ⟨rb, r0, none⟩) (L + 1) rc] W fun e w' => (∃ x : Int, e = .returned (.int .u8 x)) ∧ Below w1.heap.size w1 w') := fun W hW => (HSg.out W (HAt.out W hW).2.1 ((HRow2.out W v (HAt.out W hW).2.2).1)).mono (by rintro e w' ⟨h1, h3⟩; exact ⟨h1, hW.trans (h3.mono hW.size)⟩)
        go_wp2_with fail
        go_region_law (first
          | (go_simp; go_at_call 27; refine (HCl1.out _ ?_).mono ?_; (exact below_d _); rintro e w5 ⟨v5, rfl, o5, b5⟩; obtain ⟨z5, y5, rfl, _⟩ := o5.out; have a5 := HAt.out _ b5; have hcO5 := a5.1.co.cell (i := 0) rfl; have hcW5 := a5.1.cw.cell (i := 0) rfl)
          | (go_simp; go_at_call 28; refine (HSg1.out _ b5).mono ?_; rintro e w6 ⟨⟨x6, rfl⟩, b6⟩; have a6 := HAt.out _ b6; have hcO6 := a6.1.co.cell (i := 0) rfl; have hcA6 : ∀ o, (w6.alloc o).cell? ⟨Bo, 0, none⟩ = some v := fun o => (a6.1.alloc o).co.cell (i := 0) rfl)
          | (refine step_appC (OwnC.alloc a6.1.own _) (Blk.new _ _ _) ?_ rfl _ _ rfl rfl rfl (by omega) (by have := a6.1.base; simp; omega) ?_; (intro u hu; simp at hu; rcases hu with rfl | rfl | rfl <;> rfl); intro v7 w7 o7 g7 t7; obtain ⟨z7, y7, rfl⟩ := o7.slice; have k7 := CS.grow_co (a6.1.alloc _) hOr.out g7; have hcO7 := k7.cell (i := 0) rfl; have hfO7 := k7.free 0; have c7 := Lib.hid ((a6.1.alloc _).store hOr.out g7 o7); have q7 := Lib.hid ((a6.2.2.alloc _).store g7 t7); clear k7 g7 o7 t7))
        all_goals
          go_wp2_with fail
          go_meet
          exact ⟨_, n + 1, c7.out, q7.out, HB0.out.trans (q7.out.belowB (Nat.le_trans hOr.out.b (Nat.le_refl _)) hnd hB0s), by omega, by omega, by rw [hA]; simp⟩
    case rest =>
      obtain ⟨v1, n1, cs1, kp1, bb1, l1, m1, i1⟩ := hcut
      have CS1 := Lib.hid cs1
      have KP1 := Lib.hid kp1
      have BB1 := Lib.hid bb1
      have I1 := Lib.hid i1
      have c02 := (HRow2.out wc v1 kp1).1.2.cell rb r0 rfl 0 (by omega)
      rw [wayI_get HFi.out, Nat.add_zero] at c02
      have cw2 := cs1.cw.cell (i := 0) rfl
      clear cs1 kp1 bb1 i1 c01 e1 HBf C1 K1 B1
      go_wp2_with fail
      obtain ⟨wo, hwo⟩ : ∃ wo : World, wo = wc := ⟨_, rfl⟩
      subst hwo
      go_loopw [9] (fun q wr => ∃ (k : Nat) (u : Value) (m : Nat), first < k ∧ k ≤ ps.length ∧ q = .int .i64 k ∧ CS wr B Bw Bo Bk (.slice ao ps.length c) (.func (.func 26) #[] #[.pointer (some ⟨Bw, 0, none⟩), .pointer (some ⟨Bo, 0, none⟩), .pointer (some ⟨Bk, 0, none⟩)]) u m ∧ Kp Bo w v wr u ∧ Below B0 w0 wr ∧ n ≤ m ∧ m ≤ n + 1 + (k - 1) * M ∧ (n < m ↔ wkTo (actB ps) ps.length first f last (setW way) k = true)) (fun q _ => ps.length - (intOf q).toNat)
      case atStart => exact ⟨first + 1, v1, n1, by omega, by omega, by go_num, CS1.out, KP1.out, BB1.out, l1, by have : 0 ≤ (first + 1 - 1) * M := Nat.zero_le _; omega, by rw [HOne.out]; exact I1.out⟩
      case round =>
        obtain ⟨k, u, m, hfk, hkn, rfl, hcs, hkp, hbb, hnm, hmb, hiff⟩ := hrel
        have HCS := Lib.hid hcs
        have HKP := Lib.hid hkp
        have HBB := Lib.hid hbb
        have HIff := Lib.hid hiff
        have cw3 := hcs.cw.cell (i := 0) rfl
        have ck3 := hcs.ck.cell (i := 0) rfl
        clear hcs hkp hbb hiff
        by_cases hlt : k < ps.length
        · have hlt' : (k : Int) < (ps.length : Int) := by omega
          have e3 : bits .and .i64 ((on : Int) / 2 ^ k) 1 = ((bN on k : Nat) : Int) := bit_int _ k (by omega) (by omega)
          have e4 : bits .and .i64 (((setW way : Nat) : Int) / 2 ^ k) 1 = ((bN (setW way) k : Nat) : Int) := bit_int _ k (by omega) (by omega)
          have hB3 := HBit.out k hlt
          have hB4 := HSb.out k
          have hkM : (k - 1) * M + M = (k + 1 - 1) * M := by rw [← Nat.succ_mul]; congr 1; omega
          have HkM := Lib.hid hkM
          have hst := HStep.out k hfk
          clear hkM
          cases hA : actB ps last k with
          | false =>
            rw [HSn.out k hA, Bool.or_false] at hst
            have HSt := Lib.hid hst
            rw [hA, if_neg (by decide)] at hB3
            rw [hB3] at e3
            clear hst hB3 hB4 e4 hA
            go_wp2_with fail
            go_roundw
            case rel => exact ⟨k + 1, u, m, by omega, by omega, by go_num, HCS.out, HKP.out, HBB.out, hnm, by rw [← HkM.out]; omega, by rw [HSt.out]; exact HIff.out⟩
            case measure => simp [intOf] <;> omega
          | true =>
            rw [hA, if_pos rfl] at hB3
            rw [hB3] at e3
            clear hB3
            cases hm : (setW way).testBit k with
            | true =>
              rw [HSm.out k hm, Bool.or_false] at hst
              have HSt := Lib.hid hst
              rw [hm, if_pos rfl] at hB4
              rw [hB4] at e4
              clear hst hB4 hA hm
              go_wp2_with fail
              go_roundw
              case rel => exact ⟨k + 1, u, m, by omega, by omega, by go_num, HCS.out, HKP.out, HBB.out, hnm, by rw [← HkM.out]; omega, by rw [HSt.out]; exact HIff.out⟩
              case measure => simp [intOf] <;> omega
            | false =>
              rw [HSr.out k hfk hA hm] at hst
              have HSt := Lib.hid hst
              rw [hm, if_neg (by decide)] at hB4
              rw [hB4] at e4
              have hor := or_shl (setW way) k (by omega) (by omega)
              have hMm : (k + 1 - 1) * M ≤ 4 * M := Nat.mul_le_mul_right _ (by omega)
              have hmm : m + M ≤ 1000000 := by have := HkM.out; have := HPb.out; have := HCap.out; omega
              have hBo := HCS.out.co.lt
              have hBy : ((wayI way).length + 1) * 8 ≤ 140737488355328 := by rw [wayI_len]; have := HL.out; omega
              have HBy := Lib.hid hBy
              have hszr : B0 ≤ wr.heap.size := Nat.le_trans hB0s HKP.out.size
              have HRk : Hid (∀ W v6, Below wr.heap.size wr W → OwnI W wr.heap.size v6 (wayI way ++ [(k : Int)]) → Calls Tryd.prog 26 #[v6, .int .i64 (setW way ||| 2 ^ k : Nat), .pointer (some ⟨Bw, 0, none⟩), .pointer (some ⟨Bo, 0, none⟩), .pointer (some ⟨Bk, 0, none⟩)] W fun e w' => e = .returned (.tuple #[]) ∧
                  ∃ u' m', CS w' B Bw Bo Bk (.slice ao ps.length c) (.func (.func 26) #[] #[.pointer (some ⟨Bw, 0, none⟩), .pointer (some ⟨Bo, 0, none⟩), .pointer (some ⟨Bk, 0, none⟩)]) u' m' ∧ Kp Bo w v w' u' ∧ Below B0 w0 w' ∧ m ≤ m' ∧ m' ≤ m + M ∧ (n < m' ↔ wkTo (actB ps) ps.length first f last (setW way) (k + 1) = true)) := by
                intro W v6 hW o6
                obtain ⟨a6, c6, rfl, q6⟩ := o6.out
                have hrow := q6.rowI
                rw [wayI_snoc, wayI_len] at hrow ⊢
                refine (HRec.out k a6 c6 W u m hrow (fun a e => ⟨?_, ?_⟩) hlt hm hmm (HBB.out.trans (hW.mono hszr)) (HCS.out.below hW)).mono ?_
                · have := q6.2.own a e
                  omega
                · intro e2
                  have h1 := q6.2.own a e
                  have h2 := (HCS.out.own.lt _ e2.symm).2
                  omega
                · rintro e w' ⟨rfl, u', m', h1, h2, h3, h4, h5, h6⟩
                  exact ⟨rfl, u', m', h1, (HKP.out.below hW).trans h2, h3, h4, h5, by rw [HSt.out]; exact grow_iff hnm h4 HIff.out h6⟩
              have HCl8 : Hid (∀ W, Below wr.heap.size wr W → Calls Tryd.prog 27 #[.slice (some ⟨rb, r0, none⟩) (L + 1) rc] W fun e w' => ∃ v, e = .returned v ∧ OwnI w' wr.heap.size v (wayI way) ∧ Below W.heap.size W w' ∧ Below wr.heap.size wr w') := fun W hW => (HClo.out W (((HRow2.out wr u HKP.out).1).below hW (Nat.le_refl _))).mono (by rintro e w' ⟨v, h1, h2, h3⟩; exact ⟨v, h1, OwnI.baseZ h2 hW.size, h3, hW.trans (h3.mono hW.size)⟩)
              have hkA : ∀ o, (wr.alloc o).cell? ⟨Bk, 0, none⟩ = some (.func (.func 26) #[] #[.pointer (some ⟨Bw, 0, none⟩), .pointer (some ⟨Bo, 0, none⟩), .pointer (some ⟨Bk, 0, none⟩)]) := fun o => (HCS.out.alloc o).ck.cell (i := 0) rfl
              have HKA := Lib.hid hkA
              have hwr : IntKind.i64.wrap (2 ^ k) = wrap64 (2 ^ k) := by rw [IntKind.wrap_i64, wrap64]
              have hor2 : bits .or .i64 ((setW way : Nat) : Int) (IntKind.i64.wrap (2 ^ k)) = ((setW way ||| 2 ^ k : Nat) : Int) := by rw [hwr]; exact hor
              generalize setW way ||| 2 ^ k = sk at hor hor2 HRk
              clear hwr
              clear hst hB4 hA hm hMm hmm hBo hBy hkA
              go_wp2_with fail
              go_region_held3 (fun w' => w'.cell? ⟨Bk, 0, none⟩ = some (.func (.func 26) #[] #[.pointer (some ⟨Bw, 0, none⟩), .pointer (some ⟨Bo, 0, none⟩), .pointer (some ⟨Bk, 0, none⟩)]))
                (first | exact ck3 | exact HKA.out _ | exact hk7 | exact hk6 | exact hk5 | exact hk5A _)
                (first
                  | (go_at_call 27; refine (HCl8.out _ ?_).mono ?_; (first | exact below_d _ | exact below_ad _ _); rintro e w5 ⟨v5, rfl, o5, b5, c5⟩; have hk5 := (HCS.out.below c5).ck.cell (i := 0) rfl; have hk5A : ∀ o, (w5.alloc o).cell? ⟨Bk, 0, none⟩ = some (.func (.func 26) #[] #[.pointer (some ⟨Bw, 0, none⟩), .pointer (some ⟨Bo, 0, none⟩), .pointer (some ⟨Bk, 0, none⟩)]) := fun o => ((HCS.out.below c5).alloc o).ck.cell (i := 0) rfl; (first | (have x5 := (RowI.drew (RowI.one wr (k : Int))).below b5 (Nat.le_refl _)) | skip))
                  | (refine step_appI o5 x5 rfl _ _ rfl rfl rfl HBy.out c5.size ?_; intro v6 w6 o6 g6; have c6 := own_nextZ c5 o5 g6; have hk6 := (HCS.out.below c6).ck.cell (i := 0) rfl)
                  | (refine step_appI (OwnI.alloc o5 _) (RowI.one _ _) rfl _ _ rfl rfl rfl HBy.out (by have := c5.size; simp; omega) ?_; intro v6 w6 o6 g6; have c6 := own_nextZ (c5.alloc c5.size _) (OwnI.alloc o5 _) g6; have hk6 := (HCS.out.below c6).ck.cell (i := 0) rfl)
                  | (go_at_call 26; refine (HRk.out _ _ c6 o6).mono ?_; rintro e w7 ⟨rfl, u7, m7, cs7, kp7, bb7, l7, n7, i7⟩; have hk7 := cs7.ck.cell (i := 0) rfl))
              all_goals
                have CS7 := Lib.hid cs7
                have KP7 := Lib.hid kp7
                have BB7 := Lib.hid bb7
                have I7 := Lib.hid i7
                clear cs7 kp7 bb7 i7
                go_wp2_with fail
                go_roundw
                case rel => exact ⟨k + 1, u7, m7, by omega, by omega, by go_num, CS7.out, KP7.out, BB7.out, by omega, by rw [← HkM.out]; omega, I7.out⟩
                case measure => simp [intOf] <;> omega
        · obtain rfl : k = ps.length := by omega
          have hlt' : ¬ (ps.length : Int) < (ps.length : Int) := by omega
          have HIf := Lib.hid (HEnd.out ▸ HIff.out)
          have HPm := Lib.hid (show (ps.length - 1) * M ≤ 4 * M from Nat.mul_le_mul_right _ (by omega))
          go_wp2_with fail
          go_end0
          exact ⟨rfl, u, m, HCS.out, HKP.out, HBB.out, hnm, by have := HPb.out; have := HPm.out; omega, HIf.out⟩

end Go.Proofs.YtfopimahnmpciaaDoor
