/- Walks: steps that were seen, by the program; marks in them. -/
import Derived.Test.YthgjmciiaikgoaaDoorQ1
import Derived.Test.YthgjmciiaikgoaaDoorM6
namespace Go.Proofs.YthgjmciiaikgoaaDoor
open Go.RowKit

/-- A step of all switches, on both sides. -/
theorem all_step {ps : List ByteArray} (hn : netB ps = true) (h5 : ps.length ≤ 5) {s : Nat} (hs : s < 2 ^ ps.length) : allTo ps s ps.length = stepTo ps s (2 ^ ps.length - 1) ps.length := by
  have hp : (2 ^ ps.length : Nat) ≤ 32 := Nat.pow_le_pow_right (n := 2) (by decide) h5
  obtain ⟨h1, h2⟩ := stepTo_inv hn h5 (2 ^ ps.length - 1) (show s < 32 by omega) ps.length (Nat.le_refl _)
  obtain ⟨h3, h4⟩ := allTo_inv hn h5 s ps.length (Nat.le_refl _)
  refine eq_32 h3 h1 fun i hi => ?_
  rw [h4 i hi, h2 i hi, Nat.testBit_two_pow_sub_one]
  by_cases hil : i < ps.length
  · simp [hil]
  · have := Nat.testBit_lt_two_pow (show s < 2 ^ i from Nat.lt_of_lt_of_le hs (Nat.pow_le_pow_right (by decide) (by omega)))
    simp [hil, this]

set_option maxHeartbeats 1000000 in
theorem ClipS_ok (ao : Option Addr) (n c : Nat) (w : World) (hn : n ≤ c) (hc : c ≤ maxLen) (ha : ao = none → c = 0) (hs : ∀ a, ao = some a → ∃ b o, a = ⟨b, o, none⟩) :
    Calls Tryd.prog 60 #[.slice ao n c] w fun e w' => e = .returned (.slice ao n n) ∧ w = w' := by
  unfold maxLen at hc
  cases ao with
  | none =>
    obtain rfl := ha rfl
    obtain rfl : n = 0 := by omega
    go_enter Tryd.func60, Tryd.ntmps60
    go_wp2
    go_ret
    exact ⟨rfl, rfl⟩
  | some a =>
    obtain ⟨b, o, rfl⟩ := hs a rfl
    go_enter Tryd.func60, Tryd.ntmps60
    go_wp2
    go_ret
    exact ⟨rfl, rfl⟩

/-- Steps that the call itself has made: a whole block, from its head on, of which the first n steps are told. -/
def OutS (w : World) (B : Nat) (ao : Option Addr) (n : Nat) (zs : List (Int × Int)) : Prop :=
  zs.length = n ∧ (ao = none ∧ n = 0 ∨ ∃ g cs, ao = some ⟨g, 0, none⟩ ∧ B ≤ g ∧ Blk w g 63 cs ∧ cs.take (2 * n) = cellsS zs ∧ 2 * n ≤ cs.length)
theorem OwnS.outS {w : World} {B : Nat} {v : Value} {zs : List (Int × Int)} (h : OwnS w B v zs) : ∃ ao c, v = .slice ao zs.length c ∧ OutS w B ao zs.length zs ∧ zs.length ≤ c ∧ c ≤ maxLen ∧ (ao = none → c = 0) ∧ (∀ a, ao = some a → ∃ b o, a = ⟨b, o, none⟩) := by
  obtain ⟨_, ⟨rfl, hn⟩ | ⟨g, cap, cur, rfl, hg, hh, hle, hm, hs, ht⟩⟩ := h
  · refine ⟨none, 0, by rw [hn], ⟨rfl, .inl ⟨rfl, hn⟩⟩, by omega, Nat.zero_le _, fun _ => rfl, fun a e => by cases e⟩
  · refine ⟨some ⟨g, 0, none⟩, cap, rfl, ⟨rfl, .inr ⟨g, cur.toList, rfl, hg, by simpa [Blk] using hh, ?_, ?_⟩⟩, hle, hm, fun e => (by cases e), fun a e => by cases e; exact ⟨_, _, rfl⟩⟩
    · rw [Nat.mul_comm]; exact ht
    · simp only [Array.length_toList]; omega
theorem OutS.row {w : World} {B : Nat} {ao : Option Addr} {n : Nat} {zs : List (Int × Int)} (h : OutS w B ao n zs) (hm : n ≤ maxLen) : RowS w ao n n zs := by
  obtain ⟨hl, ⟨rfl, rfl⟩ | ⟨g, cs, rfl, _, hb, ht, hc⟩⟩ := h
  · exact ⟨hl, Nat.le_refl _, hm, fun h => absurd h (Nat.lt_irrefl _), fun b o e => (by cases e), fun b o e => by cases e⟩
  · refine ⟨hl, Nat.le_refl _, hm, fun _ => ⟨g, 0, rfl, hb.lt⟩, fun b o e i hi => ?_, fun b o e i hi => ?_⟩
    · cases e
      have h1 := (cellsS_get zs i (by omega)).1
      rw [← ht, List.getElem?_take, if_pos (by omega)] at h1
      rw [Nat.zero_add]; exact hb.cell h1
    · cases e
      have h1 := (cellsS_get zs i (by omega)).2
      rw [← ht, List.getElem?_take, if_pos (by omega)] at h1
      rw [Nat.zero_add]; exact hb.cell h1
theorem OutS.below {w w' : World} {B B' : Nat} {ao : Option Addr} {n : Nat} {zs : List (Int × Int)} (h : OutS w B ao n zs) (hb : Below B' w w') (hB : w.heap.size ≤ B') : OutS w' B ao n zs := by
  obtain ⟨hl, h1 | ⟨g, cs, e, hg, hk, h2⟩⟩ := h
  · exact ⟨hl, .inl h1⟩
  · exact ⟨hl, .inr ⟨g, cs, e, hg, hk.below hb (Nat.lt_of_lt_of_le hk.lt hB), h2⟩⟩
theorem OutS.base {w : World} {B B' : Nat} {ao : Option Addr} {n : Nat} {zs : List (Int × Int)} (h : OutS w B ao n zs) (hB : B' ≤ B) : OutS w B' ao n zs := by
  obtain ⟨hl, h1 | ⟨g, cs, e, hg, h2⟩⟩ := h
  · exact ⟨hl, .inl h1⟩
  · exact ⟨hl, .inr ⟨g, cs, e, by omega, h2⟩⟩
theorem OutS.grown {w w' : World} {row : Option Nat} {B : Nat} {ao : Option Addr} {n : Nat} {zs : List (Int × Int)} (h : OutS w B ao n zs) (hg : w.grownBy w' row) (hne : ∀ a, ao = some a → some a.block ≠ row) : OutS w' B ao n zs := by
  obtain ⟨hl, h1 | ⟨g, cs, e, hg', hk, h2⟩⟩ := h
  · exact ⟨hl, .inl h1⟩
  · exact ⟨hl, .inr ⟨g, cs, e, hg', by unfold Blk; rw [hg.block g hk.lt (hne _ e)]; exact hk, h2⟩⟩

set_option maxHeartbeats 4000000 in
theorem seeI_ok (t : ByteArray) (ao : Option Addr) (n c : Nat) (zs : List Int) (w : World) (hs : t.size ≤ 1048576) (h : RowI w ao n c zs) (hn : n ≤ 1048576) (hm : MaxLenIs w) :
    Calls Tryd.prog 22 #[.string t, .slice ao n c] w fun e w' => ∃ a l, e = .returned (.tuple #[.slice a l l, .bool (seeB (cutsP 44 t) zs)]) ∧ OutS w' w.heap.size a l (seeV (cutsP 44 t) zs) ∧ Below w.heap.size w w' := by
  have HO := Lib.hid (readNetwork_ok t w hs hm)
  have hp0 := cutsP_pos 44 t
  generalize cutsP 44 t = ps at HO hp0
  obtain rfl := h.1
  cases hb : netB ps with
  | false =>
    have HV := Lib.hid (seeB_net (zs := zs) hb)
    rw [hb] at HO
    clear hb h hm
    go_enter Tryd.func22, Tryd.ntmps22
    go_wp2_with fail
    refine HO.out.mono ?_
    rintro e w1 ⟨v, rfl, o1, b1⟩
    clear o1
    go_wp2_with fail
    go_ret2
    exact ⟨none, 0, retv HV.out.symm, by rw [seeV_no HV.out]; exact ⟨rfl, .inl ⟨rfl, rfl⟩⟩, b1⟩
  | true =>
    have HN := Lib.hid hb
    have HE := Lib.hid (netN_yes hb)
    have hlen := bitsN_len ps ps.length
    have h5 := net_le hb hp0
    rw [hb] at HO
    by_cases hl : 32 < zs.length
    · have hl' : (32 : Int) < (zs.length : Int) := by omega
      have HV := Lib.hid (seeB_long (ps := ps) hl)
      clear h hb hm
      go_enter Tryd.func22, Tryd.ntmps22
      go_wp2_with fail
      refine HO.out.mono ?_
      rintro e w1 ⟨v, rfl, o1, b1⟩
      clear o1
      go_wp2_with fail
      go_ret2
      exact ⟨none, 0, retv HV.out.symm, by rw [seeV_no HV.out]; exact ⟨rfl, .inl ⟨rfl, rfl⟩⟩, b1⟩
    · have hl' : ¬ (32 : Int) < (zs.length : Int) := by omega
      have HSt := Lib.hid (fun ao c W => states_ok ao ps.length c W (by omega))
      have HStep := Lib.hid (fun ao c q W (h : RowN W ao ps.length c ps.length (bitsN ps ps.length)) (hq : q < 2 ^ ps.length) => step_ok ao c ps q W h hb h5 hq)
      have HAll := Lib.hid (fun q (hq : q < 2 ^ ps.length) => all_step hb h5 hq)
      clear hb hm
      go_enter Tryd.func22, Tryd.ntmps22
      go_wp2_with fail
      refine HO.out.mono ?_
      rintro e w1 ⟨v, rfl, o1, b1⟩
      rw [HE.out] at o1
      obtain ⟨a, cp, rfl, r1⟩ := o1.row (bitsN_wide ps ps.length)
      rw [hlen] at r1 ⊢
      have R1 := Lib.hid r1
      have B1 := Lib.hid b1
      clear o1 r1 hlen
      go_wp2_with fail
      go_loopw [8, 25] (fun v q wr => ∃ k : Nat, k ≤ zs.length ∧ q = .int .i64 k ∧ OwnS wr w1.heap.size v (seeL ps zs k) ∧ (∀ j, j < k → stB' ps (gI zs j) = true) ∧ Below w1.heap.size w1 wr) (fun _ q _ => zs.length - (intOf q).toNat)
      case atStart => exact ⟨0, Nat.zero_le _, rfl, OwnS.nil _ _, fun j hj => absurd hj (Nat.not_lt_zero _), Below.refl _ _⟩
      case round =>
        obtain ⟨k, hk, rfl, ho, hall, hbw⟩ := hrel
        have HOw := Lib.hid ho
        have HA := Lib.hid hall
        have HB := Lib.hid hbw
        have HBw := Lib.hid (B1.out.trans (hbw.mono B1.out.size))
        clear ho hall
        by_cases hlt : k < zs.length
        · obtain ⟨b, o, rfl, hbo⟩ := h.2.some (by omega)
          have hcx := (h.below HBw.out (Nat.le_refl _)).2.cell b o rfl k hlt
          have hlt' : (k : Int) < (zs.length : Int) := by omega
          have hlen := seeL_len ps zs k
          clear hbw h
          have HSk := Lib.hid (HSt.out a cp wr)
          cases h1 : stB' ps (gI zs k) with
          | false =>
            have HV := Lib.hid (seeB_not hlt h1)
            have hr := stOk_lt ((stB'_in HN.out).symm.trans h1)
            clear h1
            generalize ((2 ^ ps.length : Nat) : Int) = top at hr HSk
            by_cases h0 : gI zs k < 0
            · go_wp2_with fail
              go_ret2
              exact ⟨none, 0, retv HV.out.symm, by rw [seeV_no HV.out]; exact ⟨rfl, .inl ⟨rfl, rfl⟩⟩, HBw.out⟩
            · have hr' : top ≤ gI zs k := by omega
              clear hr
              go_wp2_with fail
              refine HSk.out.mono ?_
              rintro e w2 ⟨rfl, rfl⟩
              go_wp2_with fail
              go_ret2
              exact ⟨none, 0, retv HV.out.symm, by rw [seeV_no HV.out]; exact ⟨rfl, .inl ⟨rfl, rfl⟩⟩, HBw.out⟩
          | true =>
            have H1 := Lib.hid h1
            obtain ⟨_, h2, h3⟩ := stB'_get h1
            obtain ⟨q, hq⟩ := Int.eq_ofNat_of_zero_le h2
            have HN2 := Lib.hid (seeL_next ps zs k)
            have HSA := Lib.hid (saV_yes (show stB' ps q = true by rw [← hq]; exact h1))
            have hq2 : q < 2 ^ ps.length := by rw [hq] at h3; exact_mod_cast h3
            have HStk := Lib.hid (HStep.out a cp q wr (R1.out.below HB.out (Nat.le_refl _)) hq2)
            rw [HAll.out q hq2] at HStk
            rw [hq] at HN2 hcx h3
            rw [← HSA.out] at HStk
            have hneg : ¬ (q : Int) < 0 := by omega
            have hnt : ¬ ((2 ^ ps.length : Nat) : Int) ≤ (q : Int) := by omega
            clear h1 h2 hq h3 hq2
            generalize ((2 ^ ps.length : Nat) : Int) = top at hnt HSk
            generalize saV ps q = r at HStk HN2 HSA
            go_wp2_with fail
            refine HSk.out.mono ?_
            rintro e w2 ⟨rfl, rfl⟩
            go_wp2_with fail
            refine HStk.out.mono ?_
            rintro e w2 ⟨rfl, b2⟩
            have C2 := Lib.hid (HB.out.trans (b2.mono HB.out.size))
            have O2 := Lib.hid (HOw.out.below b2 (Nat.le_refl _))
            clear b2
            go_wp2_with (at_builtin; refine wpList_appS (p := ((q : Int), r)) (OwnS.alloc O2.out _) (Blk.new _ _ _) rfl _ _ rfl rfl rfl (by omega) (by have := C2.out.size; simp; omega) ?_; intro v6 w6 o6 g6)
            go_roundw
            case rel => exact ⟨k + 1, by omega, by go_num, by rw [HN2.out]; exact o6, fun j hj => by
                by_cases e : j = k
                · rw [e]; exact H1.out
                · exact HA.out j (by omega), ((C2.out.alloc C2.out.size _).grown g6 (by have := C2.out.size; simp; omega) (fun j hj => (World.ownsRow.lt O2.out j hj).1))⟩
            case measure => simp [intOf] <;> omega
        · obtain rfl : k = zs.length := by omega
          have HV := Lib.hid (seeB_yes HN.out (by omega) HA.out)
          obtain ⟨so, sc, rfl, hout, q1, q2, q3, q4⟩ := HOw.out.outS
          have hsl := seeL_len ps zs zs.length
          rw [hsl] at hout q1 ⊢
          have HOut := Lib.hid hout
          have HC := Lib.hid (fun W => ClipS_ok so zs.length sc W q1 q2 q3 q4)
          clear hbw h hout q1 q2 q3 q4 hsl
          go_wp2_with fail
          refine (HC.out _).mono ?_
          rintro e w2 ⟨rfl, rfl⟩
          go_wp2_with fail
          go_ret2
          exact ⟨so, _, retv HV.out.symm, by rw [seeV_yes HV.out]; exact HOut.out.base B1.out.size, HBw.out⟩


/-- The marks, pair by pair. -/
def mrkS (m : Int) (n : Nat) : List (Int × Int) := (List.range n).map fun i : Nat => (m + 2 * (i : Int), m + 2 * (i : Int) + 1)
theorem mrkS_len (m : Int) (n : Nat) : (mrkS m n).length = n := by simp [mrkS]
theorem mrkS_get (m : Int) (n i : Nat) (h : i < n) : gS (mrkS m n) i = (m + 2 * (i : Int), m + 2 * (i : Int) + 1) := by simp [gS, mrkS, List.getD, h]
theorem mrkS_next (m : Int) (n : Nat) : mrkS m (n + 1) = mrkS m n ++ [(m + 2 * (n : Int), m + 2 * (n : Int) + 1)] := by simp [mrkS, List.range_succ]

set_option maxHeartbeats 2000000 in
theorem markS_ok (B : Nat) (ao : Option Addr) (n c : Nat) (zs : List (Int × Int)) (m : Int) (w : World) (h : OutS w B ao n zs) (hm : 0 ≤ m ∧ m ≤ 1152921504606846976) (hn : n ≤ 1099511627776) :
    Calls Tryd.prog 25 #[.slice ao n c, .int .i64 m] w fun e w' => e = .returned (.int .i64 (m + 2 * n)) ∧ OutS w' B ao n (mrkS m n) ∧ w.grownBy w' (blkOf ao) ∧ w'.heap.size = w.heap.size := by
  obtain ⟨hl, ⟨rfl, rfl⟩ | ⟨g, cs, rfl, hg, hb, ht, hc⟩⟩ := h
  · go_enter Tryd.func25, Tryd.ntmps25
    go_wp2
    go_loopw [1, 5] (fun s i wr => s = .int .i64 m ∧ i = .int .i64 0 ∧ wr = w) (fun _ _ _ => 0)
    case atStart => exact ⟨rfl, rfl, rfl⟩
    case round =>
      obtain ⟨rfl, rfl, rfl⟩ := hrel
      go_wp2
      go_ret
      exact ⟨reti (by omega), ⟨by simp [mrkS], .inl ⟨rfl, rfl⟩⟩, World.grownBy.refl _ _, rfl⟩
  · go_enter Tryd.func25, Tryd.ntmps25
    go_wp2
    go_loopw [1, 5] (fun s i wr => ∃ (k : Nat) (cs' : List Value), k ≤ n ∧ i = .int .i64 k ∧ s = .int .i64 (m + 2 * k) ∧ Blk wr g 63 cs' ∧ cs'.take (2 * k) = cellsS (mrkS m k) ∧ cs'.length = cs.length ∧ w.grownBy wr (some g) ∧ wr.heap.size = w.heap.size) (fun _ i _ => n - (intOf i).toNat)
    case atStart => exact ⟨0, cs, Nat.zero_le _, rfl, by go_num, hb, rfl, rfl, World.grownBy.refl _ _, rfl⟩
    case round =>
      obtain ⟨k, cs', hk, rfl, rfl, hB, htk, hl', hbw, hsz⟩ := hrel
      have HZ := Lib.hid hsz
      have HTk := Lib.hid htk
      have HL' := Lib.hid hl'
      clear hsz hb htk ht
      by_cases hlt : k < n
      · obtain ⟨u, hu⟩ : ∃ u, cs'[k * 2]? = some u := ⟨_, List.getElem?_eq_getElem (by omega)⟩
        obtain ⟨v, hv⟩ : ∃ v, cs'[k * 2 + 1]? = some v := ⟨_, List.getElem?_eq_getElem (by omega)⟩
        have hx0 := hB.cell hu
        have hf0 := hB.free (k * 2)
        have hB2 := hB.set (k * 2) (.int .i64 (m + 2 * k))
        have hv2 : (cs'.set (k * 2) (.int .i64 (m + 2 * k)))[k * 2 + 1]? = some v := by rw [List.getElem?_set_ne (by omega)]; exact hv
        have hx1 := hB2.cell hv2
        have hf1 := hB2.free (k * 2 + 1)
        have HB3 := Lib.hid (hB2.set (k * 2 + 1) (.int .i64 (m + 2 * k + 1)))
        have hlt' : (k : Int) < (n : Int) := by omega
        have HG := Lib.hid (grownBy_setCell (a := ⟨g, k * 2 + 1, none⟩) (grownBy_setCell (a := ⟨g, k * 2, none⟩) hbw rfl (.int .i64 (m + 2 * k))) rfl (.int .i64 (m + 2 * k + 1)))
        have HT : Hid (((cs'.set (k * 2) (.int .i64 (m + 2 * k))).set (k * 2 + 1) (.int .i64 (m + 2 * k + 1))).take (2 * (k + 1)) = cellsS (mrkS m (k + 1))) := by
          unfold Hid
          rw [mrkS_next, cellsS_app, ← HTk.out]
          apply List.ext_getElem?
          intro j
          have hkl : k * 2 + 1 < cs'.length := by omega
          rcases Nat.lt_trichotomy j (2 * k) with hj | hj | hj
          · rw [List.getElem?_take, if_pos (by omega), List.getElem?_set_ne (by omega), List.getElem?_set_ne (by omega), List.getElem?_append_left (by simp; omega), List.getElem?_take, if_pos hj]
          · subst hj
            rw [List.getElem?_take, if_pos (by omega), List.getElem?_set_ne (by omega), Nat.mul_comm 2 k, List.getElem?_set_self (by omega), List.getElem?_append_right (by simp; omega)]
            simp [cellsS]
            rw [show k * 2 - min (k * 2) cs'.length = 0 by omega]
            simp
          · by_cases hj1 : j = 2 * k + 1
            · subst hj1
              rw [List.getElem?_take, if_pos (by omega), Nat.mul_comm 2 k, List.getElem?_set_self (by simp; omega), List.getElem?_append_right (by simp; omega)]
              simp [cellsS]
              rw [show k * 2 + 1 - min (k * 2) cs'.length = 1 by omega]
              simp
            · rw [List.getElem?_take, if_neg (by omega), List.getElem?_append_right (by simp; omega)]
              symm
              apply List.getElem?_eq_none
              simp [cellsS]
              omega
        clear hB hbw hB2 hu hv hv2
        go_wp2
        go_roundw
        case rel => exact ⟨k + 1, _, by omega, by go_num, by go_num, HB3.out, HT.out, by simpa using HL'.out, HG.out, by simpa [World.setCell] using HZ.out⟩
        case measure => simp [intOf]; omega
      · obtain rfl : k = n := by omega
        go_wp2
        go_ret
        exact ⟨rfl, ⟨mrkS_len m k, .inr ⟨g, cs', rfl, hg, hB, HTk.out, by have := HL'.out; omega⟩⟩, hbw, HZ.out⟩

set_option maxHeartbeats 1000000 in
theorem heldS_ok' (ao : Option Addr) (n c : Nat) (m : Int) (w : World) (h : RowS w ao n c (mrkS m n)) (hm : 0 ≤ m ∧ m ≤ 1152921504606846976) (hn : n ≤ 1099511627776) :
    Calls Tryd.prog 26 #[.slice ao n c, .int .i64 m] w fun e w' => e = .returned (.int .i64 (m + 2 * n)) ∧ w = w' := by
  go_enter Tryd.func26, Tryd.ntmps26
  go_wp2
  go_loop [1, 5] (fun s i => ∃ k : Nat, k ≤ n ∧ i = .int .i64 k ∧ s = .int .i64 (m + 2 * k)) (fun _ i => n - (intOf i).toNat)
  case atStart => exact ⟨0, Nat.zero_le _, rfl, by go_num⟩
  case round =>
    obtain ⟨k, hk, rfl, rfl⟩ := hrel
    by_cases hlt : k < n
    · obtain ⟨b, o, rfl, hbo⟩ := h.some (by omega)
      have hc1 := h.before b o rfl k hlt
      have hc2 := h.after b o rfl k hlt
      rw [mrkS_get m n k hlt] at hc1 hc2
      simp only at hc1 hc2
      have hlt' : (k : Int) < (n : Int) := by omega
      clear h
      go_wp2
      go_round
      case rel => exact ⟨k + 1, by omega, by go_num, by go_num⟩
      case measure => simp [intOf]; omega
    · obtain rfl : k = n := by omega
      go_wp2
      go_ret
      exact ⟨rfl, rfl⟩

end Go.Proofs.YthgjmciiaikgoaaDoor
