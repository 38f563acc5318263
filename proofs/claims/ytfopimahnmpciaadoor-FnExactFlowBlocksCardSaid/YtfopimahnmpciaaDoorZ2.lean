/- Walks: circuits by the reference; IsFlowing by the reference. -/
import Derived.Test.YtfopimahnmpciaaDoorZ1
namespace Go.Proofs.YtfopimahnmpciaaDoor
open Go.RowKit

theorem len_pos {ts ys : List ByteArray} {a b : Bool} (h : (0 < ts.length) ↔ a = true) (k : (0 < ys.length) ↔ b = true) : (0 < (ts ++ ys).length) ↔ (a || b) = true := by
  rw [List.length_append, Bool.or_eq_true, ← h, ← k]; omega
theorem len_one {ts : List ByteArray} {t : ByteArray} : (0 < (ts ++ [t]).length) ↔ true = true := by simp
theorem sg_cut (a : Nat) (h : 1 ≤ a ∧ a ≤ 3) : ∃ p : ByteArray, (⟨#[48, 43, 45, 42]⟩ : ByteArray).extract a (a + 1) = p ∧ p.size = 1 := by
  rcases (show a = 1 ∨ a = 2 ∨ a = 3 by omega) with rfl | rfl | rfl
  · exact ⟨_, rfl, rfl⟩
  · exact ⟨_, rfl, rfl⟩
  · exact ⟨_, rfl, rfl⟩

set_option maxRecDepth 100000 in
set_option maxHeartbeats 8000000 in
theorem l7Walk_ok (ps : List ByteArray) (hn : netB ps = true) (h5 : ps.length ≤ 5) : ∀ (f : Nat) (way : List Nat) (first last sign : Nat) (ao : Option Addr) (c : Nat) (w : World) (_ : RowT w ao ps.length c ps) (_ : ∀ x ∈ way, x < ps.length)
    (_ : way[0]? = some first) (_ : way[way.length - 1]? = some last) (_ : freeN way ps.length < f) (_ : way.length + f ≤ 7) (_ : 1 ≤ sign ∧ sign ≤ 3),
    Calls Tryd.prog 30 #[.slice ao ps.length c, .string (wayT way), .int .i64 sign] w (WalkP (walkB (actB ps) ps.length first f last (setW way)) (6 ^ f) w)
  | 0, _, _, _, _, _, _, _, _, _, _, _, hf, _, _ => absurd hf (Nat.not_lt_zero _)
  | f + 1, way, first, last, sign, ao, c, w, h, hw, hfi, hla, hf, hlen, hsg => by
    have hL0 : 0 < way.length := (List.getElem?_eq_some_iff.1 hfi).1
    have hfl : first < ps.length := hw _ (List.mem_of_getElem? hfi)
    have hll : last < ps.length := hw _ (List.mem_of_getElem? hla)
    obtain ⟨L, hL⟩ : ∃ L, way.length = L + 1 := ⟨way.length - 1, by omega⟩
    have hz : (wayT way).size = L + 1 := by rw [wayT_size, hL]
    have hs0 : 0 < (wayT way).size := by omega
    have hsL : L < (wayT way).size := by omega
    have e0 : (wayT way)[0].toNat = 48 + first := by
      rw [wayT_get hw h5 0 hL0 hs0]
      have := List.getElem?_eq_getElem hL0
      rw [hfi] at this
      rw [← Option.some.inj this]
    have eL : (wayT way)[L].toNat = 48 + last := by
      rw [wayT_get hw h5 L (by omega) hsL]
      have := List.getElem?_eq_getElem (l := way) (i := L) (by omega)
      rw [show way.length - 1 = L by omega] at hla
      rw [hla] at this
      rw [← Option.some.inj this]
    have h480 : (48 : Int) + (first : Int) - 48 = (first : Int) := by omega
    have h48l : (48 : Int) + (last : Int) - 48 = (last : Int) := by omega
    have HFind := Lib.hid (fun k => wayT_find hw h5 k)
    have HApp := Lib.hid (fun k => wayT_snoc way k)
    have HEnd := Lib.hid (wkTo_end (A := actB ps) (f := f) (last := last) (set := setW way) hfl)
    have HFirst := Lib.hid (wkTo_first (actB ps) ps.length first f last (setW way))
    have HStep := Lib.hid (fun k (hk : first ≤ k) => wkTo_step (A := actB ps) (n := ps.length) (f := f) (last := last) (set := setW way) hk)
    have HSf := Lib.hid (show wkS (actB ps) ps.length first f last (setW way) first = actB ps last first by rw [wkS, if_pos rfl])
    have HSn := Lib.hid (fun k (hk : first < k) (ha : actB ps last k = false) => show wkS (actB ps) ps.length first f last (setW way) k = false by rw [wkS, if_neg (by omega), wkQ, ha]; simp)
    have HSm := Lib.hid (fun k (hk : first < k) (hm : k ∈ way) => show wkS (actB ps) ps.length first f last (setW way) k = false by rw [wkS, if_neg (by omega), wkQ, setW_bit, decide_eq_true hm]; simp)
    have HSr := Lib.hid (fun k (hk : first < k) (ha : actB ps last k = true) (hm : k ∉ way) => show wkS (actB ps) ps.length first f last (setW way) k = walkB (actB ps) ps.length first f k (setW way ||| 2 ^ k) by rw [wkS, if_neg (by omega), wkQ, setW_bit, decide_eq_false hm, ha, decide_eq_true hk]; rfl)
    have HSign := Lib.hid (fun k W (hk : k < ps.length) (hW : Below w.heap.size w W) => l7Sign_ok ao ps.length c ps last k W (h.below hW (Nat.le_refl _)) hn h5 hll hk)
    have HAct := Lib.hid (fun k => sgV_act (ps := ps) (i := last) (k := k))
    have HRec := Lib.hid (fun k a W (hk : k < ps.length) (hnk : k ∉ way) (ha : 1 ≤ a ∧ a ≤ 3) (hW : Below w.heap.size w W) => by
      have := l7Walk_ok ps hn h5 f (way ++ [k]) first k a ao c W (h.below hW (Nat.le_refl _)) (fun x hx => by
        rcases List.mem_append.1 hx with hx | hx
        · exact hw x hx
        · rw [List.mem_singleton.1 hx]; exact hk) (by rw [List.getElem?_append_left hL0]; exact hfi) (by simp) (by have := freeN_snoc hk hnk; omega) (by simp; omega) ha
      rw [setW_snoc] at this
      exact this)
    have HPb := Lib.hid (pow_bound f)
    have h6 : (6 : Nat) ^ f ≤ 7776 := Nat.le_trans (Nat.pow_le_pow_right (by decide) (show f ≤ 5 by omega)) (by decide)
    have h1f : 1 ≤ 6 ^ f := Nat.pow_pos (by decide)
    generalize (6 : Nat) ^ f = M at HPb h6 h1f HRec
    generalize (6 : Nat) ^ (f + 1) = M6 at HPb ⊢
    have O0 := Lib.hid (OwnT.lit w w.heap.size [] (Nat.le_refl _) (by decide))
    have B0 : Hid (Below w.heap.size w (w.alloc (.cells #[] 9))) := (Below.refl _ _).alloc (Nat.le_refl _) _
    clear h hn hw hfi hla hf
    generalize wayT way = tx at hz hs0 hsL e0 eL HFind HApp ⊢
    generalize walkB (actB ps) ps.length first (f + 1) last (setW way) = bE at HEnd ⊢
    go_enter Tryd.func30, Tryd.ntmps30
    go_wp2_with fail
    go_loopw [7, 10] (fun v q wr => ∃ (k : Nat) (ts : List ByteArray), first ≤ k ∧ k ≤ ps.length ∧ q = .int .i64 k ∧ OwnT wr w.heap.size v ts ∧ ((0 < ts.length) ↔ wkTo (actB ps) ps.length first f last (setW way) k = true) ∧ ts.length ≤ (if first < k then 1 else 0) + k * M ∧ Below w.heap.size w wr) (fun _ q _ => ps.length - (intOf q).toNat)
    case atStart => exact ⟨first, [], Nat.le_refl _, Nat.le_of_lt hfl, rfl, O0.out, by rw [HFirst.out]; simp, by simp, B0.out⟩
    case round =>
      obtain ⟨k, ts, hk1, hk2, rfl, ho, hiff, hbd, hb⟩ := hrel
      have HO := Lib.hid ho
      have HB := Lib.hid hb
      have HIff := Lib.hid hiff
      have hk6 : k * M ≤ 5 * M := Nat.mul_le_mul_right _ (by omega)
      have htl : ts.length ≤ 46656 := by split at hbd <;> omega
      have HK6 := Lib.hid hk6
      have HBd := Lib.hid hbd
      clear ho hb hiff hbd hk6
      by_cases hkn : k < ps.length
      · have hkw : (k : Int) < (ps.length : Int) := by omega
        have HSk := Lib.hid (HSign.out k wr hkn HB.out)
        obtain ⟨hact1, hact0⟩ := HAct.out k
        have hsv := sgV_lt (upB (bitN ps k) last ps.length) (dnB (bitN ps k) last ps.length)
        generalize sgV (upB (bitN ps k) last ps.length) (dnB (bitN ps k) last ps.length) = sv at HSk hact1 hact0 hsv
        have HM := Lib.hid (Nat.succ_mul k M)
        cases ha : actB ps last k with
        | false =>
          have hsv0 := hact0 ha
          subst hsv0
          have HS0 : Hid (wkTo (actB ps) ps.length first f last (setW way) (k + 1) = wkTo (actB ps) ps.length first f last (setW way) k) := by
            have h2 := HStep.out k hk1
            by_cases e : k = first
            · have h3 : wkS (actB ps) ps.length first f last (setW way) k = false := by rw [e, HSf.out, ← e, ha]
              unfold Hid; rw [h2, h3, Bool.or_false]
            · unfold Hid; rw [h2, HSn.out k (by omega) ha, Bool.or_false]
          clear hact1 hact0 ha
          go_wp2_with fail
          refine HSk.out.mono ?_
          rintro e w2 ⟨rfl, rfl⟩
          go_wp2_with fail
          go_roundw
          case rel => exact ⟨k + 1, ts, by omega, by omega, by go_num, HO.out, by rw [HS0.out]; exact HIff.out, by rw [if_pos (by omega)]; have := HBd.out; split at this <;> (rw [HM.out]; omega), HB.out⟩
          case measure => simp [intOf]; omega
        | true =>
          have hsv1 := hact1 ha
          have HTm := Lib.hid (fun W => l7Times_ok sign sv W)
          have htr := tmsN_range sign sv
          generalize tmsN sign sv = al at HTm htr
          by_cases hkf : k = first
          · subst hkf
            have HS1 : Hid (wkTo (actB ps) ps.length k f last (setW way) (k + 1) = true) := by
              unfold Hid; rw [HStep.out k (Nat.le_refl _), HSf.out, ha, Bool.or_true]
            have hb0 : ((sv : Int) == 0) = false := by rw [beq_eq_false_iff_ne]; omega
            clear hact1 hact0 ha hsv
            rcases (show al = 1 ∨ al = 2 ∨ al = 3 by omega) with rfl | rfl | rfl
            all_goals
              go_wp2_with fail
              refine HSk.out.mono ?_
              rintro e w2 ⟨rfl, rfl⟩
              go_wp2_with fail
              refine (HTm.out _).mono ?_
              rintro e w2 ⟨rfl, rfl⟩
              go_wp2_with (at_builtin; refine wpList_appT (OwnT.alloc HO.out _) ((Blk.new wr 9 [_]).cell (i := 0) rfl) rfl _ _ rfl rfl rfl (by omega) (by have := HB.out.size; simp; omega) ?_; intro v6 w6 o6 g6)
              go_roundw
              case rel => exact ⟨k + 1, _, by omega, by omega, by go_num, o6, by rw [HS1.out]; simp, by rw [if_pos (by omega), List.length_append, List.length_singleton]; have := HBd.out; rw [if_neg (by omega)] at this; rw [HM.out]; omega, (HB.out.alloc HB.out.size _).grown g6 (by have := HB.out.size; simp; omega) (fun j hj => (World.ownsRow.lt HO.out j hj).1)⟩
              case measure => simp [intOf] <;> omega
          · have hlt : first < k := by omega
            have hb0 : ((sv : Int) == 0) = false := by rw [beq_eq_false_iff_ne]; omega
            have hbf : ((k : Int) == (first : Int)) = false := by rw [beq_eq_false_iff_ne]; omega
            have hw8 : IntKind.u8.wrap (48 + (k : Int)) = 48 + (k : Int) := by rw [IntKind.wrap_u8]; omega
            have HFk := Lib.hid (fun W => l14Find_ok tx (48 + (k : Int)) W (by unfold maxLen; omega))
            by_cases hm : k ∈ way
            · have HS0 : Hid (wkTo (actB ps) ps.length first f last (setW way) (k + 1) = wkTo (actB ps) ps.length first f last (setW way) k) := by
                unfold Hid; rw [HStep.out k hk1, HSm.out k hlt hm, Bool.or_false]
              have hfn : ¬ findI tx.data.toList (48 + (k : Int)) 0 < 0 := fun h => ((HFind.out k).1 h) hm
              clear hact1 hact0 ha hsv hm
              generalize findI tx.data.toList (48 + (k : Int)) 0 = fi at HFk hfn
              go_wp2_with fail
              refine HSk.out.mono ?_
              rintro e w2 ⟨rfl, rfl⟩
              go_wp2_with fail
              refine (HTm.out _).mono ?_
              rintro e w2 ⟨rfl, rfl⟩
              go_wp2_with fail
              refine (HFk.out _).mono ?_
              rintro e w2 ⟨rfl, rfl⟩
              go_wp2_with fail
              go_roundw
              case rel => exact ⟨k + 1, ts, by omega, by omega, by go_num, HO.out, by rw [HS0.out]; exact HIff.out, by rw [if_pos (by omega)]; have := HBd.out; rw [if_pos (by omega)] at this; rw [HM.out]; omega, HB.out⟩
              case measure => simp [intOf]; omega
            · have HS2 : Hid (wkTo (actB ps) ps.length first f last (setW way) (k + 1) = (wkTo (actB ps) ps.length first f last (setW way) k || walkB (actB ps) ps.length first f k (setW way ||| 2 ^ k))) := by
                unfold Hid; rw [HStep.out k hk1, HSr.out k hlt ha hm]
              have hfn : findI tx.data.toList (48 + (k : Int)) 0 < 0 := (HFind.out k).2 hm
              have HApk := Lib.hid (HApp.out k)
              have HDec := Lib.hid (fun W => l14Dec_digit k (by omega) W)
              have HRk := Lib.hid (fun W (hW : Below w.heap.size w W) => HRec.out k al W hkn hm htr hW)
              have hdz : (digS [(k : Int)]).size = 1 := digS_size _
              rw [← HApk.out] at HRk
              clear hact1 hact0 ha hsv hm
              generalize walkB (actB ps) ps.length first f k (setW way ||| 2 ^ k) = bR at HS2 HRk
              generalize digS [(k : Int)] = dk at HDec HRk HApk hdz
              generalize findI tx.data.toList (48 + (k : Int)) 0 = fi at HFk hfn
              go_wp2_with fail
              refine HSk.out.mono ?_
              rintro e w2 ⟨rfl, rfl⟩
              go_wp2_with fail
              refine (HTm.out _).mono ?_
              rintro e w2 ⟨rfl, rfl⟩
              go_wp2_with fail
              refine (HFk.out _).mono ?_
              rintro e w2 ⟨rfl, rfl⟩
              go_wp2_with fail
              refine (HDec.out _).mono ?_
              rintro e w3 ⟨rfl, b3⟩
              have C3 := Lib.hid (HB.out.trans (b3.mono HB.out.size))
              have O3 := Lib.hid (HO.out.below b3 (Nat.le_refl _))
              clear b3
              go_wp2_with fail
              refine (HRk.out _ C3.out).mono ?_
              rintro e w4 ⟨v4, ys, rfl, o4, i4, l4, b4⟩
              obtain ⟨ya, yc, rfl, y4⟩ := o4.row
              have C4 := Lib.hid (C3.out.trans (b4.mono C3.out.size))
              have O4 := Lib.hid (O3.out.below b4 (Nat.le_refl _))
              have I4 := Lib.hid i4
              have Y4 := Lib.hid y4
              clear b4 o4 i4 y4
              go_wp2_with (at_builtin; refine wpList_appTs O4.out Y4.out rfl _ _ rfl rfl rfl (by omega) C4.out.size ?_; intro v6 w6 o6 g6)
              go_roundw
              case rel => exact ⟨k + 1, _, by omega, by omega, by go_num, o6, by rw [HS2.out]; exact len_pos HIff.out I4.out, by rw [if_pos (by omega), List.length_append]; have := HBd.out; rw [if_pos (by omega)] at this; rw [HM.out]; omega, C4.out.grown g6 C4.out.size (fun j hj => (World.ownsRow.lt O4.out j hj).1)⟩
              case measure => simp [intOf] <;> omega
      · obtain rfl : k = ps.length := by omega
        have hend := HIff.out
        rw [HEnd.out] at hend
        have HE := Lib.hid hend
        clear hend
        go_wp2_with fail
        go_ret
        exact ⟨_, ts, rfl, HO.out, HE.out, by have hx := HBd.out; have := HPb.out; have := HK6.out; rw [if_pos hfl] at hx; omega, HB.out⟩

/-- Whether a network has a circuit. -/
def cirB (ps : List ByteArray) : Bool := circB (actB ps) ps.length
theorem freeN_one {i n : Nat} (h : i < n) : freeN [i] n < n := by
  have h1 := freeN_snoc (way := []) (n := n) (k := i) h (by simp)
  have h2 := freeN_le [] n
  simp only [List.nil_append] at h1
  omega

set_option maxHeartbeats 2000000 in
theorem l7Circuits_ok (ps : List ByteArray) (hn : netB ps = true) (h5 : ps.length ≤ 5) (ao : Option Addr) (c : Nat) (w : World) (h : RowT w ao ps.length c ps) :
    Calls Tryd.prog 22 #[.slice ao ps.length c] w (WalkP (cirB ps) 300000 w) := by
  have HW := Lib.hid (fun i W (hi : i < ps.length) (hW : Below w.heap.size w W) => by
    have := l7Walk_ok ps hn h5 6 [i] i i 1 ao c W (h.below hW (Nat.le_refl _)) (fun x hx => by rw [List.mem_singleton.1 hx]; exact hi) rfl rfl (by have := freeN_one hi; omega) (by simp) (by omega)
    rw [wayT_one, show setW [i] = 2 ^ i by simp [setW]] at this
    exact this)
  have HE : Hid (cirB ps = anyTo (fun i => walkB (actB ps) ps.length i 6 i (2 ^ i)) ps.length) := rfl
  have HDec := Lib.hid (fun k W (hk : k < ps.length) => l14Dec_digit k (by omega) W)
  have O0 := Lib.hid (OwnT.lit w w.heap.size [] (Nat.le_refl _) (by decide))
  have B0 : Hid (Below w.heap.size w (w.alloc (.cells #[] 9))) := (Below.refl _ _).alloc (Nat.le_refl _) _
  clear hn h
  generalize cirB ps = bE at HE ⊢
  go_enter Tryd.func22, Tryd.ntmps22
  go_wp2_with fail
  go_loopw [3, 4] (fun v q wr => ∃ (k : Nat) (ts : List ByteArray), k ≤ ps.length ∧ q = .int .i64 k ∧ OwnT wr w.heap.size v ts ∧ ((0 < ts.length) ↔ anyTo (fun i => walkB (actB ps) ps.length i 6 i (2 ^ i)) k = true) ∧ ts.length ≤ k * 46656 ∧ Below w.heap.size w wr) (fun _ q _ => ps.length - (intOf q).toNat)
  case atStart => exact ⟨0, [], Nat.zero_le _, rfl, O0.out, by simp [anyTo], by simp, B0.out⟩
  case round =>
    obtain ⟨k, ts, hk, rfl, ho, hiff, hbd, hb⟩ := hrel
    have HO := Lib.hid ho
    have HB := Lib.hid hb
    have HIff := Lib.hid hiff
    clear ho hb hiff
    by_cases hkn : k < ps.length
    · have hkw : (k : Int) < (ps.length : Int) := by omega
      have HN := Lib.hid (anyTo_next (fun i => walkB (actB ps) ps.length i 6 i (2 ^ i)) k)
      have HDk := Lib.hid (fun W => HDec.out k W hkn)
      have HWk := Lib.hid (fun W hW => HW.out k W hkn hW)
      generalize walkB (actB ps) ps.length k 6 k (2 ^ k) = bR at HN HWk
      generalize digS [(k : Int)] = dk at HDk HWk
      go_wp2_with fail
      refine (HDk.out _).mono ?_
      rintro e w3 ⟨rfl, b3⟩
      have C3 := Lib.hid (HB.out.trans (b3.mono HB.out.size))
      have O3 := Lib.hid (HO.out.below b3 (Nat.le_refl _))
      clear b3
      go_wp2_with fail
      refine (HWk.out _ C3.out).mono ?_
      rintro e w4 ⟨v4, ys, rfl, o4, i4, l4, b4⟩
      obtain ⟨ya, yc, rfl, y4⟩ := o4.row
      have C4 := Lib.hid (C3.out.trans (b4.mono C3.out.size))
      have O4 := Lib.hid (O3.out.below b4 (Nat.le_refl _))
      have I4 := Lib.hid i4
      have Y4 := Lib.hid y4
      clear b4 o4 i4 y4
      go_wp2_with (at_builtin; refine wpList_appTs O4.out Y4.out rfl _ _ rfl rfl rfl (by omega) C4.out.size ?_; intro v6 w6 o6 g6)
      go_roundw
      case rel => exact ⟨k + 1, _, by omega, by go_num, o6, by rw [HN.out]; exact len_pos HIff.out I4.out, by rw [List.length_append]; omega, C4.out.grown g6 C4.out.size (fun j hj => (World.ownsRow.lt O4.out j hj).1)⟩
      case measure => simp [intOf] <;> omega
    · obtain rfl : k = ps.length := by omega
      have hend := HIff.out
      rw [← HE.out] at hend
      have HE2 := Lib.hid hend
      clear hend
      go_wp2_with fail
      go_ret
      exact ⟨_, ts, rfl, HO.out, HE2.out, by omega, HB.out⟩

/-- Whether a text is a network without a circuit. -/
def flwB (ps : List ByteArray) : Bool := netB ps && !cirB ps
set_option maxHeartbeats 1000000 in
theorem flowS_ok (t : ByteArray) (w : World) (hs : t.size ≤ 1048576) :
    Calls Tryd.prog 10 #[.string t] w fun e w' => e = .returned (.bool (flwB (cutsP 44 t))) ∧ Below w.heap.size w w' := by
  have HO := Lib.hid (l3Open_ok t w hs)
  have hp0 := cutsP_pos 44 t
  generalize cutsP 44 t = ps at HO hp0 ⊢
  cases hb : netB ps with
  | false =>
    have HV : Hid (flwB ps = false) := by unfold Hid; rw [flwB, hb]; rfl
    rw [hb] at HO
    clear hb
    go_enter Tryd.func10, Tryd.ntmps10
    go_wp2_with fail
    refine HO.out.mono ?_
    rintro e w1 ⟨v, rfl, o1, b1⟩
    clear o1
    go_wp2_with fail
    go_ret
    exact ⟨retb HV.out.symm, b1⟩
  | true =>
    have HV : Hid (flwB ps = !cirB ps) := by unfold Hid; rw [flwB, hb]; rfl
    have h5 := net_le hb hp0
    have HN := Lib.hid (netL_yes hb)
    have HC := Lib.hid (fun ao c W h => l7Circuits_ok ps hb h5 ao c W h)
    rw [hb] at HO
    clear hb
    go_enter Tryd.func10, Tryd.ntmps10
    go_wp2_with fail
    refine HO.out.mono ?_
    rintro e w1 ⟨v, rfl, o1, b1⟩
    rw [HN.out] at o1
    obtain ⟨a, c, rfl, r1⟩ := o1.row
    have HC1 := Lib.hid (HC.out _ _ _ r1)
    have B1 := Lib.hid b1
    clear o1 r1 b1 HC
    go_wp2_with fail
    refine HC1.out.mono ?_
    rintro e w2 ⟨v2, ts, rfl, o2, i2, l2, b2⟩
    obtain ⟨ya, yc, rfl, y2⟩ := o2.row
    have B2 := Lib.hid (B1.out.trans (b2.mono B1.out.size))
    have HV2 : Hid (((ts.length : Int) == 0) = flwB ps) := by
      unfold Hid
      rw [HV.out]
      cases hc : cirB ps with
      | true =>
        have := i2.2 hc
        rw [beq_eq_false_iff_ne.2 (by omega)]; rfl
      | false =>
        have : ¬ 0 < ts.length := fun h => by have := i2.1 h; rw [hc] at this; cases this
        rw [beq_iff_eq.2 (by omega)]; rfl
    clear o2 y2 i2 b2
    go_wp2_with fail
    go_ret
    exact ⟨retb HV2.out, B2.out⟩

end Go.Proofs.YtfopimahnmpciaaDoor
