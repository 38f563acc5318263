/- Walks: CanJoin of the reference; the law FnExactCanJoin. -/
import Derived.Test.YthgjmciiaikgoaaDoorP4
namespace Go.Proofs.YthgjmciiaikgoaaDoor
open Go.RowKit

/-- One pair of switches. -/
def pairB (ps : List ByteArray) (b c i j : Nat) : Bool := b.testBit i && (c.testBit j && actB ps i j)
theorem stop_row {ps : List ByteArray} {b c i : Nat} (h : ∀ j, j < ps.length → pairB ps b c i j = false) : stopB ps b c i = false := by
  rw [stopB, Bool.and_eq_false_iff]
  cases hb : b.testBit i with
  | false => exact .inl rfl
  | true =>
    refine .inr ?_
    rw [hitB, Bool.eq_false_iff, Ne, anyTo_iff]
    rintro ⟨j, h1, h2⟩
    have := h j h1
    rw [pairB, hb, h2] at this; cases this
theorem stop_hit {ps : List ByteArray} {b c i j : Nat} (hj : j < ps.length) (h : pairB ps b c i j = true) : stopB ps b c i = true := by
  rw [pairB, Bool.and_eq_true] at h
  rw [stopB, h.1, hitB, (anyTo_iff _ _).2 ⟨j, hj, h.2⟩]; rfl

set_option maxHeartbeats 4000000 in
theorem cjS_ok (t : ByteArray) (bo : Option Addr) (l d : Nat) (zs : List Int) (s : Int) (w : World) (hs : t.size ≤ 1048576) (hz : RowI w bo l d zs) (hl : l ≤ 1048576) :
    Calls Tryd.prog 19 #[.string t, .slice bo l d, .int .i64 s] w fun e w' => e = .returned (.bool (cjV (cutsP 44 t) zs s)) ∧ Below w.heap.size w w' := by
  have HO := Lib.hid (l11Blocks_ok t bo l d zs w hs hz)
  have hp0 := cutsP_pos 44 t
  generalize cutsP 44 t = ps at HO hp0
  obtain rfl := hz.1
  cases hb : nbB ps zs with
  | false =>
    have HV := Lib.hid (cj_no (k := s) hb)
    rw [hb] at HO
    clear hb hz
    go_enter Tryd.func19, Tryd.ntmps19
    go_wp2_with fail
    refine HO.out.mono ?_
    rintro e w1 ⟨v, rfl, o1, b1⟩
    clear o1
    go_wp2_with fail
    go_ret
    exact ⟨retb HV.out.symm, b1⟩
  | true =>
    rw [hb] at HO
    have hn := nb_net hb
    have h5 := net_le hn hp0
    have HN := Lib.hid (netL_yes hn)
    cases hq : inB s 0 ((zs.length : Int) - 2) with
    | false =>
      have HV := Lib.hid (cj_out (ps := ps) hq)
      clear hb hz hn
      go_enter Tryd.func19, Tryd.ntmps19
      go_wp2_with fail
      refine HO.out.mono ?_
      rintro e w1 ⟨v, rfl, o1, b1⟩
      clear o1
      go_wp2_with (go_at_call 47; refine (l1In_ok _ _ _ _).mono ?_; rintro e w' ⟨rfl, rfl⟩)
      go_ret
      exact ⟨retb HV.out.symm, b1⟩
    | true =>
      have hr := inB_iff.1 hq
      obtain ⟨k, rfl⟩ := Int.eq_ofNat_of_zero_le hr.1
      have hbl := nb_blocks hb
      have hk1 : k + 1 < zs.length := by omega
      have hp : (2 ^ ps.length : Nat) ≤ 32 := Nat.pow_le_pow_right (n := 2) (by decide) h5
      have hc : ((2 ^ ps.length : Nat) : Int) = 2 ^ ps.length := by simp
      obtain ⟨b, hbv⟩ := Int.eq_ofNat_of_zero_le (show 0 ≤ gI zs k by have := hbl k (by omega); omega)
      obtain ⟨c', hcv⟩ := Int.eq_ofNat_of_zero_le (show 0 ≤ gI zs (k + 1) by have := hbl (k + 1) hk1; omega)
      have hb32 : b < 32 := by have := hbl k (by omega); omega
      have hc32 : c' < 32 := by have := hbl (k + 1) hk1; omega
      have HV := Lib.hid (cj_in hb hq)
      rw [hbv, hcv, Int.toNat_natCast, Int.toNat_natCast] at HV
      obtain ⟨q, o, rfl, hqo⟩ := hz.2.some (by omega)
      have hx1 := hz.2.cell q o rfl k (by omega)
      have hx2 := hz.2.cell q o rfl (k + 1) hk1
      rw [hbv] at hx1
      rw [hcv] at hx2
      have hk0 : (0 : Int) ≤ (k : Int) := by omega
      have hkl : (k : Int) < (zs.length : Int) := by omega
      have hk1' : (k : Int) + 1 < (zs.length : Int) := by omega
      have HS := Lib.hid (fun ao c i j W (h : RowT W ao ps.length c ps) (hi : i < ps.length) (hj : j < ps.length) => l7Sign_ok ao ps.length c ps i j W h hn h5 hi hj)
      have HX1 := Lib.hid hx1
      have HX2 := Lib.hid hx2
      clear hb hz hn hbl hbv hcv hx1 hx2 hc hr
      go_enter Tryd.func19, Tryd.ntmps19
      go_wp2_with fail
      refine HO.out.mono ?_
      rintro e w1 ⟨v, rfl, o1, b1⟩
      rw [HN.out] at o1
      obtain ⟨a, c, rfl, r1⟩ := o1.row
      have HR1 := Lib.hid r1
      have hcx1 : w1.cell? ⟨q, o + k, none⟩ = some (.int .i64 b) := (b1.cell (p := ⟨q, o + k, none⟩) (by exact hqo)).trans HX1.out
      have hcx2 : w1.cell? ⟨q, o + (k + 1), none⟩ = some (.int .i64 c') := (b1.cell (p := ⟨q, o + (k + 1), none⟩) (by exact hqo)).trans HX2.out
      have HB1 := Lib.hid b1
      have HSw := Lib.hid (fun i j hi hj => HS.out a c i j w1 HR1.out hi hj)
      clear o1 r1 HS HX1 HX2
      go_wp2_with (go_at_call 47; refine (l1In_ok _ _ _ _).mono ?_; rintro e w' ⟨rfl, rfl⟩)
      clear hq
      go_loop [9] (fun i => ∃ j : Nat, j ≤ ps.length ∧ i = .int .i64 j ∧ (∀ x, x < j → stopB ps b c' x = false)) (fun i => ps.length - (intOf i).toNat)
      case atStart => exact ⟨0, Nat.zero_le _, rfl, fun x h => absurd h (Nat.not_lt_zero _)⟩
      case round =>
        obtain ⟨j, hj, rfl, hno⟩ := hrel
        have HNo := Lib.hid hno
        clear hno
        by_cases hlt : j < ps.length
        · have hlt' : (j : Int) < (ps.length : Int) := by omega
          go_wp2_with fail
          go_loop [10] (fun i => ∃ m : Nat, m ≤ ps.length ∧ i = .int .i64 m ∧ (∀ x, x < m → pairB ps b c' j x = false)) (fun i => ps.length - (intOf i).toNat)
          case atStart => exact ⟨0, Nat.zero_le _, rfl, fun x h => absurd h (Nat.not_lt_zero _)⟩
          case round =>
            obtain ⟨m, hm, rfl, hno⟩ := hrel
            have HMo := Lib.hid hno
            clear hno
            by_cases hmt : m < ps.length
            · have hmt' : (m : Int) < (ps.length : Int) := by omega
              have hkw : IntKind.i64.wrap ((k : Int) + 1) = (k : Int) + 1 := wraps_i64 _ (by omega) (by omega)
              have hbl1 := bN_lt b j
              have hbl2 := bN_lt c' m
              have hBj := Lib.hid (fun W => l1Bit_ok (b : Int) (j : Int) W (by omega) (by omega) (by omega) (by omega))
              have hCm := Lib.hid (fun W => l1Bit_ok (c' : Int) (m : Int) W (by omega) (by omega) (by omega) (by omega))
              rw [Int.toNat_natCast, Int.toNat_natCast] at hBj hCm
              have HSm := Lib.hid (HSw.out j m hlt hmt)
              have hpos := sgV_pos (upB (bitN ps m) j ps.length) (dnB (bitN ps m) j ps.length)
              have hab : actB ps j m = (upB (bitN ps m) j ps.length || dnB (bitN ps m) j ps.length) := rfl
              rw [← hab] at hpos
              generalize sgV (upB (bitN ps m) j ps.length) (dnB (bitN ps m) j ps.length) = sg at HSm hpos
              clear hab
              cases hq : b.testBit j with
              | false =>
                have h1 := bit_case.2 hq
                have HF := Lib.hid (show pairB ps b c' j m = false by rw [pairB, hq]; rfl)
                clear hq hpos
                generalize bN b j = u at hbl1 hBj h1
                go_wp2_with fail
                refine (hBj.out _).mono ?_
                rintro e w2 ⟨rfl, rfl⟩
                go_wp2_with fail
                go_round
                case rel => exact ⟨m + 1, by omega, by go_num, fun x hx => by
                    by_cases e : x = m
                    · rw [e]; exact HF.out
                    · exact HMo.out x (by omega)⟩
                case measure => simp [intOf]; omega
              | true =>
                have h1 := bit_case.1 hq
                have HQ := Lib.hid hq
                cases hq2 : c'.testBit m with
                | false =>
                  have h2 := bit_case.2 hq2
                  have HF := Lib.hid (show pairB ps b c' j m = false by rw [pairB, hq2]; simp)
                  clear hq hq2 hpos
                  generalize bN b j = u at hbl1 hBj h1
                  generalize bN c' m = u2 at hbl2 hCm h2
                  go_wp2_with fail
                  refine (hBj.out _).mono ?_
                  rintro e w2 ⟨rfl, rfl⟩
                  go_wp2_with fail
                  refine (hCm.out _).mono ?_
                  rintro e w2 ⟨rfl, rfl⟩
                  go_wp2_with fail
                  go_round
                  case rel => exact ⟨m + 1, by omega, by go_num, fun x hx => by
                      by_cases e : x = m
                      · rw [e]; exact HF.out
                      · exact HMo.out x (by omega)⟩
                  case measure => simp [intOf]; omega
                | true =>
                  have h2 := bit_case.1 hq2
                  cases ha : actB ps j m with
                  | false =>
                    have hsg : ¬ (0 : Int) < (sg : Int) := by rw [ha] at hpos; simp at hpos; omega
                    have HF := Lib.hid (show pairB ps b c' j m = false by rw [pairB, ha]; simp)
                    clear hq hq2 ha hpos
                    generalize bN b j = u at hbl1 hBj h1
                    generalize bN c' m = u2 at hbl2 hCm h2
                    go_wp2_with fail
                    refine (hBj.out _).mono ?_
                    rintro e w2 ⟨rfl, rfl⟩
                    go_wp2_with fail
                    refine (hCm.out _).mono ?_
                    rintro e w2 ⟨rfl, rfl⟩
                    go_wp2_with fail
                    refine HSm.out.mono ?_
                    rintro e w2 ⟨rfl, rfl⟩
                    go_wp2_with fail
                    go_round
                    case rel => exact ⟨m + 1, by omega, by go_num, fun x hx => by
                        by_cases e : x = m
                        · rw [e]; exact HF.out
                        · exact HMo.out x (by omega)⟩
                    case measure => simp [intOf]; omega
                  | true =>
                    have hsg : (0 : Int) < (sg : Int) := by rw [ha] at hpos; simp at hpos; omega
                    have HV2 := Lib.hid (join_no hlt (stop_hit hmt (show pairB ps b c' j m = true by rw [pairB, hq, hq2, ha]; rfl)))
                    clear hq hq2 ha hpos
                    generalize bN b j = u at hbl1 hBj h1
                    generalize bN c' m = u2 at hbl2 hCm h2
                    go_wp2_with fail
                    refine (hBj.out _).mono ?_
                    rintro e w2 ⟨rfl, rfl⟩
                    go_wp2_with fail
                    refine (hCm.out _).mono ?_
                    rintro e w2 ⟨rfl, rfl⟩
                    go_wp2_with fail
                    refine HSm.out.mono ?_
                    rintro e w2 ⟨rfl, rfl⟩
                    go_wp2_with fail
                    go_ret
                    exact ⟨retb (by rw [HV.out, HV2.out]), HB1.out⟩
            · obtain rfl : m = ps.length := by omega
              have HF := Lib.hid (stop_row HMo.out)
              go_wp2_with fail
              go_round
              case rel => exact ⟨j + 1, by omega, by go_num, fun x hx => by
                  by_cases e : x = j
                  · rw [e]; exact HF.out
                  · exact HNo.out x (by omega)⟩
              case measure => simp [intOf]; omega
        · obtain rfl : j = ps.length := by omega
          have HV2 := Lib.hid (join_yes HNo.out)
          go_wp2_with fail
          go_ret
          exact ⟨retb (by rw [HV.out, HV2.out]), HB1.out⟩

set_option maxHeartbeats 2000000 in
theorem FnExactCanJoin_ok (t : ByteArray) (ao : Option Addr) (n c : Nat) (zs : List Int) (s : Int) (w : World) (_ : t.size ≤ maxLen) (h : RowI w ao n c zs) (hm : MaxLenIs w) :
    Calls Tryd.prog 4 #[.string t, .slice ao n c, .int .i64 s] w fun e w' => e = .returned (.bool true) ∧ Below w.heap.size w w' := by
  have hml := h.2.cap
  have hml' := h.2.le
  unfold maxLen at hml
  go_enter Tryd.func4, Tryd.ntmps4
  by_cases hb0 : 1048576 < t.size
  · go_wp2
    go_ret
    exact ⟨rfl, Below.refl _ _⟩
  by_cases hbig : 1048576 < n
  · go_wp2
    go_ret
    exact ⟨rfl, Below.refl _ _⟩
  · have hn : n * 8 ≤ 281474976710656 := by omega
    have ht : t.size ≤ 1048576 := by omega
    have hn2 : n ≤ 1048576 := by omega
    have HM := Lib.hid hm
    clear hm
    go_wp2_with fail
    refine (toIntS_ok _ _ _ zs _ h hn).mono ?_
    rintro e w1 ⟨x1, rfl, k1, b1⟩
    go_wp2_with fail
    refine (cjS_ok t _ _ _ zs s _ ht k1.rowI hn2).mono ?_
    rintro e w2 ⟨rfl, b2⟩
    have c2 : Below w.heap.size w w2 := b1.trans (b2.mono b1.size)
    go_wp2_with fail
    refine (toIntS_ok _ _ _ zs _ (h.below c2 (Nat.le_refl _)) hn).mono ?_
    rintro e w3 ⟨x3, rfl, k3, b3⟩
    have c3 : Below w.heap.size w w3 := c2.trans (b3.mono c2.size)
    go_wp2_with fail
    refine (cjI_ok t _ _ _ zs s _ ht k3.rowI hn2 (HM.out.below c3 (Nat.le_refl _))).mono ?_
    rintro e w4 ⟨rfl, b4⟩
    have c4 : Below w.heap.size w w4 := c3.trans (b4.mono c3.size)
    generalize cjV (cutsP 44 t) zs s = u
    go_wp2_with fail
    refine (toIntS_ok _ _ _ zs _ (h.below c4 (Nat.le_refl _)) hn).mono ?_
    rintro e w5 ⟨x5, rfl, k5, b5⟩
    have c5 : Below w.heap.size w w5 := c4.trans (b5.mono c4.size)
    go_wp2_with fail
    refine (eqIntS_ok _ _ _ _ _ _ zs zs _ ((k3.rowI.below b4 (Nat.le_refl _)).below b5 (Nat.le_refl _)) k5.rowI).mono ?_
    rintro e w6 ⟨rfl, b6⟩
    have c6 : Below w.heap.size w w6 := c5.trans (b6.mono c5.size)
    simp only [decide_true]
    go_wp2_with fail
    go_ret
    exact ⟨rfl, c6⟩

end Go.Proofs.YthgjmciiaikgoaaDoor
