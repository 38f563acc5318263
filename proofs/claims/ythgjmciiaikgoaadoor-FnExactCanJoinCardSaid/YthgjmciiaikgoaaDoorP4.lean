/- Walks: CanJoin, on both sides. -/
import Derived.Test.YthgjmciiaikgoaaDoorP3
import Derived.Deep.RegionHeld3
namespace Go.Proofs.YthgjmciiaikgoaaDoor
open Go.RowKit

theorem held2 {wr W w5 : World} {q o1 o2 : Nat} {v1 v2 : Value} (h : Below wr.heap.size wr W ∧ W.cell? ⟨q, o1, none⟩ = some v1 ∧ W.cell? ⟨q, o2, none⟩ = some v2) (b : Below W.heap.size W w5) (hq : q < wr.heap.size) :
    Below wr.heap.size wr w5 ∧ w5.cell? ⟨q, o1, none⟩ = some v1 ∧ w5.cell? ⟨q, o2, none⟩ = some v2 :=
  ⟨h.1.trans (b.mono h.1.size), (b.cell (p := ⟨q, o1, none⟩) (Nat.lt_of_lt_of_le hq h.1.size)).trans h.2.1, (b.cell (p := ⟨q, o2, none⟩) (Nat.lt_of_lt_of_le hq h.1.size)).trans h.2.2⟩
/-- Whether a switch acts on one of a set. -/
def hitB (ps : List ByteArray) (i b : Nat) : Bool := anyTo (fun j => b.testBit j && actB ps i j) ps.length
theorem acts_and (ps : List ByteArray) (i b : Nat) : ((((actsN ps i &&& b : Nat) : Int)) == 0) = !hitB ps i b := by
  have h1 := and_ne (actsN ps i) b
  have h2 := anyTo_iff (fun j => b.testBit j && actB ps i j) ps.length
  have h3 : (actsN ps i &&& b ≠ 0) ↔ hitB ps i b = true := by
    rw [h1, hitB, h2]
    constructor
    · rintro ⟨j, a, c⟩
      rw [actsN, setTo_bit, Bool.and_eq_true, decide_eq_true_iff] at a
      exact ⟨j, a.1, by simp [c, a.2]⟩
    · rintro ⟨j, a, c⟩
      rw [Bool.and_eq_true] at c
      exact ⟨j, by rw [actsN, setTo_bit]; simp [a, c.2], c.1⟩
  cases hh : hitB ps i b with
  | true =>
    rw [hh] at h3
    have := h3.2 rfl
    simp only [beq_eq_false_iff_ne, ne_eq, Bool.not_true]
    omega
  | false =>
    rw [hh] at h3
    have : actsN ps i &&& b = 0 := Classical.byContradiction fun e => by cases h3.1 e
    rw [this]; rfl
def stopB (ps : List ByteArray) (b c i : Nat) : Bool := b.testBit i && hitB ps i c
def joinB (ps : List ByteArray) (b c : Nat) : Bool := !anyTo (stopB ps b c) ps.length
theorem join_no {ps : List ByteArray} {b c i : Nat} (h : i < ps.length) (h2 : stopB ps b c i = true) : joinB ps b c = false := by
  rw [joinB, (anyTo_iff _ _).2 ⟨i, h, h2⟩]; rfl
theorem join_yes {ps : List ByteArray} {b c : Nat} (h : ∀ i, i < ps.length → stopB ps b c i = false) : joinB ps b c = true := by
  have : anyTo (stopB ps b c) ps.length = false := by
    rw [Bool.eq_false_iff, Ne, anyTo_iff]
    rintro ⟨i, h1, h2⟩
    rw [h i h1] at h2; cases h2
  rw [joinB, this]; rfl
/-- What CanJoin gives. -/
def cjV (ps : List ByteArray) (zs : List Int) (k : Int) : Bool := nbB ps zs && (inB k 0 ((zs.length : Int) - 2) && joinB ps (gI zs k.toNat).toNat (gI zs (k.toNat + 1)).toNat)
theorem cj_no {ps : List ByteArray} {zs : List Int} {k : Int} (h : nbB ps zs = false) : cjV ps zs k = false := by simp [cjV, h]
theorem cj_out {ps : List ByteArray} {zs : List Int} {k : Int} (h : inB k 0 ((zs.length : Int) - 2) = false) : cjV ps zs k = false := by simp [cjV, h]
theorem cj_in {ps : List ByteArray} {zs : List Int} {k : Nat} (h1 : nbB ps zs = true) (h : inB (k : Int) 0 ((zs.length : Int) - 2) = true) : cjV ps zs k = joinB ps (gI zs k).toNat (gI zs (k + 1)).toNat := by simp [cjV, h, h1]

set_option maxHeartbeats 4000000 in
theorem cjI_ok (t : ByteArray) (bo : Option Addr) (l d : Nat) (zs : List Int) (s : Int) (w : World) (hs : t.size ≤ 1048576) (hz : RowI w bo l d zs) (hl : l ≤ 1048576) (hm : MaxLenIs w) :
    Calls Tryd.prog 20 #[.string t, .slice bo l d, .int .i64 s] w fun e w' => e = .returned (.bool (cjV (cutsP 44 t) zs s)) ∧ Below w.heap.size w w' := by
  have HO := Lib.hid (blocksOf_ok t bo l d zs w hs hz hm)
  have hp0 := cutsP_pos 44 t
  generalize cutsP 44 t = ps at HO hp0
  obtain rfl := hz.1
  cases hb : nbB ps zs with
  | false =>
    have HV := Lib.hid (cj_no (k := s) hb)
    rw [hb] at HO
    clear hb hz hm
    go_enter Tryd.func20, Tryd.ntmps20
    go_wp2_with fail
    refine HO.out.mono ?_
    rintro e w1 ⟨v, rfl, o1, b1⟩
    clear o1
    go_wp2_with fail
    go_ret
    exact ⟨retb HV.out.symm, b1⟩
  | true =>
    rw [hb] at HO
    have hn := nb_net hb
    have h5 := net_le hn hp0
    have HN := Lib.hid (netN_yes hn)
    have hlen := bitsN_len ps ps.length
    cases hq : inB s 0 ((zs.length : Int) - 2) with
    | false =>
      have HV := Lib.hid (cj_out (ps := ps) hq)
      have hr : s < 0 ∨ (zs.length : Int) - 1 ≤ s := by
        rw [Bool.eq_false_iff, Ne, inB_iff] at hq
        omega
      clear hb hz hn hq hm
      go_enter Tryd.func20, Tryd.ntmps20
      go_wp2_with fail
      refine HO.out.mono ?_
      rintro e w1 ⟨v, rfl, o1, b1⟩
      rw [HN.out] at o1
      obtain ⟨a, c, rfl, _⟩ := o1.row (bitsN_wide ps ps.length)
      rw [hlen] at o1 ⊢
      clear o1
      by_cases h0 : s < 0
      · go_wp2_with fail
        go_ret
        exact ⟨retb HV.out.symm, b1⟩
      · have hr' : (zs.length : Int) - 1 ≤ s := by omega
        clear hr
        go_wp2_with fail
        go_ret
        exact ⟨retb HV.out.symm, b1⟩
    | true =>
      have hr := inB_iff.1 hq
      obtain ⟨k, rfl⟩ := Int.eq_ofNat_of_zero_le hr.1
      have hbl := nb_blocks hb
      have hk1 : k + 1 < zs.length := by omega
      have hp : (2 ^ ps.length : Nat) ≤ 32 := Nat.pow_le_pow_right (n := 2) (by decide) h5
      have hc : ((2 ^ ps.length : Nat) : Int) = 2 ^ ps.length := by simp
      obtain ⟨b, hbv⟩ := Int.eq_ofNat_of_zero_le (show 0 ≤ gI zs k by have := hbl k (by omega); omega)
      obtain ⟨c', hcv⟩ := Int.eq_ofNat_of_zero_le (show 0 ≤ gI zs (k + 1) by have := hbl (k + 1) hk1; omega)
      have hb32 : b < 32 := by have := hbl k (by omega); omega
      have hc32 : c' < 32 := by have := hbl (k + 1) hk1; omega
      have HV := Lib.hid (cj_in hb hq)
      rw [hbv, hcv, Int.toNat_natCast, Int.toNat_natCast] at HV
      obtain ⟨q, o, rfl, hqo⟩ := hz.2.some (by omega)
      have hx1 := hz.2.cell q o rfl k (by omega)
      have hx2 := hz.2.cell q o rfl (k + 1) hk1
      rw [hbv] at hx1
      rw [hcv] at hx2
      have hkn : ¬ (k : Int) < 0 := by omega
      have hk0 : (0 : Int) ≤ (k : Int) := by omega
      have hkl : (k : Int) < (zs.length : Int) := by omega
      have hk1' : (k : Int) + 1 < (zs.length : Int) := by omega
      have hk2 : ¬ (zs.length : Int) - 1 ≤ (k : Int) := by omega
      have HA := Lib.hid (fun ao c i W (h : RowN W ao ps.length c ps.length (bitsN ps ps.length)) (hi : i < ps.length) => acts_ok ao c ps i W h hn h5 hi)
      have HX1 := Lib.hid hx1
      have HX2 := Lib.hid hx2
      have hlt63 := fun i => setTo_lt63 (actB ps i) ps.length (by omega)
      have HLt : Hid (∀ i, actsN ps i < 2 ^ 63) := hlt63
      clear hb hz hn hbl hm hr hq hbv hcv hx1 hx2 hlt63 hc
      go_enter Tryd.func20, Tryd.ntmps20
      go_wp2_with fail
      refine HO.out.mono ?_
      rintro e w1 ⟨v, rfl, o1, b1⟩
      rw [HN.out] at o1
      obtain ⟨a, c, rfl, r1⟩ := o1.row (bitsN_wide ps ps.length)
      rw [hlen] at r1 ⊢
      have HR1 := Lib.hid r1
      have HB1 := Lib.hid b1
      clear o1 r1 hlen
      go_wp2_with fail
      go_loopw [31] (fun i wr => ∃ j : Nat, j ≤ ps.length ∧ i = .int .i64 j ∧ (∀ x, x < j → stopB ps b c' x = false) ∧ Below w1.heap.size w1 wr) (fun i _ => ps.length - (intOf i).toNat)
      case atStart => exact ⟨0, Nat.zero_le _, rfl, fun x h => absurd h (Nat.not_lt_zero _), Below.refl _ _⟩
      case round =>
        obtain ⟨j, hj, rfl, hno, hbw⟩ := hrel
        have HNo := Lib.hid hno
        have HBe := Lib.hid hbw
        clear hno
        by_cases hlt : j < ps.length
        · have hlt' : (j : Int) < (ps.length : Int) := by omega
          have hcx1 : wr.cell? ⟨q, o + k, none⟩ = some (.int .i64 b) := ((HB1.out.trans (hbw.mono HB1.out.size)).cell (p := ⟨q, o + k, none⟩) (by exact hqo)).trans HX1.out
          have hcx2 : wr.cell? ⟨q, o + (k + 1), none⟩ = some (.int .i64 c') := ((HB1.out.trans (hbw.mono HB1.out.size)).cell (p := ⟨q, o + (k + 1), none⟩) (by exact hqo)).trans HX2.out
          have hqw : q < wr.heap.size := Nat.lt_of_lt_of_le hqo (Nat.le_trans HB1.out.size HBe.out.size)
          have ev : bits .and .i64 ((b : Int) / 2 ^ j) 1 = ((bN b j : Nat) : Int) := bit_int (b : Int) j (by omega) (by omega)
          have hbl := bN_lt b j
          clear hbw
          cases hq : b.testBit j with
          | false =>
            have h1 := bit_case.2 hq
            have HS := Lib.hid (show stopB ps b c' j = false by simp [stopB, hq])
            clear hq
            generalize bN b j = u at ev hbl h1
            go_wp2_with fail
            go_quiet (fail)
            go_wp2_with fail
            go_roundw
            case rel => exact ⟨j + 1, by omega, by go_num, fun x hx => by
                by_cases e : x = j
                · rw [e]; exact HS.out
                · exact HNo.out x (by omega), HBe.out.trans ⟨rfl, rfl, rfl, Nat.le_refl _, fun _ _ => rfl⟩⟩
            case measure => simp [intOf]; omega
          | true =>
            have h1 := bit_case.1 hq
            have hst : stopB ps b c' j = hitB ps j c' := by rw [stopB, hq]; rfl
            have hz0 := acts_and ps j c'
            have hand := and_nat (actsN ps j) c' (HLt.out j) (by omega)
            have HAj := Lib.hid (fun W (hW : Below wr.heap.size wr W) => HA.out a c j W (HR1.out.below (HBe.out.trans (hW.mono HBe.out.size)) (Nat.le_refl _)) hlt)
            have hlt63 := HLt.out j
            have hkw : IntKind.i64.wrap ((k : Int) + 1) = (k : Int) + 1 := wraps_i64 _ (by omega) (by omega)
            have hk10 : (0 : Int) ≤ (k : Int) + 1 := by omega
            have hk1n : ((k : Int) + 1).toNat = k + 1 := by omega
            clear hq
            generalize actsN ps j = y at hz0 hand HAj hlt63
            generalize ((y &&& c' : Nat) : Int) = z at hz0 hand
            generalize bN b j = u at ev hbl h1
            cases hh : hitB ps j c' with
            | true =>
              have hz1 : (z != 0) = true := by rw [hh] at hz0; simp only [bne, hz0]; rfl
              have HV2 := Lib.hid (join_no hlt (hst.trans hh))
              clear hst hh hz0
              go_wp2_with fail
              go_region_held3 (fun w' => Below wr.heap.size wr w' ∧ w'.cell? ⟨q, o + k, none⟩ = some (.int .i64 b) ∧ w'.cell? ⟨q, o + (k + 1), none⟩ = some (.int .i64 c'))
                (first | exact ⟨⟨rfl, rfl, rfl, Nat.le_refl _, fun _ _ => rfl⟩, hcx1, hcx2⟩ | exact held2 (by assumption) b5 hqw)
                ((go_at_call 55; refine (HAj.out _ ?_).mono ?_; (exact (by assumption : _ ∧ _ ∧ _).1); rintro e w5 ⟨rfl, b5⟩))
              have HB5 : Hid (Below wr.heap.size wr w5) := (by assumption : Below wr.heap.size wr w5 ∧ _ ∧ _).1
              go_wp2_with fail
              go_ret
              exact ⟨retb (by rw [HV.out, HV2.out]), HB1.out.trans ((HBe.out.trans (HB5.out.mono HBe.out.size)).mono HB1.out.size)⟩
            | false =>
              have hz1 : (z != 0) = false := by rw [hh] at hz0; simp only [bne, hz0]; rfl
              have HS := Lib.hid (hst.trans hh)
              clear hst hh hz0
              go_wp2_with fail
              go_region_held3 (fun w' => Below wr.heap.size wr w' ∧ w'.cell? ⟨q, o + k, none⟩ = some (.int .i64 b) ∧ w'.cell? ⟨q, o + (k + 1), none⟩ = some (.int .i64 c'))
                (first | exact ⟨⟨rfl, rfl, rfl, Nat.le_refl _, fun _ _ => rfl⟩, hcx1, hcx2⟩ | exact held2 (by assumption) b5 hqw)
                ((go_at_call 55; refine (HAj.out _ ?_).mono ?_; (exact (by assumption : _ ∧ _ ∧ _).1); rintro e w5 ⟨rfl, b5⟩))
              have HB5 : Hid (Below wr.heap.size wr w5) := (by assumption : Below wr.heap.size wr w5 ∧ _ ∧ _).1
              go_wp2_with fail
              go_roundw
              case rel => exact ⟨j + 1, by omega, by go_num, fun x hx => by
                  by_cases e : x = j
                  · rw [e]; exact HS.out
                  · exact HNo.out x (by omega), HBe.out.trans (HB5.out.mono HBe.out.size)⟩
              case measure => simp [intOf] <;> omega
        · obtain rfl : j = ps.length := by omega
          have HV2 := Lib.hid (join_yes HNo.out)
          clear hbw
          go_wp2_with fail
          go_ret
          exact ⟨retb (by rw [HV.out, HV2.out]), HB1.out.trans (HBe.out.mono HB1.out.size)⟩

end Go.Proofs.YthgjmciiaikgoaaDoor
