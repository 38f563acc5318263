/- Walks and plain facts of one law: several of my texts in one. -/
import Derived.Test.YtjkgcgbialiipaaDoorGrA
import Derived.Test.YtjkgcgbialiipaaDoorGrJ
import Derived.Test.YtjkgcgbialiipaaDoorGrG
/- Walks: whether two rows are the same, by the laws' own function. -/
namespace Go.Proofs.YtjkgcgbialiipaaDoor
open Go.RowKit

set_option maxHeartbeats 1000000 in
theorem bnSame_ok (ao bo : Option Addr) (c d : Nat) (zs : List Int) (w : World) (h : RowI w ao zs.length c zs) (h' : RowI w bo zs.length d zs) :
    Calls Tryd.prog 49 #[.slice ao zs.length c, .slice bo zs.length d] w fun e w' => e = .returned (.bool true) ∧ Below w.heap.size w w' := by
  have hcap := h.2.cap
  have hle := h.2.le
  unfold maxLen at hcap
  go_enter Tryd.func49, Tryd.ntmps49
  go_wp2_with fail
  go_loopw [5] (fun q wr => ∃ k : Nat, k ≤ zs.length ∧ q = .int .i64 k ∧ Below w.heap.size w wr) (fun q _ => zs.length - (intOf q).toNat)
  case atStart => exact ⟨0, Nat.zero_le _, rfl, Below.refl _ _⟩
  case round =>
    obtain ⟨k, hk, rfl, hb⟩ := hrel
    by_cases hlt : k < zs.length
    · obtain ⟨b, o, rfl, _⟩ := h.2.some (by omega)
      obtain ⟨b', o', rfl, _⟩ := h'.2.some (by omega)
      have hc1 := (h.below hb (Nat.le_refl _)).2.cell b o rfl k hlt
      have hc2 := (h'.below hb (Nat.le_refl _)).2.cell b' o' rfl k hlt
      have hlt' : (k : Int) < (zs.length : Int) := by omega
      clear h h'
      go_wp2_with fail
      go_quiet (fail)
      go_wp2_with fail
      go_roundw
      case rel => exact ⟨k + 1, by omega, by go_num, hb.trans ⟨rfl, rfl, rfl, Nat.le_refl _, fun _ _ => rfl⟩⟩
      case measure => simp [intOf]; omega
    · obtain rfl : k = zs.length := by omega
      go_wp2_with fail
      go_ret
      exact ⟨rfl, hb⟩

end Go.Proofs.YtjkgcgbialiipaaDoor
/- The law FnHeldPoints. -/
namespace Go.Proofs.YtjkgcgbialiipaaDoor
open Go.RowKit

theorem belowM {B : Nat} {a w : World} (h : Below B a w) (n : Nat) : Below B a (w.drewN n) := ⟨h.os, h.tape, h.output, h.size, h.block⟩
/-- Whether a number is one of the first k. -/
def hasEq (L : List Int) (x : Int) : Nat → Bool
  | 0 => false
  | k + 1 => hasEq L x k || (gI L k == x)
theorem hasEq_of {L : List Int} {x : Int} {i : Nat} (hx : gI L i = x) : ∀ k, i < k → hasEq L x k = true
  | 0, h => absurd h (Nat.not_lt_zero _)
  | k + 1, h => by
    rw [hasEq]
    by_cases e : i = k
    · rw [← e, hx, beq_self_eq_true, Bool.or_true]
    · rw [hasEq_of hx k (by omega), Bool.true_or]
theorem fpL_has {ps : List ByteArray} {N s : Nat} (hs : s < N) (h : fpB ps s = true) : ∃ i, i < (fpL ps N).length ∧ gI (fpL ps N) i = (s : Int) := by
  have hm : (s : Int) ∈ fpL ps N := by
    rw [fpL]
    exact List.mem_map.2 ⟨s, List.mem_filter.2 ⟨List.mem_range.2 hs, h⟩, rfl⟩
  obtain ⟨i, hi, he⟩ := List.getElem_of_mem hm
  exact ⟨i, hi, by rw [← he]; simp [gI, List.getD, hi]⟩

/-- What the law asks of the points of the held network. -/
theorem heldp_all {ps : List ByteArray} {l : List UInt8} (h0 : 0 < ps.length) (h : htB ps l = true) :
    ps.length ≤ 5 ∧ netB ps = true ∧ l.length = ps.length ∧ termB l ps.length = true ∧ (∃ set : Nat, heldV l = (set : Int) ∧
      ∀ k, k < (hpV ps l).length → ∃ y : Nat, gI (hpV ps l) k = (y : Int) ∧ y < 2 ^ ps.length ∧ hasT l y = true ∧ ∃ r : Int, rsV ps (y : Int) = r ∧ bits .andNot .i64 r (set : Int) = 0) ∧
      ∀ i, i < (fpV ps).length → ∃ x : Nat, gI (fpV ps) i = (x : Int) ∧ x < 2 ^ ps.length ∧ (hasT l x = true → hasEq (hpV ps l) (x : Int) (hpV ps l).length = true) := by
  obtain ⟨hn, hz, hl⟩ := ht_len h
  have h5 := net_le hn h0
  have hp := pow_32 h5
  obtain ⟨hv, hlt⟩ := held_eq h
  have h' := h
  rw [htB, Bool.and_eq_true] at h'
  have hq := hsP_net hn hl h0 h5
  have hlq := hsP_len ps l
  have hL : hpV ps l = fpL (hsP ps l) (2 ^ ps.length) := by rw [hpV_yes h, hs_cuts h0 h, fpV_yes hq, hlq]
  have hfb : ∀ s, fpB (hsP ps l) s = decide (hsS ps l s = s) := fun s => by rw [fpB, hlq]; rfl
  refine ⟨h5, hn, hz, h'.2, ⟨heldTo l l.length, hv, fun k hk => ?_⟩, fun i hi => ?_⟩
  · rw [hL] at hk ⊢
    obtain ⟨y, hy, hyl, hf⟩ := fpL_get hk
    rw [hfb, decide_eq_true_iff] at hf
    have h1 := hsS_has h0 h5 h hyl
    have h2 := hsS_held h0 h5 h hyl
    rw [hf] at h1 h2
    have h3 := allTo_lt hn h5 y
    refine ⟨y, hy, hyl, h1, _, rfl, ?_⟩
    rw [rsV_yes (by rw [stB'_in hn, stOk_iff]; omega)]
    have hx : allTo ps y ps.length ^^^ y < 2 ^ 5 := Nat.xor_lt_two_pow (by omega) (by omega)
    rw [andNot_32 _ _ (by omega) (by omega), Nat.xor_comm, h2]; rfl
  · rw [fpV_yes hn] at hi ⊢
    obtain ⟨x, hx, hxl, hf⟩ := fpL_get hi
    rw [fpB, decide_eq_true_iff] at hf
    refine ⟨x, hx, hxl, fun ht => ?_⟩
    have hfix : hsS ps l x = x := (hs_fixed h0 h5 h hxl).2 ⟨ht, fun j hj _ => by rw [hf]⟩
    rw [hL]
    obtain ⟨j, hj, he⟩ := fpL_has (ps := hsP ps l) hxl (by rw [hfb, decide_eq_true_iff]; exact hfix)
    exact hasEq_of he _ hj

set_option maxRecDepth 100000 in
set_option maxHeartbeats 8000000 in
theorem FnHeldPoints_ok (ao : Option Addr) (l c : Nat) (cs : List Int) (w : World) (h : RowU w ao l c cs) (hm : MaxLenIs w) :
    Calls Tryd.prog 11 #[.slice ao l c] w fun e w' => e = .returned (.bool true) ∧ Below w.heap.size w w' := by
  go_enter Tryd.func11, Tryd.ntmps11
  by_cases hbig : 1048576 < l
  · have hbig' : (1048576 : Int) < (l : Int) := by omega
    go_wp2_with fail
    go_ret
    exact ⟨rfl, Below.refl _ _⟩
  · have hbig' : ¬ (1048576 : Int) < (l : Int) := by omega
    have HD := Lib.hid (drawHP_ok ao l c cs w h (by omega))
    have HM := Lib.hid (fun W (hW : Below w.heap.size w W) => hm.below hW (Nat.le_refl _))
    clear h hm
    go_wp2_with fail
    refine HD.out.mono ?_
    rintro e w1 ⟨u, t, rfl, hu, ht, b1⟩
    have B1 := Lib.hid b1
    have HM1 := Lib.hid (fun W (hW : Below w1.heap.size w1 W) => HM.out W (B1.out.trans (hW.mono B1.out.size)))
    have HPi := Lib.hid (fun W (hW : Below w1.heap.size w1 W) => hpI_ok u t W hu ht (HM1.out W hW))
    have HPs := Lib.hid (fun W (hW : Below w1.heap.size w1 W) => hpS_ok u t W hu ht)
    have HNv := Lib.hid (fun W (hW : Below w1.heap.size w1 W) => netValidI_ok u W hu (HM1.out W hW))
    have HTv := Lib.hid (fun m W => tvI_ok t m W (by unfold maxLen; omega))
    have HSz := Lib.hid (fun W (hW : Below w1.heap.size w1 W) => sizeI_ok u W hu (HM1.out W hW))
    have HFp := Lib.hid (fun W (hW : Below w1.heap.size w1 W) => fpI_ok u W hu (HM1.out W hW))
    have HRs := Lib.hid (fun W s (hW : Below w1.heap.size w1 W) => restlessI_ok u s W hu (HM1.out W hW))
    have HIi := Lib.hid (fun W => heldI_ok t W (by unfold maxLen; omega))
    have hp0 := cutsP_pos 44 u
    obtain ⟨ps, hps⟩ : ∃ ps, cutsP 44 u = ps := ⟨_, rfl⟩
    rw [hps] at HPi HPs HNv HSz HFp HRs hp0
    have hL32 := hpV_len ps t.data.toList
    have hF32 := fpV_len ps hp0
    clear b1 HD hps
    go_wp2_with fail
    refine (HPi.out _ (Below.refl _ _)).mono ?_
    rintro e w2 ⟨v2, rfl, o2, b2⟩
    have B2 := Lib.hid b2
    obtain ⟨la, lc, rfl, ho2⟩ := o2.out
    have L2 := Lib.hid (fun W (hW : Below w2.heap.size w2 W) => ho2.rowI.below hW (Nat.le_refl _))
    clear b2 o2 ho2
    go_wp2_with fail
    refine (HPs.out _ B2.out).mono ?_
    rintro e w3 ⟨v3, rfl, o3, b3⟩
    have C3 := Lib.hid b3
    obtain ⟨sa, sc, rfl, ho3⟩ := o3.out
    have HBf := Lib.hid (fun W a c (hW : Below w2.heap.size w2 W) (hr : RowI W a (hpV ps t.data.toList).length c (hpV ps t.data.toList)) => bnSame_ok la a lc c (hpV ps t.data.toList) W (L2.out _ hW) hr)
    have HBn := Lib.hid (HBf.out _ _ _ C3.out ho3.rowI)
    have B3 := Lib.hid (B2.out.trans (b3.mono B2.out.size))
    clear b3 o3 ho3
    go_wp2_with fail
    refine HBn.out.mono ?_
    rintro e w4 ⟨rfl, b4⟩
    have B4 := Lib.hid (B3.out.trans (b4.mono B3.out.size))
    have C4 := Lib.hid (C3.out.trans (b4.mono C3.out.size))
    clear b4
    cases hb : htB ps t.data.toList with
    | false =>
      have hm0 : (hpV ps t.data.toList).length = 0 := by rw [hpV_no hb]; rfl
      have hmb : ((((hpV ps t.data.toList).length : Nat) : Int) == 0) = true := by rw [hm0]; rfl
      clear hm0
      cases hn : netB ps with
      | false =>
        rw [hn] at HNv
        clear hb hn
        go_wp2_with fail
        refine (HNv.out _ B4.out).mono ?_
        rintro e w6 ⟨rfl, b6⟩
        have B6 := Lib.hid (B4.out.trans (b6.mono B4.out.size))
        have C6 := Lib.hid (C4.out.trans (b6.mono C4.out.size))
        clear b6
        go_wp2_with fail
        refine (HPs.out _ B6.out).mono ?_
        rintro e w7 ⟨v7, rfl, o7, b7⟩
        have C7 := Lib.hid (C6.out.trans (b7.mono C6.out.size))
        have B7 := Lib.hid (B6.out.trans (b7.mono B6.out.size))
        obtain ⟨ta, tc, rfl, ho7⟩ := o7.out
        have HBn7 := Lib.hid (HBf.out _ _ _ C7.out ho7.rowI)
        clear b7 o7 ho7
        generalize (hpV ps t.data.toList).length = m at hmb HBn7 ⊢
        go_wp2_with fail
        refine HBn7.out.mono ?_
        rintro e w8 ⟨rfl, b8⟩
        go_wp2_with fail
        go_ret
        exact ⟨rfl, B1.out.trans ((B7.out.trans (b8.mono B7.out.size)).mono B1.out.size)⟩
      | true =>
        rw [hn] at HNv
        have htf : termB t.data.toList ps.length = false := by rw [ht_in hn] at hb; exact hb
        have HT1 := Lib.hid (fun W => HTv.out (ps.length : Int) W)
        rw [htf] at HT1
        rw [sizV_yes hn] at HSz
        clear hb hn htf
        go_wp2_with fail
        refine (HNv.out _ B4.out).mono ?_
        rintro e w5 ⟨rfl, b5⟩
        have B5 := Lib.hid (B4.out.trans (b5.mono B4.out.size))
        have C5 := Lib.hid (C4.out.trans (b5.mono C4.out.size))
        clear b5
        go_wp2_with fail
        refine (HSz.out _ B5.out).mono ?_
        rintro e w6 ⟨rfl, b6⟩
        have B6 := Lib.hid (B5.out.trans (b6.mono B5.out.size))
        have C6 := Lib.hid (C5.out.trans (b6.mono C5.out.size))
        clear b6
        go_wp2_with fail
        refine (HT1.out _).mono ?_
        rintro e w6' ⟨rfl, rfl⟩
        go_wp2_with fail
        refine (HPs.out _ B6.out).mono ?_
        rintro e w7 ⟨v7, rfl, o7, b7⟩
        have C7 := Lib.hid (C6.out.trans (b7.mono C6.out.size))
        have B7 := Lib.hid (B6.out.trans (b7.mono B6.out.size))
        obtain ⟨ta, tc, rfl, ho7⟩ := o7.out
        have HBn7 := Lib.hid (HBf.out _ _ _ C7.out ho7.rowI)
        clear b7 o7 ho7
        generalize (hpV ps t.data.toList).length = m at hmb HBn7 ⊢
        go_wp2_with fail
        refine HBn7.out.mono ?_
        rintro e w8 ⟨rfl, b8⟩
        go_wp2_with fail
        go_ret
        exact ⟨rfl, B1.out.trans ((B7.out.trans (b8.mono B7.out.size)).mono B1.out.size)⟩
    | true =>
      obtain ⟨h5, hn, hz, htm, ⟨set, hset, hlist⟩, hpts⟩ := heldp_all hp0 hb
      have HT1 := Lib.hid (fun W => HTv.out (ps.length : Int) W)
      rw [htm] at HT1
      rw [sizV_yes hn] at HSz
      rw [hn] at HNv
      rw [hset] at HIi
      have htz : t.size = ps.length := hz
      have HII := Lib.hid (fun s W => isInsideI_ok (digS (bitL s ps.length)) t W (by rw [digS_size, bitL_len]; omega) ht)
      have HIv := Lib.hid (fun s => ii_has (s := s) htm)
      have HHu := Lib.hid (fun s W a c (hr : RowI W a 1 c [((s : Nat) : Int)]) (hs : s < 2 ^ ps.length) => hullOfI_ok a c s ps.length W hr hp0 h5 hs)
      have HLi := Lib.hid hlist
      have HPt := Lib.hid hpts
      clear hn hz htm hset hlist hpts hb HBf HBn HPi HPs
      generalize hpV ps t.data.toList = L at L2 HLi HPt hL32 ⊢
      generalize fpV ps = Q at HFp HPt hF32
      generalize (2 ^ ps.length : Nat) = N at HHu HLi HPt
      go_wp2_with fail
      refine (HNv.out _ B4.out).mono ?_
      rintro e w5 ⟨rfl, b5⟩
      have B5 := Lib.hid (B4.out.trans (b5.mono B4.out.size))
      have C5 := Lib.hid (C4.out.trans (b5.mono C4.out.size))
      clear b5
      go_wp2_with fail
      refine (HSz.out _ B5.out).mono ?_
      rintro e w6 ⟨rfl, b6⟩
      have B6 := Lib.hid (B5.out.trans (b6.mono B5.out.size))
      have C6 := Lib.hid (C5.out.trans (b6.mono C5.out.size))
      clear b6
      go_wp2_with fail
      refine (HT1.out _).mono ?_
      rintro e w6' ⟨rfl, rfl⟩
      go_wp2_with fail
      refine (HFp.out _ B6.out).mono ?_
      rintro e w7 ⟨v7, rfl, o7, b7⟩
      have B7 := Lib.hid (B6.out.trans (b7.mono B6.out.size))
      have C7 := Lib.hid (C6.out.trans (b7.mono C6.out.size))
      obtain ⟨qa, qc, rfl, ho7⟩ := o7.out
      have Q7 := Lib.hid (fun W (hW : Below w7.heap.size w7 W) => ho7.rowI.below hW (Nat.le_refl _))
      have L7 := Lib.hid (fun W (hW : Below w7.heap.size w7 W) => L2.out W (C7.out.trans (hW.mono C7.out.size)))
      clear b7 o7 ho7 L2
      obtain ⟨m, hmL⟩ : ∃ m, L.length = m := ⟨_, rfl⟩
      obtain ⟨p, hpQ⟩ : ∃ p, Q.length = p := ⟨_, rfl⟩
      rw [hmL] at L7 HLi HPt hL32 ⊢
      rw [hpQ] at Q7 HPt hF32 ⊢
      clear hmL hpQ
      go_wp2_with fail
      go_loopw [7] (fun j wr => ∃ i : Nat, i ≤ p ∧ j = .int .i64 i ∧ Below w7.heap.size w7 wr) (fun j _ => p - (intOf j).toNat)
      case atStart => exact ⟨0, Nat.zero_le _, rfl, Below.refl _ _⟩
      case round =>
        obtain ⟨i, hi, rfl, hbl⟩ := hrel
        have HB := Lib.hid hbl
        clear hbl
        by_cases hip : i < p
        · have hiw : (i : Int) < (p : Int) := by omega
          obtain ⟨qb, qo, rfl, hqb⟩ := (Q7.out _ HB.out).2.some (by omega)
          have HQc := Lib.hid (fun W (hW : Below w7.heap.size w7 W) => (Q7.out W hW).2.cell qb qo rfl i hip)
          obtain ⟨x, hx1, hx2, hx3⟩ := HPt.out i hip
          rw [hx1] at HQc
          have HX3 := Lib.hid hx3
          have hcq := HQc.out _ HB.out
          have HII1 := Lib.hid (fun W => HII.out x W)
          rw [HIv.out x] at HII1
          have HHu1 := Lib.hid (fun W a c (hr : RowI W a 1 c [((x : Nat) : Int)]) => HHu.out x W a c hr hx2)
          generalize hasT t.data.toList x = hh at HII1 HX3
          generalize digS (bitL x ps.length) = hd at HII1 HHu1
          clear hx1 hx2 hx3
          have b8 : Below wr.heap.size wr (wr.alloc (.cells #[.int .i64 (x : Int)] 3)) := (Below.refl _ _).alloc (Nat.le_refl _) _
          have B8 := Lib.hid (HB.out.trans (b8.mono HB.out.size))
          have HH2 := Lib.hid (HHu1.out _ _ _ (RowI.one wr (x : Int)))
          clear b8
          go_wp2_with fail
          refine HH2.out.mono ?_
          rintro e w9 ⟨rfl, b9⟩
          have B9 := Lib.hid (B8.out.trans (b9.mono B8.out.size))
          clear b9
          go_wp2_with fail
          go_loopw [10, 11] (fun sm j wi => ∃ a : Nat, a ≤ m ∧ j = .int .i64 a ∧ sm = .bool (hasEq L (x : Int) a) ∧ Below w7.heap.size w7 wi) (fun _ j _ => m - (intOf j).toNat)
          case atStart => exact ⟨0, Nat.zero_le _, rfl, rfl, B9.out⟩
          case round =>
            obtain ⟨a, ha, rfl, rfl, hbi⟩ := hrel
            have HBi := Lib.hid hbi
            clear hbi
            by_cases ham : a < m
            · have haw : (a : Int) < (m : Int) := by omega
              obtain ⟨kb, ko, rfl, hkb⟩ := (L7.out _ HBi.out).2.some (by omega)
              have c1 := HQc.out _ HBi.out
              have c2 := (L7.out _ HBi.out).2.cell kb ko rfl a ham
              have HNx : Hid (hasEq L (x : Int) (a + 1) = (hasEq L (x : Int) a || (gI L a == (x : Int)))) := rfl
              generalize gI L a = y at c2 HNx
              cases hs : hasEq L (x : Int) a with
              | true =>
                rw [hs] at HNx
                clear c1 c2 hs
                go_wp2_with fail
                go_quiet (fail)
                go_wp2_with fail
                go_roundw
                case rel => exact ⟨a + 1, by omega, by go_num, by rw [HNx.out]; rfl, belowM HBi.out _⟩
                case measure => simp [intOf] <;> omega
              | false =>
                rw [hs] at HNx
                clear hs
                go_wp2_with fail
                go_quiet (fail)
                go_wp2_with fail
                go_roundw
                case rel => exact ⟨a + 1, by omega, by go_num, by rw [HNx.out]; rfl, belowM HBi.out _⟩
                case measure => simp [intOf] <;> omega
            · have haw : ¬ (a : Int) < (m : Int) := by omega
              obtain rfl : a = m := by omega
              cases hh with
              | true =>
                rw [HX3.out rfl]
                go_wp2_with fail
                refine (HII1.out _).mono ?_
                rintro e w10 ⟨rfl, b10⟩
                have B10 := Lib.hid (HBi.out.trans (b10.mono HBi.out.size))
                clear b10
                go_wp2_with fail
                go_roundw
                case rel => exact ⟨i + 1, by omega, by go_num, B10.out⟩
                case measure => simp [intOf] <;> omega
              | false =>
                generalize hasEq L (x : Int) a = sb
                go_wp2_with fail
                refine (HII1.out _).mono ?_
                rintro e w10 ⟨rfl, b10⟩
                have B10 := Lib.hid (HBi.out.trans (b10.mono HBi.out.size))
                clear b10
                go_wp2_with fail
                go_roundw
                case rel => exact ⟨i + 1, by omega, by go_num, B10.out⟩
                case measure => simp [intOf] <;> omega
        · have hiw : ¬ (i : Int) < (p : Int) := by omega
          go_wp2_with fail
          go_loopw [12] (fun j wi => ∃ a : Nat, a ≤ m ∧ j = .int .i64 a ∧ Below w7.heap.size w7 wi) (fun j _ => m - (intOf j).toNat)
          case atStart => exact ⟨0, Nat.zero_le _, rfl, HB.out⟩
          case round =>
            obtain ⟨a, ha, rfl, hbi⟩ := hrel
            have HBi := Lib.hid hbi
            clear hbi
            by_cases ham : a < m
            · have haw : (a : Int) < (m : Int) := by omega
              obtain ⟨kb, ko, rfl, hkb⟩ := (L7.out _ HBi.out).2.some (by omega)
              have HKc := Lib.hid (fun W (hW : Below w7.heap.size w7 W) => (L7.out W hW).2.cell kb ko rfl a ham)
              obtain ⟨y, hy1, hy2, hy3, r, hy4, hy5⟩ := HLi.out a ham
              rw [hy1] at HKc
              have hc1 := HKc.out _ HBi.out
              have HII1 := Lib.hid (fun W => HII.out y W)
              rw [HIv.out y, hy3] at HII1
              have HHu1 := Lib.hid (fun W a c (hr : RowI W a 1 c [((y : Nat) : Int)]) => HHu.out y W a c hr hy2)
              have HR1 := Lib.hid (fun W (hW : Below w1.heap.size w1 W) => HRs.out W (y : Int) hW)
              rw [hy4] at HR1
              generalize digS (bitL y ps.length) = hd at HII1 HHu1
              clear hy1 hy2 hy3 hy4
              have b8 : Below wr.heap.size wr (wr.alloc (.cells #[.int .i64 (y : Int)] 3)) := (Below.refl _ _).alloc (Nat.le_refl _) _
              have B8 := Lib.hid (HBi.out.trans (b8.mono HBi.out.size))
              have HH2 := Lib.hid (HHu1.out _ _ _ (RowI.one wr (y : Int)))
              clear b8
              go_wp2_with fail
              refine HH2.out.mono ?_
              rintro e w9 ⟨rfl, b9⟩
              have B9 := Lib.hid (B8.out.trans (b9.mono B8.out.size))
              clear b9
              go_wp2_with fail
              refine (HII1.out _).mono ?_
              rintro e w10 ⟨rfl, b10⟩
              have B10 := Lib.hid (B9.out.trans (b10.mono B9.out.size))
              have hc2 := HKc.out _ B10.out
              clear b10
              go_wp2_with fail
              refine (HR1.out _ (B7.out.trans (B10.out.mono B7.out.size))).mono ?_
              rintro e w11 ⟨rfl, b11⟩
              have B11 := Lib.hid (B10.out.trans (b11.mono B10.out.size))
              clear b11
              go_wp2_with fail
              refine (HIi.out _).mono ?_
              rintro e w12 ⟨rfl, rfl⟩
              go_wp2_with fail
              go_roundw
              case rel => exact ⟨a + 1, by omega, by go_num, B11.out⟩
              case measure => simp [intOf] <;> omega
            · have haw : ¬ (a : Int) < (m : Int) := by omega
              go_wp2_with fail
              go_ret
              exact ⟨rfl, B1.out.trans ((B7.out.trans (HBi.out.mono B7.out.size)).mono B1.out.size)⟩

end Go.Proofs.YtjkgcgbialiipaaDoor
