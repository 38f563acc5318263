/- Walks: FlowBlocks by the reference. -/
import Derived.Test.YtfopimahnmpciaaDoorZ2
import Derived.Test.YtfopimahnmpciaaDoorY7
namespace Go.Proofs.YtfopimahnmpciaaDoor
open Go.RowKit

theorem OwnI.belowZ {w w' : World} {B B' : Nat} {v : Value} {zs : List Int} (h : OwnI w B v zs) (hb : Below B' w w') (hB : w.heap.size ≤ B') : OwnI w' B v zs := by
  obtain ⟨h0, h1 | ⟨g, cap, cur, e, hg, hh, h2⟩⟩ := h
  · exact ⟨h0, .inl h1⟩
  · exact ⟨h0, .inr ⟨g, cap, cur, e, hg, by rw [hb.block g (by have := lt_of_block hh; omega)]; exact hh, h2⟩⟩
theorem OwnI.baseZ {w : World} {B B' : Nat} {v : Value} {zs : List Int} (h : OwnI w B v zs) (hB : B' ≤ B) : OwnI w B' v zs := by
  obtain ⟨h0, h1 | ⟨g, cap, cur, e, hg, h2⟩⟩ := h
  · exact ⟨h0, .inl h1⟩
  · exact ⟨h0, .inr ⟨g, cap, cur, e, Nat.le_trans hB hg, h2⟩⟩
theorem flw_get {ps : List ByteArray} (h : flwB ps = true) : netB ps = true ∧ circB (actB ps) ps.length = false := by
  rw [flwB, Bool.and_eq_true] at h
  exact ⟨h.1, by have := h.2; rw [cirB] at this; simpa using this⟩
/-- What FlowBlocks gives. -/
def fbV (ps : List ByteArray) : List Int := if flwB ps = true then flF ps 5 0 else []
theorem fbV_no {ps : List ByteArray} (h : flwB ps = false) : fbV ps = [] := by simp [fbV, h]
theorem fbV_yes {ps : List ByteArray} (h : flwB ps = true) : fbV ps = flF ps 5 0 := by simp [fbV, h]
theorem fbV_len (ps : List ByteArray) : (fbV ps).length ≤ 5 := by
  unfold fbV
  split
  · exact flF_len _ _ _
  · simp
theorem bN_tst (s i : Nat) : bN s i = if s.testBit i = true then 1 else 0 := bit_test s i
theorem bit0 {s i : Nat} : (((bN s i : Nat) : Int) == 0) = !s.testBit i := by rw [bN_tst]; cases s.testBit i <;> rfl
theorem bit1 {s i : Nat} : (((bN s i : Nat) : Int) == 1) = s.testBit i := by rw [bN_tst]; cases s.testBit i <;> rfl

set_option maxRecDepth 100000 in
set_option maxHeartbeats 8000000 in
theorem fbS_ok (t : ByteArray) (w : World) (hs : t.size ≤ 1048576) :
    Calls Tryd.prog 4 #[.string t] w fun e w' => ∃ v, e = .returned (.tuple #[v, .bool (flwB (cutsP 44 t))]) ∧ OwnI w' w.heap.size v (fbV (cutsP 44 t)) ∧ Below w.heap.size w w' := by
  have HO := Lib.hid (l3Open_ok t w hs)
  have HF := Lib.hid (fun W => flowS_ok t W hs)
  have hp0 := cutsP_pos 44 t
  generalize cutsP 44 t = ps at HO HF hp0 ⊢
  cases hb : flwB ps with
  | false =>
    have HV := Lib.hid (fbV_no hb)
    rw [hb] at HF
    clear hb
    generalize netB ps = nb at HO
    go_enter Tryd.func4, Tryd.ntmps4
    go_wp2_with fail
    refine HO.out.mono ?_
    rintro e w1 ⟨v, rfl, o1, b1⟩
    have B1 := Lib.hid b1
    clear o1 b1
    have b2 : Below w1.heap.size w1 (w1.alloc (.cells #[] 3)) := (Below.refl _ _).alloc (Nat.le_refl _) _
    have B2 := Lib.hid (B1.out.trans (b2.mono B1.out.size))
    have O2 := Lib.hid (OwnI.lit w1 w.heap.size [] B1.out.size (by decide))
    clear b2
    go_wp2_with fail
    refine (HF.out _).mono ?_
    rintro e w3 ⟨rfl, b3⟩
    have B3 := Lib.hid (B2.out.trans (b3.mono B2.out.size))
    have O3 := Lib.hid (O2.out.belowZ b3 (Nat.le_refl _))
    clear b3
    go_wp2_with fail
    go_ret2
    exact ⟨_, rfl, by rw [HV.out]; exact O3.out, B3.out⟩
  | true =>
    obtain ⟨hn, hc⟩ := flw_get hb
    have HV := Lib.hid (fbV_yes hb)
    have h5 := net_le hn hp0
    have hp : (2 ^ ps.length : Nat) ≤ 32 := Nat.pow_le_pow_right (n := 2) (by decide) h5
    have HN := Lib.hid (netL_yes hn)
    rw [hb] at HF
    rw [hn] at HO
    have HSg := Lib.hid (fun ao c i k W (h : RowT W ao ps.length c ps) (hi : i < ps.length) (hk : k < ps.length) => l7Sign_ok ao ps.length c ps i k W h hn h5 hi hk)
    have HAct := Lib.hid (fun i k => sgV_act (ps := ps) (i := i) (k := k))
    have HStp := Lib.hid (fun done (hd : done < 2 ^ ps.length) (h : done ≠ 2 ^ ps.length - 1) => blk_step h5 hc hd h)
    have HAll := Lib.hid (fun (ao : Option Addr) (c : Nat) W => l3All_ok ao ps.length c W h5)
    have HNx := Lib.hid (fun f done (h : done ≠ 2 ^ ps.length - 1) => flF_next (ps := ps) (f := f) h)
    have HEn := Lib.hid (fun f => flF_end ps f)
    have HLt := Lib.hid (fun done (hd : done < 2 ^ ps.length) => blk_or_lt (ps := ps) hd)
    have HBl := Lib.hid (fun done => blkF_lt ps done)
    have HZe := Lib.hid (fun done (hd : done < 2 ^ ps.length) (h : opnN done ps.length = 0) => opn_zero hd h)
    have hp1 : 0 < 2 ^ ps.length := Nat.two_pow_pos _
    clear hb hn hc
    generalize (2 ^ ps.length : Nat) = N at hp hp1 HStp HAll HNx HEn HLt HBl HZe
    go_enter Tryd.func4, Tryd.ntmps4
    go_wp2_with fail
    refine HO.out.mono ?_
    rintro e w1 ⟨v, rfl, o1, b1⟩
    rw [HN.out] at o1
    have L1 := Lib.hid o1
    obtain ⟨a, c, rfl, r1⟩ := o1.row
    have B1 := Lib.hid b1
    clear o1 b1
    have b2 : Below w1.heap.size w1 (w1.alloc (.cells #[] 3)) := (Below.refl _ _).alloc (Nat.le_refl _) _
    have B2 := Lib.hid (B1.out.trans (b2.mono B1.out.size))
    have O2 := Lib.hid (OwnI.lit w1 w1.heap.size [] (Nat.le_refl _) (by decide))
    clear b2
    go_wp2_with fail
    refine (HF.out _).mono ?_
    rintro e w3 ⟨rfl, b3⟩
    have B3 := Lib.hid (B2.out.trans (b3.mono B2.out.size))
    have O3 := Lib.hid (O2.out.belowZ b3 (Nat.le_refl _))
    have D3 : Hid (Below w1.heap.size w1 w3) := ((Below.refl _ _).alloc (Nat.le_refl _) _).trans (b3.mono (by simp))
    have HR1 := Lib.hid r1
    clear b3 r1
    have HSw := Lib.hid (fun i k W (hW : Below w1.heap.size w1 W) hi hk => HSg.out a c i k W (HR1.out.below hW (Nat.le_refl _)) hi hk)
    clear HSg
    go_wp2_with fail
    go_loopw [6, 7] (fun v d wr => ∃ (f done : Nat) (pre : List Int), pre ++ flF ps f done = flF ps 5 0 ∧ done < N ∧ opnN done ps.length ≤ f ∧ pre.length + f ≤ 5 ∧ d = .int .i64 done ∧ OwnI wr w1.heap.size v pre ∧ Below w1.heap.size w1 wr) (fun _ d _ => opnN (intOf d).toNat ps.length)
    case atStart => exact ⟨5, 0, [], rfl, hp1, Nat.le_trans (opn_le _ _) h5, by simp, rfl, O3.out, D3.out⟩
    case round =>
      obtain ⟨f, done, pre, hpre, hd, hop, hpl, rfl, ho, hb⟩ := hrel
      have HPre := Lib.hid hpre
      have HO := Lib.hid ho
      have HB := Lib.hid hb
      have HOp := Lib.hid hop
      clear hpre ho hb hop
      by_cases hlast : done = N - 1
      · subst hlast
        have HE2 : Hid (pre = flF ps 5 0) := by
          have := HPre.out
          rw [HEn.out, List.append_nil] at this
          exact this
        have hne : (((N - 1 : Nat) : Int) != ((N - 1 : Nat) : Int)) = false := by simp
        generalize (N - 1 : Nat) = M at HAll hne
        go_wp2_with (go_at_call 11; refine (HAll.out _ _ _).mono ?_; rintro e w4 ⟨rfl, rfl⟩)
        go_ret2
        exact ⟨_, rfl, by rw [HV.out, ← HE2.out]; exact OwnI.baseZ HO.out B1.out.size, B1.out.trans (HB.out.mono B1.out.size)⟩
      · have hne : ((done : Int) != ((N - 1 : Nat) : Int)) = true := by rw [bne_iff_ne]; omega
        have HStk := Lib.hid (HStp.out done hd hlast)
        have hf0 : 0 < f := by
          have := HStk.out
          have := HOp.out
          omega
        obtain ⟨f', rfl⟩ : ∃ f', f = f' + 1 := ⟨f - 1, by omega⟩
        have HNk := Lib.hid (HNx.out f' done hlast)
        have HLk := Lib.hid (HLt.out done hd)
        have hbl := HBl.out done
        have HBe : Hid (blkF ps done = setTo (srcB (actB ps) ps.length done) ps.length) := rfl
        have hor : bits .or .i64 (done : Int) ((blkF ps done : Nat) : Int) = ((done ||| blkF ps done : Nat) : Int) := or_nat _ _ (by omega) (by omega)
        clear hlast
        generalize (N - 1 : Nat) = M at HAll hne
        go_wp2_with (go_at_call 11; refine (HAll.out _ _ _).mono ?_; rintro e w4 ⟨rfl, rfl⟩)
        go_loop [8, 9] (fun bl q => ∃ k : Nat, k ≤ ps.length ∧ q = .int .i64 k ∧ bl = .int .i64 (setTo (srcB (actB ps) ps.length done) k : Nat)) (fun _ q => ps.length - (intOf q).toNat)
        case atStart => exact ⟨0, Nat.zero_le _, rfl, rfl⟩
        case round =>
          obtain ⟨k, hk, rfl, rfl⟩ := hrel
          by_cases hkn : k < ps.length
          · have hkw : (k : Int) < (ps.length : Int) := by omega
            have hDk := Lib.hid (fun W => l1Bit_ok (done : Int) (k : Int) W (by omega) (by omega) (by omega) (by omega))
            rw [Int.toNat_natCast, Int.toNat_natCast] at hDk
            have h0 := bit0 (s := done) (i := k)
            rw [← rdTo_zero (actB ps) done k] at h0
            have hbl0 := bN_lt done k
            generalize bN done k = u at hDk h0 hbl0
            go_wp2_with (go_at_call 12; refine (hDk.out _).mono ?_; rintro e w4 ⟨rfl, rfl⟩)
            clear hDk
            go_loop [10, 11] (fun rd q => ∃ j : Nat, j ≤ ps.length ∧ q = .int .i64 j ∧ rd = .bool (rdTo (actB ps) done k j)) (fun _ q => ps.length - (intOf q).toNat)
            case atStart => exact ⟨0, Nat.zero_le _, rfl, rfl⟩
            case round =>
              obtain ⟨j, hj, rfl, rfl⟩ := hrel
              clear h0
              by_cases hjn : j < ps.length
              · have hjw : (j : Int) < (ps.length : Int) := by omega
                have HRn := Lib.hid (rdTo_next (actB ps) done k j)
                cases hr : rdTo (actB ps) done k j with
                | false =>
                  have HR0 : Hid (rdTo (actB ps) done k (j + 1) = false) := by unfold Hid; rw [HRn.out, hr]; rfl
                  clear hr
                  go_wp2_with fail
                  go_round
                  case rel => exact ⟨j + 1, by omega, by go_num, by rw [HR0.out]⟩
                  case measure => simp [intOf]; omega
                | true =>
                  have HSj := Lib.hid (HSw.out j k wr HB.out hjn hkn)
                  obtain ⟨ha1, ha0⟩ := HAct.out j k
                  generalize sgV (upB (bitN ps k) j ps.length) (dnB (bitN ps k) j ps.length) = sv at HSj ha1 ha0
                  cases hA : actB ps j k with
                  | false =>
                    have hs0 := ha0 hA
                    subst hs0
                    have HR0 : Hid (rdTo (actB ps) done k (j + 1) = true) := by unfold Hid; rw [HRn.out, hr, hA]; simp
                    clear hr hA ha1 ha0
                    go_wp2_with fail
                    refine HSj.out.mono ?_
                    rintro e w5 ⟨rfl, rfl⟩
                    go_wp2_with fail
                    go_round
                    case rel => exact ⟨j + 1, by omega, by go_num, by rw [HR0.out]⟩
                    case measure => simp [intOf]; omega
                  | true =>
                    have hs1 := ha1 hA
                    have hs2 : ((sv : Int) == 0) = false := by rw [beq_eq_false_iff_ne]; omega
                    have HR0 : Hid (rdTo (actB ps) done k (j + 1) = done.testBit j) := by unfold Hid; rw [HRn.out, hr, hA]; simp
                    have hDj := Lib.hid (fun W => l1Bit_ok (done : Int) (j : Int) W (by omega) (by omega) (by omega) (by omega))
                    rw [Int.toNat_natCast, Int.toNat_natCast] at hDj
                    have h1 := bit1 (s := done) (i := j)
                    have hbl1 := bN_lt done j
                    generalize bN done j = u1 at hDj h1 hbl1
                    generalize done.testBit j = tb at h1 HR0
                    clear hr hA ha1 ha0
                    go_wp2_with fail
                    refine HSj.out.mono ?_
                    rintro e w5 ⟨rfl, rfl⟩
                    go_wp2_with fail
                    refine (hDj.out _).mono ?_
                    rintro e w5 ⟨rfl, rfl⟩
                    go_wp2_with fail
                    go_round
                    case rel => exact ⟨j + 1, by omega, by go_num, by rw [HR0.out]⟩
                    case measure => simp [intOf]; omega
              · obtain rfl : j = ps.length := by omega
                have he := rdTo_end (actB ps) ps.length done k
                have hor2 := or_shl (setTo (srcB (actB ps) ps.length done) k) k (setTo_lt63 _ _ (by omega)) (by omega)
                cases hs : srcB (actB ps) ps.length done k with
                | false =>
                  have HT := Lib.hid (setTo_miss hs)
                  rw [hs] at he
                  simp only [he]
                  clear hs he hor2
                  go_wp2_with fail
                  go_round
                  case rel => exact ⟨k + 1, by omega, by go_num, by rw [HT.out]⟩
                  case measure => simp [intOf]; omega
                | true =>
                  have HT := Lib.hid (setTo_hit hs)
                  rw [hs] at he
                  simp only [he]
                  clear hs he
                  go_wp2_with fail
                  go_round
                  case rel => exact ⟨k + 1, by omega, by go_num, by rw [HT.out]⟩
                  case measure => simp [intOf]; omega
          · obtain rfl : k = ps.length := by omega
            rw [← HBe.out]
            have HLast : Hid (pre ++ [((blkF ps done : Nat) : Int)] ++ flF ps f' (done ||| blkF ps done) = flF ps 5 0) := by
              have := HPre.out
              rw [HNk.out] at this
              rw [← this, List.append_assoc]; rfl
            generalize (done ||| blkF ps done : Nat) = d2 at hor HLk HStk HLast
            generalize (blkF ps done : Nat) = bk at hor hbl HLast
            go_wp2_with (at_builtin; refine wpList_appI (OwnI.alloc HO.out _) (RowI.one _ _) rfl _ _ rfl rfl rfl (by omega) (by have := HB.out.size; simp; omega) ?_; intro v6 w6 o6 g6)
            go_roundw
            case rel => exact ⟨f', d2, _, HLast.out, HLk.out, by have := HStk.out; have := HOp.out; omega, by simp; omega, rfl, o6, (HB.out.alloc HB.out.size _).grown g6 (by have := HB.out.size; simp; omega) (fun j hj => (World.ownsRow.lt HO.out j hj).1)⟩
            case measure => simp only [intOf, Int.toNat_natCast]; exact HStk.out

end Go.Proofs.YtfopimahnmpciaaDoor
