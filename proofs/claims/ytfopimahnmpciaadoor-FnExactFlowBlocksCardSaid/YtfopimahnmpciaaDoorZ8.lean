/- Walks: FlowBlocks by the program. -/
import Derived.Test.YtfopimahnmpciaaDoorZ7
namespace Go.Proofs.YtfopimahnmpciaaDoor
open Go.RowKit

set_option maxHeartbeats 1000000 in
theorem ClipZ_ok (ao : Option Addr) (n c : Nat) (w : World) (hn : n ≤ c) (hc : c ≤ maxLen) (ha : ao = none → c = 0) (hs : ∀ a, ao = some a → ∃ b o, a = ⟨b, o, none⟩) :
    Calls Tryd.prog 18 #[.slice ao n c] w fun e w' => e = .returned (.slice ao n n) ∧ w = w' := by
  unfold maxLen at hc
  cases ao with
  | none =>
    obtain rfl := ha rfl
    obtain rfl : n = 0 := by omega
    go_enter Tryd.func18, Tryd.ntmps18
    go_wp2
    go_ret
    exact ⟨rfl, rfl⟩
  | some a =>
    obtain ⟨b, o, rfl⟩ := hs a rfl
    go_enter Tryd.func18, Tryd.ntmps18
    go_wp2
    go_ret
    exact ⟨rfl, rfl⟩
theorem OwnI.outZ {w : World} {B : Nat} {v : Value} {zs : List Int} (h : OwnI w B v zs) : ∃ ao c, v = .slice ao zs.length c ∧ OutI w B ao zs.length c zs ∧ (∀ a, ao = some a → ∃ b o, a = ⟨b, o, none⟩) := by
  have h0 := h
  obtain ⟨_, ⟨rfl, hn⟩ | ⟨g, cap, cur, rfl, hg, hh, hle, hm, hs, ht⟩⟩ := h
  · obtain ⟨ao, c, e, ho⟩ := h0.out
    injection e with e1 e2 e3
    exact ⟨ao, c, by rw [← e1, ← e2, ← e3], ho, fun a ha => by rw [← e1] at ha; cases ha⟩
  · obtain ⟨ao, c, e, ho⟩ := h0.out
    injection e with e1 e2 e3
    exact ⟨ao, c, by rw [← e1, ← e3], ho, fun a ha => by rw [← e1] at ha; cases ha; exact ⟨_, _, rfl⟩⟩
theorem OutI.clipZ {w : World} {B : Nat} {ao : Option Addr} {n c : Nat} {zs : List Int} (h : OutI w B ao n c zs) : OutI w B ao n n zs :=
  ⟨h.1, ⟨Nat.le_refl _, Nat.le_trans h.2.row.le h.2.row.cap, fun e => by have := h.2.row.nil e; have := h.2.row.le; omega, h.2.row.some, h.2.row.cell⟩, h.2.own, h.2.lt, h.2.free⟩

theorem outNil (w : World) (B : Nat) : OutI w B none 0 0 [] := ⟨rfl, ⟨⟨Nat.le_refl _, Nat.zero_le _, fun _ => rfl, fun h => absurd h (Nat.lt_irrefl _), fun b o e => by cases e⟩, fun a e => (by cases e), fun a e => (by cases e), fun b o e => by cases e⟩⟩
theorem OutI.baseZ {w : World} {B B' : Nat} {ao : Option Addr} {n c : Nat} {zs : List Int} (h : OutI w B ao n c zs) (hB : B' ≤ B) : OutI w B' ao n c zs := ⟨h.1, h.2.row, fun a e => Nat.le_trans hB (h.2.own a e), h.2.lt, h.2.free⟩
set_option maxRecDepth 100000 in
set_option maxHeartbeats 8000000 in
theorem fbI_ok (t : ByteArray) (w : World) (hs : t.size ≤ 1048576) (hm : MaxLenIs w) :
    Calls Tryd.prog 5 #[.string t] w fun e w' => ∃ a l, e = .returned (.tuple #[.slice a l l, .bool (flwB (cutsP 44 t))]) ∧ OutI w' w.heap.size a l l (fbV (cutsP 44 t)) ∧ Below w.heap.size w w' := by
  have HO := Lib.hid (readNetwork_ok t w hs hm)
  have hp0 := cutsP_pos 44 t
  generalize cutsP 44 t = ps at HO hp0 ⊢
  clear hm
  cases hb : netB ps with
  | false =>
    have hf : flwB ps = false := by rw [flwB, hb]; rfl
    have HV := Lib.hid (fbV_no hf)
    have HV2 := Lib.hid hf
    rw [hb] at HO
    clear hb hf
    go_enter Tryd.func5, Tryd.ntmps5
    go_wp2_with fail
    refine HO.out.mono ?_
    rintro e w1 ⟨v, rfl, o1, b1⟩
    clear o1
    go_wp2_with fail
    go_ret2
    exact ⟨none, 0, retv HV2.out.symm, by rw [HV.out]; exact outNil _ _, b1⟩
  | true =>
    have h5 := net_le hb hp0
    have HN := Lib.hid (netN_yes hb)
    have hlen := bitsN_len ps ps.length
    have HC := Lib.hid (fun ao c W h => circuits_ok ps hb h5 ao c W h)
    cases hc : cirB ps with
    | true =>
      have hf : flwB ps = false := by rw [flwB, hb, hc]; rfl
      have HV := Lib.hid (fbV_no hf)
      have HV2 := Lib.hid hf
      rw [hc] at HC
      rw [hb] at HO
      clear hb hf hc
      go_enter Tryd.func5, Tryd.ntmps5
      go_wp2_with fail
      refine HO.out.mono ?_
      rintro e w1 ⟨v, rfl, o1, b1⟩
      rw [HN.out] at o1
      obtain ⟨a, c, rfl, r1⟩ := o1.row (bitsN_wide ps ps.length)
      rw [hlen] at r1 ⊢
      have HC1 := Lib.hid (HC.out _ _ _ r1)
      have B1 := Lib.hid b1
      clear o1 r1 b1 HC hlen
      go_wp2_with fail
      refine HC1.out.mono ?_
      rintro e w2 ⟨za, zc, m, rfl, i2, l2, b2⟩
      have B2 := Lib.hid (B1.out.trans (b2.mono B1.out.size))
      have hm0 : (0 : Int) < (m : Int) := by have := i2.2 rfl; omega
      clear i2 b2
      go_wp2_with fail
      go_ret2
      exact ⟨none, 0, retv HV2.out.symm, by rw [HV.out]; exact outNil _ _, B2.out⟩
    | false =>
      have hf : flwB ps = true := by rw [flwB, hb, hc]; rfl
      obtain ⟨_, hcc⟩ := flw_get hf
      have HV := Lib.hid (fbV_yes hf)
      have HV2 := Lib.hid hf
      rw [hc] at HC
      rw [hb] at HO
      have hp : (2 ^ ps.length : Nat) ≤ 32 := Nat.pow_le_pow_right (n := 2) (by decide) h5
      have HStp := Lib.hid (fun done (hd : done < 2 ^ ps.length) (h : done ≠ 2 ^ ps.length - 1) => blk_step h5 hcc hd h)
      have HSts := Lib.hid (fun (ao : Option Addr) (c : Nat) W => states_ok ao ps.length c W (by omega))
      have HAc := Lib.hid (fun ao c i W (h : RowN W ao ps.length c ps.length (bitsN ps ps.length)) (hi : i < ps.length) => acts_ok ao c ps i W h hb h5 hi)
      have HNx := Lib.hid (fun f done (h : done ≠ 2 ^ ps.length - 1) => flF_next (ps := ps) (f := f) h)
      have HEn := Lib.hid (fun f => flF_end ps f)
      have HLt := Lib.hid (fun done (hd : done < 2 ^ ps.length) => blk_or_lt (ps := ps) hd)
      have HBl := Lib.hid (fun done => blkF_lt ps done)
      have HBt := Lib.hid (fun j k (hk : k < ps.length) => acts_bit (ps := ps) (i := j) hk)
      have hp1 : 0 < 2 ^ ps.length := Nat.two_pow_pos _
      have HAL := Lib.hid (fun j => acts_lt ps j h5)
      clear hb hf hc hcc
      generalize (2 ^ ps.length : Nat) = N at hp hp1 HStp HSts HNx HEn HLt HBl
      go_enter Tryd.func5, Tryd.ntmps5
      go_wp2_with fail
      refine HO.out.mono ?_
      rintro e w1 ⟨v, rfl, o1, b1⟩
      rw [HN.out] at o1
      obtain ⟨a, c, rfl, r1⟩ := o1.row (bitsN_wide ps ps.length)
      rw [hlen] at r1 ⊢
      have HR1 := Lib.hid r1
      have HC1 := Lib.hid (HC.out _ _ _ r1)
      have B1 := Lib.hid b1
      clear o1 r1 b1 HC hlen
      go_wp2_with fail
      refine HC1.out.mono ?_
      rintro e w2 ⟨za, zc, m, rfl, i2, l2, b2⟩
      have D2 := Lib.hid b2
      obtain rfl : m = 0 := by
        refine Classical.byContradiction fun h => ?_
        have := i2.1 (by omega)
        cases this
      clear i2 b2 l2
      have HAw := Lib.hid (fun i W (hW : Below w1.heap.size w1 W) hi => HAc.out a c i W (HR1.out.below hW (Nat.le_refl _)) hi)
      clear HAc
      go_wp2_with fail
      go_loopw [6, 7] (fun v d wr => ∃ (f done : Nat) (pre : List Int), pre ++ flF ps f done = flF ps 5 0 ∧ done < N ∧ opnN done ps.length ≤ f ∧ pre.length + f ≤ 5 ∧ d = .int .i64 done ∧ OwnI wr w1.heap.size v pre ∧ Below w1.heap.size w1 wr) (fun _ d _ => opnN (intOf d).toNat ps.length)
      case atStart => exact ⟨5, 0, [], rfl, hp1, Nat.le_trans (opn_le _ _) h5, by simp, rfl, OwnI.nil _ _, D2.out⟩
      case round =>
        obtain ⟨f, done, pre, hpre, hd, hop, hpl, rfl, ho, hb⟩ := hrel
        have HPre := Lib.hid hpre
        have HO := Lib.hid ho
        have HB := Lib.hid hb
        have HOp := Lib.hid hop
        clear hpre ho hb hop
        by_cases hlast : done = N - 1
        · have HE2 : Hid (pre = flF ps 5 0) := by
            have := HPre.out
            rw [hlast, HEn.out, List.append_nil] at this
            exact this
          have hne : ((done : Int) != ((N : Int) - 1)) = false := by rw [hlast]; simp; omega
          obtain ⟨oa, oc, rfl, q, hsp⟩ := HO.out.outZ
          have HClp := Lib.hid (fun W => ClipZ_ok oa pre.length oc W q.2.row.le q.2.row.cap q.2.row.nil hsp)
          have HQ := Lib.hid q
          clear q hsp hlast
          go_wp2_with (go_at_call 16; refine (HSts.out _ _ _).mono ?_; rintro e w4 ⟨rfl, rfl⟩)
          refine (HClp.out _).mono ?_
          rintro e w4 ⟨rfl, rfl⟩
          go_wp2_with fail
          go_ret2
          exact ⟨oa, _, retv HV2.out.symm, by rw [HV.out, ← HE2.out]; exact (HQ.out.baseZ B1.out.size).clipZ, B1.out.trans (HB.out.mono B1.out.size)⟩
        · have hne : ((done : Int) != ((N : Int) - 1)) = true := by rw [bne_iff_ne]; omega
          have HStk := Lib.hid (HStp.out done hd hlast)
          have hf0 : 0 < f := by
            have := HStk.out
            have := HOp.out
            omega
          obtain ⟨f', rfl⟩ : ∃ f', f = f' + 1 := ⟨f - 1, by omega⟩
          have HNk := Lib.hid (HNx.out f' done hlast)
          have HLk := Lib.hid (HLt.out done hd)
          have hbl := HBl.out done
          have HBe : Hid (blkF ps done = setTo (srcB (actB ps) ps.length done) ps.length) := rfl
          have hor : bits .or .i64 (done : Int) ((blkF ps done : Nat) : Int) = ((done ||| blkF ps done : Nat) : Int) := or_nat _ _ (by omega) (by omega)
          obtain ⟨oa, oc, rfl, _⟩ := HO.out.out
          clear hlast
          go_wp2_with (go_at_call 16; refine (HSts.out _ _ _).mono ?_; rintro e w4 ⟨rfl, rfl⟩)
          obtain ⟨wo, hwo⟩ : ∃ wo : World, wo = wr := ⟨_, rfl⟩
          subst hwo
          go_loopw [8, 32] (fun bl q wi => ∃ k : Nat, k ≤ ps.length ∧ q = .int .i64 k ∧ bl = .int .i64 (setTo (srcB (actB ps) ps.length done) k : Nat) ∧ OwnI wi w1.heap.size (.slice oa pre.length oc) pre ∧ Below w1.heap.size w1 wi) (fun _ q _ => ps.length - (intOf q).toNat)
          case atStart => exact ⟨0, Nat.zero_le _, rfl, rfl, HO.out, HB.out⟩
          case round =>
            obtain ⟨k, hk, rfl, rfl, ho2, hb2⟩ := hrel
            have HOk := Lib.hid ho2
            have HBk := Lib.hid hb2
            clear ho2 hb2
            by_cases hkn : k < ps.length
            · have hkw : (k : Int) < (ps.length : Int) := by omega
              have e1 : bits .and .i64 ((done : Int) / 2 ^ k) 1 = ((bN done k : Nat) : Int) := bit_int _ k (by omega) (by omega)
              have hbk := bN_tst done k
              have HSd : Hid (rdTo (actB ps) done k 0 = !done.testBit k) := rdTo_zero _ _ _
              have hor2 := or_shl (setTo (srcB (actB ps) ps.length done) k) k (setTo_lt63 _ _ (by omega)) (by omega)
              cases hdk : done.testBit k with
              | true =>
                rw [hdk, if_pos rfl] at hbk
                rw [hbk] at e1
                have hs : srcB (actB ps) ps.length done k = false := by rw [srcB, hdk]; rfl
                have HT := Lib.hid (setTo_miss hs)
                clear hbk hdk hs hor2
                go_wp2_with fail
                go_roundw
                case rel => exact ⟨k + 1, by omega, by go_num, by rw [HT.out], HOk.out, HBk.out⟩
                case measure => simp [intOf] <;> omega
              | false =>
                rw [hdk] at HSd hbk
                rw [if_neg (by decide)] at hbk
                rw [hbk] at e1
                clear hbk hdk
                go_wp2_with fail
                obtain ⟨wp, hwp⟩ : ∃ wp : World, wp = wr := ⟨_, rfl⟩
                subst hwp
                go_loopw [10, 42] (fun fr q wi => ∃ j : Nat, j ≤ ps.length ∧ q = .int .i64 j ∧ fr = .bool (rdTo (actB ps) done k j) ∧ OwnI wi w1.heap.size (.slice oa pre.length oc) pre ∧ Below w1.heap.size w1 wi) (fun _ q _ => ps.length - (intOf q).toNat)
                case atStart => exact ⟨0, Nat.zero_le _, rfl, by rw [HSd.out]; rfl, HOk.out, HBk.out⟩
                case round =>
                  obtain ⟨j, hj, rfl, rfl, ho3, hb3⟩ := hrel
                  have HOj := Lib.hid ho3
                  have HBj := Lib.hid hb3
                  clear ho3 hb3
                  by_cases hjn : j < ps.length
                  · have hjw : (j : Int) < (ps.length : Int) := by omega
                    have e2 : bits .and .i64 ((done : Int) / 2 ^ j) 1 = ((bN done j : Nat) : Int) := bit_int _ j (by omega) (by omega)
                    have hbj := bN_tst done j
                    have HRn := Lib.hid (rdTo_next (actB ps) done k j)
                    cases hr : rdTo (actB ps) done k j with
                    | false =>
                      have HR0 : Hid (rdTo (actB ps) done k (j + 1) = false) := by unfold Hid; rw [HRn.out, hr]; rfl
                      clear hr hbj
                      go_wp2_with fail
                      go_roundw
                      case rel => exact ⟨j + 1, by omega, by go_num, by rw [HR0.out], HOj.out, HBj.out⟩
                      case measure => simp [intOf] <;> omega
                    | true =>
                      cases hdj : done.testBit j with
                      | true =>
                        rw [hdj, if_pos rfl] at hbj
                        rw [hbj] at e2
                        have HR0 : Hid (rdTo (actB ps) done k (j + 1) = true) := by unfold Hid; rw [HRn.out, hr, hdj]; rfl
                        clear hr hbj hdj
                        go_wp2_with fail
                        go_roundw
                        case rel => exact ⟨j + 1, by omega, by go_num, by rw [HR0.out], HOj.out, HBj.out⟩
                        case measure => simp [intOf] <;> omega
                      | false =>
                        rw [hdj, if_neg (by decide)] at hbj
                        rw [hbj] at e2
                        have HAj := Lib.hid (HAw.out j wr HBj.out hjn)
                        have hal := HAL.out j
                        have e3 : bits .and .i64 ((actsN ps j : Int) / 2 ^ k) 1 = ((bN (actsN ps j) k : Nat) : Int) := bit_int _ k (by omega) (by omega)
                        have hb3 := HBt.out j k hkn
                        have HR0 : Hid (rdTo (actB ps) done k (j + 1) = !actB ps j k) := by unfold Hid; rw [HRn.out, hr, hdj]; simp
                        generalize actsN ps j = on at HAj hal e3 hb3
                        generalize bN on k = bk at e3 hb3
                        cases hA : actB ps j k with
                        | true =>
                          rw [hA, if_pos rfl] at hb3
                          rw [hb3] at e3
                          rw [hA] at HR0
                          clear hr hbj hdj hA hb3
                          go_wp2_with fail
                          refine HAj.out.mono ?_
                          rintro e w5 ⟨rfl, b5⟩
                          have C5 := Lib.hid (HBj.out.trans (b5.mono HBj.out.size))
                          have O5 := Lib.hid (HOj.out.belowZ b5 (Nat.le_refl _))
                          clear b5
                          go_wp2_with fail
                          go_roundw
                          case rel => exact ⟨j + 1, by omega, by go_num, by rw [HR0.out]; rfl, O5.out, C5.out⟩
                          case measure => simp [intOf] <;> omega
                        | false =>
                          rw [hA, if_neg (by decide)] at hb3
                          rw [hb3] at e3
                          rw [hA] at HR0
                          clear hr hbj hdj hA hb3
                          go_wp2_with fail
                          refine HAj.out.mono ?_
                          rintro e w5 ⟨rfl, b5⟩
                          have C5 := Lib.hid (HBj.out.trans (b5.mono HBj.out.size))
                          have O5 := Lib.hid (HOj.out.belowZ b5 (Nat.le_refl _))
                          clear b5
                          go_wp2_with fail
                          go_roundw
                          case rel => exact ⟨j + 1, by omega, by go_num, by rw [HR0.out]; rfl, O5.out, C5.out⟩
                          case measure => simp [intOf] <;> omega
                  · obtain rfl : j = ps.length := by omega
                    have he := rdTo_end (actB ps) ps.length done k
                    cases hs : srcB (actB ps) ps.length done k with
                    | false =>
                      have HT := Lib.hid (setTo_miss hs)
                      rw [hs] at he
                      simp only [he]
                      clear hs he hor2
                      go_wp2_with fail
                      go_roundw
                      case rel => exact ⟨k + 1, by omega, by go_num, by rw [HT.out], HOj.out, HBj.out⟩
                      case measure => simp [intOf] <;> omega
                    | true =>
                      have HT := Lib.hid (setTo_hit hs)
                      rw [hs] at he
                      simp only [he]
                      clear hs he
                      go_wp2_with fail
                      go_roundw
                      case rel => exact ⟨k + 1, by omega, by go_num, by rw [HT.out], HOj.out, HBj.out⟩
                      case measure => simp [intOf] <;> omega
            · obtain rfl : k = ps.length := by omega
              rw [← HBe.out]
              have HLast : Hid (pre ++ [((blkF ps done : Nat) : Int)] ++ flF ps f' (done ||| blkF ps done) = flF ps 5 0) := by
                have := HPre.out
                rw [HNk.out] at this
                rw [← this, List.append_assoc]; rfl
              generalize (done ||| blkF ps done : Nat) = d2 at hor HLk HStk HLast
              generalize (blkF ps done : Nat) = bk at hor hbl HLast
              go_wp2_with (at_builtin; refine wpList_appI (OwnI.alloc HOk.out _) (RowI.one _ _) rfl _ _ rfl rfl rfl (by omega) (by have := HBk.out.size; simp; omega) ?_; intro v6 w6 o6 g6)
              go_roundw
              case rel => exact ⟨f', d2, _, HLast.out, HLk.out, by have := HStk.out; have := HOp.out; omega, by simp; omega, rfl, o6, (HBk.out.alloc HBk.out.size _).grown g6 (by have := HBk.out.size; simp; omega) (fun j hj => (World.ownsRow.lt HOk.out j hj).1)⟩
              case measure => simp only [intOf, Int.toNat_natCast]; exact HStk.out

end Go.Proofs.YtfopimahnmpciaaDoor
