/- The law FnNumbers. -/
import Derived.Test.YtlfadpfodmpneaaDoorNu9
import Derived.Test.YtlfadpfodmpneaaDoorF3
import Derived.Test.YtlfadpfodmpneaaDoorBn
import Derived.Deep.RegionLaw
namespace Go.Proofs.YtlfadpfodmpneaaDoor
open Go.RowKit

theorem fitB_parts (z : Int) : fitB z = (decide (0 ≤ z) && decide (z ≤ 1000000)) := rfl

set_option maxHeartbeats 8000000 in
theorem FnNumbers_ok (ao : Option Addr) (l c : Nat) (cs : List Int) (ao' : Option Addr) (l' c' : Nat) (cs' : List Int) (w : World) (h : RowU w ao l c cs) (h' : RowU w ao' l' c' cs') (hp : PowIs w) (he : ErrsAre w) (hm : MaxLenIs w) :
    Calls Tryd.prog 5 #[.slice ao l c, .slice ao' l' c'] w fun e w' => e = .returned (.bool true) ∧ Below w.heap.size w w' := by
  go_enter Tryd.func5, Tryd.ntmps5
  by_cases hb0 : 1048576 < l
  · go_wp2
    go_ret
    exact ⟨rfl, Below.refl _ _⟩
  by_cases hb1 : 1048576 < l'
  · go_wp2
    go_ret
    exact ⟨rfl, Below.refl _ _⟩
  have hl : l ≤ 1048576 := by omega
  have hl' : l' ≤ 1048576 := by omega
  have HM := Lib.hid (fun W (hW : Below w.heap.size w W) => hm.below hW (Nat.le_refl _))
  have HP := Lib.hid (fun W (hW : Below w.heap.size w W) => hp.below hW (Nat.le_refl _))
  have HE := Lib.hid (fun W (hW : Below w.heap.size w W) => he.below hW (Nat.le_refl _))
  have HD1 := Lib.hid (drawFN_ok ao l c cs w h hl)
  have HD2 := Lib.hid (fun W (hW : Below w.heap.size w W) => drawPN_ok ao' l' c' cs' W (h'.below hW (Nat.le_refl _)) hl')
  have HD3 := Lib.hid (fun W (hW : Below w.heap.size w W) => drawFS_ok ao' l' c' cs' W (h'.below hW (Nat.le_refl _)) hl')
  clear hm hp he h h' hb0 hb1
  go_wp2_with fail
  refine HD1.out.mono ?_
  rintro e w1 ⟨v1, zs, rfl, o1, h4, hir, b1⟩
  obtain ⟨va, vc, rfl, q1⟩ := o1.out
  have B1 := Lib.hid b1
  have Q1 := Lib.hid q1
  have HIr := Lib.hid hir
  obtain ⟨hz1, hz0⟩ := nusV_bnd hir h4
  obtain ⟨hbk, hbv⟩ := back_ok (zs := zs) (by omega)
  have HBk := Lib.hid hbk
  have HBv := Lib.hid hbv
  have HF1 := Lib.hid (nusI_ok va zs.length vc zs w1 q1.rowI hir (by omega) (HP.out _ b1))
  have HF2 := Lib.hid (fun W (hW : Below w1.heap.size w1 W) => nusS_ok va zs.length vc zs W (q1.rowI.below hW (Nat.le_refl _)) hir (by omega))
  have HF3 := Lib.hid (fun W (hW : Below w.heap.size w W) => pnI_ok (nusV zs) W (by omega) (HM.out W hW) (HP.out W hW) (HE.out W hW))
  generalize nusV zs = u at HF1 HF2 HF3 HBk HBv hz1 hz0
  clear o1 q1 b1 hir hbk hbv
  go_wp2_with fail
  refine HF1.out.mono ?_
  rintro e w2 ⟨rfl, b2⟩
  have B2 := Lib.hid b2
  clear b2
  go_wp2_with fail
  refine (HF2.out _ B2.out).mono ?_
  rintro e w3 ⟨rfl, b3⟩
  have B3 := Lib.hid (B2.out.trans (b3.mono B2.out.size))
  have hL32 : zs.length ≤ 4 := h4
  clear b3
  go_wp2_with fail
  go_loopw [7, 8] (fun v q wr => ∃ k : Nat, k ≤ zs.length ∧ q = .int .i64 k ∧ v = .bool (fitTo zs k) ∧ wr = w3) (fun _ q _ => zs.length - (intOf q).toNat)
  case atStart => exact ⟨0, Nat.zero_le _, rfl, by rw [fitTo_zero], rfl⟩
  case round =>
    obtain ⟨k, hk, rfl, rfl, rfl⟩ := hrel
    by_cases hlt : k < zs.length
    · have hlt' : (k : Int) < (zs.length : Int) := by omega
      have HNx := Lib.hid (fitTo_next zs k)
      have r3 := Q1.out.rowI.below B3.out (Nat.le_refl _)
      obtain ⟨b, o, rfl, hbo⟩ := r3.2.some (by omega)
      have hcx := r3.2.cell b o rfl k hlt
      clear r3
      cases hf : fitTo zs k with
      | false =>
        rw [hf] at HNx
        go_wp2_with fail
        go_roundw
        case rel => exact ⟨k + 1, by omega, by go_num, by rw [HNx.out]; rfl, trivial⟩
        case measure => simp [intOf]; omega
      | true =>
        rw [hf] at HNx
        by_cases h0 : 0 ≤ gI zs k
        · by_cases h1 : gI zs k ≤ 1000000
          · have hft : fitB (gI zs k) = true := by simp [fitB]; omega
            rw [hft] at HNx
            generalize gI zs k = x at *
            go_wp2_with fail
            go_roundw
            case rel => exact ⟨k + 1, by omega, by go_num, by rw [HNx.out]; rfl, trivial⟩
            case measure => simp [intOf]; omega
          · have hft : fitB (gI zs k) = false := by simp [fitB]; omega
            rw [hft] at HNx
            generalize gI zs k = x at *
            go_wp2_with fail
            go_roundw
            case rel => exact ⟨k + 1, by omega, by go_num, by rw [HNx.out]; rfl, trivial⟩
            case measure => simp [intOf]; omega
        · have hft : fitB (gI zs k) = false := by simp [fitB]; omega
          rw [hft] at HNx
          generalize gI zs k = x at *
          go_wp2_with fail
          go_roundw
          case rel => exact ⟨k + 1, by omega, by go_num, by rw [HNx.out]; rfl, trivial⟩
          case measure => simp [intOf]; omega
    · obtain rfl : k = zs.length := by omega
      have B3' := Lib.hid (B1.out.trans (B3.out.mono B1.out.size))
      have HF4 := Lib.hid (HF3.out _ B3'.out)
      rw [HBk.out] at HF4
      generalize hft : fitTo zs zs.length = fl at HF4 HBv HBk
      go_wp2_with fail
      refine HF4.out.mono ?_
      rintro e w4 ⟨ab, lb, rfl, qb, b4⟩
      have B4 := Lib.hid (B3'.out.trans (b4.mono B3'.out.size))
      cases fl with
      | false =>
        have B5 := Lib.hid B4.out
        clear qb b4 B4
        go_wp2_with fail
        refine (HD2.out _ B5.out).mono ?_
        rintro e w6 ⟨t, rfl, ht, b6⟩
        have B6 := Lib.hid (B5.out.trans (b6.mono B5.out.size))
        have HI7 := Lib.hid (pnI_ok t w6 ht (HM.out _ B6.out) (HP.out _ B6.out) (HE.out _ B6.out))
        have HS8 := Lib.hid (fun W => pnS_ok t W ht)
        have HT := Lib.hid (text_back (t := t))
        have hr2 := pnV_inR (cutsP 32 t)
        have hl2 := pnV_len (cutsP 32 t)
        generalize pnV (cutsP 32 t) = zs2 at HI7 HS8 HT hr2 hl2
        generalize pnB (cutsP 32 t) = fl2 at HI7 HS8 HT
        have HR2 := Lib.hid hr2
        clear b6 hr2
        go_wp2_with fail
        refine HI7.out.mono ?_
        rintro e w7 ⟨a7, l7, rfl, q7, b7⟩
        obtain rfl := q7.1
        have Q7 := Lib.hid q7.rowI
        have B7 := Lib.hid (B6.out.trans (b7.mono B6.out.size))
        clear q7 b7
        go_wp2_with fail
        refine (HS8.out w7).mono ?_
        rintro e w8 ⟨v8, rfl, o8, b8⟩
        obtain ⟨a8, c8, rfl, q8⟩ := o8.out
        have Q8 := Lib.hid q8.rowI
        have Q78 := Lib.hid (Q7.out.below b8 (Nat.le_refl _))
        have B8 := Lib.hid (B7.out.trans (b8.mono B7.out.size))
        clear o8 q8 b8
        go_wp2_with fail
        refine (HD3.out _ B8.out).mono ?_
        rintro e w9 ⟨v9, ss, nn, rfl, o9, h94, b9⟩
        obtain ⟨a9, c9, rfl, q9⟩ := o9.out
        have Q89 := Lib.hid (Q8.out.below b9 (Nat.le_refl _))
        have Q79 := Lib.hid (Q78.out.below b9 (Nat.le_refl _))
        have Q9 := Lib.hid q9.rowI
        have B9 := Lib.hid (B8.out.trans (b9.mono B8.out.size))
        have HSm := Lib.hid (bnSame_ok a7 a8 _ _ zs2 w9 Q79.out Q89.out)
        clear o9 q9 b9
        go_wp2_with fail
        refine HSm.out.mono ?_
        rintro e w10 ⟨rfl, b10⟩
        have B10 := Lib.hid (B9.out.trans (b10.mono B9.out.size))
        have Q710 := Lib.hid (Q79.out.below b10 (Nat.le_refl _))
        have Q910 := Lib.hid (Q9.out.below b10 (Nat.le_refl _))
        have hss : ss.length ≤ 1048576 := by omega
        clear b10
        cases fl2 with
        | false =>
          go_wp2_with fail
          refine (fssI_ok _ _ _ ss nn w10 Q910.out hss).mono ?_
          rintro e w12 ⟨rfl, b12⟩
          have B12 := Lib.hid (B10.out.trans (b12.mono B10.out.size))
          have Q912 := Lib.hid (Q910.out.below b12 (Nat.le_refl _))
          have HFs := Lib.hid (fssS_ok _ _ _ ss nn w12 Q912.out hss)
          generalize stsV ss nn = y at HFs
          clear b12
          go_wp2_with fail
          refine HFs.out.mono ?_
          rintro e w13 ⟨rfl, b13⟩
          go_wp2_with fail
          go_ret
          exact ⟨rfl, B12.out.trans (b13.mono B12.out.size)⟩
        | true =>
          have HN := Lib.hid (nusI_ok a7 _ _ zs2 w10 Q710.out HR2.out (by omega) (HP.out _ B10.out))
          rw [HT.out rfl] at HN
          go_wp2_with fail
          refine HN.out.mono ?_
          rintro e w11 ⟨rfl, b11⟩
          have B11 := Lib.hid (B10.out.trans (b11.mono B10.out.size))
          have Q911 := Lib.hid (Q910.out.below b11 (Nat.le_refl _))
          clear b11
          go_wp2_with fail
          refine (fssI_ok _ _ _ ss nn w11 Q911.out hss).mono ?_
          rintro e w12 ⟨rfl, b12⟩
          have B12 := Lib.hid (B11.out.trans (b12.mono B11.out.size))
          have Q912 := Lib.hid (Q911.out.below b12 (Nat.le_refl _))
          have HFs := Lib.hid (fssS_ok _ _ _ ss nn w12 Q912.out hss)
          generalize stsV ss nn = y at HFs
          clear b12
          go_wp2_with fail
          refine HFs.out.mono ?_
          rintro e w13 ⟨rfl, b13⟩
          go_wp2_with fail
          go_ret
          exact ⟨rfl, B12.out.trans (b13.mono B12.out.size)⟩
      | true =>
        rw [HBv.out rfl] at qb
        obtain rfl := qb.1
        have HS5 := Lib.hid (bnSame_ok ab va _ _ zs w4 qb.rowI ((Q1.out.rowI.below B3.out (Nat.le_refl _)).below b4 (by have := B3.out.size; omega)))
        clear qb b4
        go_wp2_with fail
        refine HS5.out.mono ?_
        rintro e w5 ⟨rfl, b5⟩
        have B5 := Lib.hid (B4.out.trans (b5.mono B4.out.size))
        clear b5
        go_wp2_with fail
        refine (HD2.out _ B5.out).mono ?_
        rintro e w6 ⟨t, rfl, ht, b6⟩
        have B6 := Lib.hid (B5.out.trans (b6.mono B5.out.size))
        have HI7 := Lib.hid (pnI_ok t w6 ht (HM.out _ B6.out) (HP.out _ B6.out) (HE.out _ B6.out))
        have HS8 := Lib.hid (fun W => pnS_ok t W ht)
        have HT := Lib.hid (text_back (t := t))
        have hr2 := pnV_inR (cutsP 32 t)
        have hl2 := pnV_len (cutsP 32 t)
        generalize pnV (cutsP 32 t) = zs2 at HI7 HS8 HT hr2 hl2
        generalize pnB (cutsP 32 t) = fl2 at HI7 HS8 HT
        have HR2 := Lib.hid hr2
        clear b6 hr2
        go_wp2_with fail
        refine HI7.out.mono ?_
        rintro e w7 ⟨a7, l7, rfl, q7, b7⟩
        obtain rfl := q7.1
        have Q7 := Lib.hid q7.rowI
        have B7 := Lib.hid (B6.out.trans (b7.mono B6.out.size))
        clear q7 b7
        go_wp2_with fail
        refine (HS8.out w7).mono ?_
        rintro e w8 ⟨v8, rfl, o8, b8⟩
        obtain ⟨a8, c8, rfl, q8⟩ := o8.out
        have Q8 := Lib.hid q8.rowI
        have Q78 := Lib.hid (Q7.out.below b8 (Nat.le_refl _))
        have B8 := Lib.hid (B7.out.trans (b8.mono B7.out.size))
        clear o8 q8 b8
        go_wp2_with fail
        refine (HD3.out _ B8.out).mono ?_
        rintro e w9 ⟨v9, ss, nn, rfl, o9, h94, b9⟩
        obtain ⟨a9, c9, rfl, q9⟩ := o9.out
        have Q89 := Lib.hid (Q8.out.below b9 (Nat.le_refl _))
        have Q79 := Lib.hid (Q78.out.below b9 (Nat.le_refl _))
        have Q9 := Lib.hid q9.rowI
        have B9 := Lib.hid (B8.out.trans (b9.mono B8.out.size))
        have HSm := Lib.hid (bnSame_ok a7 a8 _ _ zs2 w9 Q79.out Q89.out)
        clear o9 q9 b9
        go_wp2_with fail
        refine HSm.out.mono ?_
        rintro e w10 ⟨rfl, b10⟩
        have B10 := Lib.hid (B9.out.trans (b10.mono B9.out.size))
        have Q710 := Lib.hid (Q79.out.below b10 (Nat.le_refl _))
        have Q910 := Lib.hid (Q9.out.below b10 (Nat.le_refl _))
        have hss : ss.length ≤ 1048576 := by omega
        clear b10
        cases fl2 with
        | false =>
          go_wp2_with fail
          refine (fssI_ok _ _ _ ss nn w10 Q910.out hss).mono ?_
          rintro e w12 ⟨rfl, b12⟩
          have B12 := Lib.hid (B10.out.trans (b12.mono B10.out.size))
          have Q912 := Lib.hid (Q910.out.below b12 (Nat.le_refl _))
          have HFs := Lib.hid (fssS_ok _ _ _ ss nn w12 Q912.out hss)
          generalize stsV ss nn = y at HFs
          clear b12
          go_wp2_with fail
          refine HFs.out.mono ?_
          rintro e w13 ⟨rfl, b13⟩
          go_wp2_with fail
          go_ret
          exact ⟨rfl, B12.out.trans (b13.mono B12.out.size)⟩
        | true =>
          have HN := Lib.hid (nusI_ok a7 _ _ zs2 w10 Q710.out HR2.out (by omega) (HP.out _ B10.out))
          rw [HT.out rfl] at HN
          go_wp2_with fail
          refine HN.out.mono ?_
          rintro e w11 ⟨rfl, b11⟩
          have B11 := Lib.hid (B10.out.trans (b11.mono B10.out.size))
          have Q911 := Lib.hid (Q910.out.below b11 (Nat.le_refl _))
          clear b11
          go_wp2_with fail
          refine (fssI_ok _ _ _ ss nn w11 Q911.out hss).mono ?_
          rintro e w12 ⟨rfl, b12⟩
          have B12 := Lib.hid (B11.out.trans (b12.mono B11.out.size))
          have Q912 := Lib.hid (Q911.out.below b12 (Nat.le_refl _))
          have HFs := Lib.hid (fssS_ok _ _ _ ss nn w12 Q912.out hss)
          generalize stsV ss nn = y at HFs
          clear b12
          go_wp2_with fail
          refine HFs.out.mono ?_
          rintro e w13 ⟨rfl, b13⟩
          go_wp2_with fail
          go_ret
          exact ⟨rfl, B12.out.trans (b13.mono B12.out.size)⟩

end Go.Proofs.YtlfadpfodmpneaaDoor
