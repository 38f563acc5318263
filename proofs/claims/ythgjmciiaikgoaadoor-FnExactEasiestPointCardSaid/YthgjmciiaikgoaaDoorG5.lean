/- Walks: what a term spreads to, by the program. -/
import Derived.Test.YthgjmciiaikgoaaDoorG4
import Derived.Test.YthgjmciiaikgoaaDoorM5
import Derived.Test.YthgjmciiaikgoaaDoorH2
namespace Go.Proofs.YthgjmciiaikgoaaDoor
open Go.RowKit

/-- The bit of a table in a network. -/
theorem net_cell {w : World} {q o c : Nat} {ps : List ByteArray} (h : RowN w (some ⟨q, o, none⟩) ps.length c ps.length (bitsN ps ps.length)) (hn : netB ps = true) (h5 : ps.length ≤ 5) {i s : Nat} (hi : i < ps.length) (hs : s < 2 ^ ps.length) :
    w.cell? ⟨q, o + i * 33 + 1 + s, none⟩ = some (.int .u8 ((bitN ps i s : Nat) : Int)) := by
  have hp : (2 ^ ps.length : Nat) ≤ 32 := Nat.pow_le_pow_right (n := 2) (by decide) h5
  have hbs : (bitsN ps ps.length)[i]? = some (eachL (byD (gT ps i)) (gT ps i).size) := by simp [bitsN, hi]
  have := h.range q o rfl i _ hbs (1 + s) _ (tabC_get (ps.length : Int) (eachL (byD (gT ps i)) (gT ps i).size) s (by rw [eachL_len]; omega))
  rw [Nat.add_assoc, this, eachL_get _ _ _ (by omega) (by rw [net_size hn i hi]; exact hs), bitN_eq (netB_get hn i hi).1]

set_option maxRecDepth 100000 in
set_option maxHeartbeats 4000000 in
theorem spread_ok (ao : Option Addr) (c : Nat) (ps : List ByteArray) (t0 : ByteArray) (w : World) (h : RowN w ao ps.length c ps.length (bitsN ps ps.length)) (hn : netB ps = true) (ht : t0.data.toList.all isT = true) (hz : t0.size = ps.length) (h5 : ps.length ≤ 5) (h0 : 0 < ps.length) :
    Calls Tryd.prog 66 #[.slice ao ps.length c, .string t0] w fun e w' => e = .returned (.string ⟨(spL ps t0.data.toList).toArray⟩) ∧ Below w.heap.size w w' := by
  obtain ⟨q, o, rfl, hq⟩ := h.some h0
  have HC := Lib.hid (fun W i s (hW : Below w.heap.size w W) (hi : i < ps.length) (hs : s < 2 ^ ps.length) => net_cell (h.below hW (Nat.le_refl _)) hn h5 hi hs)
  have HBl := Lib.hid (fun i s (hi : i < ps.length) => bitN_lt (netB_get hn i hi).1 s)
  have HSt := Lib.hid (fun tb W (htb : tb.data.toList.all isT = true) (hzb : tb.size = ps.length) => statesOf_ok tb W htb (by omega))
  have HT := Lib.hid (fun k => spN_isT (ps := ps) ht k)
  have HLn := Lib.hid (fun k => spN_len ps t0.data.toList k)
  have HZ : Hid (t0.data.toList.length = ps.length) := hz
  have hst0 : stars t0.data.toList ≤ 5 := Nat.le_trans (stars_le _) (by rw [HZ.out]; exact h5)
  clear hn ht hz h
  go_enter Tryd.func66, Tryd.ntmps66
  go_wp2_with fail
  go_loopw [1] (fun v1 wr => ∃ k tb, v1 = .string tb ∧ tb.data.toList = spN ps t0.data.toList k ∧ k + stars tb.data.toList ≤ 5 ∧ Below w.heap.size w wr) (fun v1 _ => stars (strL v1))
  case atStart => exact ⟨0, t0, rfl, rfl, by omega, Below.refl _ _⟩
  case round =>
    obtain ⟨k, tb, rfl, hT, hk, hb⟩ := hrel
    have htT : tb.data.toList.all isT = true := by rw [hT]; exact HT.out k
    have htl : tb.data.toList.length = ps.length := by rw [hT, HLn.out k]; exact HZ.out
    have htz : tb.size = ps.length := htl
    have HTb := Lib.hid hT
    have HK := Lib.hid hk
    have HB := Lib.hid hb
    have hcv := run_bytes_of_string (P := Tryd.prog) wr 9 97 5 tb Tryd.underlying9 Tryd.underlying97 Tryd.underlying5
    have hcap := grownCap_ge wr tb.size 0 5
    generalize grownCap wr tb.size 0 5 = cap at hcv hcap
    have b1 : Below w.heap.size w (wr.drew.alloc (.cells (bytesRow tb cap) 5 ((bytesRow tb cap).size, (bytesRow tb cap).size + 1))) :=
      (show Below w.heap.size w wr.drew from ⟨hb.os, hb.tape, hb.output, hb.size, hb.block⟩).alloc hb.size _
    have Y1 := ByAt.conv wr.drew tb cap 5 hcap
    have hgw : w.heap.size ≤ wr.heap.size := hb.size
    rw [← mzL_zero ps] at Y1
    have HY1 := Lib.hid Y1
    have B1 := Lib.hid b1
    have HTt := Lib.hid htT
    have HTl := Lib.hid htl
    have HTz := Lib.hid htz
    clear hT hk hb b1 Y1 htT htl htz
    generalize hw1 : wr.drew.alloc (.cells (bytesRow tb cap) 5 ((bytesRow tb cap).size, (bytesRow tb cap).size + 1)) = w1 at hcv HY1 B1
    have hs1 : w1.heap.size = wr.heap.size + 1 := by rw [← hw1]; simp
    obtain ⟨wo, hwo⟩ : ∃ wo : World, wo = wr := ⟨_, rfl⟩
    go_wp2_with fail
    subst hwo
    clear hcv hw1
    go_loopw [14] (fun v14 wr => ∃ i : Nat, i ≤ ps.length ∧ v14 = .int .i64 i ∧ ByAt wr wo.heap.size (mzL ps tb.data.toList i) ∧ Below w.heap.size w wr) (fun v14 _ => ps.length - (intOf v14).toNat)
    case atStart => exact ⟨0, Nat.zero_le _, rfl, HY1.out, B1.out⟩
    case round =>
      obtain ⟨i, hi, rfl, hY, hb⟩ := hrel
      have HY := Lib.hid hY
      have HB2 := Lib.hid hb
      by_cases hlt : i < ps.length
      · have hlt' : (i : Int) < (tb.size : Int) := by rw [HTz.out]; omega
        have hil : i < tb.data.toList.length := by rw [HTl.out]; exact hlt
        have hil2 : i < (mzL ps tb.data.toList i).length := by rw [mzL_len]; exact hil
        have hcl := hY.cell i hil2
        have hfr := hY.free i hil2
        rw [mzL_get hil] at hcl
        have HSet := Lib.hid (fun W (h : ByAt W wo.heap.size (mzL ps tb.data.toList i)) (v : Int) => h.set i hil2 v)
        have HNs := Lib.hid (mzL_set (ps := ps) hil)
        clear hY hb hil2
        by_cases hst : tb.data.toList.getD i 42 = 42
        · rw [hst] at hcl
          have hg0 := HY.out.lt
          have hC3 : spC ps tb.data.toList i = if toB ps tb.data.toList i 0 = false then 49 else if toB ps tb.data.toList i 1 = false then 48 else 42 := by rw [spC, if_pos hst]
          have HC3 := Lib.hid hC3
          have HM := Lib.hid (fun h => mzL_same (ps := ps) (l := tb.data.toList) (k := i) h)
          have HS42 := Lib.hid hst
          have HSti := Lib.hid (fun W => HSt.out tb W HTt.out HTz.out)
          have HG := Lib.hid (fun k (h : k < (stL tb.data.toList (2 ^ tb.size)).length) => stL_get h)
          have HE0 := Lib.hid (tzB_end tb.data.toList ps i 0)
          have HE1 := Lib.hid (tzB_end tb.data.toList ps i 1)
          have hmax := stL_len tb.data.toList (2 ^ tb.size)
          have hp : (2 ^ tb.size : Nat) ≤ 32 := Nat.pow_le_pow_right (n := 2) (by decide) (show tb.size ≤ 5 by rw [HTz.out]; exact h5)
          have HCi := Lib.hid (fun W s (hW : Below w.heap.size w W) (hs : s < 2 ^ tb.size) => HC.out W i s hW hlt (by rw [← HTz.out]; exact hs))
          have HBi := Lib.hid (fun s => HBl.out i s hlt)
          have HE0' : Hid (tzB (stL tb.data.toList (2 ^ tb.size)) ps i 0 (stL tb.data.toList (2 ^ tb.size)).length = toB ps tb.data.toList i 0) := HE0.out
          have HE1' : Hid (tzB (stL tb.data.toList (2 ^ tb.size)) ps i 1 (stL tb.data.toList (2 ^ tb.size)).length = toB ps tb.data.toList i 1) := HE1.out
          clear hC3 hst HE0 HE1
          generalize (2 ^ tb.size : Nat) = N at HSti HG hmax hp HCi HE0' HE1'
          generalize stL tb.data.toList N = L at HSti HG hmax HE0' HE1'
          go_wp2_with fail
          refine (HSti.out _).mono ?_
          rintro e w2 ⟨a, m, rfl, oI, b2⟩
          obtain rfl := oI.1
          have hS := (Blk.new wr 98 [.bool false, .bool false])
          have hS2 := hS.below b2 (by simp)
          have hbW : Below wr.heap.size wr w2 := ((Below.refl wr.heap.size wr).alloc (Nat.le_refl _) _).trans (b2.mono (by simp))
          have R2 := Lib.hid oI.rowI
          have S2 := Lib.hid hS2
          have W2 := Lib.hid hbW
          have HNe : Hid (∀ a', a = some a' → some a'.block ≠ some wr.heap.size) := fun a' e e' => by
            have h1 := oI.2.own a' e
            have h2 : a'.block = wr.heap.size := by simpa using e'
            simp at h1
            omega
          clear oI b2 hS hS2 hbW
          obtain ⟨wi, hwi⟩ : ∃ wi : World, wi = wr := ⟨_, rfl⟩
          go_wp2_with fail
          subst hwi
          go_loopw [26] (fun v26 wr => ∃ j : Nat, j ≤ L.length ∧ v26 = .int .i64 j ∧ RowI wr a L.length L.length L ∧ Blk wr wi.heap.size 98 [.bool (tzB L ps i 0 j), .bool (tzB L ps i 1 j)] ∧ Below wi.heap.size wi wr) (fun v26 _ => L.length - (intOf v26).toNat)
          case atStart => exact ⟨0, Nat.zero_le _, rfl, R2.out, S2.out, W2.out⟩
          case round =>
            obtain ⟨j, hj, rfl, hR, hS, hbW⟩ := hrel
            have HR := Lib.hid hR
            have HSb := Lib.hid hS
            have HW := Lib.hid hbW
            have HBw := Lib.hid (HB2.out.trans (hbW.mono HB2.out.size))
            by_cases hjl : j < L.length
            · have hjl' : (j : Int) < (L.length : Int) := by omega
              obtain ⟨s, es, hsN, _⟩ := HG.out j hjl
              obtain ⟨ba, oa, rfl, hba⟩ := hR.2.some (by omega)
              have hcs := hR.2.cell ba oa rfl j hjl
              rw [es] at hcs
              have hct := HCi.out wr s HBw.out hsN
              have hbt := HBi.out s
              have hs32 : (s : Int) < 32 := by omega
              have HN0 := Lib.hid (tzB_next L ps i 0 j)
              have HN1 := Lib.hid (tzB_next L ps i 1 j)
              rw [es, Int.toNat_natCast] at HN0 HN1
              have hil' : (i : Int) < (ps.length : Int) := by omega
              clear hR hbW es
              generalize bitN ps i s = bv at hct hbt HN0 HN1
              generalize tzB L ps i 0 j = z0 at hS HSb HN0
              generalize tzB L ps i 1 j = z1 at hS HSb HN1
              rcases (show bv = 0 ∨ bv = 1 by omega) with rfl | rfl
              · have hc0 := hS.cell (i := 0) rfl
                have hf0 := hS.free 0
                have HSs := Lib.hid (hS.set 0 (.bool true))
                have E0 : Hid (tzB L ps i 0 (j + 1) = true) := by unfold Hid; rw [HN0.out]; simp
                have E1 : Hid (tzB L ps i 1 (j + 1) = z1) := by unfold Hid; rw [HN1.out]; simp
                clear hS HN0 HN1
                go_wp2_with fail
                go_roundw
                case rel => exact ⟨j + 1, by omega, by go_num, HR.out.grown (row := some wi.heap.size) (grownBy_setCell (World.grownBy.refl _ _) rfl _) HNe.out, by rw [E0.out, E1.out]; exact HSs.out, HW.out.setCell (Nat.le_refl _) _⟩
                case measure => simp [intOf] <;> omega
              · have hc0 := hS.cell (i := 1) rfl
                have hf0 := hS.free 1
                have HSs := Lib.hid (hS.set 1 (.bool true))
                have E0 : Hid (tzB L ps i 0 (j + 1) = z0) := by unfold Hid; rw [HN0.out]; simp
                have E1 : Hid (tzB L ps i 1 (j + 1) = true) := by unfold Hid; rw [HN1.out]; simp
                clear hS HN0 HN1
                go_wp2_with fail
                go_roundw
                case rel => exact ⟨j + 1, by omega, by go_num, HR.out.grown (row := some wi.heap.size) (grownBy_setCell (World.grownBy.refl _ _) rfl _) HNe.out, by rw [E0.out, E1.out]; exact HSs.out, HW.out.setCell (Nat.le_refl _) _⟩
                case measure => simp [intOf] <;> omega
            · obtain rfl : j = L.length := by omega
              have hjl' : ¬ (L.length : Int) < (L.length : Int) := by omega
              have hY2 := HY.out.below hbW (Nat.le_refl _)
              have hil2 : i < (mzL ps tb.data.toList i).length := by rw [mzL_len]; exact hil
              have hcl2 := hY2.cell i hil2
              have hfr2 := hY2.free i hil2
              have HY2 := Lib.hid hY2
              rw [HE0'.out, HE1'.out] at hS
              have hc0 := hS.cell (i := 0) rfl
              have hc1 := hS.cell (i := 1) rfl
              clear hR hbW hY2 hil2 hS hcl
              cases hz0 : toB ps tb.data.toList i 0 with
              | false =>
                have HX : Hid (spC ps tb.data.toList i = 49) := by unfold Hid; rw [HC3.out, if_pos hz0]
                rw [hz0] at hc0
                clear hz0 hc1
                have HQ := Lib.hid (HSet.out wr HY2.out 49)
                have HNx : Hid ((mzL ps tb.data.toList i).set i 49 = mzL ps tb.data.toList (i + 1)) := by
                  have := HNs.out
                  rw [HX.out] at this
                  exact this
                generalize gI (mzL ps tb.data.toList i) i = x at hcl2
                go_wp2_with fail
                go_roundw
                case rel => exact ⟨i + 1, by omega, by go_num, by rw [← HNx.out]; exact HQ.out, HBw.out.setCell hgw _⟩
                case measure => simp [intOf] <;> omega
              | true =>
                rw [hz0] at hc0
                cases hz1 : toB ps tb.data.toList i 1 with
                | false =>
                  have HX : Hid (spC ps tb.data.toList i = 48) := by unfold Hid; rw [HC3.out, if_neg (by rw [hz0]; decide), if_pos hz1]
                  rw [hz1] at hc1
                  clear hz0 hz1
                  have HQ := Lib.hid (HSet.out wr HY2.out 48)
                  have HNx : Hid ((mzL ps tb.data.toList i).set i 48 = mzL ps tb.data.toList (i + 1)) := by
                    have := HNs.out
                    rw [HX.out] at this
                    exact this
                  generalize gI (mzL ps tb.data.toList i) i = x at hcl2
                  go_wp2_with fail
                  go_roundw
                  case rel => exact ⟨i + 1, by omega, by go_num, by rw [← HNx.out]; exact HQ.out, HBw.out.setCell hgw _⟩
                  case measure => simp [intOf] <;> omega
                | true =>
                  have HX : Hid (spC ps tb.data.toList i = tb.data.toList.getD i 42) := by unfold Hid; rw [HC3.out, if_neg (by rw [hz0]; decide), if_neg (by rw [hz1]; decide), HS42.out]
                  rw [hz1] at hc1
                  clear hz0 hz1
                  have HNx := Lib.hid (HM.out HX.out)
                  generalize gI (mzL ps tb.data.toList i) i = x at hcl2
                  go_wp2_with fail
                  go_roundw
                  case rel => exact ⟨i + 1, by omega, by go_num, by rw [HNx.out]; exact HY2.out, HBw.out⟩
                  case measure => simp [intOf] <;> omega
        · have hb1 : (((tb.data.toList.getD i 42).toNat : Nat) : Int) ≠ 42 := fun e => hst ((star_iff _).2 e)
          have hb2 : ((((tb.data.toList.getD i 42).toNat : Nat) : Int) != 42) = true := by simpa using hb1
          have HM := Lib.hid (mzL_same (ps := ps) (l := tb.data.toList) (k := i) (by rw [spC, if_neg hst]))
          clear hst hb1
          generalize (((tb.data.toList.getD i 42).toNat : Nat) : Int) = x at hcl hb2
          go_wp2_with fail
          go_roundw
          case rel => exact ⟨i + 1, by omega, by go_num, by rw [HM.out]; exact HY.out, HB2.out⟩
          case measure => simp [intOf] <;> omega
      · obtain rfl : i = ps.length := by omega
        have hlt' : ¬ (ps.length : Int) < (tb.size : Int) := by rw [HTz.out]; omega
        have hcv := run_convert_bytes_arg wr 97 5 Tryd.underlying97 Tryd.underlying5 wo.heap.size 0 ps.length cap (mzL ps tb.data.toList ps.length) (by rw [mzL_len]; exact HTl.out) (fun i hi => by rw [Nat.zero_add]; exact hY.cell i (by rw [mzL_len, HTl.out]; exact hi)) 9 Tryd.underlying9
        have hE : strOfNums (mzL ps tb.data.toList ps.length) = ⟨(spR ps tb.data.toList).toArray⟩ := by
          have := mzL_end ps tb.data.toList
          rw [HTl.out] at this
          exact this
        rw [hE, ← HTz.out] at hcv
        have HX : Hid ((⟨(spR ps tb.data.toList).toArray⟩ : ByteArray).data.toList = spR ps tb.data.toList) := rfl
        have HSk : Hid (∀ k, tb.data.toList = spN ps t0.data.toList k → spR ps tb.data.toList = spN ps t0.data.toList (k + 1)) := fun k e => by rw [spN, ← e]
        have HK0 := HK.out
        by_cases hsm : spR ps tb.data.toList = tb.data.toList
        · have HV : Hid (tb = ⟨(spL ps t0.data.toList).toArray⟩) := by
            have h3 := HTb.out
            have hk5 := HK.out
            have h4 := hsm
            rw [h3] at h4
            rw [spL_eq h4 (by omega)] at h3
            exact bytes_eq (by simpa using h3)
          have hsame : (⟨(spR ps tb.data.toList).toArray⟩ : ByteArray) = tb := bytes_eq hsm
          rw [hsame] at hcv
          clear hsm hsame hE hY hb HX HSk
          go_wp2_with fail
          go_ret
          exact ⟨rett HV.out, HB2.out⟩
        · have hlt2 := Lib.hid (chg_stars (same_chg hsm))
          have hne : (⟨(spR ps tb.data.toList).toArray⟩ : ByteArray) ≠ tb := fun e => hsm (by rw [← HX.out, e])
          clear hE hY hb hsm
          obtain ⟨nb, hnb⟩ : ∃ nb : ByteArray, nb = ⟨(spR ps tb.data.toList).toArray⟩ := ⟨_, rfl⟩
          rw [← hnb] at hcv HX hne
          have hbe : (nb.toList == tb.toList) = false := by
            rw [beq_eq_false_iff_ne, Lib.toList_data, Lib.toList_data]
            exact fun e => hne (bytes_eq e)
          clear hnb hne
          go_wp2_with fail
          go_roundw
          case rel => exact ⟨k + 1, nb, rfl, by rw [HX.out]; exact HSk.out k HTb.out, by rw [HX.out]; have := hlt2.out; omega, HB2.out⟩
          case measure =>
            show stars nb.data.toList < stars tb.data.toList
            rw [HX.out]
            exact hlt2.out

end Go.Proofs.YthgjmciiaikgoaaDoor
