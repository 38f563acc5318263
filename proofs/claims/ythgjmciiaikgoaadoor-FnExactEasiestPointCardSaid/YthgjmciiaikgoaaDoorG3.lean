/- Walks: l6Spread. -/
import Derived.Test.YthgjmciiaikgoaaDoorG2
namespace Go.Proofs.YthgjmciiaikgoaaDoor
open Go.RowKit

/-- The first k letters after a round. -/
def spX (ps : List ByteArray) (l : List UInt8) (k : Nat) : ByteArray := ⟨((List.range k).map (spC ps l)).toArray⟩
theorem spX_next (ps : List ByteArray) (l : List UInt8) (k : Nat) (x : ByteArray) (h : x = ⟨#[spC ps l k]⟩) : spX ps l k ++ x = spX ps l (k + 1) := by
  subst h
  apply ByteArray.ext
  simp [spX, List.range_succ]
theorem spX_size (ps : List ByteArray) (l : List UInt8) (k : Nat) : (spX ps l k).size = k := by simp [spX, ByteArray.size]
theorem spX_end (ps : List ByteArray) (l : List UInt8) : (spX ps l l.length).data.toList = spR ps l := by simp [spX, spR]
theorem dig_one (d : Nat) (h : d < 2) : digS [(d : Int)] = ⟨#[UInt8.ofNat (48 + d)]⟩ := by
  rcases (show d = 0 ∨ d = 1 by omega) with rfl | rfl <;> rfl
def strL : Value → List UInt8
  | .string b => b.data.toList
  | _ => []
def onB : Value → Bool
  | .bool b => b
  | _ => false
theorem bytes_eq {a b : ByteArray} (h : a.data.toList = b.data.toList) : a = b := by
  apply ByteArray.ext
  exact Array.toList_inj.1 h

set_option maxRecDepth 100000 in
set_option maxHeartbeats 4000000 in
theorem l6Spread_ok (ao : Option Addr) (n c : Nat) (ps : List ByteArray) (t0 : ByteArray) (w : World) (h : RowT w ao n c ps) (hn : netB ps = true) (ht : t0.data.toList.all isT = true) (hz : t0.size = ps.length) (h5 : n ≤ 5) :
    Calls Tryd.prog 63 #[.slice ao n c, .string t0] w fun e w' => e = .returned (.string ⟨(spL ps t0.data.toList).toArray⟩) ∧ Below w.heap.size w w' := by
  obtain rfl := h.1
  have HF := Lib.hid (fun i tb W (hi : i < ps.length) (htb : tb.data.toList.all isT = true) (hzb : tb.size = ps.length) => l6Forced_ok ps i tb W hn hi htb hzb h5)
  have HT := Lib.hid (fun k => spN_isT (ps := ps) ht k)
  have HLn := Lib.hid (fun k => spN_len ps t0.data.toList k)
  have HZ : Hid (t0.data.toList.length = ps.length) := hz
  have hst0 : stars t0.data.toList ≤ 5 := Nat.le_trans (stars_le _) (by rw [HZ.out]; exact h5)
  clear hn ht hz
  go_enter Tryd.func63, Tryd.ntmps63
  go_wp2_with fail
  go_loopw [1, 5] (fun v1 v5 wr => ∃ k tb b, v1 = .string tb ∧ v5 = .bool b ∧ tb.data.toList = spN ps t0.data.toList k ∧ k + stars tb.data.toList ≤ 5 ∧ (b = false → spR ps tb.data.toList = tb.data.toList) ∧ Below w.heap.size w wr) (fun v1 v5 _ => if onB v5 = true then stars (strL v1) + 1 else 0)
  case atStart => exact ⟨0, t0, true, rfl, rfl, rfl, by omega, (fun h => nomatch h), Below.refl _ _⟩
  case round =>
    obtain ⟨k, tb, b, rfl, rfl, hT, hk, hfx, hb⟩ := hrel
    have htT : tb.data.toList.all isT = true := by rw [hT]; exact HT.out k
    have htl : tb.data.toList.length = ps.length := by rw [hT, HLn.out k]; exact HZ.out
    have htz : tb.size = ps.length := htl
    have HTb := Lib.hid hT
    have HK := Lib.hid hk
    have HFx := Lib.hid hfx
    have HB := Lib.hid hb
    clear hT hk hfx hb
    cases b with
    | false =>
      have hfix := HFx.out rfl
      have HV : Hid (tb = ⟨(spL ps t0.data.toList).toArray⟩) := by
        have h3 := HTb.out
        have hk5 := HK.out
        rw [h3] at hfix
        rw [spL_eq hfix (by omega)] at h3
        exact bytes_eq (by simpa using h3)
      clear hfix htT htl htz
      go_wp2_with fail
      go_ret
      exact ⟨rett HV.out, HB.out⟩
    | true =>
      have HTt := Lib.hid htT
      have HTl := Lib.hid htl
      have HTz := Lib.hid htz
      clear htT htl htz
      obtain ⟨wo, hwo⟩ : ∃ wo : World, wo = wr := ⟨_, rfl⟩
      go_wp2_with fail
      subst hwo
      go_loopw [5, 6, 7] (fun v5 v6 v7 wr => ∃ i : Nat, i ≤ ps.length ∧ v7 = .int .i64 i ∧ v6 = .string (spX ps tb.data.toList i) ∧ v5 = .bool (chgB ps tb.data.toList i) ∧ Below w.heap.size w wr) (fun _ _ v7 _ => ps.length - (intOf v7).toNat)
      case atStart => exact ⟨0, Nat.zero_le _, rfl, rfl, rfl, HB.out⟩
      case round =>
        obtain ⟨i, hi, rfl, rfl, rfl, hb⟩ := hrel
        have HB2 := Lib.hid hb
        clear hb
        by_cases hlt : i < ps.length
        · obtain ⟨q, o, rfl, hbo⟩ := h.2.some (by omega)
          have hcx := (h.below HB2.out (Nat.le_refl _)).2.cell q o rfl i hlt
          have hlt' : (i : Int) < (ps.length : Int) := by omega
          have hitt : i < tb.size := by rw [HTz.out]; exact hlt
          have hit : (i : Int) < (tb.size : Int) := by omega
          have hi1 : (i : Int) + 1 ≤ (tb.size : Int) := by omega
          have hbyte := bytes_get tb i hitt
          have HFi := Lib.hid (HF.out i tb wr hlt HTt.out HTz.out)
          have HNx := Lib.hid (spX_next ps tb.data.toList i)
          have HCn := Lib.hid (chgB_next ps tb.data.toList i)
          have hsz := spX_size ps tb.data.toList i
          have hex := extract_one tb i hitt
          have hgd : tb.data.toList.getD i 42 = tb[i] := at_getD tb i hitt
          have hfr := frcV_range ps tb.data.toList i
          generalize gT ps i = f at hcx HFi
          by_cases hst : tb.data.toList.getD i 42 = 42
          · have hb1 : (((tb[i].toNat : Nat) : Int) == 42) = true := by rw [hbyte, hst]; rfl
            have hC := spC_frc (ps := ps) hst
            by_cases hneg : frcV ps tb.data.toList i = -1
            · have hC2 : spC ps tb.data.toList i = 42 := by rw [hC, hneg]; rfl
              have HP := Lib.hid (HNx.out (tb.extract i (i + 1)) (by rw [hex, hC2, ← hst, hgd]))
              have HCh : Hid (chgB ps tb.data.toList (i + 1) = chgB ps tb.data.toList i) := by
                unfold Hid
                rw [HCn.out, hC2]; simp
              have hpz : (tb.extract i (i + 1)).size = 1 := by rw [hex]; rfl
              rw [hneg] at HFi
              clear hst hC hneg hC2 hex hgd hfr hbyte h
              generalize spX ps tb.data.toList i = u at hsz HP
              go_wp2_with fail
              refine HFi.out.mono ?_
              rintro e w2 ⟨rfl, b2⟩
              go_wp2_with fail
              go_roundw
              case rel => exact ⟨i + 1, by omega, by go_num, by rw [HP.out], by rw [HCh.out], HB2.out.trans (b2.mono HB2.out.size)⟩
              case measure => simp [intOf] <;> omega
            · obtain ⟨d, hd, hdl⟩ : ∃ d : Nat, frcV ps tb.data.toList i = (d : Int) ∧ d < 2 := by
                rcases hfr with e | e | e
                · exact absurd e hneg
                · exact ⟨0, e, by decide⟩
                · exact ⟨1, e, by decide⟩
              have hC2 : spC ps tb.data.toList i = UInt8.ofNat (48 + d) := by
                rw [hC, hd]
                rcases (show d = 0 ∨ d = 1 by omega) with rfl | rfl <;> rfl
              have HP := Lib.hid (HNx.out (digS [(d : Int)]) (by rw [dig_one d hdl, hC2]))
              have HCh : Hid (chgB ps tb.data.toList (i + 1) = true) := by
                unfold Hid
                rw [HCn.out, hst, hC2]
                rcases (show d = 0 ∨ d = 1 by omega) with rfl | rfl <;> simp
              have hpz : (digS [(d : Int)]).size ≤ 1 := by rw [digS_size]; simp
              have HD := Lib.hid (fun W => l14Dec_digit d (by omega) W)
              have hge : (0 : Int) ≤ (d : Int) := by omega
              rw [hd] at HFi
              clear hst hC hneg hC2 hex hgd hfr hbyte h hd
              generalize spX ps tb.data.toList i = u at hsz HP
              generalize digS [(d : Int)] = x at HP hpz HD
              go_wp2_with fail
              refine HFi.out.mono ?_
              rintro e w2 ⟨rfl, b2⟩
              have C2 := Lib.hid (HB2.out.trans (b2.mono HB2.out.size))
              clear b2
              go_wp2_with fail
              refine (HD.out _).mono ?_
              rintro e w3 ⟨rfl, b3⟩
              go_wp2_with fail
              go_roundw
              case rel => exact ⟨i + 1, by omega, by go_num, by rw [HP.out], by rw [HCh.out], C2.out.trans (b3.mono C2.out.size)⟩
              case measure => simp [intOf] <;> omega
          · have hb1 : (((tb[i].toNat : Nat) : Int) == 42) = false := by
              rw [beq_eq_false_iff_ne]
              intro e
              exact hst (by rw [hgd]; exact (star_iff _).2 e)
            have hC2 : spC ps tb.data.toList i = tb[i] := by rw [spC, if_neg hst, hgd]
            have HP := Lib.hid (HNx.out (tb.extract i (i + 1)) (by rw [hex, hC2]))
            have HCh : Hid (chgB ps tb.data.toList (i + 1) = chgB ps tb.data.toList i) := by
              unfold Hid
              rw [HCn.out]
              have : (tb.data.toList.getD i 42 == 42) = false := by rw [beq_eq_false_iff_ne]; exact hst
              rw [this]; simp
            have hpz : (tb.extract i (i + 1)).size = 1 := by rw [hex]; rfl
            clear hst hC2 hex hgd hfr hbyte h
            generalize spX ps tb.data.toList i = u at hsz HP
            generalize frcV ps tb.data.toList i = fv at HFi
            go_wp2_with fail
            refine HFi.out.mono ?_
            rintro e w2 ⟨rfl, b2⟩
            go_wp2_with fail
            go_roundw
            case rel => exact ⟨i + 1, by omega, by go_num, by rw [HP.out], by rw [HCh.out], HB2.out.trans (b2.mono HB2.out.size)⟩
            case measure => simp [intOf] <;> omega
        · obtain rfl : i = ps.length := by omega
          have hlt' : ¬ (ps.length : Int) < (ps.length : Int) := by omega
          have hl : tb.data.toList.length = ps.length := HTl.out
          have HX : Hid ((spX ps tb.data.toList ps.length).data.toList = spR ps tb.data.toList) := by
            unfold Hid
            rw [← hl]; exact spX_end _ _
          have HS : Hid (∀ k, tb.data.toList = spN ps t0.data.toList k → spR ps tb.data.toList = spN ps t0.data.toList (k + 1)) := fun k e => by rw [spN, ← e]
          have HK0 := HK.out
          cases hch : chgB ps tb.data.toList ps.length with
          | true =>
            have hlt2 := chg_stars (ps := ps) (l := tb.data.toList) (by rw [hl]; exact hch)
            have HR := Lib.hid hlt2
            clear h hl hch hlt2
            go_wp2_with fail
            go_roundw
            case rel => exact ⟨k + 1, _, true, rfl, rfl, by rw [HX.out]; exact HS.out k HTb.out, by rw [HX.out]; have := HR.out; omega, (fun h => nomatch h), HB2.out⟩
            case measure =>
              have e1 := HX.out
              have e2 := HR.out
              simp only [strL, onB]
              rw [e1]
              simp
              exact e2
          | false =>
            have hsm := chg_same (ps := ps) (l := tb.data.toList) (by rw [hl]; exact hch)
            have HR := Lib.hid hsm
            clear h hl hch hsm
            go_wp2_with fail
            go_roundw
            case rel => exact ⟨k, _, false, rfl, rfl, by rw [HX.out, HR.out]; exact HTb.out, by rw [HX.out, HR.out]; exact HK0, fun _ => by rw [HX.out, HR.out, HR.out], HB2.out⟩
            case measure => simp [onB]
end Go.Proofs.YthgjmciiaikgoaaDoor
