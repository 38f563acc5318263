/- Walks: a canonical number read by the reference. -/
import Derived.Test.YtlfadpfodmpneaaDoorNu4
namespace Go.Proofs.YtlfadpfodmpneaaDoor
open Go.RowKit

/-- What l14Num gives. -/
def NmPq (l : List UInt8) (w : World) (e : Ending) (w' : World) : Prop := ∃ (n : Int) (b : Bool), e = .returned (.tuple #[.int .i64 n, .bool b]) ∧ NumOk l n b ∧ w' = w
theorem numO_decNone {l : List UInt8} (h : Lib.decFrom 0 l = none) : numO l = none := by rw [numO, h]
theorem len_data (s : ByteArray) : s.data.toList.length = s.size := Array.length_toList
theorem ext_one (s : ByteArray) : (s.extract 1 s.size).data.toList = s.data.toList.drop 1 := by
  have hl : s.data.toList.length = s.size := Array.length_toList
  rw [ByteArray.data_extract, Array.toList_extract, List.extract, List.take_of_length_le]
  rw [List.length_drop, hl]; omega
theorem size_ext1 (s : ByteArray) : (s.extract 1 s.size).size = s.size - 1 := by rw [ByteArray.size_extract]; omega
theorem list_cons {s : ByteArray} (h : 0 < s.size) : s.data.toList = s[0] :: s.data.toList.drop 1 := by
  have h1 := Lib.data_getElem? s 0 h
  cases hl : s.data.toList with
  | nil => rw [hl] at h1; simp at h1
  | cons a r => rw [hl] at h1; simp at h1; rw [h1]; rfl
theorem u8_ext {a b : UInt8} (h : a.toNat = b.toNat) : a = b := UInt8.toNat_inj.1 h

set_option maxHeartbeats 4000000 in
theorem l14Num_ok (s : ByteArray) (w : World) (hs : s.size ≤ 1048576) :
    Calls Tryd.prog 24 #[.string s] w (NmPq s.data.toList w) := by
  by_cases h0 : s.size = 0
  · have hN : Hid (numO s.data.toList = none) := by
      have : s.data.toList = [] := List.eq_nil_of_length_eq_zero (by rw [len_data]; exact h0)
      unfold Hid
      rw [this]
      exact numO_of fun u _ => dec_ne u
    have h0w : ((s.size : Int) == 0) = true := by rw [h0]; rfl
    have h0l : ¬ (0 : Int) < (s.size : Int) := by omega
    clear h0
    go_enter Tryd.func24, Tryd.ntmps24
    go_wp2_with fail
    go_ret2
    exact ⟨0, false, rfl, numOk_no hN.out, rfl⟩
  · have hpos : 0 < s.size := by omega
    have hposw : (0 : Int) < (s.size : Int) := by omega
    have HL := Lib.hid (list_cons hpos)
    have h256 := UInt8.toNat_lt s[0]
    clear h0
    by_cases hm : s[0].toNat = 45
    · have hmw : (((s[0].toNat : Nat) : Int) == 45) = true := by rw [hm]; rfl
      have HNo : Hid (numO s.data.toList = none) := by
        unfold Hid
        rw [HL.out, u8_ext (b := 45) hm]
        exact numO_of fun u _ => dec_not45
      have HX := Lib.hid (ext_one s)
      have hxz := size_ext1 s
      have HLs : Hid (s.data.toList = 45 :: (s.extract 1 s.size).data.toList) := by
        unfold Hid
        rw [HX.out]
        have := HL.out
        rw [u8_ext (b := 45) hm] at this
        exact this
      clear hm
      generalize hx : s.extract 1 s.size = t at HX hxz HLs
      have hts : t.size ≤ 1048576 := by omega
      clear hxz
      by_cases hz : t.size = 0
      · have hzw : ((t.size : Int) == 0) = true := by rw [hz]; rfl
        clear hz
        go_enter Tryd.func24, Tryd.ntmps24
        go_wp2_with fail
        go_ret2
        exact ⟨0, false, rfl, numOk_no HNo.out, rfl⟩
      · have hzw : ((t.size : Int) == 0) = false := by rw [beq_eq_false_iff_ne]; omega
        have htp : 0 < t.size := by omega
        by_cases h17 : 17 < t.size
        · have h17w : (17 : Int) < (t.size : Int) := by omega
          clear hz
          go_enter Tryd.func24, Tryd.ntmps24
          go_wp2_with fail
          go_ret2
          exact ⟨0, false, rfl, numOk_no HNo.out, rfl⟩
        · have h17w : ¬ (17 : Int) < (t.size : Int) := by omega
          have h256t := UInt8.toNat_lt t[0]
          by_cases h48 : t[0].toNat = 48
          · have h48w : (((t[0].toNat : Nat) : Int) == 48) = true := by rw [h48]; rfl
            clear hz h48
            by_cases h1 : 1 < t.size
            all_goals
              go_enter Tryd.func24, Tryd.ntmps24
              go_wp2_with fail
              all_goals go_ret2
              all_goals exact ⟨0, false, rfl, numOk_no HNo.out, rfl⟩
          · have h48w : (((t[0].toNat : Nat) : Int) == 48) = false := by rw [beq_eq_false_iff_ne]; omega
            have HHd : Hid (t.data.toList.head? ≠ some 48) := by
              unfold Hid
              rw [list_cons htp]
              intro e
              have := Option.some.inj e
              exact h48 (by rw [this]; rfl)
            have HNe : Hid (t.data.toList ≠ []) := by
              unfold Hid
              rw [list_cons htp]
              simp
            clear hz h48
            go_enter Tryd.func24, Tryd.ntmps24
            go_wp2_with fail
            go_loopw [5, 6] (fun n q wr => ∃ i v : Nat, i ≤ t.size ∧ q = .int .i64 i ∧ n = .int .i64 v ∧ Lib.decFrom 0 (t.data.toList.take i) = some v ∧ wr = w) (fun _ q _ => t.size - (intOf q).toNat)
            case atStart => exact ⟨0, 0, Nat.zero_le _, rfl, rfl, by simp [Lib.decFrom], rfl⟩
            case round =>
              obtain ⟨i, v, hi, rfl, rfl, hv, rfl⟩ := hrel
              have HV := Lib.hid hv
              have hv10 : v < 10 ^ i := decF_lt i hv
              clear hv
              by_cases hlt : i < t.size
              · have hltw : (i : Int) < (t.size : Int) := by omega
                have hp17 : (10 : Nat) ^ i ≤ 10 ^ 17 := Nat.pow_le_pow_right (by decide) (by omega)
                have hv17 : v < 100000000000000000 := Nat.lt_of_lt_of_le hv10 (Nat.le_trans hp17 (by decide))
                have hby := Lib.data_getElem? t i hlt
                have HBy := Lib.hid hby
                have h256 := UInt8.toNat_lt t[i]
                clear hby hv10 hp17
                by_cases hlo : t[i].toNat < 48
                · have hlow : ((t[i].toNat : Nat) : Int) < 48 := by omega
                  have HBad : Hid (Lib.digitVal t[i] = none) := by unfold Hid Lib.digitVal; rw [if_neg (by omega)]
                  go_wp2_with fail
                  go_ret2
                  exact ⟨0, false, rfl, numOk_no (HNo.out), rfl⟩
                · have hlow : ¬ ((t[i].toNat : Nat) : Int) < 48 := by omega
                  by_cases hhi : 57 < t[i].toNat
                  · have hhiw : (57 : Int) < ((t[i].toNat : Nat) : Int) := by omega
                    have HBad : Hid (Lib.digitVal t[i] = none) := by unfold Hid Lib.digitVal; rw [if_neg (by omega)]
                    go_wp2_with fail
                    go_ret2
                    exact ⟨0, false, rfl, numOk_no (HNo.out), rfl⟩
                  · have hhiw : ¬ (57 : Int) < ((t[i].toNat : Nat) : Int) := by omega
                    obtain ⟨d, hd⟩ : ∃ d, t[i].toNat = 48 + d := ⟨t[i].toNat - 48, by omega⟩
                    have hd9 : d ≤ 9 := by omega
                    have hdi : ((t[i].toNat : Nat) : Int) - 48 = (d : Int) := by omega
                    have hdw : IntKind.u8.wrap (d : Int) = (d : Int) := by rw [IntKind.wrap_u8]; omega
                    have HDv : Hid (Lib.digitVal t[i] = some d) := by unfold Hid Lib.digitVal; rw [if_pos (by omega), hd]; congr 1; omega
                    have HN := Lib.hid (decF_step HBy.out HDv.out HV.out)
                    clear hd
                    go_wp2_with fail
                    go_roundw
                    case rel => exact ⟨i + 1, v * 10 + d, by omega, by go_num, by go_num, HN.out, by first | rfl | trivial⟩
                    case measure => simp [intOf] <;> omega
              · obtain rfl : i = t.size := by omega
                have hp17 : (10 : Nat) ^ t.size ≤ 10 ^ 17 := Nat.pow_le_pow_right (by decide) (by omega)
                have hv17 : v < 100000000000000000 := Nat.lt_of_lt_of_le hv10 (Nat.le_trans hp17 (by decide))
                have HAll : Hid (Lib.decFrom 0 t.data.toList = some v) := by
                  have := HV.out
                  rwa [List.take_of_length_le (by rw [len_data]; exact Nat.le_refl _)] at this
                clear hv10 hp17
                go_wp2_with fail
                go_ret2
                exact ⟨-(v : Int), true, rfl, (by rw [HLs.out]; exact neg_last HAll.out HHd.out HNe.out), rfl⟩
    · have hmw : (((s[0].toNat : Nat) : Int) == 45) = false := by rw [beq_eq_false_iff_ne]; omega
      have hzw : ((s.size : Int) == 0) = false := by rw [beq_eq_false_iff_ne]; omega
      clear hm
      by_cases h17 : 17 < s.size
      · have h17w : (17 : Int) < (s.size : Int) := by omega
        have HNo : Hid (numO s.data.toList = none) := numO_of fun u hu e => by
          have h1 := dec_len hu
          rw [e] at h1
          have h2 : s.data.toList.length = s.size := len_data s
          omega
        go_enter Tryd.func24, Tryd.ntmps24
        go_wp2_with fail
        go_ret2
        exact ⟨0, false, rfl, numOk_no HNo.out, rfl⟩
      · have h17w : ¬ (17 : Int) < (s.size : Int) := by omega
        by_cases h48 : s[0].toNat = 48
        · have h48w : (((s[0].toNat : Nat) : Int) == 48) = true := by rw [h48]; rfl
          by_cases h1 : 1 < s.size
          · have h1w : (1 : Int) < (s.size : Int) := by omega
            have HNo : Hid (numO s.data.toList = none) := numO_of fun u _ e => by
              rw [HL.out, u8_ext (b := 48) h48] at e
              have h2 := dec_head48 e
              have h3 : s.data.toList.length = s.size := len_data s
              have h4 := congrArg List.length h2
              simp at h4
              omega
            clear h48
            go_enter Tryd.func24, Tryd.ntmps24
            go_wp2_with fail
            go_ret2
            exact ⟨0, false, rfl, numOk_no HNo.out, rfl⟩
          · have h1w : ¬ (1 : Int) < (s.size : Int) := by omega
            have HOne : Hid (s.data.toList.length = 1 ∨ s.data.toList.head? ≠ some 48) := .inl (by rw [len_data]; omega)
            have HNe : Hid (s.data.toList ≠ []) := by
              unfold Hid
              rw [HL.out]
              simp
            clear h48
            go_enter Tryd.func24, Tryd.ntmps24
            go_wp2_with fail
            go_loopw [5, 6] (fun n q wr => ∃ i v : Nat, i ≤ s.size ∧ q = .int .i64 i ∧ n = .int .i64 v ∧ Lib.decFrom 0 (s.data.toList.take i) = some v ∧ wr = w) (fun _ q _ => s.size - (intOf q).toNat)
            case atStart => exact ⟨0, 0, Nat.zero_le _, rfl, rfl, by simp [Lib.decFrom], rfl⟩
            case round =>
              obtain ⟨i, v, hi, rfl, rfl, hv, rfl⟩ := hrel
              have HV := Lib.hid hv
              have hv10 : v < 10 ^ i := decF_lt i hv
              clear hv
              by_cases hlt : i < s.size
              · have hltw : (i : Int) < (s.size : Int) := by omega
                have hp17 : (10 : Nat) ^ i ≤ 10 ^ 17 := Nat.pow_le_pow_right (by decide) (by omega)
                have hv17 : v < 100000000000000000 := Nat.lt_of_lt_of_le hv10 (Nat.le_trans hp17 (by decide))
                have hby := Lib.data_getElem? s i hlt
                have HBy := Lib.hid hby
                have h256 := UInt8.toNat_lt s[i]
                clear hby hv10 hp17
                by_cases hlo : s[i].toNat < 48
                · have hlow : ((s[i].toNat : Nat) : Int) < 48 := by omega
                  have HBad : Hid (Lib.digitVal s[i] = none) := by unfold Hid Lib.digitVal; rw [if_neg (by omega)]
                  go_wp2_with fail
                  go_ret2
                  exact ⟨0, false, rfl, numOk_no (numO_decNone (decF_bad HBy.out HBad.out 0)), rfl⟩
                · have hlow : ¬ ((s[i].toNat : Nat) : Int) < 48 := by omega
                  by_cases hhi : 57 < s[i].toNat
                  · have hhiw : (57 : Int) < ((s[i].toNat : Nat) : Int) := by omega
                    have HBad : Hid (Lib.digitVal s[i] = none) := by unfold Hid Lib.digitVal; rw [if_neg (by omega)]
                    go_wp2_with fail
                    go_ret2
                    exact ⟨0, false, rfl, numOk_no (numO_decNone (decF_bad HBy.out HBad.out 0)), rfl⟩
                  · have hhiw : ¬ (57 : Int) < ((s[i].toNat : Nat) : Int) := by omega
                    obtain ⟨d, hd⟩ : ∃ d, s[i].toNat = 48 + d := ⟨s[i].toNat - 48, by omega⟩
                    have hd9 : d ≤ 9 := by omega
                    have hdi : ((s[i].toNat : Nat) : Int) - 48 = (d : Int) := by omega
                    have hdw : IntKind.u8.wrap (d : Int) = (d : Int) := by rw [IntKind.wrap_u8]; omega
                    have HDv : Hid (Lib.digitVal s[i] = some d) := by unfold Hid Lib.digitVal; rw [if_pos (by omega), hd]; congr 1; omega
                    have HN := Lib.hid (decF_step HBy.out HDv.out HV.out)
                    clear hd
                    go_wp2_with fail
                    go_roundw
                    case rel => exact ⟨i + 1, v * 10 + d, by omega, by go_num, by go_num, HN.out, by first | rfl | trivial⟩
                    case measure => simp [intOf] <;> omega
              · obtain rfl : i = s.size := by omega
                have hp17 : (10 : Nat) ^ s.size ≤ 10 ^ 17 := Nat.pow_le_pow_right (by decide) (by omega)
                have hv17 : v < 100000000000000000 := Nat.lt_of_lt_of_le hv10 (Nat.le_trans hp17 (by decide))
                have HAll : Hid (Lib.decFrom 0 s.data.toList = some v) := by
                  have := HV.out
                  rwa [List.take_of_length_le (by rw [len_data]; exact Nat.le_refl _)] at this
                clear hv10 hp17
                go_wp2_with fail
                go_ret2
                exact ⟨(v : Int), true, rfl, dec_last HAll.out HNe.out HOne.out, rfl⟩
        · have h48w : (((s[0].toNat : Nat) : Int) == 48) = false := by rw [beq_eq_false_iff_ne]; omega
          have HOne : Hid (s.data.toList.length = 1 ∨ s.data.toList.head? ≠ some 48) := .inr (by
            rw [HL.out]
            intro e
            have := Option.some.inj e
            exact h48 (by rw [this]; rfl))
          have HNe : Hid (s.data.toList ≠ []) := by
            unfold Hid
            rw [HL.out]
            simp
          clear h48
          go_enter Tryd.func24, Tryd.ntmps24
          go_wp2_with fail
          go_loopw [5, 6] (fun n q wr => ∃ i v : Nat, i ≤ s.size ∧ q = .int .i64 i ∧ n = .int .i64 v ∧ Lib.decFrom 0 (s.data.toList.take i) = some v ∧ wr = w) (fun _ q _ => s.size - (intOf q).toNat)
          case atStart => exact ⟨0, 0, Nat.zero_le _, rfl, rfl, by simp [Lib.decFrom], rfl⟩
          case round =>
            obtain ⟨i, v, hi, rfl, rfl, hv, rfl⟩ := hrel
            have HV := Lib.hid hv
            have hv10 : v < 10 ^ i := decF_lt i hv
            clear hv
            by_cases hlt : i < s.size
            · have hltw : (i : Int) < (s.size : Int) := by omega
              have hp17 : (10 : Nat) ^ i ≤ 10 ^ 17 := Nat.pow_le_pow_right (by decide) (by omega)
              have hv17 : v < 100000000000000000 := Nat.lt_of_lt_of_le hv10 (Nat.le_trans hp17 (by decide))
              have hby := Lib.data_getElem? s i hlt
              have HBy := Lib.hid hby
              have h256 := UInt8.toNat_lt s[i]
              clear hby hv10 hp17
              by_cases hlo : s[i].toNat < 48
              · have hlow : ((s[i].toNat : Nat) : Int) < 48 := by omega
                have HBad : Hid (Lib.digitVal s[i] = none) := by unfold Hid Lib.digitVal; rw [if_neg (by omega)]
                go_wp2_with fail
                go_ret2
                exact ⟨0, false, rfl, numOk_no (numO_decNone (decF_bad HBy.out HBad.out 0)), rfl⟩
              · have hlow : ¬ ((s[i].toNat : Nat) : Int) < 48 := by omega
                by_cases hhi : 57 < s[i].toNat
                · have hhiw : (57 : Int) < ((s[i].toNat : Nat) : Int) := by omega
                  have HBad : Hid (Lib.digitVal s[i] = none) := by unfold Hid Lib.digitVal; rw [if_neg (by omega)]
                  go_wp2_with fail
                  go_ret2
                  exact ⟨0, false, rfl, numOk_no (numO_decNone (decF_bad HBy.out HBad.out 0)), rfl⟩
                · have hhiw : ¬ (57 : Int) < ((s[i].toNat : Nat) : Int) := by omega
                  obtain ⟨d, hd⟩ : ∃ d, s[i].toNat = 48 + d := ⟨s[i].toNat - 48, by omega⟩
                  have hd9 : d ≤ 9 := by omega
                  have hdi : ((s[i].toNat : Nat) : Int) - 48 = (d : Int) := by omega
                  have hdw : IntKind.u8.wrap (d : Int) = (d : Int) := by rw [IntKind.wrap_u8]; omega
                  have HDv : Hid (Lib.digitVal s[i] = some d) := by unfold Hid Lib.digitVal; rw [if_pos (by omega), hd]; congr 1; omega
                  have HN := Lib.hid (decF_step HBy.out HDv.out HV.out)
                  clear hd
                  go_wp2_with fail
                  go_roundw
                  case rel => exact ⟨i + 1, v * 10 + d, by omega, by go_num, by go_num, HN.out, by first | rfl | trivial⟩
                  case measure => simp [intOf] <;> omega
            · obtain rfl : i = s.size := by omega
              have hp17 : (10 : Nat) ^ s.size ≤ 10 ^ 17 := Nat.pow_le_pow_right (by decide) (by omega)
              have hv17 : v < 100000000000000000 := Nat.lt_of_lt_of_le hv10 (Nat.le_trans hp17 (by decide))
              have HAll : Hid (Lib.decFrom 0 s.data.toList = some v) := by
                have := HV.out
                rwa [List.take_of_length_le (by rw [len_data]; exact Nat.le_refl _)] at this
              clear hv10 hp17
              go_wp2_with fail
              go_ret2
              exact ⟨(v : Int), true, rfl, dec_last HAll.out HNe.out HOne.out, rfl⟩

end Go.Proofs.YtlfadpfodmpneaaDoor
