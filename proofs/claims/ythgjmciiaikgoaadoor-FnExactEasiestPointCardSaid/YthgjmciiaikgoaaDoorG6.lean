/- ForcesState on both sides, and the law FnExactForcesState. -/
import Derived.Test.YthgjmciiaikgoaaDoorG5
import Derived.Test.YthgjmciiaikgoaaDoorH5
import Derived.Test.YthgjmciiaikgoaaDoorAll
namespace Go.Proofs.YthgjmciiaikgoaaDoor
open Go.RowKit

/-- Whether a term's spread is the text of a state. -/
def fsQ (ps : List ByteArray) (l : List UInt8) (s : Nat) : Bool := ((⟨(spL ps l).toArray⟩ : ByteArray).toList == (digS (bitL s ps.length)).toList)
/-- What ForcesState gives. -/
def fsV (ps : List ByteArray) (l : List UInt8) (s : Int) : Bool := htB ps l && (stOk ps.length s && fsQ ps l s.toNat)
theorem fsV_no {ps : List ByteArray} {l : List UInt8} {s : Int} (h : htB ps l = false) : fsV ps l s = false := by simp [fsV, h]
theorem fsV_out {ps : List ByteArray} {l : List UInt8} {s : Int} (h : stOk ps.length s = false) : fsV ps l s = false := by simp [fsV, h]
theorem fsV_in {ps : List ByteArray} {l : List UInt8} {s : Nat} (h : htB ps l = true) (h2 : stOk ps.length (s : Int) = true) : fsV ps l (s : Int) = fsQ ps l s := by simp [fsV, h, h2]

set_option maxRecDepth 100000 in
set_option maxHeartbeats 2000000 in
theorem fscS_ok (s t : ByteArray) (x : Int) (w : World) (hs : s.size ≤ 1048576) (ht : t.size ≤ 1048576) :
    Calls Tryd.prog 27 #[.string s, .string t, .int .i64 x] w fun e w' => e = .returned (.bool (fsV (cutsP 44 s) t.data.toList x)) ∧ Below w.heap.size w w' := by
  have HO := Lib.hid (l6Term_ok s t w hs ht)
  have hp0 := cutsP_pos 44 s
  generalize cutsP 44 s = ps at HO hp0 ⊢
  cases hb : htB ps t.data.toList with
  | false =>
    have HV := Lib.hid (fsV_no (s := x) hb)
    rw [hb] at HO
    clear hb
    go_enter Tryd.func27, Tryd.ntmps27
    go_wp2_with fail
    refine HO.out.mono ?_
    rintro e w1 ⟨v, rfl, o1, b1⟩
    clear o1
    go_wp2_with fail
    go_ret
    exact ⟨retb HV.out.symm, b1⟩
  | true =>
    rw [hb] at HO
    obtain ⟨hn, hz, hT⟩ := ht_get hb
    have h5 := net_le hn hp0
    have HN := Lib.hid (netL_yes hn)
    have HAll := Lib.hid (fun (ao : Option Addr) (c : Nat) W => l3All_ok ao ps.length c W h5)
    have HSp := Lib.hid (fun ao c W (h : RowT W ao ps.length c ps) => l6Spread_ok ao ps.length c ps t W h hn hT hz h5)
    cases hso : stOk ps.length x with
    | false =>
      have HV := Lib.hid (fsV_out (l := t.data.toList) hso)
      have hin : inB x 0 ((2 ^ ps.length - 1 : Nat) : Int) = false := hso
      clear hb hn hT hz hso
      generalize (2 ^ ps.length - 1 : Nat) = N at hin HAll
      go_enter Tryd.func27, Tryd.ntmps27
      go_wp2_with fail
      refine HO.out.mono ?_
      rintro e w1 ⟨v, rfl, o1, b1⟩
      rw [HN.out] at o1
      obtain ⟨a, c, rfl, r1⟩ := o1.row
      have B1 := Lib.hid b1
      have HAa := Lib.hid (fun W => HAll.out a c W)
      clear o1 r1 b1
      go_wp2_with (first | (go_at_call 48; refine (HAa.out _).mono ?_; rintro e w2 ⟨rfl, rfl⟩) | (go_at_call 47; refine (l1In_ok _ _ _ _).mono ?_; rintro e w2 ⟨rfl, rfl⟩))
      go_ret
      exact ⟨retb HV.out.symm, B1.out⟩
    | true =>
      obtain ⟨m, rfl⟩ := Int.eq_ofNat_of_zero_le (stOk_iff.1 hso).1
      have HV := Lib.hid (fsV_in hb hso)
      have hin : inB (m : Int) 0 ((2 ^ ps.length - 1 : Nat) : Int) = true := hso
      have hp : (2 ^ ps.length : Nat) ≤ 32 := Nat.pow_le_pow_right (n := 2) (by decide) h5
      have hm32 : m < 32 := by have := (stOk_iff.1 hso).2; omega
      have HTo := Lib.hid (fun W => l3Told_ok m ps.length hm32 h5 W)
      have HQ : Hid (fsQ ps t.data.toList m = ((⟨(spL ps t.data.toList).toArray⟩ : ByteArray).toList == (digS (bitL m ps.length)).toList)) := rfl
      clear hb hn hT hz hso hp
      generalize (2 ^ ps.length - 1 : Nat) = N at hin HAll
      generalize digS (bitL m ps.length) = u at HTo HQ
      generalize (⟨(spL ps t.data.toList).toArray⟩ : ByteArray) = v at HSp HQ
      go_enter Tryd.func27, Tryd.ntmps27
      go_wp2_with fail
      refine HO.out.mono ?_
      rintro e w1 ⟨vv, rfl, o1, b1⟩
      rw [HN.out] at o1
      obtain ⟨a, c, rfl, r1⟩ := o1.row
      have B1 := Lib.hid b1
      have HAa := Lib.hid (fun W => HAll.out a c W)
      have HS1 := Lib.hid (HSp.out a c _ r1)
      clear o1 r1 b1
      go_wp2_with (first | (go_at_call 48; refine (HAa.out _).mono ?_; rintro e w2 ⟨rfl, rfl⟩) | (go_at_call 47; refine (l1In_ok _ _ _ _).mono ?_; rintro e w2 ⟨rfl, rfl⟩))
      refine HS1.out.mono ?_
      rintro e w2 ⟨rfl, b2⟩
      have C2 := Lib.hid (B1.out.trans (b2.mono B1.out.size))
      clear b2
      go_wp2_with fail
      refine (HTo.out _).mono ?_
      rintro e w3 ⟨rfl, b3⟩
      go_wp2_with fail
      go_ret
      exact ⟨retb (by rw [HV.out, HQ.out]), C2.out.trans (b3.mono C2.out.size)⟩

set_option maxRecDepth 100000 in
set_option maxHeartbeats 2000000 in
theorem fscI_ok (s t : ByteArray) (x : Int) (w : World) (hs : s.size ≤ 1048576) (ht : t.size ≤ 1048576) (hm : MaxLenIs w) :
    Calls Tryd.prog 28 #[.string s, .string t, .int .i64 x] w fun e w' => e = .returned (.bool (fsV (cutsP 44 s) t.data.toList x)) ∧ Below w.heap.size w w' := by
  have HO := Lib.hid (termOf_ok s t w hs ht hm)
  have hp0 := cutsP_pos 44 s
  generalize cutsP 44 s = ps at HO hp0 ⊢
  cases hb : htB ps t.data.toList with
  | false =>
    have HV := Lib.hid (fsV_no (s := x) hb)
    rw [hb] at HO
    clear hb
    go_enter Tryd.func28, Tryd.ntmps28
    go_wp2_with fail
    refine HO.out.mono ?_
    rintro e w1 ⟨v, rfl, o1, b1⟩
    clear o1
    go_wp2_with fail
    go_ret
    exact ⟨retb HV.out.symm, b1⟩
  | true =>
    rw [hb] at HO
    obtain ⟨hn, hz, hT⟩ := ht_get hb
    have h5 := net_le hn hp0
    have HN := Lib.hid (netN_yes hn)
    have hlen := bitsN_len ps ps.length
    have HSts := Lib.hid (fun (ao : Option Addr) (c : Nat) W => states_ok ao ps.length c W (by omega))
    have HSp := Lib.hid (fun ao c W (h : RowN W ao ps.length c ps.length (bitsN ps ps.length)) => spread_ok ao c ps t W h hn hT hz h5 hp0)
    cases hso : stOk ps.length x with
    | false =>
      have HV := Lib.hid (fsV_out (l := t.data.toList) hso)
      have hin := stOk_lt hso
      clear hb hn hT hz hso
      generalize ((2 ^ ps.length : Nat) : Int) = N at hin HSts
      by_cases hneg : x < 0
      · have hge : ¬ (0 : Int) ≤ x := by omega
        go_enter Tryd.func28, Tryd.ntmps28
        go_wp2_with fail
        refine HO.out.mono ?_
        rintro e w1 ⟨v, rfl, o1, b1⟩
        clear o1
        go_wp2_with fail
        go_ret
        exact ⟨retb HV.out.symm, b1⟩
      · have hge : (0 : Int) ≤ x := by omega
        have hnl : ¬ x < N := by omega
        clear hin
        go_enter Tryd.func28, Tryd.ntmps28
        go_wp2_with fail
        refine HO.out.mono ?_
        rintro e w1 ⟨v, rfl, o1, b1⟩
        rw [HN.out] at o1
        obtain ⟨a, c, rfl, r1⟩ := o1.row (bitsN_wide ps ps.length)
        have HAa := Lib.hid (fun W => HSts.out a c W)
        rw [hlen] at r1 ⊢
        have B1 := Lib.hid b1
        clear o1 r1 b1
        go_wp2_with (go_at_call 51; refine (HAa.out _).mono ?_; rintro e w2 ⟨rfl, rfl⟩)
        go_ret
        exact ⟨retb HV.out.symm, B1.out⟩
    | true =>
      obtain ⟨m, rfl⟩ := Int.eq_ofNat_of_zero_le (stOk_iff.1 hso).1
      have HV := Lib.hid (fsV_in hb hso)
      have hp : (2 ^ ps.length : Nat) ≤ 32 := Nat.pow_le_pow_right (n := 2) (by decide) h5
      have hin := (stOk_iff.1 hso).2
      have hm32 : m < 32 := by omega
      have hge : (0 : Int) ≤ (m : Int) := by omega
      have HTo := Lib.hid (fun W => fmtI_ok m ps.length hm32 h5 W)
      have HQ : Hid (fsQ ps t.data.toList m = ((⟨(spL ps t.data.toList).toArray⟩ : ByteArray).toList == (digS (bitL m ps.length)).toList)) := rfl
      clear hb hn hT hz hso hp
      generalize ((2 ^ ps.length : Nat) : Int) = N at hin HSts
      generalize digS (bitL m ps.length) = u at HTo HQ
      generalize (⟨(spL ps t.data.toList).toArray⟩ : ByteArray) = v at HSp HQ
      go_enter Tryd.func28, Tryd.ntmps28
      go_wp2_with fail
      refine HO.out.mono ?_
      rintro e w1 ⟨vv, rfl, o1, b1⟩
      rw [HN.out] at o1
      obtain ⟨a, c, rfl, r1⟩ := o1.row (bitsN_wide ps ps.length)
      have HAa := Lib.hid (fun W => HSts.out a c W)
      rw [hlen] at r1 ⊢
      have B1 := Lib.hid b1
      have HS1 := Lib.hid (HSp.out a c _ r1)
      clear o1 r1 b1 hlen
      go_wp2_with (go_at_call 51; refine (HAa.out _).mono ?_; rintro e w2 ⟨rfl, rfl⟩)
      refine HS1.out.mono ?_
      rintro e w2 ⟨rfl, b2⟩
      have C2 := Lib.hid (B1.out.trans (b2.mono B1.out.size))
      clear b2
      go_wp2_with fail
      refine (HTo.out _).mono ?_
      rintro e w3 ⟨rfl, b3⟩
      go_wp2_with fail
      go_ret
      exact ⟨retb (by rw [HV.out, HQ.out]), C2.out.trans (b3.mono C2.out.size)⟩

set_option maxHeartbeats 2000000 in
theorem FnExactForcesState_ok (s t : ByteArray) (x : Int) (w : World) (_ : s.size ≤ maxLen) (_ : t.size ≤ maxLen) (hm : MaxLenIs w) :
    Calls Tryd.prog 6 #[.string s, .string t, .int .i64 x] w fun e w' => e = .returned (.bool true) ∧ Below w.heap.size w w' := by
  go_enter Tryd.func6, Tryd.ntmps6
  by_cases hb0 : 1048576 < s.size
  · go_wp2
    go_ret
    exact ⟨rfl, Below.refl _ _⟩
  by_cases hb1 : 1048576 < t.size
  · go_wp2
    go_ret
    exact ⟨rfl, Below.refl _ _⟩
  · have hs : s.size ≤ 1048576 := by omega
    have ht : t.size ≤ 1048576 := by omega
    have HM := Lib.hid hm
    clear hm
    go_wp2_with fail
    refine (fscS_ok s t x _ hs ht).mono ?_
    rintro e w1 ⟨rfl, b1⟩
    go_wp2_with fail
    refine (fscI_ok s t x _ hs ht (HM.out.below b1 (Nat.le_refl _))).mono ?_
    rintro e w2 ⟨rfl, b2⟩
    have c2 : Below w.heap.size w w2 := b1.trans (b2.mono b1.size)
    generalize fsV (cutsP 44 s) t.data.toList x = ub
    go_wp2_with fail
    go_ret
    exact ⟨rfl, c2⟩

end Go.Proofs.YthgjmciiaikgoaaDoor
