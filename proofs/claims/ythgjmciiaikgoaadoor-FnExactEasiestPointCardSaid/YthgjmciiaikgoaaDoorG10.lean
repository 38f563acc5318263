/- LeastHold and HoldsNeeded on both sides, and the laws FnExactLeastHold, FnExactHoldsNeeded. -/
import Derived.Test.YthgjmciiaikgoaaDoorG8
import Derived.Test.YthgjmciiaikgoaaDoorG9
import Derived.Test.YthgjmciiaikgoaaDoorStO
namespace Go.Proofs.YthgjmciiaikgoaaDoor
open Go.RowKit

/-- What LeastHold gives. -/
noncomputable def lhT (ps : List ByteArray) (s : Int) : ByteArray := if stB' ps s = true then ⟨(hlT s.toNat (lhS ps s.toNat) ps.length).toArray⟩ else ⟨#[]⟩
theorem lhT_no {ps : List ByteArray} {s : Int} (h : stB' ps s = false) : lhT ps s = ⟨#[]⟩ := by simp [lhT, h]
theorem lhT_yes {ps : List ByteArray} {s : Nat} (h : stB' ps (s : Int) = true) : lhT ps (s : Int) = ⟨(hlT s (lhS ps s) ps.length).toArray⟩ := by simp [lhT, h]

set_option maxHeartbeats 1000000 in
theorem lhS_ok (t : ByteArray) (s : Int) (w : World) (hs : t.size ≤ 1048576) :
    Calls Tryd.prog 38 #[.string t, .int .i64 s] w fun e w' => e = .returned (.tuple #[.string (lhT (cutsP 44 t) s), .bool (stB' (cutsP 44 t) s)]) ∧ Below w.heap.size w w' := by
  have HO := Lib.hid (l3State_ok t s w hs)
  have hp0 := cutsP_pos 44 t
  generalize cutsP 44 t = ps at HO hp0 ⊢
  cases hb : stB' ps s with
  | false =>
    have HV := Lib.hid (lhT_no hb)
    rw [hb] at HO
    clear hb
    go_enter Tryd.func38, Tryd.ntmps38
    go_wp2_with fail
    refine HO.out.mono ?_
    rintro e w1 ⟨v, rfl, o1, b1⟩
    clear o1
    go_wp2_with fail
    go_ret2
    exact ⟨ret2h HV.out.symm rfl, b1⟩
  | true =>
    obtain ⟨hn, hs0, hs1⟩ := stB'_get hb
    obtain ⟨m, rfl⟩ := Int.eq_ofNat_of_zero_le hs0
    have HV := Lib.hid (lhT_yes hb)
    have h5 := net_le hn hp0
    have HN := Lib.hid (netL_yes hn)
    have HL := Lib.hid (fun ao c W (h : RowT W ao ps.length c ps) => l10Least_ok ao ps.length c ps m W h hn h5 (by omega))
    rw [hb] at HO
    clear hb hn hs0 hs1
    go_enter Tryd.func38, Tryd.ntmps38
    go_wp2_with fail
    refine HO.out.mono ?_
    rintro e w1 ⟨v, rfl, o1, b1⟩
    rw [HN.out] at o1
    obtain ⟨a, c, rfl, r1⟩ := o1.row
    have HL1 := Lib.hid (HL.out _ _ _ r1)
    have B1 := Lib.hid b1
    clear o1 r1 b1
    go_wp2_with fail
    refine HL1.out.mono ?_
    rintro e w2 ⟨rfl, b2⟩
    go_wp2_with fail
    go_ret2
    exact ⟨ret2h HV.out.symm rfl, B1.out.trans (b2.mono B1.out.size)⟩

set_option maxHeartbeats 1000000 in
theorem lhI_ok (t : ByteArray) (s : Int) (w : World) (hs : t.size ≤ 1048576) (hm : MaxLenIs w) :
    Calls Tryd.prog 39 #[.string t, .int .i64 s] w fun e w' => e = .returned (.tuple #[.string (lhT (cutsP 44 t) s), .bool (stB' (cutsP 44 t) s)]) ∧ Below w.heap.size w w' := by
  have HO := Lib.hid (stateOf_ok t s w hs hm)
  have hp0 := cutsP_pos 44 t
  generalize cutsP 44 t = ps at HO hp0 ⊢
  cases hb : stB' ps s with
  | false =>
    have HV := Lib.hid (lhT_no hb)
    rw [hb] at HO
    clear hb
    go_enter Tryd.func39, Tryd.ntmps39
    go_wp2_with fail
    refine HO.out.mono ?_
    rintro e w1 ⟨v, rfl, o1, b1⟩
    clear o1
    go_wp2_with fail
    go_ret2
    exact ⟨ret2h HV.out.symm rfl, b1⟩
  | true =>
    obtain ⟨hn, hs0, hs1⟩ := stB'_get hb
    obtain ⟨m, rfl⟩ := Int.eq_ofNat_of_zero_le hs0
    have HV := Lib.hid (lhT_yes hb)
    have h5 := net_le hn hp0
    have HN := Lib.hid (netN_yes hn)
    have hlen := bitsN_len ps ps.length
    have HL := Lib.hid (fun ao c W (h : RowN W ao ps.length c ps.length (bitsN ps ps.length)) => leastHold_ok ao c ps m W h hn h5 hp0 (by omega))
    rw [hb] at HO
    clear hb hn hs0 hs1
    go_enter Tryd.func39, Tryd.ntmps39
    go_wp2_with fail
    refine HO.out.mono ?_
    rintro e w1 ⟨v, rfl, o1, b1⟩
    rw [HN.out] at o1
    obtain ⟨a, c, rfl, r1⟩ := o1.row (bitsN_wide ps ps.length)
    rw [hlen] at r1 ⊢
    have HL1 := Lib.hid (HL.out _ _ _ r1)
    have B1 := Lib.hid b1
    clear o1 r1 b1 hlen
    go_wp2_with fail
    refine HL1.out.mono ?_
    rintro e w2 ⟨rfl, b2⟩
    go_wp2_with fail
    go_ret2
    exact ⟨ret2h HV.out.symm rfl, B1.out.trans (b2.mono B1.out.size)⟩

set_option maxHeartbeats 2000000 in
theorem FnExactLeastHold_ok (t : ByteArray) (s : Int) (w : World) (_ : t.size ≤ maxLen) (hm : MaxLenIs w) :
    Calls Tryd.prog 11 #[.string t, .int .i64 s] w fun e w' => e = .returned (.bool true) ∧ Below w.heap.size w w' := by
  go_enter Tryd.func11, Tryd.ntmps11
  by_cases hb0 : 1048576 < t.size
  · go_wp2
    go_ret
    exact ⟨rfl, Below.refl _ _⟩
  · have ht : t.size ≤ 1048576 := by omega
    have HM := Lib.hid hm
    clear hm
    go_wp2_with fail
    refine (lhS_ok t s _ ht).mono ?_
    rintro e w1 ⟨rfl, b1⟩
    go_wp2_with fail
    refine (lhI_ok t s _ ht (HM.out.below b1 (Nat.le_refl _))).mono ?_
    rintro e w2 ⟨rfl, b2⟩
    have c2 : Below w.heap.size w w2 := b1.trans (b2.mono b1.size)
    generalize lhT (cutsP 44 t) s = u
    generalize stB' (cutsP 44 t) s = ub
    go_wp2_with fail
    go_ret
    exact ⟨rfl, c2⟩

end Go.Proofs.YthgjmciiaikgoaaDoor
