/- HoldsNeeded on both sides, and the law FnExactHoldsNeeded. -/
import Derived.Test.YthgjmciiaikgoaaDoorG10
namespace Go.Proofs.YthgjmciiaikgoaaDoor
open Go.RowKit

/-- What HoldsNeeded gives. -/
noncomputable def hnV (ps : List ByteArray) (s : Int) : Int := if stB' ps s = true then ((popN (lhS ps s.toNat) : Nat) : Int) else -1
theorem hnV_no {ps : List ByteArray} {s : Int} (h : stB' ps s = false) : hnV ps s = -1 := by simp [hnV, h]
theorem hnV_yes {ps : List ByteArray} {s : Nat} (h : stB' ps (s : Int) = true) : hnV ps (s : Int) = ((popN (lhS ps s) : Nat) : Int) := by simp [hnV, h]
theorem hl_size (s set n : Nat) : (⟨(hlT s set n).toArray⟩ : ByteArray).size = n := by simp [ByteArray.size, hlT_len]

set_option maxHeartbeats 1000000 in
theorem hnS_ok (t : ByteArray) (s : Int) (w : World) (hs : t.size ≤ 1048576) :
    Calls Tryd.prog 40 #[.string t, .int .i64 s] w fun e w' => e = .returned (.int .i64 (hnV (cutsP 44 t) s)) ∧ Below w.heap.size w w' := by
  have HO := Lib.hid (lhS_ok t s w hs)
  have hp0 := cutsP_pos 44 t
  generalize cutsP 44 t = ps at HO hp0 ⊢
  cases hb : stB' ps s with
  | false =>
    have HV := Lib.hid (hnV_no hb)
    rw [hb] at HO
    clear hb
    generalize lhT ps s = u at HO
    go_enter Tryd.func40, Tryd.ntmps40
    go_wp2_with fail
    refine HO.out.mono ?_
    rintro e w1 ⟨rfl, b1⟩
    go_wp2_with fail
    go_ret
    exact ⟨congrArg (fun x => Ending.returned (.int .i64 x)) HV.out.symm, b1⟩
  | true =>
    obtain ⟨hn, hs0, hs1⟩ := stB'_get hb
    obtain ⟨m, rfl⟩ := Int.eq_ofNat_of_zero_le hs0
    have HV := Lib.hid (hnV_yes hb)
    have h5 := net_le hn hp0
    have hp : (2 ^ ps.length : Nat) ≤ 32 := Nat.pow_le_pow_right (n := 2) (by decide) h5
    have hlr := lhS_range ps m
    have HHe := Lib.hid (fun W => by
      have := l10Held_ok ⟨(hlT m (lhS ps m) ps.length).toArray⟩ W (by rw [hl_size]; omega)
      rw [hl_size, show (⟨(hlT m (lhS ps m) ps.length).toArray⟩ : ByteArray).data.toList = hlT m (lhS ps m) ps.length from rfl, heldTo_set hlr] at this
      exact this)
    have HSz := Lib.hid (fun W => by
      have := l7Size_ok ((lhS ps m : Nat) : Int) W (by omega) (by omega)
      rw [Int.toNat_natCast] at this; exact this)
    rw [hb, lhT_yes hb] at HO
    clear hb hn hs0 hs1
    generalize (⟨(hlT m (lhS ps m) ps.length).toArray⟩ : ByteArray) = u at HO HHe
    go_enter Tryd.func40, Tryd.ntmps40
    go_wp2_with fail
    refine HO.out.mono ?_
    rintro e w1 ⟨rfl, b1⟩
    go_wp2_with fail
    refine (HHe.out _).mono ?_
    rintro e w2 ⟨rfl, rfl⟩
    go_wp2_with fail
    refine (HSz.out _).mono ?_
    rintro e w2 ⟨rfl, rfl⟩
    go_wp2_with fail
    go_ret
    exact ⟨congrArg (fun x => Ending.returned (.int .i64 x)) HV.out.symm, b1⟩

set_option maxHeartbeats 1000000 in
theorem hnI_ok (t : ByteArray) (s : Int) (w : World) (hs : t.size ≤ 1048576) (hm : MaxLenIs w) :
    Calls Tryd.prog 41 #[.string t, .int .i64 s] w fun e w' => e = .returned (.int .i64 (hnV (cutsP 44 t) s)) ∧ Below w.heap.size w w' := by
  have HO := Lib.hid (lhI_ok t s w hs hm)
  have hp0 := cutsP_pos 44 t
  generalize cutsP 44 t = ps at HO hp0 ⊢
  cases hb : stB' ps s with
  | false =>
    have HV := Lib.hid (hnV_no hb)
    rw [hb] at HO
    clear hb
    generalize lhT ps s = u at HO
    go_enter Tryd.func41, Tryd.ntmps41
    go_wp2_with fail
    refine HO.out.mono ?_
    rintro e w1 ⟨rfl, b1⟩
    go_wp2_with fail
    go_ret
    exact ⟨congrArg (fun x => Ending.returned (.int .i64 x)) HV.out.symm, b1⟩
  | true =>
    obtain ⟨hn, hs0, hs1⟩ := stB'_get hb
    obtain ⟨m, rfl⟩ := Int.eq_ofNat_of_zero_le hs0
    have HV := Lib.hid (hnV_yes hb)
    have h5 := net_le hn hp0
    have hp : (2 ^ ps.length : Nat) ≤ 32 := Nat.pow_le_pow_right (n := 2) (by decide) h5
    have hlr := lhS_range ps m
    have HHe := Lib.hid (fun W => by
      have := heldIn_ok ⟨(hlT m (lhS ps m) ps.length).toArray⟩ W (by rw [hl_size]; omega)
      rw [hl_size, show (⟨(hlT m (lhS ps m) ps.length).toArray⟩ : ByteArray).data.toList = hlT m (lhS ps m) ps.length from rfl, heldTo_set hlr] at this
      exact this)
    have HSz := Lib.hid (fun W => OnesCount_ok (lhS ps m) W (by omega))
    have hwr : IntKind.u64.wrap ((lhS ps m : Nat) : Int) = ((lhS ps m : Nat) : Int) := by rw [IntKind.wrap_u64]; omega
    rw [hb, lhT_yes hb] at HO
    clear hb hn hs0 hs1
    generalize (⟨(hlT m (lhS ps m) ps.length).toArray⟩ : ByteArray) = u at HO HHe
    go_enter Tryd.func41, Tryd.ntmps41
    go_wp2_with fail
    refine HO.out.mono ?_
    rintro e w1 ⟨rfl, b1⟩
    go_wp2_with fail
    refine (HHe.out _).mono ?_
    rintro e w2 ⟨rfl, rfl⟩
    go_wp2_with fail
    refine (HSz.out _).mono ?_
    rintro e w2 ⟨rfl, rfl⟩
    go_wp2_with fail
    go_ret
    exact ⟨congrArg (fun x => Ending.returned (.int .i64 x)) HV.out.symm, b1⟩

set_option maxHeartbeats 2000000 in
theorem FnExactHoldsNeeded_ok (t : ByteArray) (s : Int) (w : World) (_ : t.size ≤ maxLen) (hm : MaxLenIs w) :
    Calls Tryd.prog 12 #[.string t, .int .i64 s] w fun e w' => e = .returned (.bool true) ∧ Below w.heap.size w w' := by
  go_enter Tryd.func12, Tryd.ntmps12
  by_cases hb0 : 1048576 < t.size
  · go_wp2
    go_ret
    exact ⟨rfl, Below.refl _ _⟩
  · have ht : t.size ≤ 1048576 := by omega
    have HM := Lib.hid hm
    clear hm
    go_wp2_with fail
    refine (hnS_ok t s _ ht).mono ?_
    rintro e w1 ⟨rfl, b1⟩
    go_wp2_with fail
    refine (hnI_ok t s _ ht (HM.out.below b1 (Nat.le_refl _))).mono ?_
    rintro e w2 ⟨rfl, b2⟩
    have c2 : Below w.heap.size w w2 := b1.trans (b2.mono b1.size)
    generalize hnV (cutsP 44 t) s = u
    go_wp2_with fail
    go_ret
    exact ⟨rfl, c2⟩

end Go.Proofs.YthgjmciiaikgoaaDoor
