/- Walks: a state of a network; a step of all switches, by the reference. -/
import Derived.Test.YthgjmciiaikgoaaDoorAll
namespace Go.Proofs.YthgjmciiaikgoaaDoor
open Go.RowKit

set_option maxHeartbeats 1000000 in
theorem netValidS_ok (t : ByteArray) (w : World) (hs : t.size ≤ 1048576) :
    Calls Tryd.prog 56 #[.string t] w fun e w' => e = .returned (.bool (netB (cutsP 44 t))) ∧ Below w.heap.size w w' := by
  have HO := Lib.hid (l3Open_ok t w hs)
  generalize netB (cutsP 44 t) = b at HO ⊢
  go_enter Tryd.func56, Tryd.ntmps56
  go_wp2_with fail
  refine HO.out.mono ?_
  rintro e w1 ⟨v, rfl, o1, b1⟩
  clear o1
  go_wp2_with fail
  go_ret
  exact ⟨rfl, b1⟩

/-- Whether a number is a state of a network. -/
def stB' (ps : List ByteArray) (s : Int) : Bool := netB ps && stOk ps.length s
theorem stB'_no {ps : List ByteArray} {s : Int} (h : netB ps = false) : stB' ps s = false := by simp [stB', h]
theorem stB'_in {ps : List ByteArray} {s : Int} (h : netB ps = true) : stB' ps s = stOk ps.length s := by simp [stB', h]

set_option maxHeartbeats 1000000 in
theorem l3State_ok (t : ByteArray) (s : Int) (w : World) (hs : t.size ≤ 1048576) :
    Calls Tryd.prog 80 #[.string t, .int .i64 s] w fun e w' => ∃ v, e = .returned (.tuple #[v, .bool (stB' (cutsP 44 t) s)]) ∧ OwnT w' w.heap.size v (netL (cutsP 44 t)) ∧ Below w.heap.size w w' := by
  have HO := Lib.hid (l3Open_ok t w hs)
  have hp0 := cutsP_pos 44 t
  generalize cutsP 44 t = ps at HO hp0
  cases hb : netB ps with
  | false =>
    have HV := Lib.hid (stB'_no (s := s) hb)
    rw [hb] at HO
    clear hb
    go_enter Tryd.func80, Tryd.ntmps80
    go_wp2_with fail
    refine HO.out.mono ?_
    rintro e w1 ⟨v, rfl, o1, b1⟩
    have O1 := Lib.hid o1
    clear o1
    go_wp2_with fail
    go_ret2
    exact ⟨_, retv HV.out.symm, O1.out, b1⟩
  | true =>
    have HV := Lib.hid (stB'_in (s := s) hb)
    have HN := Lib.hid (netL_yes hb)
    have HA := Lib.hid (fun ao c W => l3All_ok ao ps.length c W (net_le hb hp0))
    have HQ : Hid (stOk ps.length s = inB s 0 ((2 ^ ps.length - 1 : Nat) : Int)) := rfl
    rw [hb] at HO
    clear hb
    go_enter Tryd.func80, Tryd.ntmps80
    go_wp2_with fail
    refine HO.out.mono ?_
    rintro e w1 ⟨v, rfl, o1, b1⟩
    have O1 := Lib.hid o1
    rw [HN.out] at o1
    obtain ⟨a, c, rfl, _⟩ := o1.row
    clear o1
    generalize ((2 ^ ps.length - 1 : Nat) : Int) = top at HQ HA
    go_wp2_with fail
    refine (HA.out _ _ _).mono ?_
    rintro e w2 ⟨rfl, rfl⟩
    go_wp2_with (go_at_call 47; refine (l1In_ok _ _ _ _).mono ?_; rintro e w' ⟨rfl, rfl⟩)
    go_ret2
    exact ⟨_, retv (by rw [HV.out, HQ.out]), O1.out, b1⟩

/-- What StepAll gives. -/
def saV (ps : List ByteArray) (s : Int) : Int := if stB' ps s = true then (stepTo ps s.toNat (2 ^ ps.length - 1) ps.length : Nat) else -1
theorem saV_no {ps : List ByteArray} {s : Int} (h : stB' ps s = false) : saV ps s = -1 := by simp [saV, h]
theorem saV_yes {ps : List ByteArray} {s : Nat} (h : stB' ps s = true) : saV ps s = (stepTo ps s (2 ^ ps.length - 1) ps.length : Nat) := by simp [saV, h]
theorem stB'_get {ps : List ByteArray} {s : Int} (h : stB' ps s = true) : netB ps = true ∧ 0 ≤ s ∧ s < ((2 ^ ps.length : Nat) : Int) := by
  rw [stB', Bool.and_eq_true] at h
  exact ⟨h.1, stOk_iff.1 h.2⟩
theorem saV_range (ps : List ByteArray) (s : Int) (hp : 0 < ps.length) : (stB' ps s = false ∧ saV ps s = -1) ∨ (stB' ps s = true ∧ 0 ≤ saV ps s ∧ saV ps s < 32) := by
  cases h : stB' ps s with
  | false => exact .inl ⟨rfl, saV_no h⟩
  | true =>
    obtain ⟨h1, h2, h3⟩ := stB'_get h
    obtain ⟨q, rfl⟩ := Int.eq_ofNat_of_zero_le h2
    have h5 := net_le h1 hp
    have hpw : (2 ^ ps.length : Nat) ≤ 32 := Nat.pow_le_pow_right (n := 2) (by decide) h5
    have := (stepTo_inv h1 h5 (s := q) (2 ^ ps.length - 1) (by omega) ps.length (Nat.le_refl _)).1
    rw [saV_yes h]
    exact .inr ⟨rfl, by omega, by omega⟩

set_option maxHeartbeats 1000000 in
theorem stepAllS_ok (t : ByteArray) (s : Int) (w : World) (hs : t.size ≤ 1048576) :
    Calls Tryd.prog 57 #[.string t, .int .i64 s] w fun e w' => e = .returned (.int .i64 (saV (cutsP 44 t) s)) ∧ Below w.heap.size w w' := by
  have HO := Lib.hid (l3State_ok t s w hs)
  have hp0 := cutsP_pos 44 t
  generalize cutsP 44 t = ps at HO hp0
  cases hb : stB' ps s with
  | false =>
    have HV := Lib.hid (saV_no hb)
    rw [hb] at HO
    clear hb
    go_enter Tryd.func57, Tryd.ntmps57
    go_wp2_with fail
    refine HO.out.mono ?_
    rintro e w1 ⟨v, rfl, o1, b1⟩
    clear o1
    go_wp2_with fail
    go_ret
    exact ⟨reti HV.out.symm, b1⟩
  | true =>
    obtain ⟨h1, h2, h3⟩ := stB'_get hb
    obtain ⟨q, rfl⟩ := Int.eq_ofNat_of_zero_le h2
    have h5 := net_le h1 hp0
    have hpw : (2 ^ ps.length : Nat) ≤ 32 := Nat.pow_le_pow_right (n := 2) (by decide) h5
    have HV := Lib.hid (saV_yes hb)
    have HN := Lib.hid (netL_yes h1)
    have HA := Lib.hid (fun ao c W => l3All_ok ao ps.length c W h5)
    have HS := Lib.hid (fun ao c W (h : RowT W ao ps.length c ps) => l3Step_ok ao ps.length c ps q (2 ^ ps.length - 1) W h h1 h5 (by omega) (by omega))
    rw [hb] at HO
    clear hb h1 h2 h3
    go_enter Tryd.func57, Tryd.ntmps57
    go_wp2_with fail
    refine HO.out.mono ?_
    rintro e w1 ⟨v, rfl, o1, b1⟩
    rw [HN.out] at o1
    obtain ⟨a, c, rfl, r1⟩ := o1.row
    have R1 := Lib.hid r1
    clear o1 r1
    generalize hm : (2 ^ ps.length - 1 : Nat) = m at HA HS HV
    clear hm
    go_wp2_with fail
    refine (HA.out _ _ _).mono ?_
    rintro e w2 ⟨rfl, rfl⟩
    go_wp2_with fail
    refine (HS.out _ _ _ R1.out).mono ?_
    rintro e w2 ⟨rfl, rfl⟩
    go_wp2_with fail
    go_ret
    exact ⟨reti HV.out.symm, b1⟩

end Go.Proofs.YthgjmciiaikgoaaDoor
