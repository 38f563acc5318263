/- Walks: a number in decimal, by the reference. -/
import Derived.Test.YtlfadpfodmpneaaDoorNu1
import Derived.Test.YtlfadpfodmpneaaDoorF1
import Derived.Lib.ItoaLen
namespace Go.Proofs.YtlfadpfodmpneaaDoor
open Go.RowKit

/-- A number in decimal. -/
noncomputable def itB (n : Int) : ByteArray := ⟨(Lib.itoa n).toArray⟩
theorem itB_list (n : Int) : (itB n).data.toList = Lib.itoa n := rfl
theorem itB_size (n : Int) : (itB n).size = (Lib.itoa n).length := by simp [itB, ByteArray.size]
theorem itB_le {n : Int} (h0 : -9223372036854775808 ≤ n) (h1 : n ≤ 9223372036854775807) : (itB n).size ≤ 21 := by rw [itB_size]; exact Lib.itoa_length_le n h0 h1
theorem itB_pos (n : Int) : 0 < (itB n).size := by
  rw [itB_size]
  unfold Lib.itoa
  split
  · simp
  · have := dec_ne n.toNat
    exact List.length_pos_iff.2 this
theorem itB_nat (u : Nat) : itB (u : Int) = ⟨(Lib.decDigits u).toArray⟩ := by rw [itB, Lib.itoa_nonneg]
theorem dig_one (r : Nat) (h : r ≤ 9) : strOfNums [48 + (r : Int)] = ⟨#[UInt8.ofNat (48 + r)]⟩ := by
  have key : ∀ r : Fin 10, strOfNums [48 + ((r.val : Nat) : Int)] = ⟨#[UInt8.ofNat (48 + r.val)]⟩ := by decide +kernel
  exact key ⟨r, by omega⟩
theorem dig_cons (r : Nat) (h : r ≤ 9) (l : List UInt8) : strOfNums [48 + (r : Int)] ++ ⟨l.toArray⟩ = (⟨(UInt8.ofNat (48 + r) :: l).toArray⟩ : ByteArray) := by
  rw [dig_one r h]
  apply ByteArray.ext
  simp

set_option maxHeartbeats 2000000 in
theorem l14DecU_ok (u : Nat) (hu : u ≤ 9223372036854775807) (w : World) :
    Calls Tryd.prog 20 #[.int .i64 u] w fun e w' => e = .returned (.string (itB u)) ∧ Below w.heap.size w w' := by
  have h1 : ¬ (u : Int) < -9223372036854775807 := by omega
  have h2 : ¬ (u : Int) < 0 := by omega
  have HU := Lib.hid (itB_nat u)
  have hlu : (Lib.decDigits u).length ≤ 21 := by
    have := itB_le (n := (u : Int)) (by omega) (by omega)
    rw [itB_nat] at this
    simpa [ByteArray.size] using this
  have HLu := Lib.hid hlu
  clear hlu
  go_enter Tryd.func20, Tryd.ntmps20
  go_wp2_with fail
  go_loopw [0, 3] (fun n o wr => ∃ (m : Nat) (l : List UInt8), m ≤ u ∧ n = .int .i64 m ∧ o = .string ⟨l.toArray⟩ ∧ Lib.decDigits m ++ l = Lib.decDigits u ∧ Below w.heap.size w wr) (fun n _ _ => (intOf n).toNat)
  case atStart => exact ⟨u, [], Nat.le_refl _, rfl, rfl, by simp, Below.refl _ _⟩
  case round =>
    obtain ⟨m, l, hm, rfl, rfl, he, hb⟩ := hrel
    have HB := Lib.hid hb
    have HE := Lib.hid he
    have hl21 : l.length ≤ 21 := by
      have h := congrArg List.length he
      rw [List.length_append] at h
      have := HLu.out
      omega
    have hlz : (⟨l.toArray⟩ : ByteArray).size = l.length := by simp [ByteArray.size]
    have hts : (⟨l.toArray⟩ : ByteArray).size ≤ 21 := by omega
    clear hb he
    by_cases h9 : 9 < m
    · have h9w : (9 : Int) < (m : Int) := by omega
      obtain ⟨q, hq⟩ : ∃ q, q = m / 10 := ⟨_, rfl⟩
      obtain ⟨r, hr⟩ : ∃ r, r = m % 10 := ⟨_, rfl⟩
      have hqi : (m : Int) / 10 = (q : Int) := by omega
      have hri : (m : Int) % 10 = (r : Int) := by omega
      have hqt : (m : Int).tdiv 10 = (q : Int) := by rw [Int.tdiv_eq_ediv_of_nonneg (by omega)]; exact hqi
      have hrt : (m : Int).tmod 10 = (r : Int) := by rw [Int.tmod_eq_emod_of_nonneg (by omega)]; exact hri
      have hr9 : r ≤ 9 := by omega
      have hqm : q < m := by omega
      have HNe : Hid (Lib.decDigits q ++ UInt8.ofNat (48 + r) :: l = Lib.decDigits u) := by
        have := HE.out
        rw [dec_big (by omega), ← hq, ← hr, List.append_assoc] at this
        exact this
      have hcv := fun (W : World) => conv_one (48 + (r : Int)) W
      have hw : IntKind.u8.wrap (48 + (r : Int)) = 48 + (r : Int) := by rw [IntKind.wrap_u8]; omega
      have hsz : (strOfNums [48 + (r : Int)]).size = 1 := rfl
      have HCo := Lib.hid (dig_cons r hr9 l)
      clear hq hr
      generalize strOfNums [48 + (r : Int)] = t at hcv hsz HCo
      generalize (⟨l.toArray⟩ : ByteArray) = o at hlz hts HCo
      go_wp2_with fail
      go_roundw
      case rel => exact ⟨q, UInt8.ofNat (48 + r) :: l, by omega, rfl, by rw [HCo.out], HNe.out, HB.out.alloc HB.out.size _⟩
      case measure => simp [intOf] <;> omega
    · have h9w : ¬ (9 : Int) < (m : Int) := by omega
      have hm9 : m ≤ 9 := by omega
      have hcv := fun (W : World) => conv_one (48 + (m : Int)) W
      have hw : IntKind.u8.wrap (48 + (m : Int)) = 48 + (m : Int) := by rw [IntKind.wrap_u8]; omega
      have hsz : (strOfNums [48 + (m : Int)]).size = 1 := rfl
      have HCo := Lib.hid (dig_cons m hm9 l)
      have HFin : Hid ((⟨(UInt8.ofNat (48 + m) :: l).toArray⟩ : ByteArray) = itB u) := by
        unfold Hid
        rw [HU.out, ← HE.out, Lib.decDigits_one (by omega)]; rfl
      generalize strOfNums [48 + (m : Int)] = t at hcv hsz HCo
      generalize (⟨l.toArray⟩ : ByteArray) = o at hlz hts HCo
      go_wp2_with fail
      go_ret
      exact ⟨rett (HCo.out.trans HFin.out), HB.out.alloc HB.out.size _⟩

theorem itB_min : itB (-9223372036854775808) = ⟨#[45, 57, 50, 50, 51, 51, 55, 50, 48, 51, 54, 56, 53, 52, 55, 55, 53, 56, 48, 56]⟩ := by
  rw [itB]
  congr 1
  simp [Lib.itoa, Lib.decDigits]

set_option maxHeartbeats 2000000 in
theorem l14Dec_ok (n : Int) (h0 : -9223372036854775808 ≤ n) (h1 : n ≤ 9223372036854775807) (w : World) :
    Calls Tryd.prog 20 #[.int .i64 n] w fun e w' => e = .returned (.string (itB n)) ∧ Below w.heap.size w w' := by
  by_cases hn : 0 ≤ n
  · obtain ⟨u, rfl⟩ := Int.eq_ofNat_of_zero_le hn
    exact l14DecU_ok u (by omega) w
  · by_cases hmin : n < -9223372036854775807
    · obtain rfl : n = -9223372036854775808 := by omega
      have HM := Lib.hid itB_min
      go_enter Tryd.func20, Tryd.ntmps20
      go_wp2_with fail
      go_ret
      exact ⟨rett HM.out.symm, Below.refl _ _⟩
    · obtain ⟨u, hu⟩ := Int.eq_ofNat_of_zero_le (a := -n) (by omega)
      have hn2 : n < 0 := by omega
      have hneg : -n = (u : Int) := hu
      have hnw : wrap64 (-n) = (u : Int) := by rw [hneg]; unfold wrap64; omega
      have hnw2 : IntKind.i64.wrap (-n) = (u : Int) := by rw [IntKind.wrap_i64, hneg]; omega
      have HR := Lib.hid (fun W => l14DecU_ok u (by omega) W)
      have hz : (itB (u : Int)).size ≤ 21 := itB_le (by omega) (by omega)
      have HE : Hid ((⟨#[45]⟩ : ByteArray) ++ itB (u : Int) = itB n) := by
        unfold Hid
        rw [show n = -((u : Nat) : Int) by omega, itB, itB, Lib.itoa_neg u (by omega), Lib.itoa_nonneg]
        apply ByteArray.ext
        simp
      generalize itB (u : Int) = t at HR hz HE
      clear hu hneg
      go_enter Tryd.func20, Tryd.ntmps20
      go_wp2_with fail
      refine (HR.out _).mono ?_
      rintro e w1 ⟨rfl, b1⟩
      go_wp2_with fail
      go_ret
      exact ⟨rett HE.out, b1⟩

end Go.Proofs.YtlfadpfodmpneaaDoor
