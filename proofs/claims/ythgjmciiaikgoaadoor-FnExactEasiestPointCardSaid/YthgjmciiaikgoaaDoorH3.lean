/- Walks: holding switches, on both sides. -/
import Derived.Test.YthgjmciiaikgoaaDoorS3
import Derived.Test.YthgjmciiaikgoaaDoorH1
import Derived.Test.YthgjmciiaikgoaaDoorP1
namespace Go.Proofs.YthgjmciiaikgoaaDoor
open Go.RowKit

theorem digT_self {t : ByteArray} (h : digB t = true) : digT ((List.range t.size).map (byD t)) = t := by
  apply ByteArray.ext
  apply Array.ext'
  simp only [digT, List.map_map]
  apply List.ext_getElem?
  intro i
  by_cases hi : i < t.size
  · have hb := at_byte t i hi
    rw [hb]
    simp only [List.getElem?_map, List.getElem?_range hi, Option.map_some, Function.comp]
    rw [digB, List.all_eq_true] at h
    have hd := (isD_int _).1 (h t[i] (List.mem_of_getElem? hb))
    have e : byD t i = ((t[i].toNat : Nat) : Int) - 48 := byD_at t i hi
    have e2 : 48 + (byD t i).toNat = t[i].toNat := by omega
    rw [e2, UInt8.ofNat_toNat]
  · rw [List.getElem?_eq_none (by simp; omega), List.getElem?_eq_none (by simp; omega)]
theorem gT_dig {ps : List ByteArray} (hn : netB ps = true) {k : Nat} (hk : k < ps.length) : gT ps k = digF (bitN ps) ps.length k := by
  have hd := (netB_get hn k hk).1
  have hz := net_size hn k hk
  rw [digF, ← hz]
  conv => lhs; rw [← digT_self hd]
  congr 1
  apply List.map_congr_left
  intro s _
  exact bitN_eq hd s

/-- A letter repeated. -/
def repB (b : UInt8) (n : Nat) : ByteArray := ⟨(List.replicate n b).toArray⟩
theorem repB_size (b : UInt8) (n : Nat) : (repB b n).size = n := by simp [repB, ByteArray.size]
theorem repB_app (b : UInt8) (i j : Nat) : repB b i ++ repB b j = repB b (i + j) := by
  apply ByteArray.ext
  apply Array.ext'
  simp [repB]
theorem repB_one (b : UInt8) : repB b 1 = ⟨#[b]⟩ := rfl
theorem repB_zero (b : UInt8) : repB b 0 = ⟨#[]⟩ := rfl
theorem digT_rep (v n : Nat) : digT ((List.range n).map fun _ => ((v : Nat) : Int)) = repB (UInt8.ofNat (48 + v)) n := by
  apply ByteArray.ext
  apply Array.ext'
  simp only [digT, repB, List.map_map]
  rw [List.eq_replicate_iff]
  refine ⟨by simp, fun b hb => ?_⟩
  simp only [List.mem_map, Function.comp] at hb
  obtain ⟨_, _, rfl⟩ := hb
  simp

set_option maxHeartbeats 2000000 in
theorem many_ok (b : UInt8) (n : Nat) (w : World) (hn : n ≤ 64) :
    Calls Tryd.prog 102 #[.string ⟨#[b]⟩, .int .i64 n] w fun e w' => e = .returned (.string (repB b n)) ∧ w = w' := by
  rw [← repB_one]
  have h1 := repB_size b 1
  generalize hr : repB b 1 = r1 at h1
  go_enter Tryd.func102, Tryd.ntmps102
  go_wp2_with fail
  go_loop [5, 0, 1] (fun o s q => ∃ i j m : Nat, o = .string (repB b i) ∧ s = .string (repB b j) ∧ q = .int .i64 m ∧ i + j * m = n ∧ (m = 0 ∨ j ≤ 64) ∧ 1 ≤ j) (fun _ _ q => (intOf q).toNat)
  case atStart => exact ⟨0, 1, n, rfl, by rw [hr], rfl, by omega, .inr (by omega), Nat.le_refl _⟩
  case round =>
    obtain ⟨i, j, m, rfl, rfl, rfl, hs, hj, hj1⟩ := hrel
    clear hr
    by_cases hm : 0 < m
    · have hm' : (0 : Int) < (m : Int) := by omega
      have hjm : j ≤ j * m := Nat.le_mul_of_pos_right j hm
      have hm64 : m ≤ 64 := by have : m ≤ j * m := Nat.le_mul_of_pos_left m hj1
                               omega
      have hi64 : i ≤ 64 := by omega
      have hj64 : j ≤ 64 := by omega
      have hsi := repB_size b i
      have hsj := repB_size b j
      have hs1 : (repB b i).size ≤ 64 := by omega
      have hs2 : (repB b j).size ≤ 64 := by omega
      have HA1 := Lib.hid (repB_app b i j)
      have HA2 := Lib.hid (repB_app b j j)
      have HJ2 : Hid (m / 2 = 0 ∨ j + j ≤ 64) := by
        unfold Hid
        by_cases h2 : m / 2 = 0
        · exact .inl h2
        · have : j * 2 ≤ j * m := Nat.mul_le_mul_left j (by omega)
          omega
      have hms := Nat.div_add_mod m 2
      have hmr : m % 2 < 2 := Nat.mod_lt _ (by decide)
      have hjj : j * m = (j + j) * (m / 2) + j * (m % 2) := by
        conv => lhs; rw [← hms]
        rw [Nat.mul_add, ← Nat.mul_assoc, Nat.mul_two]
      have HS := Lib.hid hs
      have HJJ := Lib.hid hjj
      clear hsi hsj hs hjj hjm hj hms
      by_cases hodd : m % 2 = 1
      · have ho : ((m : Int) % 2 == 1) = true := by rw [beq_iff_eq]; omega
        have HO := Lib.hid hodd
        clear hodd hmr
        generalize repB b i = ri at hs1 HA1
        generalize repB b j = rj at hs2 HA1 HA2
        go_wp2_with fail
        go_round
        case rel => exact ⟨i + j, j + j, m / 2, by rw [HA1.out], by rw [HA2.out], by rfl, by have := HJJ.out; have := HS.out; rw [HO.out] at *; omega, HJ2.out, by omega⟩
        case measure => simp [intOf]; omega
      · have ho : ((m : Int) % 2 == 1) = false := by rw [beq_eq_false_iff_ne]; omega
        have HO := Lib.hid (show m % 2 = 0 by omega)
        clear hodd hmr
        generalize repB b j = rj at hs2 HA1 HA2
        go_wp2_with fail
        go_round
        case rel => exact ⟨i, j + j, m / 2, rfl, by rw [HA2.out], by rfl, by have := HJJ.out; have := HS.out; rw [HO.out] at *; omega, HJ2.out, by omega⟩
        case measure => simp [intOf]; omega
    · obtain rfl : m = 0 := by omega
      have hi : i = n := by omega
      have hm' : ¬ (0 : Int) < ((0 : Nat) : Int) := by omega
      have HI := Lib.hid hi
      clear hi hs
      go_wp2_with fail
      go_ret
      exact ⟨by rw [HI.out]; rfl, rfl⟩

end Go.Proofs.YthgjmciiaikgoaaDoor
