/- Walks: a step of a network told as texts. -/
import Derived.Test.YthgjmciiaikgoaaDoorV1
import Derived.Test.YthgjmciiaikgoaaDoorBit
import Derived.Test.YthgjmciiaikgoaaDoorN4
import Derived.Test.YthgjmciiaikgoaaDoorM1
namespace Go.Proofs.YthgjmciiaikgoaaDoor
open Go.RowKit

/-- The value of a switch's rule at a state. -/
def bitN (ps : List ByteArray) (k s : Nat) : Nat := (byD (gT ps k) s).toNat
theorem bitN_lt {ps : List ByteArray} {k : Nat} (h : digB (gT ps k) = true) (s : Nat) : bitN ps k s < 2 := by
  have := byD_bit h s
  unfold bitN
  omega
theorem bitN_eq {ps : List ByteArray} {k : Nat} (h : digB (gT ps k) = true) (s : Nat) : byD (gT ps k) s = (bitN ps k s : Nat) := by
  have := byD_bit h s
  unfold bitN
  omega

set_option maxHeartbeats 1000000 in
theorem l1At_ok (f : ByteArray) (s : Nat) (w : World) (hs : s < f.size) :
    Calls Tryd.prog 120 #[.string f, .int .i64 s] w fun e w' => e = .returned (.int .i64 (byD f s)) ∧ w = w' := by
  have HE := Lib.hid (byD_at f s hs)
  have hs' : (s : Int) < (f.size : Int) := by omega
  have hlt := UInt8.toNat_lt f[s]
  go_enter Tryd.func120, Tryd.ntmps120
  go_wp2
  go_ret
  exact ⟨reti HE.out.symm, rfl⟩

set_option maxHeartbeats 1000000 in
theorem l1Set_ok (s i v : Nat) (w : World) (hs : s < 32) (hi : i < 5) (hv : v < 2) :
    Calls Tryd.prog 119 #[.int .i64 s, .int .i64 i, .int .i64 v] w fun e w' => e = .returned (.int .i64 (setN s i v : Nat)) ∧ w = w' := by
  have hp : (2 ^ i : Nat) < 32 := Nat.pow_lt_pow_right (by decide) hi
  have h1 : wrap64 (2 ^ i) = ((2 ^ i : Nat) : Int) := wrap_pow_nat i (by omega)
  have h2 : wrap64 ((v : Int) * 2 ^ i) = ((v * 2 ^ i : Nat) : Int) := by
    rcases (show v = 0 ∨ v = 1 by omega) with rfl | rfl
    · simp; decide +kernel
    · simpa using h1
  have h3 := andNot_32 s (2 ^ i) hs hp
  have h4 : bits .or .i64 ((s &&& (31 - 2 ^ i) : Nat) : Int) ((v * 2 ^ i : Nat) : Int) = ((setN s i v : Nat) : Int) := or_nat _ _ (Nat.lt_of_lt_of_le (and_lt32 hs) (by decide)) (Nat.lt_of_le_of_lt (Nat.mul_le_mul (show v ≤ 1 by omega) (Nat.le_of_lt hp)) (by decide))
  generalize ((2 ^ i : Nat) : Int) = a at h1 h3
  generalize ((s &&& (31 - 2 ^ i) : Nat) : Int) = b at h3 h4
  generalize ((v * 2 ^ i : Nat) : Int) = c at h2 h4
  go_enter Tryd.func119, Tryd.ntmps119
  go_wp2
  go_ret
  exact ⟨rfl, rfl⟩

/-- A step of the first k switches, those of a set alone. -/
def stepTo (ps : List ByteArray) (s b : Nat) : Nat → Nat
  | 0 => s
  | k + 1 => if b.testBit k = true then setN (stepTo ps s b k) k (bitN ps k s) else stepTo ps s b k
theorem stepTo_hit {ps : List ByteArray} {s b k : Nat} (h : b.testBit k = true) : stepTo ps s b (k + 1) = setN (stepTo ps s b k) k (bitN ps k s) := by rw [stepTo, if_pos h]
theorem stepTo_miss {ps : List ByteArray} {s b k : Nat} (h : b.testBit k = false) : stepTo ps s b (k + 1) = stepTo ps s b k := by rw [stepTo, if_neg (by rw [h]; decide)]
theorem stepTo_inv {ps : List ByteArray} (hn : netB ps = true) (h5 : ps.length ≤ 5) {s : Nat} (b : Nat) (hs : s < 32) : ∀ k, k ≤ ps.length → stepTo ps s b k < 32 ∧ ∀ j, j < 5 → (stepTo ps s b k).testBit j = if j < k ∧ b.testBit j = true then decide (bitN ps j s = 1) else s.testBit j
  | 0, _ => ⟨hs, fun j _ => by simp [stepTo]⟩
  | k + 1, hk => by
    obtain ⟨h1, h2⟩ := stepTo_inv hn h5 b hs k (by omega)
    have hd := (netB_get hn k (by omega)).1
    by_cases hb : b.testBit k = true
    · rw [stepTo_hit hb]
      refine ⟨setN_lt h1 (by omega) (bitN_lt hd s), fun j hj => ?_⟩
      rw [setN_bit h1 (by omega) (bitN_lt hd s) hj]
      by_cases e : j = k
      · subst e
        rw [if_pos rfl, if_pos ⟨Nat.lt_succ_self _, hb⟩]
      · rw [if_neg e, h2 j hj]
        by_cases h3 : j < k
        · simp [h3, show j < k + 1 by omega]
        · simp [h3, show ¬ j < k + 1 by omega]
    · have hb' : b.testBit k = false := by simpa using hb
      rw [stepTo_miss hb']
      refine ⟨h1, fun j hj => ?_⟩
      rw [h2 j hj]
      by_cases e : j = k
      · subst e
        simp [hb']
      · by_cases h3 : j < k
        · simp [h3, show j < k + 1 by omega]
        · simp [h3, show ¬ j < k + 1 by omega]
theorem net_size {ps : List ByteArray} (hn : netB ps = true) (k : Nat) (hk : k < ps.length) : (gT ps k).size = 2 ^ ps.length := (inpV_eq (by omega) (netB_get hn k hk).2).2
theorem net_le {ps : List ByteArray} (hn : netB ps = true) (h0 : 0 < ps.length) : ps.length ≤ 5 := (inpV_eq h0 (netB_get hn 0 h0).2).1

set_option maxHeartbeats 2000000 in
theorem l3Step_ok (ao : Option Addr) (n c : Nat) (ps : List ByteArray) (s b : Nat) (w : World) (h : RowT w ao n c ps) (hn : netB ps = true) (h5 : n ≤ 5) (hs : s < 2 ^ n) (hb : b < 32) :
    Calls Tryd.prog 91 #[.slice ao n c, .int .i64 s, .int .i64 b] w fun e w' => e = .returned (.int .i64 (stepTo ps s b n : Nat)) ∧ w = w' := by
  obtain rfl := h.1
  have hp : (2 ^ ps.length : Nat) ≤ 32 := Nat.pow_le_pow_right (n := 2) (by decide) h5
  have HI := Lib.hid (stepTo_inv hn h5 b (show s < 32 by omega))
  have HN := Lib.hid hn
  have HS := Lib.hid (fun k hk => net_size hn k hk)
  have HSl := Lib.hid hs
  clear hn hs
  go_enter Tryd.func91, Tryd.ntmps91
  go_wp2
  go_loop [7, 8] (fun v i => ∃ k : Nat, k ≤ ps.length ∧ i = .int .i64 k ∧ v = .int .i64 (stepTo ps s b k : Nat)) (fun _ i => ps.length - (intOf i).toNat)
  case atStart => exact ⟨0, Nat.zero_le _, rfl, rfl⟩
  case round =>
    obtain ⟨k, hk, rfl, rfl⟩ := hrel
    by_cases hlt : k < ps.length
    · obtain ⟨q, o, rfl, hbo⟩ := h.2.some (by omega)
      have hcx := h.2.cell q o rfl k hlt
      have hlt' : (k : Int) < (ps.length : Int) := by omega
      have hL := (HI.out k hk).1
      have HD := Lib.hid (netB_get HN.out k hlt).1
      clear h
      cases hq : b.testBit k with
      | true =>
        have hb1 : ((((bN b k : Nat) : Int)) == 1) = true := by
          have : bN b k = 1 := by rw [bN, bit_test, hq]; rfl
          rw [this]; rfl
        have HH := Lib.hid (stepTo_hit (ps := ps) (s := s) hq)
        have HAt := Lib.hid (fun W => l1At_ok (gT ps k) s W (by rw [HS.out k hlt]; exact HSl.out))
        have HSet := Lib.hid (fun W => l1Set_ok (stepTo ps s b k) k (bitN ps k s) W hL (by omega) (bitN_lt HD.out s))
        rw [bitN_eq HD.out s] at HAt
        clear hq
        go_wp2_with (first | (go_at_call 53; refine (l1Bit_ok _ _ _ (by omega) (by omega) (by omega) (by omega)).mono ?_; rintro e w' ⟨rfl, rfl⟩))
        refine (HAt.out _).mono ?_
        rintro e w2 ⟨rfl, rfl⟩
        go_wp2_with fail
        refine (HSet.out _).mono ?_
        rintro e w2 ⟨rfl, rfl⟩
        go_wp2_with fail
        go_round
        case rel => exact ⟨k + 1, by omega, by go_num, by rw [HH.out]⟩
        case measure => simp [intOf]; omega
      | false =>
        have hb1 : ((((bN b k : Nat) : Int)) == 1) = false := by
          have : bN b k = 0 := by rw [bN, bit_test, hq]; rfl
          rw [this]; rfl
        have HH := Lib.hid (stepTo_miss (ps := ps) (s := s) hq)
        clear hq
        go_wp2_with (first | (go_at_call 53; refine (l1Bit_ok _ _ _ (by omega) (by omega) (by omega) (by omega)).mono ?_; rintro e w' ⟨rfl, rfl⟩))
        go_round
        case rel => exact ⟨k + 1, by omega, by go_num, by rw [HH.out]⟩
        case measure => simp [intOf]; omega
    · obtain rfl : k = ps.length := by omega
      go_wp2
      go_ret
      exact ⟨rfl, rfl⟩

end Go.Proofs.YthgjmciiaikgoaaDoor
