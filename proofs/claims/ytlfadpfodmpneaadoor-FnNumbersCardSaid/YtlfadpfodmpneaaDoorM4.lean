/- Walks: a step of a network told as texts. -/
import Derived.Test.YtlfadpfodmpneaaDoorV1
import Derived.Test.YtlfadpfodmpneaaDoorBit
import Derived.Test.YtlfadpfodmpneaaDoorN4
import Derived.Test.YtlfadpfodmpneaaDoorM1
namespace Go.Proofs.YtlfadpfodmpneaaDoor
open Go.RowKit

/-- The value of a switch's rule at a state. -/
def bitN (ps : List ByteArray) (k s : Nat) : Nat := (byD (gT ps k) s).toNat
theorem bitN_lt {ps : List ByteArray} {k : Nat} (h : digB (gT ps k) = true) (s : Nat) : bitN ps k s < 2 := by
  have := byD_bit h s
  unfold bitN
  omega
theorem bitN_eq {ps : List ByteArray} {k : Nat} (h : digB (gT ps k) = true) (s : Nat) : byD (gT ps k) s = (bitN ps k s : Nat) := by
  have := byD_bit h s
  unfold bitN
  omega

/-- A step of the first k switches, those of a set alone. -/
def stepTo (ps : List ByteArray) (s b : Nat) : Nat → Nat
  | 0 => s
  | k + 1 => if b.testBit k = true then setN (stepTo ps s b k) k (bitN ps k s) else stepTo ps s b k
theorem stepTo_hit {ps : List ByteArray} {s b k : Nat} (h : b.testBit k = true) : stepTo ps s b (k + 1) = setN (stepTo ps s b k) k (bitN ps k s) := by rw [stepTo, if_pos h]
theorem stepTo_miss {ps : List ByteArray} {s b k : Nat} (h : b.testBit k = false) : stepTo ps s b (k + 1) = stepTo ps s b k := by rw [stepTo, if_neg (by rw [h]; decide)]
theorem stepTo_inv {ps : List ByteArray} (hn : netB ps = true) (h5 : ps.length ≤ 5) {s : Nat} (b : Nat) (hs : s < 32) : ∀ k, k ≤ ps.length → stepTo ps s b k < 32 ∧ ∀ j, j < 5 → (stepTo ps s b k).testBit j = if j < k ∧ b.testBit j = true then decide (bitN ps j s = 1) else s.testBit j
  | 0, _ => ⟨hs, fun j _ => by simp [stepTo]⟩
  | k + 1, hk => by
    obtain ⟨h1, h2⟩ := stepTo_inv hn h5 b hs k (by omega)
    have hd := (netB_get hn k (by omega)).1
    by_cases hb : b.testBit k = true
    · rw [stepTo_hit hb]
      refine ⟨setN_lt h1 (by omega) (bitN_lt hd s), fun j hj => ?_⟩
      rw [setN_bit h1 (by omega) (bitN_lt hd s) hj]
      by_cases e : j = k
      · subst e
        rw [if_pos rfl, if_pos ⟨Nat.lt_succ_self _, hb⟩]
      · rw [if_neg e, h2 j hj]
        by_cases h3 : j < k
        · simp [h3, show j < k + 1 by omega]
        · simp [h3, show ¬ j < k + 1 by omega]
    · have hb' : b.testBit k = false := by simpa using hb
      rw [stepTo_miss hb']
      refine ⟨h1, fun j hj => ?_⟩
      rw [h2 j hj]
      by_cases e : j = k
      · subst e
        simp [hb']
      · by_cases h3 : j < k
        · simp [h3, show j < k + 1 by omega]
        · simp [h3, show ¬ j < k + 1 by omega]
theorem net_size {ps : List ByteArray} (hn : netB ps = true) (k : Nat) (hk : k < ps.length) : (gT ps k).size = 2 ^ ps.length := (inpV_eq (by omega) (netB_get hn k hk).2).2
theorem net_le {ps : List ByteArray} (hn : netB ps = true) (h0 : 0 < ps.length) : ps.length ≤ 5 := (inpV_eq h0 (netB_get hn 0 h0).2).1

end Go.Proofs.YtlfadpfodmpneaaDoor
