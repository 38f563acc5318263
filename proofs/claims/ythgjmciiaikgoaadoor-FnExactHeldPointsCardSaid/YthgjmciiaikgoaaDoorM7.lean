/- Walks: a step of each block, on both sides. -/
import Derived.Test.YthgjmciiaikgoaaDoorM6
namespace Go.Proofs.YthgjmciiaikgoaaDoor
open Go.RowKit

theorem fold_all {top : Int} : ∀ (zs : List Int) (t u : Nat), zs.foldlM (addB top) t = some u → ∀ z ∈ zs, 1 ≤ z ∧ z < top
  | [], _, _, _, z, hz => by cases hz
  | x :: zs, t, u, h, z, hz => by
    rw [List.foldlM_cons] at h
    cases hx : addB top t x with
    | none => rw [hx] at h; cases h
    | some v =>
      rw [hx] at h
      rcases List.mem_cons.1 hz with rfl | hz
      · unfold addB at hx
        split at hx
        · rename_i hc; exact ⟨hc.1, hc.2.1⟩
        · cases hx
      · exact fold_all zs v u h z hz
theorem blocks_all {zs : List Int} {m : Int} (h : blocksV zs m = true) (k : Nat) (hk : k < zs.length) : 1 ≤ gI zs k ∧ gI zs k < 2 ^ m.toNat := by
  rw [← blocks_same] at h
  simp only [blocksI, Bool.and_eq_true, decide_eq_true_iff] at h
  exact fold_all zs 0 _ h.2 _ (List.mem_of_getElem? (gI_lt hk))

set_option maxHeartbeats 2000000 in
theorem l11Step_ok (ao : Option Addr) (n c : Nat) (ps : List ByteArray) (bo : Option Addr) (l d : Nat) (zs : List Int) (s : Nat) (w : World) (h : RowT w ao n c ps) (hz : RowI w bo l d zs) (hn : netB ps = true) (h5 : n ≤ 5) (hs : s < 2 ^ n) (hb : ∀ k, k < l → 1 ≤ gI zs k ∧ gI zs k < 2 ^ n) (hl : l ≤ 1048576) :
    Calls Tryd.prog 49 #[.slice ao n c, .slice bo l d, .int .i64 s] w fun e w' => e = .returned (.int .i64 (runTo ps zs s l : Nat)) ∧ w = w' := by
  obtain rfl := h.1
  have hp : (2 ^ ps.length : Nat) ≤ 32 := Nat.pow_le_pow_right (n := 2) (by decide) h5
  have hc : ((2 ^ ps.length : Nat) : Int) = 2 ^ ps.length := by simp
  have HR := Lib.hid (runTo_lt hn h5 zs hs)
  have HStep := Lib.hid (fun s b hs hb => l3Step_ok ao ps.length c ps s b w h hn h5 hs hb)
  have HBk := Lib.hid hb
  clear hb hs hn h
  go_enter Tryd.func49, Tryd.ntmps49
  go_wp2
  go_loop [2, 7] (fun v i => ∃ k : Nat, k ≤ l ∧ i = .int .i64 k ∧ v = .int .i64 (runTo ps zs s k : Nat)) (fun _ i => l - (intOf i).toNat)
  case atStart => exact ⟨0, Nat.zero_le _, rfl, rfl⟩
  case round =>
    obtain ⟨k, hk, rfl, rfl⟩ := hrel
    by_cases hlt : k < l
    · obtain ⟨q, o, rfl, hbo⟩ := hz.2.some (by omega)
      have hcx := hz.2.cell q o rfl k hlt
      have hlt' : (k : Int) < (l : Int) := by omega
      obtain ⟨g1, g2⟩ := HBk.out k hlt
      obtain ⟨b, hbv⟩ := Int.eq_ofNat_of_zero_le (show 0 ≤ gI zs k by omega)
      rw [hbv] at hcx
      have HS := Lib.hid (HStep.out (runTo ps zs s k) b (HR.out k) (by omega))
      have HN : Hid (runTo ps zs s (k + 1) = stepTo ps (runTo ps zs s k) b ps.length) := by
        unfold Hid
        rw [runTo, hbv, Int.toNat_natCast]
      clear hz g1 g2 hbv
      go_wp2_with fail
      refine HS.out.mono ?_
      rintro e w2 ⟨rfl, rfl⟩
      go_wp2_with fail
      go_round
      case rel => exact ⟨k + 1, by omega, by go_num, by rw [HN.out]⟩
      case measure => simp [intOf]; omega
    · obtain rfl : k = l := by omega
      go_wp2
      go_ret
      exact ⟨rfl, rfl⟩

set_option maxHeartbeats 2000000 in
theorem run_ok (ao : Option Addr) (c : Nat) (ps : List ByteArray) (bo : Option Addr) (l d : Nat) (zs : List Int) (s : Nat) (w : World) (h : RowN w ao ps.length c ps.length (bitsN ps ps.length)) (hz : RowI w bo l d zs) (hn : netB ps = true) (h5 : ps.length ≤ 5) (hs : s < 2 ^ ps.length) (hb : ∀ k, k < l → 1 ≤ gI zs k ∧ gI zs k < 2 ^ ps.length) (hl : l ≤ 1048576) :
    Calls Tryd.prog 52 #[.slice ao ps.length c, .slice bo l d, .int .i64 s] w fun e w' => e = .returned (.int .i64 (runTo ps zs s l : Nat)) ∧ Below w.heap.size w w' := by
  have hp : (2 ^ ps.length : Nat) ≤ 32 := Nat.pow_le_pow_right (n := 2) (by decide) h5
  have hc : ((2 ^ ps.length : Nat) : Int) = 2 ^ ps.length := by simp
  have HR := Lib.hid (runTo_lt hn h5 zs hs)
  have HStep := Lib.hid (fun (W : World) (q : Nat) (hW : Below w.heap.size w W) (hq : q < 2 ^ ps.length) => step_ok ao c ps q W (h.below hW (Nat.le_refl _)) hn h5 hq)
  have HEq := Lib.hid (fun (q b : Nat) (hq : q < 2 ^ ps.length) (hb : b < 2 ^ ps.length) => blkN_eq hn h5 hq hb)
  have HAll := Lib.hid (fun q => (allTo_inv hn h5 q ps.length (Nat.le_refl _)).1)
  have HBk := Lib.hid hb
  clear hb hs hn h
  go_enter Tryd.func52, Tryd.ntmps52
  go_wp2
  go_loopw [2, 11] (fun v i wr => ∃ k : Nat, k ≤ l ∧ i = .int .i64 k ∧ v = .int .i64 (runTo ps zs s k : Nat) ∧ Below w.heap.size w wr) (fun _ i _ => l - (intOf i).toNat)
  case atStart => exact ⟨0, Nat.zero_le _, rfl, rfl, Below.refl _ _⟩
  case round =>
    obtain ⟨k, hk, rfl, rfl, hbw⟩ := hrel
    by_cases hlt : k < l
    · obtain ⟨q, o, rfl, hbo⟩ := hz.2.some (by omega)
      have hcx := (hz.below hbw (Nat.le_refl _)).2.cell q o rfl k hlt
      have hlt' : (k : Int) < (l : Int) := by omega
      obtain ⟨g1, g2⟩ := HBk.out k hlt
      obtain ⟨b, hbv⟩ := Int.eq_ofNat_of_zero_le (show 0 ≤ gI zs k by omega)
      rw [hbv] at hcx
      have hrk := HR.out k
      have HS := Lib.hid (HStep.out wr (runTo ps zs s k) hbw hrk)
      have hE := HEq.out (runTo ps zs s k) b hrk (by omega)
      have hA := HAll.out (runTo ps zs s k)
      have hN : runTo ps zs s (k + 1) = stepTo ps (runTo ps zs s k) b ps.length := by rw [runTo, hbv, Int.toNat_natCast]
      have HN := Lib.hid hN
      have e1 := andNot_32 (runTo ps zs s k) b (by omega) (by omega)
      have e2 := and_nat (allTo ps (runTo ps zs s k) ps.length) b (by omega) (by omega)
      have e3 := or_nat (runTo ps zs s k &&& (31 - b)) (allTo ps (runTo ps zs s k) ps.length &&& b) (Nat.lt_of_lt_of_le (and_lt32 (by omega)) (by decide)) (Nat.lt_of_lt_of_le (and_lt32 hA) (by decide))
      rw [show (runTo ps zs s k &&& (31 - b)) ||| (allTo ps (runTo ps zs s k) ps.length &&& b) = runTo ps zs s (k + 1) from hE.trans hN.symm] at e3
      clear hz g1 g2 hbv hE hN HEq HAll
      generalize ((runTo ps zs s k &&& (31 - b) : Nat) : Int) = u1 at e1 e3
      generalize ((allTo ps (runTo ps zs s k) ps.length &&& b : Nat) : Int) = u2 at e2 e3
      go_wp2_with fail
      refine HS.out.mono ?_
      rintro e w2 ⟨rfl, b2⟩
      go_wp2_with fail
      go_roundw
      case rel => exact ⟨k + 1, by omega, by go_num, rfl, hbw.trans (b2.mono hbw.size)⟩
      case measure => simp [intOf]; omega
    · obtain rfl : k = l := by omega
      go_wp2
      go_ret
      exact ⟨rfl, hbw⟩

end Go.Proofs.YthgjmciiaikgoaaDoor
