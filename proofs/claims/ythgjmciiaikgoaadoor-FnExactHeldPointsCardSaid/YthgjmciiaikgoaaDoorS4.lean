/- Walks: NetworkOfBlocks on both sides. -/
import Derived.Test.YthgjmciiaikgoaaDoorS3
import Derived.Test.YthgjmciiaikgoaaDoorM9
namespace Go.Proofs.YthgjmciiaikgoaaDoor
open Go.RowKit

theorem OwnI.belowB {w w' : World} {B B' : Nat} {v : Value} {zs : List Int} (h : OwnI w B v zs) (hb : Below B' w w') (hB : w.heap.size ≤ B') : OwnI w' B v zs := by
  obtain ⟨h0, h1 | ⟨g, cap, cur, e, hg, hh, h2⟩⟩ := h
  · exact ⟨h0, .inl h1⟩
  · exact ⟨h0, .inr ⟨g, cap, cur, e, hg, by rw [hb.block g (by have := lt_of_block hh; omega)]; exact hh, h2⟩⟩

/-- The values of the network of a schedule. -/
def schF (ps : List ByteArray) (zs : List Int) (k s : Nat) : Nat := bN (runTo ps zs s zs.length) k
def nbT (ps : List ByteArray) (zs : List Int) : ByteArray := if nbB ps zs = true then netT (schF ps zs) ps.length else ⟨#[]⟩
theorem nbT_no {ps : List ByteArray} {zs : List Int} (h : nbB ps zs = false) : nbT ps zs = ⟨#[]⟩ := by simp [nbT, h]
theorem nbT_yes {ps : List ByteArray} {zs : List Int} (h : nbB ps zs = true) : nbT ps zs = netT (schF ps zs) ps.length := by simp [nbT, h]
/-- The values of one table, so far. -/
def valsL (F : Nat → Nat → Nat) (k N : Nat) : List Int := (List.range N).map fun s => ((F k s : Nat) : Int)
theorem valsL_next (F : Nat → Nat → Nat) (k N : Nat) : valsL F k (N + 1) = valsL F k N ++ [((F k N : Nat) : Int)] := by simp [valsL, List.range_succ]
theorem valsL_len (F : Nat → Nat → Nat) (k N : Nat) : (valsL F k N).length = N := by simp [valsL]
theorem valsL_get (F : Nat → Nat → Nat) (k N i : Nat) (h : i < N) : gI (valsL F k N) i = (F k i : Nat) := by simp [gI, valsL, List.getD, h]

set_option maxHeartbeats 4000000 in
theorem l11Network_ok (ao : Option Addr) (n c : Nat) (ps : List ByteArray) (bo : Option Addr) (l d : Nat) (zs : List Int) (w : World) (h : RowT w ao n c ps) (hz : RowI w bo l d zs) (hn : netB ps = true) (h5 : n ≤ 5) (hb : ∀ k, k < l → 1 ≤ gI zs k ∧ gI zs k < 2 ^ n) (hl : l ≤ 1048576) :
    Calls Tryd.prog 73 #[.slice ao n c, .slice bo l d] w fun e w' => ∃ v, e = .returned v ∧ OwnT w' w.heap.size v (listF (digF (schF ps zs) n) n) ∧ Below w.heap.size w w' := by
  obtain rfl := h.1
  obtain rfl := hz.1
  have hp : (2 ^ ps.length : Nat) ≤ 32 := Nat.pow_le_pow_right (n := 2) (by decide) h5
  have HA := Lib.hid (fun W => l3All_ok ao ps.length c W h5)
  have HSt := Lib.hid (fun s W (hs : s < 2 ^ ps.length) (hW : Below w.heap.size w W) => l11Step_ok ao ps.length c ps bo zs.length d zs s W (h.below hW (Nat.le_refl _)) (hz.below hW (Nat.le_refl _)) hn h5 hs hb hl)
  have HRl := Lib.hid (fun s (hs : s < 2 ^ ps.length) => runTo_lt hn h5 zs hs zs.length)
  have HDf : Hid (∀ k, digF (schF ps zs) ps.length k = digT (valsL (schF ps zs) k (2 ^ ps.length))) := fun k => rfl
  have HSch : Hid (∀ k s, schF ps zs k s = bN (runTo ps zs s zs.length) k) := fun k s => rfl
  have HDz := Lib.hid (fun k => digF_size (schF ps zs) ps.length k)
  have b0 : Below w.heap.size w (w.alloc (.cells #[] 9)) := (Below.refl _ _).alloc (Nat.le_refl _) _
  have B0 := Lib.hid b0
  have O0 := Lib.hid (OwnT.lit w w.heap.size [] (Nat.le_refl _) (by decide))
  clear hn hb b0 h hz
  have hN1 : 0 < 2 ^ ps.length := Nat.two_pow_pos _
  generalize (2 ^ ps.length : Nat) = N at hp HA HSt HRl HDf HDz hN1
  go_enter Tryd.func73, Tryd.ntmps73
  go_wp2_with fail
  go_loopw [5, 6] (fun v q wr => ∃ k : Nat, k ≤ ps.length ∧ q = .int .i64 k ∧ OwnT wr w.heap.size v (listF (digF (schF ps zs) ps.length) k) ∧ Below w.heap.size w wr) (fun _ q _ => ps.length - (intOf q).toNat)
  case atStart => exact ⟨0, Nat.zero_le _, rfl, O0.out, B0.out⟩
  case round =>
    obtain ⟨k, hk, rfl, ho, hbw⟩ := hrel
    have HO := Lib.hid ho
    have HB := Lib.hid hbw
    have hlen := listF_len (digF (schF ps zs) ps.length) k
    clear ho hbw
    by_cases hlt : k < ps.length
    · have hlt' : (k : Int) < (ps.length : Int) := by omega
      have HN := Lib.hid (listF_next (digF (schF ps zs) ps.length) k)
      have hsz2 : (digF (schF ps zs) ps.length k).size ≤ 32 := by rw [HDz.out k]; exact hp
      have HDk := Lib.hid (HDf.out k)
      have b1 : Below wr.heap.size wr (wr.alloc (.cells #[] 3)) := (Below.refl _ _).alloc (Nat.le_refl _) _
      have B1 := Lib.hid (HB.out.trans (b1.mono HB.out.size))
      have O1 := Lib.hid (HO.out.below b1 (Nat.le_refl _))
      have V1 := Lib.hid (OwnI.lit wr (wr.alloc (.cells #[] 3)).heap.size.pred [] (by simp) (by decide))
      have hs1 : (wr.alloc (.cells #[] 3)).heap.size = wr.heap.size + 1 := by simp
      rw [show (wr.alloc (.cells #[] 3)).heap.size.pred = wr.heap.size by rw [hs1]; rfl] at V1
      have B1w := Lib.hid b1
      clear b1 hs1
      generalize digF (schF ps zs) ps.length k = dt at HN hsz2 HDk
      go_wp2_with fail
      obtain ⟨wo, hwo⟩ : ∃ wo : World, wo = wr := ⟨_, rfl⟩
      subst hwo
      go_loopw [7, 8] (fun v q wr => ∃ s : Nat, s ≤ N ∧ q = .int .i64 s ∧ OwnI wr wo.heap.size v (valsL (schF ps zs) k s) ∧ Below wo.heap.size wo wr) (fun _ q _ => N - (intOf q).toNat)
      case atStart => exact ⟨0, Nat.zero_le _, rfl, V1.out, B1w.out⟩
      case round =>
        obtain ⟨s, hs, rfl, hv, hb2⟩ := hrel
        have HV := Lib.hid hv
        have HB2 := Lib.hid hb2
        have HW2 := Lib.hid (HB.out.trans (hb2.mono HB.out.size))
        have hvl := valsL_len (schF ps zs) k s
        clear hv hb2
        have HAs := Lib.hid (HA.out wr)
        by_cases hsN : s < N
        · have hsw : (s : Int) ≤ ((N - 1 : Nat) : Int) := by omega
          have HSs := Lib.hid (HSt.out s wr hsN HW2.out)
          have hrl := HRl.out s hsN
          have HNv := Lib.hid (valsL_next (schF ps zs) k s)
          have hBt := Lib.hid (fun W => l1Bit_ok ((runTo ps zs s zs.length : Nat) : Int) (k : Int) W (by omega) (by omega) (by omega) (by omega))
          rw [Int.toNat_natCast, Int.toNat_natCast, ← HSch.out k s] at hBt
          generalize runTo ps zs s zs.length = rv at HSs hBt hrl
          generalize schF ps zs k s = bv at hBt HNv
          generalize ((N - 1 : Nat) : Int) = top at hsw HAs
          go_wp2_with fail
          refine HAs.out.mono ?_
          rintro e w2 ⟨rfl, rfl⟩
          go_wp2_with fail
          refine HSs.out.mono ?_
          rintro e w2 ⟨rfl, rfl⟩
          go_wp2_with fail
          refine (hBt.out _).mono ?_
          rintro e w2 ⟨rfl, rfl⟩
          go_wp2_with (at_builtin; refine wpList_appI (OwnI.alloc HV.out _) (RowI.one _ _) rfl _ _ rfl rfl rfl (by omega) (by have := HB2.out.size; simp; omega) ?_; intro v6 w6 o6 g6)
          go_roundw
          case rel => exact ⟨s + 1, by omega, by go_num, by rw [HNv.out]; exact o6, (HB2.out.alloc HB2.out.size _).grown g6 (by have := HB2.out.size; simp; omega) (fun j hj => (World.ownsRow.lt HV.out j hj).1)⟩
          case measure => simp [intOf] <;> omega
        · obtain rfl : s = N := by omega
          have hsw : ¬ (s : Int) ≤ ((s - 1 : Nat) : Int) := by omega
          obtain ⟨va, vc, rfl, vq⟩ := HV.out.out
          have HT := Lib.hid (fun W (hW : Below wr.heap.size wr W) => l1Text_ok va _ vc (valsL (schF ps zs) k s) W (vq.rowI.below hW (Nat.le_refl _)) (fun i hi => by rw [valsL_get _ _ _ _ (by omega), HSch.out]; have := bN_lt (runTo ps zs i zs.length) k; omega) (by omega))
          rw [← HDk.out, hvl] at HT
          rw [hvl]
          have O2 := Lib.hid (HO.out.below HB2.out (Nat.le_refl _))
          clear vq hvl
          generalize ((s - 1 : Nat) : Int) = top at hsw HAs
          go_wp2_with fail
          refine HAs.out.mono ?_
          rintro e w2 ⟨rfl, rfl⟩
          go_wp2_with fail
          refine (HT.out _ (Below.refl _ _)).mono ?_
          rintro e w3 ⟨rfl, b3⟩
          have C3 := Lib.hid (HW2.out.trans (b3.mono HW2.out.size))
          have O3 := Lib.hid (O2.out.below b3 (Nat.le_refl _))
          have HCe := Lib.hid ((Blk.new w3 9 [.string dt]).cell (i := 0) rfl)
          clear b3
          go_wp2_with (at_builtin; go_must (refine wpList_appT (OwnT.alloc O3.out _) HCe.out rfl _ _ rfl rfl rfl (by omega) (by have := C3.out.size; simp; omega) ?_); intro v6 w6 o6 g6)
          go_roundw
          case rel => exact ⟨k + 1, by omega, by go_num, by rw [HN.out]; exact o6, (C3.out.alloc C3.out.size _).grown g6 (by have := C3.out.size; simp; omega) (fun j hj => (World.ownsRow.lt O3.out j hj).1)⟩
          case measure => simp [intOf] <;> omega
    · obtain rfl : k = ps.length := by omega
      go_wp2_with fail
      go_ret
      exact ⟨_, rfl, HO.out, HB.out⟩

end Go.Proofs.YthgjmciiaikgoaaDoor
