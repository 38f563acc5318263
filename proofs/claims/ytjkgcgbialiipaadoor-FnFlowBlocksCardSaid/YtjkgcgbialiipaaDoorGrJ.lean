/- Walks and plain facts: several of my texts in one. -/
import Derived.Test.YtjkgcgbialiipaaDoorGrB
import Derived.Test.YtjkgcgbialiipaaDoorGrC
import Derived.Test.YtjkgcgbialiipaaDoorGrE
import Derived.Maps.AppendAt
import Derived.Test.YtjkgcgbialiipaaDoorGrG
import Derived.Test.YtjkgcgbialiipaaDoorGrF
import Derived.Test.YtjkgcgbialiipaaDoorGrA
import Derived.Test.YtjkgcgbialiipaaDoorGrD
/- Walks: NetworkOfBlocks on both sides. -/
namespace Go.Proofs.YtjkgcgbialiipaaDoor
open Go.RowKit

theorem OwnI.belowB {w w' : World} {B B' : Nat} {v : Value} {zs : List Int} (h : OwnI w B v zs) (hb : Below B' w w') (hB : w.heap.size ≤ B') : OwnI w' B v zs := by
  obtain ⟨h0, h1 | ⟨g, cap, cur, e, hg, hh, h2⟩⟩ := h
  · exact ⟨h0, .inl h1⟩
  · exact ⟨h0, .inr ⟨g, cap, cur, e, hg, by rw [hb.block g (by have := lt_of_block hh; omega)]; exact hh, h2⟩⟩

/-- The values of the network of a schedule. -/
def schF (ps : List ByteArray) (zs : List Int) (k s : Nat) : Nat := bN (runTo ps zs s zs.length) k
def nbT (ps : List ByteArray) (zs : List Int) : ByteArray := if nbB ps zs = true then netT (schF ps zs) ps.length else ⟨#[]⟩
theorem nbT_no {ps : List ByteArray} {zs : List Int} (h : nbB ps zs = false) : nbT ps zs = ⟨#[]⟩ := by simp [nbT, h]
theorem nbT_yes {ps : List ByteArray} {zs : List Int} (h : nbB ps zs = true) : nbT ps zs = netT (schF ps zs) ps.length := by simp [nbT, h]
/-- The values of one table, so far. -/
def valsL (F : Nat → Nat → Nat) (k N : Nat) : List Int := (List.range N).map fun s => ((F k s : Nat) : Int)
theorem valsL_next (F : Nat → Nat → Nat) (k N : Nat) : valsL F k (N + 1) = valsL F k N ++ [((F k N : Nat) : Int)] := by simp [valsL, List.range_succ]
theorem valsL_len (F : Nat → Nat → Nat) (k N : Nat) : (valsL F k N).length = N := by simp [valsL]
theorem valsL_get (F : Nat → Nat → Nat) (k N i : Nat) (h : i < N) : gI (valsL F k N) i = (F k i : Nat) := by simp [gI, valsL, List.getD, h]

set_option maxHeartbeats 4000000 in
theorem l11Network_ok (ao : Option Addr) (n c : Nat) (ps : List ByteArray) (bo : Option Addr) (l d : Nat) (zs : List Int) (w : World) (h : RowT w ao n c ps) (hz : RowI w bo l d zs) (hn : netB ps = true) (h5 : n ≤ 5) (hb : ∀ k, k < l → 1 ≤ gI zs k ∧ gI zs k < 2 ^ n) (hl : l ≤ 1048576) :
    Calls Tryd.prog 118 #[.slice ao n c, .slice bo l d] w fun e w' => ∃ v, e = .returned v ∧ OwnT w' w.heap.size v (listF (digF (schF ps zs) n) n) ∧ Below w.heap.size w w' := by
  obtain rfl := h.1
  obtain rfl := hz.1
  have hp : (2 ^ ps.length : Nat) ≤ 32 := Nat.pow_le_pow_right (n := 2) (by decide) h5
  have HA := Lib.hid (fun W => l3All_ok ao ps.length c W h5)
  have HSt := Lib.hid (fun s W (hs : s < 2 ^ ps.length) (hW : Below w.heap.size w W) => l11Step_ok ao ps.length c ps bo zs.length d zs s W (h.below hW (Nat.le_refl _)) (hz.below hW (Nat.le_refl _)) hn h5 hs hb hl)
  have HRl := Lib.hid (fun s (hs : s < 2 ^ ps.length) => runTo_lt hn h5 zs hs zs.length)
  have HDf : Hid (∀ k, digF (schF ps zs) ps.length k = digT (valsL (schF ps zs) k (2 ^ ps.length))) := fun k => rfl
  have HSch : Hid (∀ k s, schF ps zs k s = bN (runTo ps zs s zs.length) k) := fun k s => rfl
  have HDz := Lib.hid (fun k => digF_size (schF ps zs) ps.length k)
  have b0 : Below w.heap.size w (w.alloc (.cells #[] 9)) := (Below.refl _ _).alloc (Nat.le_refl _) _
  have B0 := Lib.hid b0
  have O0 := Lib.hid (OwnT.lit w w.heap.size [] (Nat.le_refl _) (by decide))
  clear hn hb b0 h hz
  have hN1 : 0 < 2 ^ ps.length := Nat.two_pow_pos _
  generalize (2 ^ ps.length : Nat) = N at hp HA HSt HRl HDf HDz hN1
  go_enter Tryd.func118, Tryd.ntmps118
  go_wp2_with fail
  go_loopw [5, 6] (fun v q wr => ∃ k : Nat, k ≤ ps.length ∧ q = .int .i64 k ∧ OwnT wr w.heap.size v (listF (digF (schF ps zs) ps.length) k) ∧ Below w.heap.size w wr) (fun _ q _ => ps.length - (intOf q).toNat)
  case atStart => exact ⟨0, Nat.zero_le _, rfl, O0.out, B0.out⟩
  case round =>
    obtain ⟨k, hk, rfl, ho, hbw⟩ := hrel
    have HO := Lib.hid ho
    have HB := Lib.hid hbw
    have hlen := listF_len (digF (schF ps zs) ps.length) k
    clear ho hbw
    by_cases hlt : k < ps.length
    · have hlt' : (k : Int) < (ps.length : Int) := by omega
      have HN := Lib.hid (listF_next (digF (schF ps zs) ps.length) k)
      have hsz2 : (digF (schF ps zs) ps.length k).size ≤ 32 := by rw [HDz.out k]; exact hp
      have HDk := Lib.hid (HDf.out k)
      have b1 : Below wr.heap.size wr (wr.alloc (.cells #[] 3)) := (Below.refl _ _).alloc (Nat.le_refl _) _
      have B1 := Lib.hid (HB.out.trans (b1.mono HB.out.size))
      have O1 := Lib.hid (HO.out.below b1 (Nat.le_refl _))
      have V1 := Lib.hid (OwnI.lit wr (wr.alloc (.cells #[] 3)).heap.size.pred [] (by simp) (by decide))
      have hs1 : (wr.alloc (.cells #[] 3)).heap.size = wr.heap.size + 1 := by simp
      rw [show (wr.alloc (.cells #[] 3)).heap.size.pred = wr.heap.size by rw [hs1]; rfl] at V1
      have B1w := Lib.hid b1
      clear b1 hs1
      generalize digF (schF ps zs) ps.length k = dt at HN hsz2 HDk
      go_wp2_with fail
      obtain ⟨wo, hwo⟩ : ∃ wo : World, wo = wr := ⟨_, rfl⟩
      subst hwo
      go_loopw [7, 8] (fun v q wr => ∃ s : Nat, s ≤ N ∧ q = .int .i64 s ∧ OwnI wr wo.heap.size v (valsL (schF ps zs) k s) ∧ Below wo.heap.size wo wr) (fun _ q _ => N - (intOf q).toNat)
      case atStart => exact ⟨0, Nat.zero_le _, rfl, V1.out, B1w.out⟩
      case round =>
        obtain ⟨s, hs, rfl, hv, hb2⟩ := hrel
        have HV := Lib.hid hv
        have HB2 := Lib.hid hb2
        have HW2 := Lib.hid (HB.out.trans (hb2.mono HB.out.size))
        have hvl := valsL_len (schF ps zs) k s
        clear hv hb2
        have HAs := Lib.hid (HA.out wr)
        by_cases hsN : s < N
        · have hsw : (s : Int) ≤ ((N - 1 : Nat) : Int) := by omega
          have HSs := Lib.hid (HSt.out s wr hsN HW2.out)
          have hrl := HRl.out s hsN
          have HNv := Lib.hid (valsL_next (schF ps zs) k s)
          have hBt := Lib.hid (fun W => l1Bit_ok ((runTo ps zs s zs.length : Nat) : Int) (k : Int) W (by omega) (by omega) (by omega) (by omega))
          rw [Int.toNat_natCast, Int.toNat_natCast, ← HSch.out k s] at hBt
          generalize runTo ps zs s zs.length = rv at HSs hBt hrl
          generalize schF ps zs k s = bv at hBt HNv
          generalize ((N - 1 : Nat) : Int) = top at hsw HAs
          go_wp2_with fail
          refine HAs.out.mono ?_
          rintro e w2 ⟨rfl, rfl⟩
          go_wp2_with fail
          refine HSs.out.mono ?_
          rintro e w2 ⟨rfl, rfl⟩
          go_wp2_with fail
          refine (hBt.out _).mono ?_
          rintro e w2 ⟨rfl, rfl⟩
          go_wp2_with (at_builtin; refine wpList_appI (OwnI.alloc HV.out _) (RowI.one _ _) rfl _ _ rfl rfl rfl (by omega) (by have := HB2.out.size; simp; omega) ?_; intro v6 w6 o6 g6)
          go_roundw
          case rel => exact ⟨s + 1, by omega, by go_num, by rw [HNv.out]; exact o6, (HB2.out.alloc HB2.out.size _).grown g6 (by have := HB2.out.size; simp; omega) (fun j hj => (World.ownsRow.lt HV.out j hj).1)⟩
          case measure => simp [intOf] <;> omega
        · obtain rfl : s = N := by omega
          have hsw : ¬ (s : Int) ≤ ((s - 1 : Nat) : Int) := by omega
          obtain ⟨va, vc, rfl, vq⟩ := HV.out.out
          have HT := Lib.hid (fun W (hW : Below wr.heap.size wr W) => l1Text_ok va _ vc (valsL (schF ps zs) k s) W (vq.rowI.below hW (Nat.le_refl _)) (fun i hi => by rw [valsL_get _ _ _ _ (by omega), HSch.out]; have := bN_lt (runTo ps zs i zs.length) k; omega) (by omega))
          rw [← HDk.out, hvl] at HT
          rw [hvl]
          have O2 := Lib.hid (HO.out.below HB2.out (Nat.le_refl _))
          clear vq hvl
          generalize ((s - 1 : Nat) : Int) = top at hsw HAs
          go_wp2_with fail
          refine HAs.out.mono ?_
          rintro e w2 ⟨rfl, rfl⟩
          go_wp2_with fail
          refine (HT.out _ (Below.refl _ _)).mono ?_
          rintro e w3 ⟨rfl, b3⟩
          have C3 := Lib.hid (HW2.out.trans (b3.mono HW2.out.size))
          have O3 := Lib.hid (O2.out.below b3 (Nat.le_refl _))
          have HCe := Lib.hid ((Blk.new w3 9 [.string dt]).cell (i := 0) rfl)
          clear b3
          go_wp2_with (at_builtin; go_must (refine wpList_appT (OwnT.alloc O3.out _) HCe.out rfl _ _ rfl rfl rfl (by omega) (by have := C3.out.size; simp; omega) ?_); intro v6 w6 o6 g6)
          go_roundw
          case rel => exact ⟨k + 1, by omega, by go_num, by rw [HN.out]; exact o6, (C3.out.alloc C3.out.size _).grown g6 (by have := C3.out.size; simp; omega) (fun j hj => (World.ownsRow.lt O3.out j hj).1)⟩
          case measure => simp [intOf] <;> omega
    · obtain rfl : k = ps.length := by omega
      go_wp2_with fail
      go_ret
      exact ⟨_, rfl, HO.out, HB.out⟩

end Go.Proofs.YtjkgcgbialiipaaDoor
/- Walks: NetworkOfBlocks, SameSchedule; the laws on them. -/
namespace Go.Proofs.YtjkgcgbialiipaaDoor
open Go.RowKit

theorem ret2s {a b : ByteArray} {c d : Bool} (h : a = b) (h' : c = d) : Ending.returned (.tuple #[.string a, .bool c]) = .returned (.tuple #[.string b, .bool d]) := by rw [h, h']
theorem netT_size (F : Nat → Nat → Nat) (n : Nat) (hn : n ≤ 5) : (netT F n).size ≤ 165 := by
  have hp : (2 ^ n : Nat) ≤ 32 := Nat.pow_le_pow_right (n := 2) (by decide) hn
  have := joinF_size (digF F n) ⟨#[44]⟩ 32 (by decide) (fun i => by rw [digF_size]; exact hp) n
  have h2 : n * (32 + 1) ≤ 5 * (32 + 1) := Nat.mul_le_mul_right _ hn
  unfold netT
  omega

theorem netN_wide (ps : List ByteArray) : W32 (netN ps) := by
  unfold netN
  split
  · exact bitsN_wide ps _
  · intro b hb; cases hb

set_option maxHeartbeats 2000000 in
theorem nobS_ok (t : ByteArray) (bo : Option Addr) (l d : Nat) (zs : List Int) (w : World) (hs : t.size ≤ 1048576) (hz : RowI w bo l d zs) (hl : l ≤ 1048576) :
    Calls Tryd.prog 41 #[.string t, .slice bo l d] w fun e w' => e = .returned (.tuple #[.string (nbT (cutsP 44 t) zs), .bool (nbB (cutsP 44 t) zs)]) ∧ Below w.heap.size w w' := by
  have HO := Lib.hid (l11Blocks_ok t bo l d zs w hs hz)
  have hp0 := cutsP_pos 44 t
  generalize cutsP 44 t = ps at HO hp0 ⊢
  obtain rfl := hz.1
  cases hb : nbB ps zs with
  | false =>
    have HV := Lib.hid (nbT_no hb)
    have HB := Lib.hid hb
    rw [hb] at HO
    clear hb hz
    go_enter Tryd.func41, Tryd.ntmps41
    go_wp2_with fail
    refine HO.out.mono ?_
    rintro e w1 ⟨v, rfl, o1, b1⟩
    clear o1
    go_wp2_with fail
    go_ret2
    exact ⟨ret2s HV.out.symm rfl, b1⟩
  | true =>
    rw [hb] at HO
    have HV := Lib.hid (nbT_yes hb)
    have hn := nb_net hb
    have h5 := net_le hn hp0
    have HN := Lib.hid (netL_yes hn)
    have hbl := nb_blocks hb
    have HNet := Lib.hid (fun ao c W (h : RowT W ao ps.length c ps) (hW : Below w.heap.size w W) => l11Network_ok ao ps.length c ps bo zs.length d zs W h (hz.below hW (Nat.le_refl _)) hn h5 hbl hl)
    have HZ := Lib.hid (fun k => digF_size (schF ps zs) ps.length k)
    have hp : (2 ^ ps.length : Nat) ≤ 32 := Nat.pow_le_pow_right (n := 2) (by decide) h5
    have HE : Hid (netT (schF ps zs) ps.length = joinF (digF (schF ps zs) ps.length) ⟨#[44]⟩ ps.length) := rfl
    have HLen := Lib.hid (listF_len (digF (schF ps zs) ps.length) ps.length)
    have HGT : Hid (∀ i, i < ps.length → gT (listF (digF (schF ps zs) ps.length) ps.length) i = digF (schF ps zs) ps.length i) := fun i hi => by simp [gT, listF, List.getD, hi]
    clear hb hz hn hbl
    go_enter Tryd.func41, Tryd.ntmps41
    go_wp2_with fail
    refine HO.out.mono ?_
    rintro e w1 ⟨v, rfl, o1, b1⟩
    rw [HN.out] at o1
    obtain ⟨a, c, rfl, r1⟩ := o1.row
    have HN1 := Lib.hid (HNet.out _ _ _ r1 b1)
    clear o1 r1
    go_wp2_with fail
    refine HN1.out.mono ?_
    rintro e w2 ⟨v2, rfl, o2, b2⟩
    have C2 := Lib.hid (b1.trans (b2.mono b1.size))
    obtain ⟨a2, cp2, rfl, r2⟩ := o2.row
    rw [HLen.out] at r2 ⊢
    have HT := Lib.hid (l3Text_ok a2 _ cp2 _ (digF (schF ps zs) ps.length) w2 r2 HGT.out (fun i => by rw [HZ.out i]; omega) (by omega))
    rw [← HE.out] at HT
    clear o2 r2 b2
    go_wp2_with fail
    refine HT.out.mono ?_
    rintro e w3 ⟨rfl, rfl⟩
    go_wp2_with fail
    go_ret2
    exact ⟨ret2s HV.out.symm rfl, C2.out⟩

set_option maxHeartbeats 1000000 in
theorem nobClosure_ok (s p6 p3 : Nat) (ao bo : Option Addr) (c l d : Nat) (ps : List ByteArray) (zs : List Int) (w : World)
    (c6 : w.cell? ⟨p6, 0, none⟩ = some (.slice ao ps.length c)) (c3 : w.cell? ⟨p3, 0, none⟩ = some (.slice bo l d))
    (hr : Calls Tryd.prog 88 #[.slice ao ps.length c, .slice bo l d, .int .i64 s] w fun e w' => e = .returned (.int .i64 (runTo ps zs s l : Nat)) ∧ Below w.heap.size w w') :
    Calls Tryd.prog 115 #[.int .i64 s, .pointer (some ⟨p6, 0, none⟩), .pointer (some ⟨p3, 0, none⟩)] w fun e w' => e = .returned (.int .i64 (runTo ps zs s l : Nat)) ∧ Below w.heap.size w w' := by
  have HR := Lib.hid hr
  clear hr
  go_enter Tryd.func115, Tryd.ntmps115
  go_wp2_with fail
  refine HR.out.mono ?_
  rintro e w1 ⟨rfl, b1⟩
  go_wp2_with fail
  go_ret
  exact ⟨rfl, b1⟩

set_option maxHeartbeats 4000000 in
theorem nobI_ok (t : ByteArray) (bo : Option Addr) (l d : Nat) (zs : List Int) (w : World) (hs : t.size ≤ 1048576) (hz : RowI w bo l d zs) (hl : l ≤ 1048576) (hm : MaxLenIs w) :
    Calls Tryd.prog 40 #[.string t, .slice bo l d] w fun e w' => e = .returned (.tuple #[.string (nbT (cutsP 44 t) zs), .bool (nbB (cutsP 44 t) zs)]) ∧ Below w.heap.size w w' := by
  have bb : Below w.heap.size w (w.alloc (.cells #[.slice bo l d] 23)) := (Below.refl _ _).alloc (Nat.le_refl _) _
  have HO := Lib.hid (blocksOf_ok t bo l d zs _ hs (hz.below bb (Nat.le_refl _)) (hm.below bb (Nat.le_refl _)))
  have hc3 := (Blk.new w 23 [.slice bo l d]).cell (i := 0) rfl
  have hp0 := cutsP_pos 44 t
  generalize cutsP 44 t = ps at HO hp0 ⊢
  obtain rfl := hz.1
  have Z0 := Lib.hid (hz.below bb (Nat.le_refl _))
  have B0 := Lib.hid bb
  have C3 := Lib.hid hc3
  clear bb hm hz hc3
  cases hb : nbB ps zs with
  | false =>
    have HV := Lib.hid (nbT_no hb)
    rw [hb] at HO
    clear hb
    go_enter Tryd.func40, Tryd.ntmps40
    go_wp2_with fail
    refine HO.out.mono ?_
    rintro e w1 ⟨v, rfl, o1, b1⟩
    obtain ⟨va, vc, rfl, _⟩ := o1.row (netN_wide ps)
    clear o1
    go_wp2_with fail
    go_ret2
    exact ⟨ret2s HV.out.symm rfl, (B0.out.trans (b1.mono B0.out.size)).alloc (B0.out.trans (b1.mono B0.out.size)).size _⟩
  | true =>
    rw [hb] at HO
    have HV := Lib.hid (nbT_yes hb)
    have hn := nb_net hb
    have h5 := net_le hn hp0
    have HN := Lib.hid (netN_yes hn)
    have hlen := bitsN_len ps ps.length
    have hbl := nb_blocks hb
    have hp : (2 ^ ps.length : Nat) ≤ 32 := Nat.pow_le_pow_right (n := 2) (by decide) h5
    have HRun := Lib.hid (fun ao c s W (h : RowN W ao ps.length c ps.length (bitsN ps ps.length)) (hzW : RowI W bo zs.length d zs) (hs : s < 2 ^ ps.length) => run_ok ao c ps bo zs.length d zs s W h hzW hn h5 hs hbl hl)
    have HLt := Lib.hid (fun s (hs : s < 2 ^ ps.length) => Nat.lt_of_lt_of_le (runTo_lt hn h5 zs hs zs.length) hp)
    clear hb hn hbl
    go_enter Tryd.func40, Tryd.ntmps40
    go_wp2_with fail
    refine HO.out.mono ?_
    rintro e w1 ⟨v, rfl, o1, b1⟩
    rw [HN.out] at o1
    obtain ⟨a, c, rfl, r1⟩ := o1.row (bitsN_wide ps ps.length)
    rw [hlen] at r1 ⊢
    have b2 : Below w1.heap.size w1 (w1.alloc (.cells #[.slice a ps.length c] 82)) := (Below.refl _ _).alloc (Nat.le_refl _) _
    have R2 := Lib.hid (r1.below b2 (Nat.le_refl _))
    have Z2 := Lib.hid ((Z0.out.below b1 (Nat.le_refl _)).below b2 (Nat.le_refl _))
    have d6 := (Blk.new w1 82 [.slice a ps.length c]).cell (i := 0) rfl
    have h0 := World.block_lt_of_cell? _ ⟨w.heap.size, 0, none⟩ C3.out
    have c31 : w1.cell? ⟨w.heap.size, 0, none⟩ = some (.slice bo zs.length d) := (b1.cell (p := ⟨w.heap.size, 0, none⟩) h0).trans C3.out
    have d3 : (w1.alloc (.cells #[.slice a ps.length c] 82)).cell? ⟨w.heap.size, 0, none⟩ = some (.slice bo zs.length d) := (b2.cell (p := ⟨w.heap.size, 0, none⟩) (Nat.lt_of_lt_of_le h0 b1.size)).trans c31
    have B2 := Lib.hid ((B0.out.trans (b1.mono B0.out.size)).trans (b2.mono (B0.out.trans (b1.mono B0.out.size)).size))
    have D3 := Lib.hid d3
    have D6 := Lib.hid d6
    have HFS := Lib.hid (fun (W0 : World) (q : Nat) (R2 : RowN W0 a ps.length c ps.length (bitsN ps ps.length)) (Z2 : RowI W0 bo zs.length d zs) (D6 : W0.cell? ⟨q, 0, none⟩ = some (.slice a ps.length c)) (D3 : W0.cell? ⟨w.heap.size, 0, none⟩ = some (.slice bo zs.length d)) =>
      fromStep_ok ps.length h5 115 #[.pointer (some ⟨q, 0, none⟩), .pointer (some ⟨w.heap.size, 0, none⟩)] (fun s => runTo ps zs s zs.length) W0 (fun _ _ => by kernel_rfl)
        (fun s hs W hW => nobClosure_ok s q w.heap.size a bo c zs.length d ps zs W ((hW.cell (p := ⟨q, 0, none⟩) (World.block_lt_of_cell? W0 ⟨q, 0, none⟩ D6)).trans D6) ((hW.cell (p := ⟨w.heap.size, 0, none⟩) (World.block_lt_of_cell? W0 ⟨w.heap.size, 0, none⟩ D3)).trans D3) (HRun.out a c s W (R2.below hW (Nat.le_refl _)) (Z2.below hW (Nat.le_refl _)) hs)) HLt.out)
    have HF := Lib.hid (HFS.out _ _ R2.out Z2.out D6.out D3.out)
    clear o1 r1 b1 b2 d6 d3 c31 hlen HFS
    go_wp2_with fail
    refine HF.out.mono ?_
    rintro e w3 ⟨v3, rfl, o3, b3⟩
    have C3' := Lib.hid (B2.out.trans (b3.mono B2.out.size))
    obtain ⟨a3, c3, rfl, r3⟩ := o3.row (fromL_wide _ _ _)
    rw [fromL_len] at r3 ⊢
    have HT := Lib.hid (netText_ok a3 ps.length c3 (schF ps zs) w3 r3 ⟨by omega, h5⟩ (fun k s _ _ => bN_lt _ _))
    clear o3 r3 b3
    go_wp2_with fail
    refine HT.out.mono ?_
    rintro e w4 ⟨rfl, b4⟩
    go_wp2_with fail
    go_ret2
    exact ⟨ret2s HV.out.symm rfl, C3'.out.trans (b4.mono C3'.out.size)⟩

end Go.Proofs.YtjkgcgbialiipaaDoor
/- Walks: the arguments of SeeSteps, drawn. -/
namespace Go.Proofs.YtjkgcgbialiipaaDoor
open Go.RowKit

/-- A network's text and states are drawn. -/
def DrawSS (w : World) (e : Ending) (w' : World) : Prop := ∃ t v zs, e = .returned (.tuple #[.string t, v]) ∧ t.size ≤ 1048576 ∧ zs.length ≤ 64 ∧ OwnI w' w.heap.size v zs ∧ Below w.heap.size w w'

theorem OwnI.baseW {w : World} {B B' : Nat} {v : Value} {zs : List Int} (h : OwnI w B v zs) (hB : B' ≤ B) : OwnI w B' v zs := by
  obtain ⟨h0, h1 | ⟨g, cap, cur, e, hg, h2⟩⟩ := h
  · exact ⟨h0, .inl h1⟩
  · exact ⟨h0, .inr ⟨g, cap, cur, e, Nat.le_trans hB hg, h2⟩⟩
theorem OwnI.made (w : World) (B n : Nat) (hB : B ≤ w.heap.size) (hn : n ≤ 1048576) : OwnI (w.alloc (.cells (ints (List.replicate n 0)).toArray 3)) B (.slice (some ⟨w.heap.size, 0, none⟩) n n) (List.replicate n 0) := by
  have := OwnI.lit w B (List.replicate n 0) hB (by rw [List.length_replicate]; unfold maxLen; omega)
  rw [List.length_replicate] at this
  exact this

set_option maxHeartbeats 4000000 in
theorem drawSS_ok (ao : Option Addr) (l c : Nat) (cs : List Int) (w : World) (h : RowU w ao l c cs) (hl : l ≤ 1048576) :
    Calls Tryd.prog 22 #[.slice ao l c] w (DrawSS w) := by
  have HO := Lib.hid (l14Open_ok ao l c cs w h hl)
  have HK := Lib.hid (fun g Q m W (h : Rd W g Q) (hQ : Q ≤ 1000000) (hm : m ≤ 1048576) => pick_ok g Q m W h hQ hm)
  clear h
  go_enter Tryd.func22, Tryd.ntmps22
  go_wp2_with fail
  refine HO.out.mono ?_
  rintro e w1 ⟨g, rfl, hg, r1, b1⟩
  have R1 := Lib.hid r1
  have B1 := Lib.hid b1
  have hgo : g < w1.heap.size := r1.lt
  clear r1 b1 HO
  go_wp2_with fail
  refine (l7Open_ok g 0 _ R1.out (by omega)).mono ?_
  rintro e w2 ⟨u, rfl, hu, r2, d2⟩
  have HU : Hid (u.size ≤ 1048576) := Nat.le_trans hu (by decide)
  have D2 := Lib.hid ((DrB.ofB (g := g) B1.out).trans (d2.mono B1.out.size))
  have hs2 := d2.size
  have b3 : Below w2.heap.size w2 (w2.alloc (.cells #[] 3)) := (Below.refl _ _).alloc (Nat.le_refl _) _
  have R3 := Lib.hid (r2.below b3 (Nat.le_refl _))
  have D3 := Lib.hid (D2.out.trans (DrB.ofB (g := g) (b3.mono D2.out.size)))
  have O3 := Lib.hid (OwnI.lit w2 w1.heap.size [] hs2 (by decide))
  have hs3 : (w2.alloc (.cells #[] 3)).heap.size = w2.heap.size + 1 := by simp
  have hw3 := D3.out.size
  clear r2 d2 b3 hu
  go_wp2_with fail
  refine (HK.out g _ 5 _ R3.out (by omega) (by omega)).mono ?_
  rintro e w4 ⟨y, rfl, hy, r4, g4⟩
  have hy5 : y < 5 := by omega
  have R4 := Lib.hid r4
  have D4 := Lib.hid (D3.out.trans ((DrB.ofG g4).mono D3.out.size))
  have O4 := Lib.hid (O3.out.dr (DrB.ofG g4) (Nat.le_refl _) hgo)
  have hs4 : w1.heap.size ≤ w4.heap.size := by have := g4.size; omega
  clear r4 g4 hy hs3 hw3
  go_wp2_with fail
  go_loopw [6, 7] (fun v q wr => ∃ (k : Nat) (zs : List Int), k + zs.length ≤ 5 ∧ q = .int .i64 k ∧ OwnI wr w1.heap.size v zs ∧ w1.heap.size ≤ wr.heap.size ∧ Rd wr g (401 + 3 * zs.length) ∧ DrB g w.heap.size w wr) (fun _ q _ => (intOf q).toNat)
  case atStart => exact ⟨y, [], by simp; omega, rfl, O4.out, hs4, R4.out.more (by simp), D4.out⟩
  case round =>
    obtain ⟨k, zs, hk, rfl, ho, hsz, hr, hd⟩ := hrel
    have HOw := Lib.hid ho
    have HR := Lib.hid hr
    have HDr := Lib.hid hd
    clear ho hr hd
    by_cases hk0 : 0 < k
    · have hkw : (0 : Int) < (k : Int) := by omega
      go_wp2_with fail
      refine (HK.out g _ 4 _ HR.out (by omega) (by omega)).mono ?_
      rintro e w5 ⟨x1, rfl, hx1, r5, g5⟩
      have R5 := Lib.hid r5
      have D5 := Lib.hid (HDr.out.trans ((DrB.ofG g5).mono HDr.out.size))
      have O5 := Lib.hid (HOw.out.dr (DrB.ofG g5) (Nat.le_refl _) hgo)
      have hs5 := g5.size
      clear r5 g5 hx1
      go_wp2_with fail
      refine (HK.out g _ 8 _ R5.out (by omega) (by omega)).mono ?_
      rintro e w6 ⟨x2, rfl, hx2, r6, g6⟩
      have R6 := Lib.hid r6
      have D6 := Lib.hid (D5.out.trans ((DrB.ofG g6).mono D5.out.size))
      have O6 := Lib.hid (O5.out.dr (DrB.ofG g6) (Nat.le_refl _) hgo)
      have hs6 := g6.size
      clear r6 g6 hx2
      have b7 : Below w6.heap.size w6 (w6.alloc (.cells (ints [(x1 : Int), (x2 : Int), 0, 1]).toArray 3)) := (Below.refl _ _).alloc (Nat.le_refl _) _
      have HX := Lib.hid (num_lit g _ 4 [(x1 : Int), (x2 : Int), 0, 1] _ _ (R6.out.below b7 (Nat.le_refl _)) (Blk.new w6 3 (ints [(x1 : Int), (x2 : Int), 0, 1])) (by have := R6.out.lt; omega) rfl (by omega) (by omega) (by omega))
      have D7 := Lib.hid (D6.out.trans (DrB.ofB (g := g) (b7.mono D6.out.size)))
      have O7 := Lib.hid (O6.out.alloc (.cells (ints [(x1 : Int), (x2 : Int), 0, 1]).toArray 3))
      have hs7 : (w6.alloc (.cells (ints [(x1 : Int), (x2 : Int), 0, 1]).toArray 3)).heap.size = w6.heap.size + 1 := by simp
      have hw7 := D7.out.size
      clear b7
      go_wp2_with fail
      refine HX.out.mono ?_
      rintro e w8 ⟨z, hz, rfl, r8, g8⟩
      generalize gI [(x1 : Int), (x2 : Int), 0, 1] z = q
      have R8 := Lib.hid r8
      have D8 := Lib.hid (D7.out.trans ((DrB.ofG g8).mono D7.out.size))
      have O8 := Lib.hid (O7.out.dr (DrB.ofG g8) (Nat.le_refl _) hgo)
      have hs8 := g8.size
      clear r8 g8 hz hw7
      go_wp2_with (at_builtin; refine wpList_appI (OwnI.alloc O8.out _) (RowI.one _ _) rfl _ _ rfl rfl rfl (by omega) (by simp; omega) ?_; intro v9 w9 o9 g9)
      go_roundw
      case rel => exact ⟨k - 1, _, by simp; omega, by rw [show ((k : Int) - 1) = ((k - 1 : Nat) : Int) by omega], o9, by have := g9.size; simp at this; omega, (O8.out.oneApp hgo R8.out g9).more (by simp; omega), (D8.out.alloc D8.out.size _).grown g9 (by have := D8.out.size; simp; omega) (fun j hj => by have := (World.ownsRow.lt O8.out j hj).1; have := B1.out.size; omega)⟩
      case measure => simp [intOf] <;> omega
    · have hkw : ¬ (0 : Int) < (k : Int) := by omega
      have hzl : zs.length ≤ 5 := by omega
      clear hk hk0
      go_wp2_with fail
      refine (HK.out g _ 24 _ HR.out (by omega) (by omega)).mono ?_
      rintro e w5 ⟨x, rfl, hx, r5, g5⟩
      have R5 := Lib.hid r5
      have D5 := Lib.hid (HDr.out.trans ((DrB.ofG g5).mono HDr.out.size))
      have O5 := Lib.hid (HOw.out.dr (DrB.ofG g5) (Nat.le_refl _) hgo)
      have hs5 := g5.size
      clear r5 g5
      by_cases x0 : x = 0
      · have tx : ((x : Int) == 0) = true := by rw [x0]; rfl
        clear x0 hx
        go_wp2_with fail
        refine (HK.out g _ 2 _ R5.out (by omega) (by omega)).mono ?_
        rintro e w6 ⟨x2, rfl, hx2, r6, g6⟩
        have hx2' : x2 < 2 := by omega
        have hmk := run_make_ints (32 + x2) (by omega) w6
        have hcast : ((32 + x2 : Nat) : Int) = 32 + (x2 : Int) := by omega
        rw [hcast] at hmk
        have D6 := Lib.hid (D5.out.trans ((DrB.ofG g6).mono D5.out.size))
        have O6 := Lib.hid (OwnI.made w6 w.heap.size (32 + x2) D6.out.size (by omega))
        clear r6 g6 hx2 hcast
        go_wp2_with fail
        refine bodyPost_ret (v := .tuple #[.string u, .slice (some ⟨w6.heap.size, 0, none⟩) (32 + x2) (32 + x2)]) (by simp [results, Tryd.results22, go_sem]) rfl ⟨u, _, _, rfl, HU.out, by rw [List.length_replicate]; omega, O6.out, (D6.out.alloc D6.out.size _).below hg⟩
      · have tx : ((x : Int) == 0) = false := by rw [beq_eq_false_iff_ne]; omega
        clear x0 hx
        obtain ⟨va, vc, rfl, _⟩ := O5.out.out
        go_wp2_with fail
        refine bodyPost_ret (v := .tuple #[.string u, .slice va zs.length vc]) (by simp [results, Tryd.results22, go_sem]) rfl ⟨u, _, zs, rfl, HU.out, by omega, OwnI.baseW O5.out B1.out.size, D5.out.below hg⟩

end Go.Proofs.YtjkgcgbialiipaaDoor
/- Walks: blocks that are drawn. -/
namespace Go.Proofs.YtjkgcgbialiipaaDoor
open Go.RowKit

/-- A list of numbers is drawn. -/
def ListP (g P M : Nat) (w : World) (e : Ending) (w' : World) : Prop := ∃ v zs, e = .returned v ∧ zs.length ≤ M ∧ OwnI w' w.heap.size v zs ∧ Rd w' g P ∧ DrB g w.heap.size w w'

/-- What the three orders of a statement that builds a list anew have in common. -/
structure NewL (w1 W : World) (v : Value) : Prop where
  bel : Below w1.heap.size w1 W
  own : OwnI W w1.heap.size v []
theorem NewL.a (w1 : World) : NewL w1 (w1.alloc (.cells #[] 3)).drew (.slice (some ⟨w1.heap.size, 0, none⟩) 0 0) :=
  ⟨((Below.refl _ _).alloc (Nat.le_refl _) _).drew, OwnI.drew (OwnI.lit w1 w1.heap.size [] (Nat.le_refl _) (by decide))⟩
theorem NewL.b (w1 : World) (x : Int) : NewL w1 ((w1.alloc (.cells #[] 3)).alloc (.cells #[.int .i64 x] 3)).drew (.slice (some ⟨w1.heap.size, 0, none⟩) 0 0) :=
  ⟨(((Below.refl _ _).alloc (Nat.le_refl _) _).alloc (by simp) _).drew, OwnI.drew (OwnI.alloc (OwnI.lit w1 w1.heap.size [] (Nat.le_refl _) (by decide)) _)⟩
theorem NewL.c (w1 : World) (x : Int) : NewL w1 ((w1.alloc (.cells #[.int .i64 x] 3)).alloc (.cells #[] 3)).drew (.slice (some ⟨w1.heap.size + 1, 0, none⟩) 0 0) := by
  refine ⟨(((Below.refl _ _).alloc (Nat.le_refl _) _).alloc (by simp) _).drew, OwnI.drew ?_⟩
  have := OwnI.lit (w1.alloc (.cells #[.int .i64 x] 3)) w1.heap.size [] (by simp) (by decide)
  rw [show (w1.alloc (.cells #[.int .i64 x] 3)).heap.size = w1.heap.size + 1 by simp] at this
  exact this
theorem one_b (w1 : World) (x : Int) : RowI ((w1.alloc (.cells #[] 3)).alloc (.cells #[.int .i64 x] 3)).drew (some ⟨w1.heap.size + 1, 0, none⟩) 1 1 [x] := by
  have := RowI.drew (RowI.one (w1.alloc (.cells #[] 3)) x)
  rw [show (w1.alloc (.cells #[] 3)).heap.size = w1.heap.size + 1 by simp] at this
  exact this
theorem one_c (w1 : World) (x : Int) : RowI ((w1.alloc (.cells #[.int .i64 x] 3)).alloc (.cells #[] 3)).drew (some ⟨w1.heap.size, 0, none⟩) 1 1 [x] :=
  RowI.drew ((RowI.one w1 x).below ((Below.refl _ _).alloc (Nat.le_refl _) _) (Nat.le_refl _))
theorem NewL.next {w1 W w3 : World} {v v3 : Value} {ys : List Int} (h : NewL w1 W v) (_ : OwnI w3 w1.heap.size v3 ys) (g : W.grownBy w3 v.ownBlock) : Below w1.heap.size w1 w3 := h.bel.grown g h.bel.size (fun j hj => (World.ownsRow.lt h.own j hj).1)
theorem own_next {w1 W w3 : World} {v : Value} {zs : List Int} (b : Below w1.heap.size w1 W) (h : OwnI W w1.heap.size v zs) (g : W.grownBy w3 v.ownBlock) : Below w1.heap.size w1 w3 := b.grown g b.size (fun j hj => (World.ownsRow.lt h j hj).1)

theorem OwnI.base2 {w : World} {B B' : Nat} {v : Value} {zs : List Int} (h : OwnI w B v zs) (hB : B' ≤ B) : OwnI w B' v zs := by
  obtain ⟨h0, h1 | ⟨g, cap, cur, e, hg, h2⟩⟩ := h
  · exact ⟨h0, .inl h1⟩
  · exact ⟨h0, .inr ⟨g, cap, cur, e, Nat.le_trans hB hg, h2⟩⟩

theorem OwnI.out2 {w : World} {B : Nat} {v : Value} {zs : List Int} (h : OwnI w B v zs) : ∃ ao c, v = .slice ao zs.length c ∧ OutI w B ao zs.length c zs ∧ (∀ a, ao = some a → ∃ b o, a = ⟨b, o, none⟩) := by
  have h0 := h
  obtain ⟨_, ⟨rfl, hn⟩ | ⟨g, cap, cur, rfl, hg, hh, hle, hm, hs, ht⟩⟩ := h
  · obtain ⟨ao, c, e, ho⟩ := h0.out
    injection e with e1 e2 e3
    exact ⟨ao, c, by rw [← e1, ← e2, ← e3], ho, fun a ha => by rw [← e1] at ha; cases ha⟩
  · obtain ⟨ao, c, e, ho⟩ := h0.out
    injection e with e1 e2 e3
    exact ⟨ao, c, by rw [← e1, ← e3], ho, fun a ha => by rw [← e1] at ha; cases ha; exact ⟨_, _, rfl⟩⟩

set_option maxRecDepth 100000 in
set_option maxHeartbeats 4000000 in
theorem l3Orders_ok (g P n : Nat) (w : World) (h : Rd w g P) (hn : n ≤ 5) (hP : P ≤ 700000) :
    Calls Tryd.prog 163 #[.pointer (some ⟨g, 0, none⟩), .int .i64 n] w (ListP g (P + 20) 6 w) := by
  have hgw := h.lt
  have HK := Lib.hid (fun Q m W (h : Rd W g Q) (hQ : Q ≤ 1000000) (hm : m ≤ 1048576) => pick_ok g Q m W h hQ hm)
  have b0 : Below w.heap.size w (w.alloc (.cells #[] 3)) := (Below.refl _ _).alloc (Nat.le_refl _) _
  have R0 := Lib.hid (h.below b0 (Nat.le_refl _))
  have D0 := Lib.hid (DrB.ofB (g := g) b0)
  have O0 := Lib.hid (OwnI.lit w w.heap.size [] (Nat.le_refl _) (by decide))
  have hs0 : (w.alloc (.cells #[] 3)).heap.size = w.heap.size + 1 := by simp
  clear h b0
  go_enter Tryd.func163, Tryd.ntmps163
  go_wp2_with fail
  go_loopw [5, 6] (fun v q wr => ∃ (k : Nat) (zs : List Int), k ≤ n ∧ zs.length = k ∧ q = .int .i64 k ∧ OwnI wr w.heap.size v zs ∧ w.heap.size ≤ wr.heap.size ∧ Rd wr g (P + k) ∧ DrB g w.heap.size w wr) (fun _ q _ => n - (intOf q).toNat)
  case atStart => exact ⟨0, [], Nat.zero_le _, rfl, rfl, O0.out, by rw [hs0]; omega, R0.out, D0.out⟩
  case round =>
    obtain ⟨k, zs, hk, hzl, rfl, ho, hsz, hr, hd⟩ := hrel
    have HO := Lib.hid ho
    have HR := Lib.hid hr
    have HDr := Lib.hid hd
    clear ho hr hd
    by_cases hkn : k < n
    · have hkw : (k : Int) < (n : Int) := by omega
      obtain ⟨oa, oc, rfl, q1, hsp⟩ := HO.out.out2
      have hkc : (k : Int) + 1 = ((k + 1 : Nat) : Int) := by omega
      have HKk := Lib.hid (HK.out _ (k + 1) _ HR.out (by omega) (by omega))
      rw [← hkc] at HKk
      rw [hzl] at q1 ⊢
      clear hkc
      go_wp2_with fail
      refine HKk.out.mono ?_
      rintro e w1 ⟨a, rfl, ha, r1, g1⟩
      have hak : a ≤ k := by omega
      have haw : (a : Int) ≤ (k : Int) := by omega
      have hac : (a : Int) ≤ (oc : Int) := by have := q1.2.row.le; omega
      have hz1 : RowI w1 oa k oc zs := q1.rowI.grown g1 (fun x e e2 => by have := q1.2.own x e; have e3 := Option.some.inj e2; omega)
      have hsz1 := g1.size
      have HZ := Lib.hid hz1
      have R1 := Lib.hid r1
      have D1 := Lib.hid (HDr.out.trans ((DrB.ofG g1).mono HDr.out.size))
      clear r1 q1 hz1 ha g1
      cases oa with
      | none =>
        have hoc0 : oc = 0 := HZ.out.2.nil rfl
        have hk0 : k = 0 := by have := HZ.out.2.le; omega
        subst hoc0
        obtain rfl : a = 0 := by omega
        have hzn : zs = [] := List.eq_nil_of_length_eq_zero (by omega)
        subst hk0 hzn
        have HNa := Lib.hid (NewL.a w1)
        have HNb := Lib.hid (NewL.b w1 ((0 : Nat) : Int))
        have HNc := Lib.hid (NewL.c w1 ((0 : Nat) : Int))
        have HT := Lib.hid (RowI.empty w1 none 0 (Nat.zero_le _) (fun _ => rfl))
        have HDp := Lib.hid (RowI.empty w1 none 0 (Nat.zero_le _) (fun _ => rfl))
        have hb1 : (([] : List Int).length + 0) * 8 ≤ 140737488355328 := by simp
        have hb2 : (([] ++ ([] : List Int)).length + 1) * 8 ≤ 140737488355328 := by simp
        have hb3 : (([] ++ ([] : List Int) ++ [((0 : Nat) : Int)]).length + 0) * 8 ≤ 140737488355328 := by simp
        have HB1 := Lib.hid hb1
        have HB2 := Lib.hid hb2
        have HB3 := Lib.hid hb3
        clear hb1 hb2 hb3
        go_wp2_with fail
        go_region_law ((first
          | (refine step_appI HNa.out.own (HT.out.below HNa.out.bel (Nat.le_refl _)) rfl _ _ rfl rfl rfl HB1.out HNa.out.bel.size ?_; intro v3 w3 o3 g3; have c3 := own_next HNa.out.bel HNa.out.own g3)
          | (refine step_appI HNb.out.own (HT.out.below HNb.out.bel (Nat.le_refl _)) rfl _ _ rfl rfl rfl HB1.out HNb.out.bel.size ?_; intro v3 w3 o3 g3; have c3 := own_next HNb.out.bel HNb.out.own g3; have x3 := (one_b w1 ((0 : Nat) : Int)).grown g3 (fun x e e2 => by cases e; simp [Value.ownBlock] at e2))
          | (refine step_appI HNc.out.own (HT.out.below HNc.out.bel (Nat.le_refl _)) rfl _ _ rfl rfl rfl HB1.out HNc.out.bel.size ?_; intro v3 w3 o3 g3; have c3 := own_next HNc.out.bel HNc.out.own g3; have x3 := (one_c w1 ((0 : Nat) : Int)).grown g3 (fun x e e2 => by cases e; simp [Value.ownBlock] at e2))
          | (refine step_appI (OwnI.alloc o3 _) (RowI.one _ _) rfl _ _ rfl rfl rfl HB2.out (c3.alloc c3.size _).size ?_; intro v4 w4 o4 g4; have c4 := own_next (c3.alloc c3.size _) (OwnI.alloc o3 _) g4)
          | (refine step_appI o3 x3 rfl _ _ rfl rfl rfl HB2.out c3.size ?_; intro v4 w4 o4 g4; have c4 := own_next c3 o3 g4)
          | (refine step_appI o4 (HDp.out.below c4 (Nat.le_refl _)) rfl _ _ rfl rfl rfl HB3.out c4.size ?_; intro v5 w5 o5 g5; have c5 := own_next c4 o4 g5)))
        all_goals
          go_wp2_with fail
          go_roundw
          case rel => exact ⟨1, _, by omega, by simp, by go_num, OwnI.base2 o5 (Nat.le_trans hsz hsz1), Nat.le_trans (Nat.le_trans hsz hsz1) c5.size, (R1.out.below c5 (Nat.le_refl _)).more (by omega), D1.out.trans (DrB.ofB (c5.mono (Nat.le_trans hsz hsz1)))⟩
          case measure => simp [intOf] <;> omega
      | some ad =>
        obtain ⟨b, o, rfl⟩ := hsp ad rfl
        have h0k : (0 : Int) ≤ (a : Int) := by omega
        have HT := Lib.hid (HZ.out.take a hak)
        by_cases hoc : oc = a
        · have hka : k - a = 0 := by have := HZ.out.2.le; omega
          have hdr : zs.drop a = [] := List.drop_of_length_le (by omega)
          have HDp : Hid (RowI w1 (some ⟨b, o, none⟩) 0 0 []) := Lib.hid (RowI.empty _ _ _ (Nat.zero_le _) (fun e => by cases e))
          have hoc' : (a = oc) := hoc.symm
          subst hoc'
          have HNa := Lib.hid (NewL.a w1)
          have HNb := Lib.hid (NewL.b w1 k)
          have HNc := Lib.hid (NewL.c w1 k)
          have hb1 : (([] : List Int).length + a) * 8 ≤ 140737488355328 := by simp; omega
          have hb2 : (([] ++ zs.take a).length + 1) * 8 ≤ 140737488355328 := by simp; omega
          have hb3 : (([] ++ zs.take a ++ [(k : Int)]).length + 0) * 8 ≤ 140737488355328 := by simp; omega
          have HB1 := Lib.hid hb1
          have HB2 := Lib.hid hb2
          have HB3 := Lib.hid hb3
          clear hb1 hb2 hb3
          go_wp2_with fail
          go_region_law ((first
            | (refine step_appI HNa.out.own (HT.out.below HNa.out.bel (Nat.le_refl _)) rfl _ _ rfl rfl rfl HB1.out HNa.out.bel.size ?_; intro v3 w3 o3 g3; have c3 := own_next HNa.out.bel HNa.out.own g3)
            | (refine step_appI HNb.out.own (HT.out.below HNb.out.bel (Nat.le_refl _)) rfl _ _ rfl rfl rfl HB1.out HNb.out.bel.size ?_; intro v3 w3 o3 g3; have c3 := own_next HNb.out.bel HNb.out.own g3; have x3 := (one_b w1 k).grown g3 (fun x e e2 => by cases e; simp [Value.ownBlock] at e2))
            | (refine step_appI HNc.out.own (HT.out.below HNc.out.bel (Nat.le_refl _)) rfl _ _ rfl rfl rfl HB1.out HNc.out.bel.size ?_; intro v3 w3 o3 g3; have c3 := own_next HNc.out.bel HNc.out.own g3; have x3 := (one_c w1 k).grown g3 (fun x e e2 => by cases e; simp [Value.ownBlock] at e2))
            | (refine step_appI (OwnI.alloc o3 _) (RowI.one _ _) rfl _ _ rfl rfl rfl HB2.out (c3.alloc c3.size _).size ?_; intro v4 w4 o4 g4; have c4 := own_next (c3.alloc c3.size _) (OwnI.alloc o3 _) g4)
            | (refine step_appI o3 x3 rfl _ _ rfl rfl rfl HB2.out c3.size ?_; intro v4 w4 o4 g4; have c4 := own_next c3 o3 g4)
            | (refine step_appI o4 (HDp.out.below c4 (Nat.le_refl _)) rfl _ _ rfl rfl rfl HB3.out c4.size ?_; intro v5 w5 o5 g5; have c5 := own_next c4 o4 g5)))
          all_goals
            go_wp2_with fail
            go_roundw
            case rel => exact ⟨k + 1, _, by omega, by simp; omega, by go_num, OwnI.base2 o5 (Nat.le_trans hsz hsz1), Nat.le_trans (Nat.le_trans hsz hsz1) c5.size, (R1.out.below c5 (Nat.le_refl _)).more (by omega), D1.out.trans (DrB.ofB (c5.mono (Nat.le_trans hsz hsz1)))⟩
            case measure => simp [intOf] <;> omega
        · have hoc' : ¬ (a = oc) := fun e => hoc e.symm
          have HDp := Lib.hid (HZ.out.drop a hak)
          have HNa := Lib.hid (NewL.a w1)
          have HNb := Lib.hid (NewL.b w1 k)
          have HNc := Lib.hid (NewL.c w1 k)
          have hb1 : (([] : List Int).length + a) * 8 ≤ 140737488355328 := by simp; omega
          have hb2 : (([] ++ zs.take a).length + 1) * 8 ≤ 140737488355328 := by simp; omega
          have hb3 : (([] ++ zs.take a ++ [(k : Int)]).length + (k - a)) * 8 ≤ 140737488355328 := by simp; omega
          have HB1 := Lib.hid hb1
          have HB2 := Lib.hid hb2
          have HB3 := Lib.hid hb3
          clear hb1 hb2 hb3
          go_wp2_with fail
          go_region_law ((first
            | (refine step_appI HNa.out.own (HT.out.below HNa.out.bel (Nat.le_refl _)) rfl _ _ rfl rfl rfl HB1.out HNa.out.bel.size ?_; intro v3 w3 o3 g3; have c3 := own_next HNa.out.bel HNa.out.own g3)
            | (refine step_appI HNb.out.own (HT.out.below HNb.out.bel (Nat.le_refl _)) rfl _ _ rfl rfl rfl HB1.out HNb.out.bel.size ?_; intro v3 w3 o3 g3; have c3 := own_next HNb.out.bel HNb.out.own g3; have x3 := (one_b w1 k).grown g3 (fun x e e2 => by cases e; simp [Value.ownBlock] at e2))
            | (refine step_appI HNc.out.own (HT.out.below HNc.out.bel (Nat.le_refl _)) rfl _ _ rfl rfl rfl HB1.out HNc.out.bel.size ?_; intro v3 w3 o3 g3; have c3 := own_next HNc.out.bel HNc.out.own g3; have x3 := (one_c w1 k).grown g3 (fun x e e2 => by cases e; simp [Value.ownBlock] at e2))
            | (refine step_appI (OwnI.alloc o3 _) (RowI.one _ _) rfl _ _ rfl rfl rfl HB2.out (c3.alloc c3.size _).size ?_; intro v4 w4 o4 g4; have c4 := own_next (c3.alloc c3.size _) (OwnI.alloc o3 _) g4)
            | (refine step_appI o3 x3 rfl _ _ rfl rfl rfl HB2.out c3.size ?_; intro v4 w4 o4 g4; have c4 := own_next c3 o3 g4)
            | (refine step_appI o4 (HDp.out.below c4 (Nat.le_refl _)) rfl _ _ rfl rfl rfl HB3.out c4.size ?_; intro v5 w5 o5 g5; have c5 := own_next c4 o4 g5)))
          all_goals
            go_wp2_with fail
            go_roundw
            case rel => exact ⟨k + 1, _, by omega, by simp; omega, by go_num, OwnI.base2 o5 (Nat.le_trans hsz hsz1), Nat.le_trans (Nat.le_trans hsz hsz1) c5.size, (R1.out.below c5 (Nat.le_refl _)).more (by omega), D1.out.trans (DrB.ofB (c5.mono (Nat.le_trans hsz hsz1)))⟩
            case measure => simp [intOf] <;> omega
    · have hkw : ¬ (k : Int) < (n : Int) := by omega
      have hz6 : zs.length ≤ 5 := by omega
      go_wp2_with fail
      refine (HK.out _ 16 _ HR.out (by omega) (by omega)).mono ?_
      rintro e w1 ⟨x, rfl, hx, r1, g1⟩
      have R1 := Lib.hid r1
      have D1 := Lib.hid (HDr.out.trans ((DrB.ofG g1).mono HDr.out.size))
      have O1 := Lib.hid (HO.out.dr (DrB.ofG g1) (Nat.le_refl _) hgw)
      clear r1 g1
      by_cases x0 : x = 0
      · have tx : ((x : Int) == 0) = true := by rw [x0]; rfl
        clear x0 hx
        have b2 : Below w1.heap.size w1 (w1.alloc (.cells (ints [0, 5, -1]).toArray 3)) := (Below.refl _ _).alloc (Nat.le_refl _) _
        have HX := Lib.hid (num_lit g _ 3 [0, 5, -1] _ _ (R1.out.below b2 (Nat.le_refl _)) (Blk.new w1 3 (ints [0, 5, -1])) (by have := R1.out.lt; omega) rfl (by omega) (by omega) (by omega))
        have D2 := Lib.hid (D1.out.trans (DrB.ofB (g := g) (b2.mono D1.out.size)))
        have O2 := Lib.hid (O1.out.alloc (.cells (ints [0, 5, -1]).toArray 3))
        clear b2
        go_wp2_with fail
        refine HX.out.mono ?_
        rintro e w3 ⟨z, hz, rfl, r3, g3⟩
        generalize gI [0, 5, -1] z = q
        have R3 := Lib.hid r3
        have D3 := Lib.hid (D2.out.trans ((DrB.ofG g3).mono D2.out.size))
        have O3 := Lib.hid (O2.out.dr (DrB.ofG g3) (Nat.le_refl _) hgw)
        clear r3 g3 hz
        go_wp2_with (at_builtin; refine wpList_appI (OwnI.alloc O3.out _) (RowI.one _ _) rfl _ _ rfl rfl rfl (by omega) (by have := D3.out.size; simp; omega) ?_; intro v6 w6 o6 g6)
        go_ret
        exact ⟨_, _, rfl, by simp; omega, o6, (O3.out.oneApp hgw R3.out g6).more (by omega), (D3.out.alloc D3.out.size _).grown g6 (by have := D3.out.size; simp; omega) (fun j hj => (World.ownsRow.lt O3.out j hj).1)⟩
      · have tx : ((x : Int) == 0) = false := by rw [beq_eq_false_iff_ne]; omega
        clear x0 hx
        go_wp2_with fail
        go_ret
        exact ⟨_, zs, rfl, by omega, O1.out, R1.out.more (by omega), D1.out⟩

end Go.Proofs.YtjkgcgbialiipaaDoor
/- Walks: blocks that are drawn. -/
namespace Go.Proofs.YtjkgcgbialiipaaDoor
open Go.RowKit

/-- A cell of an own list is written. -/
theorem OwnI.store {w : World} {B g n cap : Nat} {zs : List Int} (h : OwnI w B (.slice (some ⟨g, 0, none⟩) n cap) zs) (k : Nat) (v : Int) : OwnI (w.setCell ⟨g, k, none⟩ (.int .i64 v)) B (.slice (some ⟨g, 0, none⟩) n cap) (zs.set k v) := by
  obtain ⟨h0, ⟨e, _⟩ | ⟨g', cap', cur, e, hg, hh, hle, hm, hs, ht⟩⟩ := h
  · cases e
  · cases e
    have hB : Blk w g 3 cur.toList := by unfold Blk; rw [hh]
    have hB2 := hB.set k (.int .i64 v)
    unfold Blk at hB2
    refine ⟨by simp [ints], .inr ⟨g, cap, _, by simp, hg, hB2, by simpa using hle, hm, by simpa using hs, ?_⟩⟩
    simp only [List.length_set] at ht ⊢
    rw [List.take_set, ht]
    simp [ints]
theorem OwnI.form {w : World} {B : Nat} {v : Value} {zs : List Int} (h : OwnI w B v zs) (hn : 0 < zs.length) : ∃ g c, v = .slice (some ⟨g, 0, none⟩) zs.length c ∧ B ≤ g ∧ g < w.heap.size ∧ RowI w (some ⟨g, 0, none⟩) zs.length c zs := by
  obtain ⟨ao, c, e, ho⟩ := h.out
  have h2 := h.2
  rcases h2 with ⟨rfl, h0⟩ | ⟨g, cap, cur, e2, hg, hh, _⟩
  · omega
  · rw [e2] at e
    injection e with e1 e3 e4
    exact ⟨g, c, by rw [e2, e4], hg, lt_of_block hh, by rw [e1]; exact ho.rowI⟩
theorem OwnI.free {w : World} {B g n c : Nat} {zs : List Int} (h : OwnI w B (.slice (some ⟨g, 0, none⟩) n c) zs) (i : Nat) : w.frozen? ⟨g, i, none⟩ = false := by
  obtain ⟨h0, ⟨e, _⟩ | ⟨g', cap', cur, e, hg, hh, _⟩⟩ := h
  · cases e
  · cases e
    simp [World.frozen?, hh]
/-- 'append' of one number, and where the list lies then. -/
theorem wpList_appI1 {w : World} {ops : Array Oper} {rest : List Oper} {o : Oper} {a : Act} {Q : Exit → Act → World → Prop} {B : Nat} {v : Value} {zs ys : List Int} {ad : Addr} {m c : Nat} (hown : OwnI w B v zs) (hr : RowI w (some ad) m c ys)
    (hgd : o.guard = none) (s x : Operand) (ho : o.op = .call { callee := .builtin .append, args := #[s, x], argTypes := #[23, 23] }) (hs : a.eval s = v) (hx : a.eval x = .slice (some ad) m c)
    (hbytes : (zs.length + m) * 8 ≤ 140737488355328) (hB : B ≤ w.heap.size)
    (h : ∀ v' w', OwnI w' B v' (zs ++ ys) → w.grownBy w' v.ownBlock → (v'.ownBlock = v.ownBlock ∨ v'.ownBlock = some w.heap.size) → wpList Tryd.prog ops Q rest (a.put o.dst v') w') : wpList Tryd.prog ops Q (o :: rest) a w := by
  obtain ⟨i, hi, hz, hsz, hby⟩ := info_parts i3
  have hl : (ints ys).length = m * 1 := by simp [ints, hr.1]
  have h1 : ∀ u ∈ ints ys, u.oneCell' = true := ints_oneCell _ _
  have e1 : zs.length + m = (zs ++ ys).length := by simp [hr.1]
  have e2 : ints zs ++ ints ys = ints (zs ++ ys) := by simp [ints]
  refine wpList_append_own_at w hgd s x _ ho B 3 i (.int .i64 0) 1 8 Tryd.underlying23 hi hz hsz hby rfl (by decide) v _ _ hs hown ad m c (ints ys) hx hl (hr.cells ad rfl) h1 (by unfold maxLen; omega) hbytes hB ?_
  intro v' w' r1 r2 _ r4
  exact h v' w' (by unfold OwnI; rw [← e1, ← e2]; exact r1) r2 r4

theorem new_ne {w : World} {o : Obj} {tb tq : Nat} {v v' : Value} (h : ∀ a : Addr, some (⟨tb, tq, none⟩ : Addr) = some a → some a.block ≠ v.ownBlock) (ht : tb < w.heap.size) (p : v'.ownBlock = v.ownBlock ∨ v'.ownBlock = some (w.alloc o).heap.size) :
    ∀ a : Addr, some (⟨tb, tq, none⟩ : Addr) = some a → some a.block ≠ v'.ownBlock := by
  intro a e e2
  rcases p with p | p
  · exact h a e (e2.trans p)
  · rw [p] at e2
    cases e
    have := Option.some.inj e2
    simp at this
    omega
theorem six_at (x : Int) : ∃ y : Nat, y ≤ 6 ∧ min (max x 0) 6 = (y : Int) := ⟨(min (max x 0) 6).toNat, by omega, by omega⟩

set_option maxRecDepth 100000 in
set_option maxHeartbeats 4000000 in
theorem l11Draw_ok (g P n : Nat) (w : World) (h : Rd w g P) (hn : n ≤ 5) (hP : P ≤ 600000) :
    Calls Tryd.prog 112 #[.pointer (some ⟨g, 0, none⟩), .int .i64 n] w (ListP g (P + 40) 7 w) := by
  have hgw := h.lt
  have HK := Lib.hid (fun Q m W (h : Rd W g Q) (hQ : Q ≤ 1000000) (hm : m ≤ 1048576) => pick_ok g Q m W h hQ hm)
  have b0 : Below w.heap.size w (w.alloc (.cells #[] 3)) := (Below.refl _ _).alloc (Nat.le_refl _) _
  have R0 := Lib.hid (h.below b0 (Nat.le_refl _))
  have D0 := Lib.hid (DrB.ofB (g := g) b0)
  have O0 := Lib.hid (OwnI.lit w w.heap.size [] (Nat.le_refl _) (by decide))
  have hs0 : (w.alloc (.cells #[] 3)).heap.size = w.heap.size + 1 := by simp
  clear h b0
  go_enter Tryd.func112, Tryd.ntmps112
  go_wp2_with fail
  refine (l3Orders_ok g P n _ R0.out hn (by omega)).mono ?_
  rintro e w1 ⟨tv, ts, rfl, htl, o1, r1, d1⟩
  have hw0 : (w.alloc (.cells #[] 3)).heap.size = w.heap.size + 1 := hs0
  obtain ⟨ta, tc, rfl, q1⟩ := o1.out
  have HT := Lib.hid q1.rowI
  have R1 := Lib.hid r1
  have D1 := Lib.hid (D0.out.trans (d1.mono D0.out.size))
  have O1 := Lib.hid (O0.out.dr d1 (Nat.le_refl _) hgw)
  have T1 : Hid (∀ a, ta = some a → some a.block ≠ (Value.slice (some ⟨w.heap.size, 0, none⟩) 0 0).ownBlock) := fun a e => by have := q1.2.own a e; rw [hs0] at this; simp [Value.ownBlock]; omega
  have hs1 : w.heap.size ≤ w1.heap.size := D1.out.size
  have T2 : Hid (∀ a, ta = some a → w.heap.size ≤ a.block ∧ g < a.block) := fun a e => by have := q1.2.own a e; rw [hs0] at this; omega
  generalize htn : ts.length = m at *
  clear q1 o1 r1 d1 hw0
  go_wp2_with fail
  go_loopw [5, 7] (fun v q wr => ∃ (k : Nat) (zs : List Int), k ≤ m ∧ zs.length ≤ k ∧ q = .int .i64 k ∧ OwnI wr w.heap.size v zs ∧ w.heap.size ≤ wr.heap.size ∧ Rd wr g (P + 20 + k) ∧ DrB g w.heap.size w wr ∧ RowI wr ta m tc ts ∧ (∀ a, ta = some a → some a.block ≠ v.ownBlock)) (fun _ q _ => m - (intOf q).toNat)
  case atStart => exact ⟨0, [], Nat.zero_le _, Nat.zero_le _, rfl, O1.out, hs1, R1.out.more (by omega), D1.out, HT.out, T1.out⟩
  case round =>
    obtain ⟨k, zs, hk, hzl, rfl, ho, hsz, hr, hd, ht, hne⟩ := hrel
    have HO := Lib.hid ho
    have HR := Lib.hid hr
    have HDr := Lib.hid hd
    have HTr := Lib.hid ht
    have HNe := Lib.hid hne
    clear ho hr hd ht hne
    by_cases hkm : k < m
    · have hkw : (k : Int) < (m : Int) := by omega
      obtain ⟨tb, tq, rfl, htb⟩ := HTr.out.2.some (by omega)
      have hcell := HTr.out.2.cell tb tq rfl k hkm
      obtain ⟨y, hy, hye⟩ := six_at (gI ts k)
      generalize gI ts k = x at hcell hye
      by_cases hz0 : zs = []
      · subst hz0
        obtain ⟨oa, oc, rfl, q1, hsp⟩ := HO.out.out2
        simp only [List.length_nil] at q1
        clear q1 hsp
        go_wp2_with (at_builtin; refine wpList_appI1 (OwnI.alloc HO.out _) (RowI.one _ _) rfl _ _ rfl rfl rfl (by simp) (by simp; omega) ?_; intro v6 w6 o6 g6 p6)
        go_roundw
        case rel => exact ⟨k + 1, _, by omega, by simp, by go_num, o6, by have := g6.size; simp at this; omega, (HO.out.oneApp hgw HR.out g6).more (by omega), (HDr.out.alloc HDr.out.size _).grown g6 (by simp; omega) (fun j hj => (World.ownsRow.lt HO.out j hj).1), (HTr.out.below ((Below.refl _ _).alloc (Nat.le_refl _) _) (Nat.le_refl _)).grown g6 HNe.out, new_ne HNe.out htb p6⟩
        case measure => simp [intOf] <;> omega
      · obtain ⟨g1, c1, rfl, hg1, hl1, hrow⟩ := HO.out.form (List.length_pos_iff.2 hz0)
        obtain ⟨m1, hm1⟩ : ∃ m1, zs.length = m1 + 1 := ⟨zs.length - 1, by have := List.length_pos_iff.2 hz0; omega⟩
        have hm6 : m1 ≤ 5 := by omega
        rw [hm1] at HO HNe hrow ⊢
        go_wp2_with fail
        refine (HK.out _ 3 _ HR.out (by omega) (by omega)).mono ?_
        rintro e w3 ⟨z, rfl, hz, r3, g3⟩
        have R3 := Lib.hid r3
        have D3 := Lib.hid (HDr.out.trans ((DrB.ofG g3).mono HDr.out.size))
        have O3 := Lib.hid (HO.out.dr (DrB.ofG g3) (Nat.le_refl _) hgw)
        have T3 := Lib.hid (HTr.out.grown g3 (fun a e e2 => by have := (T2.out a e).2; have := Option.some.inj e2; omega))
        have htb3 := Nat.lt_of_lt_of_le htb g3.size
        have hs3 := Nat.le_trans hsz g3.size
        have hr3 := hrow.grown g3 (fun a e e2 => by cases e; have := Option.some.inj e2; simp at this; omega)
        clear r3 g3 hz hrow
        by_cases z0 : z = 0
        · have tz : ((z : Int) == 0) = true := by rw [z0]; rfl
          clear z0
          have hc2 := hr3.2.cell g1 0 rfl m1 (by omega)
          rw [Nat.zero_add] at hc2
          have hf2 := O3.out.free m1
          have hgr := grownBy_setCell (World.grownBy.refl w3 (some g1)) (a := ⟨g1, m1, none⟩) rfl (.int .i64 (bits .or .i64 (gI zs m1) (wrap64 (2 ^ y))))
          have HGr := Lib.hid hgr
          clear hgr
          go_wp2_with fail
          go_roundw
          case rel => exact ⟨k + 1, _, by omega, by simp; omega, by go_num, O3.out.store m1 _, by have := HGr.out.size; omega, (R3.out.grown HGr.out (fun j hj => by have := Option.some.inj hj; omega)).more (by omega), D3.out.grown HGr.out hs3 (fun j hj => by have := Option.some.inj hj; omega), T3.out.grown HGr.out HNe.out, HNe.out⟩
          case measure => simp [intOf] <;> omega
        · have tz : ((z : Int) == 0) = false := by rw [beq_eq_false_iff_ne]; omega
          clear z0
          go_wp2_with (at_builtin; refine wpList_appI1 (OwnI.alloc O3.out _) (RowI.one _ _) rfl _ _ rfl rfl rfl (by rw [hm1]; omega) (by simp; omega) ?_; intro v6 w6 o6 g6 p6)
          go_roundw
          case rel => exact ⟨k + 1, _, by omega, by simp; omega, by go_num, o6, by have := g6.size; simp at this; omega, (O3.out.oneApp hgw R3.out g6).more (by omega), (D3.out.alloc D3.out.size _).grown g6 (by simp; omega) (fun j hj => (World.ownsRow.lt O3.out j hj).1), (T3.out.below ((Below.refl _ _).alloc (Nat.le_refl _) _) (Nat.le_refl _)).grown g6 HNe.out, new_ne HNe.out htb3 p6⟩
          case measure => simp [intOf] <;> omega
    · have hkw : ¬ (k : Int) < (m : Int) := by omega
      have hz6 : zs.length ≤ 6 := by omega
      go_wp2_with fail
      refine (HK.out _ 24 _ HR.out (by omega) (by omega)).mono ?_
      rintro e w4 ⟨x, rfl, hx, r1, g1⟩
      have R4 := Lib.hid r1
      have D4 := Lib.hid (HDr.out.trans ((DrB.ofG g1).mono HDr.out.size))
      have O4 := Lib.hid (HO.out.dr (DrB.ofG g1) (Nat.le_refl _) hgw)
      clear r1 g1
      by_cases x0 : x = 0
      · have tx : ((x : Int) == 0) = true := by rw [x0]; rfl
        clear x0 hx
        have b2 : Below w4.heap.size w4 (w4.alloc (.cells (ints [0, 1, -1, 32]).toArray 3)) := (Below.refl _ _).alloc (Nat.le_refl _) _
        have HX := Lib.hid (num_lit g _ 4 [0, 1, -1, 32] _ _ (R4.out.below b2 (Nat.le_refl _)) (Blk.new w4 3 (ints [0, 1, -1, 32])) (by have := R4.out.lt; omega) rfl (by omega) (by omega) (by omega))
        have D5 := Lib.hid (D4.out.trans (DrB.ofB (g := g) (b2.mono D4.out.size)))
        have O5 := Lib.hid (O4.out.alloc (.cells (ints [0, 1, -1, 32]).toArray 3))
        clear b2
        go_wp2_with fail
        refine HX.out.mono ?_
        rintro e w6 ⟨z, hz, rfl, r3, g3⟩
        generalize gI [0, 1, -1, 32] z = q
        have R6 := Lib.hid r3
        have D6 := Lib.hid (D5.out.trans ((DrB.ofG g3).mono D5.out.size))
        have O6 := Lib.hid (O5.out.dr (DrB.ofG g3) (Nat.le_refl _) hgw)
        clear r3 g3 hz
        go_wp2_with (at_builtin; refine wpList_appI (OwnI.alloc O6.out _) (RowI.one _ _) rfl _ _ rfl rfl rfl (by omega) (by have := D6.out.size; simp; omega) ?_; intro v7 w7 o7 g7)
        go_ret
        exact ⟨_, _, rfl, by simp; omega, o7, (O6.out.oneApp hgw R6.out g7).more (by omega), (D6.out.alloc D6.out.size _).grown g7 (by have := D6.out.size; simp; omega) (fun j hj => (World.ownsRow.lt O6.out j hj).1)⟩
      · have tx : ((x : Int) == 0) = false := by rw [beq_eq_false_iff_ne]; omega
        clear x0 hx
        go_wp2_with fail
        go_ret
        exact ⟨_, zs, rfl, by omega, O4.out, R4.out.more (by omega), D4.out⟩

end Go.Proofs.YtjkgcgbialiipaaDoor
/- Walks: one switch's step by the program; a network and blocks, drawn. -/
namespace Go.Proofs.YtjkgcgbialiipaaDoor
open Go.RowKit

set_option maxHeartbeats 1000000 in
theorem holdI_ok (s i v : Nat) (w : World) (hs : s < 32) (hi : i < 5) (hv : v < 2) :
    Calls Tryd.prog 153 #[.int .i64 s, .int .i64 i, .int .i64 v] w fun e w' => e = .returned (.int .i64 (setN s i v : Nat)) ∧ Below w.heap.size w w' := by
  have hp : (2 ^ i : Nat) < 32 := Nat.pow_lt_pow_right (by decide) hi
  have h1 : wrap64 (2 ^ i) = ((2 ^ i : Nat) : Int) := wrap_pow_nat i (by omega)
  have h2 : wrap64 ((v : Int) * 2 ^ i) = ((v * 2 ^ i : Nat) : Int) := by
    rcases (show v = 0 ∨ v = 1 by omega) with rfl | rfl
    · simp; decide +kernel
    · simpa using h1
  have h3 := andNot_32 s (2 ^ i) hs hp
  have h4 : bits .or .i64 ((s &&& (31 - 2 ^ i) : Nat) : Int) ((v * 2 ^ i : Nat) : Int) = ((setN s i v : Nat) : Int) := or_nat _ _ (Nat.lt_of_lt_of_le (and_lt32 hs) (by decide)) (Nat.lt_of_le_of_lt (Nat.mul_le_mul (show v ≤ 1 by omega) (Nat.le_of_lt hp)) (by decide))
  generalize ((2 ^ i : Nat) : Int) = a at h1 h3
  generalize ((s &&& (31 - 2 ^ i) : Nat) : Int) = b at h3 h4
  generalize ((v * 2 ^ i : Nat) : Int) = c at h2 h4
  go_enter Tryd.func153, Tryd.ntmps153
  go_wp2
  have hi0 : (0 : Int) ≤ (i : Int) := by omega
  have him : min i 64 = i := by omega
  go_region_held3 (fun w' => Below w.heap.size w w') (first | exact ⟨rfl, rfl, rfl, Nat.le_refl _, fun _ _ => rfl⟩ | assumption) (fail)
  go_wp2_with fail
  go_ret
  refine ⟨reti ?_, ⟨rfl, rfl, rfl, Nat.le_refl _, fun _ _ => rfl⟩⟩
  have hw : ∀ z : Int, IntKind.i64.wrap z = wrap64 z := fun z => by simp [IntKind.wrap, wrap64, IntKind.signed, IntKind.bits] <;> omega
  rw [hw, hw, h1, h3, h2, h4]

/-- The bit of a table in a network's row. -/
theorem net_cell2 {w : World} {q o c : Nat} {ps : List ByteArray} (h : RowN w (some ⟨q, o, none⟩) ps.length c ps.length (bitsN ps ps.length)) (hn : netB ps = true) (h5 : ps.length ≤ 5) {i s : Nat} (hi : i < ps.length) (hs : s < 2 ^ ps.length) :
    w.cell? ⟨q, o + i * 33 + 1 + s, none⟩ = some (.int .u8 ((bitN ps i s : Nat) : Int)) := by
  have hp : (2 ^ ps.length : Nat) ≤ 32 := Nat.pow_le_pow_right (n := 2) (by decide) h5
  have hbs : (bitsN ps ps.length)[i]? = some (eachL (byD (gT ps i)) (gT ps i).size) := by simp [bitsN, hi]
  have := h.range q o rfl i _ hbs (1 + s) _ (tabC_get (ps.length : Int) (eachL (byD (gT ps i)) (gT ps i).size) s (by rw [eachL_len]; omega))
  rw [Nat.add_assoc, this, eachL_get _ _ _ (by omega) (by rw [net_size hn i hi]; exact hs), bitN_eq (netB_get hn i hi).1]

set_option maxHeartbeats 2000000 in
theorem stepOne_ok (ao : Option Addr) (c : Nat) (ps : List ByteArray) (s i : Nat) (w : World) (h : RowN w ao ps.length c ps.length (bitsN ps ps.length)) (hn : netB ps = true) (h5 : ps.length ≤ 5) (hs : s < 2 ^ ps.length) (hi : i < ps.length) :
    Calls Tryd.prog 95 #[.slice ao ps.length c, .int .i64 s, .int .i64 i] w fun e w' => e = .returned (.int .i64 (setN s i (bitN ps i s) : Nat)) ∧ Below w.heap.size w w' := by
  obtain ⟨q, o, rfl, hq⟩ := h.some (by omega)
  have hc := net_cell2 h hn h5 hi hs
  have hp : (2 ^ ps.length : Nat) ≤ 32 := Nat.pow_le_pow_right (n := 2) (by decide) h5
  have hb : bitN ps i s < 2 := bitN_lt (netB_get hn i hi).1 s
  have HH := Lib.hid (fun W => holdI_ok s i (bitN ps i s) W (by omega) (by omega) hb)
  have hs32 : (s : Int) < 32 := by omega
  generalize bitN ps i s = b at hc HH hb ⊢
  have hin : (i : Int) < (ps.length : Int) := by omega
  generalize ps.length = n at hin hc ⊢
  clear h hn hs hi hp
  go_enter Tryd.func95, Tryd.ntmps95
  go_wp2_with fail
  refine (HH.out _).mono ?_
  rintro e w2 ⟨rfl, b2⟩
  go_wp2_with fail
  go_ret
  exact ⟨rfl, b2⟩

/-- What StepOne gives. -/
def soV (ps : List ByteArray) (s i : Int) : Int := if (stB' ps s && decide (0 ≤ i ∧ i < ps.length)) = true then (setN s.toNat i.toNat (bitN ps i.toNat s.toNat) : Nat) else -1
theorem soV_no {ps : List ByteArray} {s i : Int} (h : stB' ps s = false) : soV ps s i = -1 := by simp [soV, h]
theorem soV_out {ps : List ByteArray} {s i : Int} (h : ¬ (0 ≤ i ∧ i < ps.length)) : soV ps s i = -1 := by simp [soV, h]
theorem soV_yes {ps : List ByteArray} {s i : Nat} (h : stB' ps (s : Int) = true) (hi : i < ps.length) : soV ps (s : Int) (i : Int) = (setN s i (bitN ps i s) : Nat) := by
  simp [soV, h, hi]

set_option maxHeartbeats 2000000 in
theorem stepOneI_ok (t : ByteArray) (s : Int) (i : Nat) (w : World) (hs : t.size ≤ 1048576) (hm : MaxLenIs w) (hi : i < (cutsP 44 t).length) :
    Calls Tryd.prog 19 #[.string t, .int .i64 s, .int .i64 i] w fun e w' => e = .returned (.int .i64 (soV (cutsP 44 t) s i)) ∧ Below w.heap.size w w' := by
  have HO := Lib.hid (stateOf_ok t s w hs hm)
  have hp0 := cutsP_pos 44 t
  generalize cutsP 44 t = ps at HO hp0 hi ⊢
  cases hb : stB' ps s with
  | false =>
    have HV := Lib.hid (soV_no (i := i) hb)
    rw [hb] at HO
    clear hb
    go_enter Tryd.func19, Tryd.ntmps19
    go_wp2_with fail
    refine HO.out.mono ?_
    rintro e w1 ⟨v, rfl, o1, b1⟩
    clear o1
    go_wp2_with fail
    go_ret
    exact ⟨reti HV.out.symm, b1⟩
  | true =>
    obtain ⟨hn, h0, h1⟩ := stB'_get hb
    obtain ⟨m, rfl⟩ := Int.eq_ofNat_of_zero_le h0
    have h5 := net_le hn hp0
    have hlen := bitsN_len ps ps.length
    have hsm : m < 2 ^ ps.length := by omega
    have HV := Lib.hid (soV_yes hb hi)
    have HN := Lib.hid (netN_yes hn)
    have HS := Lib.hid (fun (ao : Option Addr) (c : Nat) W h => stepOne_ok ao c ps m i W h hn h5 hsm hi)
    have hiw : (i : Int) < (ps.length : Int) := by omega
    rw [hb] at HO
    clear hb hn h0 h1 hsm
    go_enter Tryd.func19, Tryd.ntmps19
    go_wp2_with fail
    refine HO.out.mono ?_
    rintro e w1 ⟨v, rfl, o1, b1⟩
    rw [HN.out] at o1
    obtain ⟨a, c, rfl, r1⟩ := o1.row (bitsN_wide ps ps.length)
    rw [hlen] at r1 ⊢
    have HS1 := Lib.hid (HS.out _ _ _ r1)
    clear o1 r1
    go_wp2_with fail
    refine HS1.out.mono ?_
    rintro e w2 ⟨rfl, b2⟩
    go_wp2_with fail
    go_ret
    exact ⟨reti HV.out.symm, b1.trans (b2.mono b1.size)⟩

/-- A network's text and blocks are drawn. -/
def WithP (g P : Nat) (w : World) (e : Ending) (w' : World) : Prop := ∃ u v zs, e = .returned (.tuple #[.string u, v]) ∧ u.size ≤ 1048576 ∧ zs.length ≤ 7 ∧ OwnI w' w.heap.size v zs ∧ Rd w' g P ∧ DrB g w.heap.size w w'

theorem szV_max (t : ByteArray) : ∃ n : Nat, n ≤ 5 ∧ max (szV (cutsP 44 t)) 1 = (n : Int) := by
  rcases szV_range t with h | ⟨n, h, h1, h5, _⟩
  · exact ⟨1, by omega, by rw [h]; decide⟩
  · exact ⟨n, h5, by rw [h]; omega⟩

set_option maxHeartbeats 2000000 in
theorem l11With_ok (g P : Nat) (w : World) (h : Rd w g P) (hP : P ≤ 500000) :
    Calls Tryd.prog 83 #[.pointer (some ⟨g, 0, none⟩)] w (WithP g (P + 440) w) := by
  have hgw := h.lt
  have HO := Lib.hid (l7Open_ok g P w h hP)
  clear h
  go_enter Tryd.func83, Tryd.ntmps83
  go_wp2_with fail
  refine HO.out.mono ?_
  rintro e w1 ⟨u, rfl, hu, r1, d1⟩
  have HU : Hid (u.size ≤ 1048576) := Nat.le_trans hu (by decide)
  have R1 := Lib.hid r1
  have D1 := Lib.hid d1
  clear r1 d1 hu
  obtain ⟨n, hn5, hmx⟩ := szV_max u
  go_wp2_with fail
  refine (sizeOf_ok u _ HU.out).mono ?_
  rintro e w2 ⟨rfl, b2⟩
  have R2 := Lib.hid (R1.out.below b2 (Nat.le_refl _))
  have D2 := Lib.hid (D1.out.trans ((DrB.ofB (g := g) b2).mono D1.out.size))
  clear b2
  generalize szV (cutsP 44 u) = q at hmx ⊢
  go_wp2_with fail
  refine (l11Draw_ok g _ n _ R2.out hn5 (by omega)).mono ?_
  rintro e w3 ⟨v, zs, rfl, hzl, o3, r3, d3⟩
  have R3 := Lib.hid r3
  have D3 := Lib.hid (D2.out.trans (d3.mono D2.out.size))
  have O3 := Lib.hid (OwnI.baseW o3 D2.out.size)
  clear r3 d3 o3
  obtain ⟨va, vc, rfl, _⟩ := O3.out.out
  go_wp2_with fail
  refine bodyPost_ret (v := .tuple #[.string u, .slice va zs.length vc]) (by simp [results, Tryd.results83, go_sem]) rfl ⟨u, _, zs, rfl, HU.out, hzl, O3.out, R3.out, D3.out⟩

end Go.Proofs.YtjkgcgbialiipaaDoor
/- Walks: a network, a term and a state, drawn. -/
namespace Go.Proofs.YtjkgcgbialiipaaDoor
open Go.RowKit

theorem of_size {ts : List ByteArray} {M : Nat} (h : ∀ t ∈ ts, t.size ≤ M) {v : Nat} (hv : v < ts.length) : (gT ts v).size ≤ M := h _ (List.mem_of_getElem? (gT_lt hv))

set_option maxHeartbeats 2000000 in
theorem l2Term_ok (g P n : Nat) (w : World) (h : Rd w g P) (hn : n ≤ 5) (hP : P ≤ 900000) :
    Calls Tryd.prog 182 #[.pointer (some ⟨g, 0, none⟩), .int .i64 n] w (TextP g (P + 5) (Short 5) w) := by
  have HOf := Lib.hid (fun Q n (ts : List ByteArray) W q (h : Rd W g Q) (hW : Blk W q 9 (strs ts)) (hq : q ≠ g) (hn : ts.length = n) (hn0 : 0 < n) (hn1 : n ≤ 100) (hQ : Q ≤ 1000000) => of_ok g Q n n (some ⟨q, 0, none⟩) ts W h (by subst hn; exact RowT.ofBlk hW (by unfold maxLen; omega)) hn0 (by omega) (fun a e => by cases e; exact hq) hQ)
  go_enter Tryd.func182, Tryd.ntmps182
  go_wp2_with fail
  go_loopw [5, 6] (fun v q wr => ∃ (k : Nat) (t : ByteArray), k ≤ n ∧ q = .int .i64 k ∧ v = .string t ∧ t.size ≤ k ∧ Rd wr g (P + k) ∧ DrB g w.heap.size w wr) (fun _ q _ => n - (intOf q).toNat)
  case atStart => exact ⟨0, ⟨#[]⟩, Nat.zero_le _, rfl, rfl, by decide, h.more (by omega), DrB.refl _ _ _⟩
  case round =>
    obtain ⟨k, t, hk, rfl, rfl, ht, hr, hd⟩ := hrel
    have HR := Lib.hid hr
    have HDr := Lib.hid hd
    clear hr hd
    by_cases hkn : k < n
    · have hkw : (k : Int) < (n : Int) := by omega
      have bb : Below wr.heap.size wr (wr.alloc (.cells (strs [⟨#[42]⟩, ⟨#[48]⟩, ⟨#[49]⟩, ⟨#[42]⟩]).toArray 9)) := (Below.refl _ _).alloc (Nat.le_refl _) _
      have HX := Lib.hid (HOf.out (P + k) 4 _ _ _ (HR.out.below bb (Nat.le_refl _)) (Blk.new wr 9 (strs [⟨#[42]⟩, ⟨#[48]⟩, ⟨#[49]⟩, ⟨#[42]⟩])) (by have := HR.out.lt; omega) rfl (by omega) (by omega) (by omega))
      have D2 := Lib.hid (HDr.out.trans (DrB.ofB (g := g) (bb.mono HDr.out.size)))
      clear bb
      go_wp2_with fail
      refine HX.out.mono ?_
      rintro e w3 ⟨x, hx, rfl, r3, g3⟩
      have hxs : (gT [⟨#[42]⟩, ⟨#[48]⟩, ⟨#[49]⟩, ⟨#[42]⟩] x).size ≤ 1 := of_size (by decide) hx
      generalize gT [⟨#[42]⟩, ⟨#[48]⟩, ⟨#[49]⟩, ⟨#[42]⟩] x = u at hxs
      have R3 := Lib.hid r3
      have D3 := Lib.hid (D2.out.trans ((DrB.ofG g3).mono D2.out.size))
      clear r3 g3 hx
      go_wp2_with fail
      go_roundw
      case rel => exact ⟨k + 1, t ++ u, by omega, by go_num, rfl, by rw [ByteArray.size_append]; omega, R3.out.more (by omega), D3.out⟩
      case measure => simp [intOf] <;> omega
    · have hkw : ¬ (k : Int) < (n : Int) := by omega
      go_wp2_with fail
      go_ret
      exact ⟨_, rfl, by unfold Short; omega, HR.out.more (by omega), HDr.out⟩

set_option maxHeartbeats 2000000 in
theorem l2Bad_ok (g P M : Nat) (t : ByteArray) (w : World) (h : Rd w g P) (ht : t.size ≤ M) (hM : M ≤ 100) (hP : P ≤ 900000) :
    Calls Tryd.prog 181 #[.pointer (some ⟨g, 0, none⟩), .string t] w (TextP g (P + 2) (Short (M + 6)) w) := by
  have HOf := Lib.hid (fun Q n (ts : List ByteArray) W q (h : Rd W g Q) (hW : Blk W q 9 (strs ts)) (hq : q ≠ g) (hn : ts.length = n) (hn0 : 0 < n) (hn1 : n ≤ 100) (hQ : Q ≤ 1000000) => of_ok g Q n n (some ⟨q, 0, none⟩) ts W h (by subst hn; exact RowT.ofBlk hW (by unfold maxLen; omega)) hn0 (by omega) (fun a e => by cases e; exact hq) hQ)
  have HK := Lib.hid (pick_ok g P 20 w h (by omega) (by omega))
  clear h
  go_enter Tryd.func181, Tryd.ntmps181
  go_wp2_with fail
  refine HK.out.mono ?_
  rintro e w1 ⟨a, rfl, ha, r1, g1⟩
  have R1 := Lib.hid r1
  have D1 := Lib.hid (DrB.ofG g1)
  clear r1 g1
  by_cases a0 : a = 0
  · have t0 : ((a : Int) == 0) = true := by rw [a0]; rfl
    have bb : Below w1.heap.size w1 (w1.alloc (.cells (strs [⟨#[42]⟩, ⟨#[120]⟩, ⟨#[49, 49, 49, 49, 49, 49]⟩, ⟨#[45]⟩]).toArray 9)) := (Below.refl _ _).alloc (Nat.le_refl _) _
    have HX := Lib.hid (HOf.out (P + 1) 4 _ _ _ (R1.out.below bb (Nat.le_refl _)) (Blk.new w1 9 (strs [⟨#[42]⟩, ⟨#[120]⟩, ⟨#[49, 49, 49, 49, 49, 49]⟩, ⟨#[45]⟩])) (by have := R1.out.lt; omega) rfl (by omega) (by omega) (by omega))
    have D2 := Lib.hid (D1.out.trans (DrB.ofB (g := g) (bb.mono D1.out.size)))
    clear bb a0 ha
    go_wp2_with fail
    refine HX.out.mono ?_
    rintro e w3 ⟨x, hx, rfl, r3, g3⟩
    have hxs : (gT [⟨#[42]⟩, ⟨#[120]⟩, ⟨#[49, 49, 49, 49, 49, 49]⟩, ⟨#[45]⟩] x).size ≤ 6 := of_size (by decide) hx
    generalize gT [⟨#[42]⟩, ⟨#[120]⟩, ⟨#[49, 49, 49, 49, 49, 49]⟩, ⟨#[45]⟩] x = u at hxs
    have R3 := Lib.hid r3
    have D3 := Lib.hid (D2.out.trans ((DrB.ofG g3).mono D2.out.size))
    clear r3 g3 hx
    go_wp2_with fail
    go_ret
    exact ⟨_, rfl, by unfold Short; rw [ByteArray.size_append]; omega, R3.out.more (by omega), D3.out⟩
  · have t0 : ((a : Int) == 0) = false := by rw [beq_eq_false_iff_ne]; omega
    go_wp2_with fail
    go_ret
    exact ⟨_, rfl, by unfold Short; omega, R1.out.more (by omega), D1.out⟩

/-- A network, a term and a state are drawn. -/
def CaseP (g P : Nat) (w : World) (e : Ending) (w' : World) : Prop := ∃ u t s, e = .returned (.tuple #[.string u, .string t, .int .i64 s]) ∧ u.size ≤ 1048576 ∧ t.size ≤ 1048576 ∧ Rd w' g P ∧ DrB g w.heap.size w w'

theorem OwnI.rowA {w : World} {B m c : Nat} {a : Option Addr} {zs : List Int} (h : OwnI w B (.slice a m c) zs) : RowI w a m c zs := by
  obtain ⟨ao, c', e, ho⟩ := h.out
  injection e with e1 e2 e3
  rw [e1, e2, e3]
  exact ho.rowI
theorem szV_min (t : ByteArray) : ∃ (q : Int) (n : Nat), max (szV (cutsP 44 t)) 1 = q ∧ min q 5 = (n : Int) ∧ 1 ≤ n ∧ n ≤ 5 := by
  rcases szV_range t with h | ⟨n, h, h1, h5, _⟩
  · exact ⟨1, 1, by rw [h]; decide, by decide, by omega, by omega⟩
  · exact ⟨n, n, by rw [h]; omega, by omega, h1, h5⟩
theorem fp_lt {ps : List ByteArray} (h0 : 0 < ps.length) {i : Nat} (h : i < (fpV ps).length) : ∃ s : Nat, gI (fpV ps) i = (s : Int) ∧ s < 32 := by
  cases hn : netB ps with
  | false => rw [fpV_no hn] at h; exact absurd h (Nat.not_lt_zero _)
  | true =>
    rw [fpV_yes hn] at h ⊢
    obtain ⟨s, h1, h2, _⟩ := fpL_get h
    have := Nat.pow_le_pow_right (n := 2) (by decide) (net_le hn h0)
    exact ⟨s, h1, by omega⟩

set_option maxRecDepth 100000 in
set_option maxHeartbeats 4000000 in
theorem l10Case_ok (g P : Nat) (w : World) (h : Rd w g P) (hP : P ≤ 500000) :
    Calls Tryd.prog 136 #[.pointer (some ⟨g, 0, none⟩)] w (CaseP g (P + 500) w) := by
  have hgw := h.lt
  have HO := Lib.hid (l7Open_ok g P w h hP)
  have HK := Lib.hid (fun Q m W (h : Rd W g Q) (hQ : Q ≤ 1000000) (hm : m ≤ 1048576) => pick_ok g Q m W h hQ hm)
  clear h
  go_enter Tryd.func136, Tryd.ntmps136
  go_wp2_with fail
  refine HO.out.mono ?_
  rintro e w1 ⟨u, rfl, hu, r1, d1⟩
  have HU : Hid (u.size ≤ 1048576) := Nat.le_trans hu (by decide)
  have R1 := Lib.hid r1
  have D1 := Lib.hid d1
  have hp0 := cutsP_pos 44 u
  obtain ⟨q, n, hmx, hmn, hn1, hn5⟩ := szV_min u
  have HFp := Lib.hid (fun W => fpS_ok u W HU.out)
  have HFl := Lib.hid (fun i (hi : i < (fpV (cutsP 44 u)).length) => fp_lt hp0 hi)
  have hFL := fpV_len (cutsP 44 u) hp0
  have HSz := Lib.hid (fun W => sizeOf_ok u W HU.out)
  generalize fpV (cutsP 44 u) = L at HFp HFl hFL
  generalize szV (cutsP 44 u) = z at HSz hmx
  have hpw := wrap_pow_nat n (by omega)
  have hp : (2 ^ n : Nat) ≤ 32 := Nat.pow_le_pow_right (n := 2) (by decide) hn5
  generalize (2 ^ n : Nat) = N at hpw hp
  clear r1 d1 hu hp0
  go_wp2_with fail
  refine (HSz.out _).mono ?_
  rintro e w2 ⟨rfl, b2⟩
  have R2 := Lib.hid (R1.out.below b2 (Nat.le_refl _))
  have D2 := Lib.hid (D1.out.trans ((DrB.ofB (g := g) b2).mono D1.out.size))
  clear b2
  go_wp2_with fail
  refine (HK.out _ N _ R2.out (by omega) (by omega)).mono ?_
  rintro e w3 ⟨s0, rfl, hs0, r3, g3⟩
  have R3 := Lib.hid r3
  have D3 := Lib.hid (D2.out.trans ((DrB.ofG g3).mono D2.out.size))
  clear r3 g3
  have hs32 : s0 < 32 := by omega
  clear hs0
  go_wp2_with fail
  refine (HFp.out _).mono ?_
  rintro e w4 ⟨v4, rfl, o4, b4⟩
  have R4 := Lib.hid (R3.out.below b4 (Nat.le_refl _))
  have D4 := Lib.hid (D3.out.trans ((DrB.ofB (g := g) b4).mono D3.out.size))
  have hgw3 : g < w3.heap.size := R3.out.lt
  obtain ⟨la, lc, rfl, ho4⟩ := o4.out
  have O4 := Lib.hid o4
  clear b4 o4
  obtain ⟨m, hm⟩ : ∃ m, L.length = m := ⟨_, rfl⟩
  rw [hm] at HFl hFL O4 ho4 ⊢
  by_cases hm0 : 0 < m
  · have hmw : (0 : Int) < (m : Int) := by omega
    go_wp2_with fail
    refine (HK.out _ 2 _ R4.out (by omega) (by omega)).mono ?_
    rintro e w5 ⟨y, rfl, hy, r5, g5⟩
    have R5 := Lib.hid r5
    have D5 := Lib.hid (D4.out.trans ((DrB.ofG g5).mono D4.out.size))
    have O5 := Lib.hid (O4.out.dr (DrB.ofG g5) (Nat.le_refl _) hgw3)
    clear r5 g5 hy
    by_cases hy0 : y = 0
    · have ty : ((y : Int) == 0) = true := by rw [hy0]; rfl
      clear hy0
      have htk := ho4
      go_wp2_with fail
      refine (HK.out _ m _ R5.out (by omega) (by omega)).mono ?_
      rintro e w5b ⟨i, rfl, hi, r5, g5⟩
      have him : i < m := by omega
      have hiw : (i : Int) < (m : Int) := by omega
      have R5b := Lib.hid r5
      have D5b := Lib.hid (D5.out.trans ((DrB.ofG g5).mono D5.out.size))
      have O5b := Lib.hid (O5.out.dr (DrB.ofG g5) (Nat.le_refl _) hgw3)
      clear r5 g5 hi htk
      obtain ⟨s1, hs1, hs132⟩ := HFl.out i him
      have HRow := Lib.hid (OwnI.rowA (m := m) O5b.out)
      obtain ⟨lb, lo, rfl, hlb⟩ := HRow.out.2.some (by omega)
      have hcell := HRow.out.2.cell lb lo rfl i him
      rw [hs1] at hcell
      clear hs1 ho4
      go_wp2_with fail
      refine (HK.out _ N _ R5b.out (by omega) (by omega)).mono ?_
      rintro e w6 ⟨st, rfl, hst, r6, g6⟩
      have R6 := Lib.hid r6
      have D6 := Lib.hid (D5b.out.trans ((DrB.ofG g6).mono D5b.out.size))
      have hst32 : st < 32 := by omega
      clear r6 g6 hst
      go_wp2_with fail
      refine (l10Term_ok s1 st n _ hs132 hst32 hn5).mono ?_
      rintro e w7 ⟨rfl, b7⟩
      have R7 := Lib.hid (R6.out.below b7 (Nat.le_refl _))
      have D7 := Lib.hid (D6.out.trans ((DrB.ofB (g := g) b7).mono D6.out.size))
      have htz : (⟨(hlT s1 st n).toArray⟩ : ByteArray).size ≤ 1048576 := by simp [ByteArray.size, hlT_len]; omega
      generalize (⟨(hlT s1 st n).toArray⟩ : ByteArray) = t at htz ⊢
      clear b7
      go_wp2_with fail
      refine (HK.out _ 16 _ R7.out (by omega) (by omega)).mono ?_
      rintro e w8 ⟨zz, rfl, hzz, r8, g8⟩
      have R8 := Lib.hid r8
      have D8 := Lib.hid (D7.out.trans ((DrB.ofG g8).mono D7.out.size))
      clear r8 g8 hzz
      by_cases z0 : zz = 0
      · have tz : ((zz : Int) == 0) = true := by rw [z0]; rfl
        clear z0
        go_wp2_with fail
        refine (l2Term_ok g _ n _ R8.out hn5 (by omega)).mono ?_
        rintro e w9 ⟨t2, rfl, ht2, r9, d9⟩
        have R9 := Lib.hid r9
        have D9 := Lib.hid (D8.out.trans (d9.mono D8.out.size))
        clear r9 d9
        go_wp2_with fail
        refine (l2Bad_ok g _ 5 t2 _ R9.out ht2 (by omega) (by omega)).mono ?_
        rintro e w10 ⟨t3, rfl, ht3, r10, d10⟩
        have D10 := Lib.hid (D9.out.trans (d10.mono D9.out.size))
        have b11 : Below w10.heap.size w10 (w10.alloc (.cells (ints [0, -1, 32]).toArray 3)) := (Below.refl _ _).alloc (Nat.le_refl _) _
        have HX := Lib.hid (num_lit g _ 3 [0, -1, 32] _ _ (r10.below b11 (Nat.le_refl _)) (Blk.new w10 3 (ints [0, -1, 32])) (by have := r10.lt; omega) rfl (by omega) (by omega) (by omega))
        have D11 := Lib.hid (D10.out.trans (DrB.ofB (g := g) (b11.mono D10.out.size)))
        clear b11 r10 d10 ht2
        go_wp2_with fail
        refine HX.out.mono ?_
        rintro e w12 ⟨xq, hxq, rfl, r12, g12⟩
        generalize gI [0, -1, 32] xq = qq
        have R12 := Lib.hid r12
        have D12 := Lib.hid (D11.out.trans ((DrB.ofG g12).mono D11.out.size))
        clear r12 g12 hxq
        go_wp2_with fail
        refine bodyPost_ret (v := .tuple #[.string u, .string t3, .int .i64 qq]) (by simp [results, Tryd.results136, go_sem]) rfl ⟨u, t3, qq, rfl, HU.out, Nat.le_trans ht3 (by decide), R12.out.more (by omega), D12.out⟩
      · have tz : ((zz : Int) == 0) = false := by rw [beq_eq_false_iff_ne]; omega
        clear z0
        go_wp2_with fail
        refine bodyPost_ret (v := .tuple #[.string u, .string t, .int .i64 s1]) (by simp [results, Tryd.results136, go_sem]) rfl ⟨u, t, s1, rfl, HU.out, htz, R8.out.more (by omega), D8.out⟩
    · have ty : ((y : Int) == 0) = false := by rw [beq_eq_false_iff_ne]; omega
      clear hy0
      go_wp2_with fail
      refine (HK.out _ N _ R5.out (by omega) (by omega)).mono ?_
      rintro e w6 ⟨st, rfl, hst, r6, g6⟩
      have R6 := Lib.hid r6
      have D6 := Lib.hid (D5.out.trans ((DrB.ofG g6).mono D5.out.size))
      have hst32 : st < 32 := by omega
      clear r6 g6 hst
      go_wp2_with fail
      refine (l10Term_ok s0 st n _ hs32 hst32 hn5).mono ?_
      rintro e w7 ⟨rfl, b7⟩
      have R7 := Lib.hid (R6.out.below b7 (Nat.le_refl _))
      have D7 := Lib.hid (D6.out.trans ((DrB.ofB (g := g) b7).mono D6.out.size))
      have htz : (⟨(hlT s0 st n).toArray⟩ : ByteArray).size ≤ 1048576 := by simp [ByteArray.size, hlT_len]; omega
      generalize (⟨(hlT s0 st n).toArray⟩ : ByteArray) = t at htz ⊢
      clear b7
      go_wp2_with fail
      refine (HK.out _ 16 _ R7.out (by omega) (by omega)).mono ?_
      rintro e w8 ⟨zz, rfl, hzz, r8, g8⟩
      have R8 := Lib.hid r8
      have D8 := Lib.hid (D7.out.trans ((DrB.ofG g8).mono D7.out.size))
      clear r8 g8 hzz
      by_cases z0 : zz = 0
      · have tz : ((zz : Int) == 0) = true := by rw [z0]; rfl
        clear z0
        go_wp2_with fail
        refine (l2Term_ok g _ n _ R8.out hn5 (by omega)).mono ?_
        rintro e w9 ⟨t2, rfl, ht2, r9, d9⟩
        have R9 := Lib.hid r9
        have D9 := Lib.hid (D8.out.trans (d9.mono D8.out.size))
        clear r9 d9
        go_wp2_with fail
        refine (l2Bad_ok g _ 5 t2 _ R9.out ht2 (by omega) (by omega)).mono ?_
        rintro e w10 ⟨t3, rfl, ht3, r10, d10⟩
        have D10 := Lib.hid (D9.out.trans (d10.mono D9.out.size))
        have b11 : Below w10.heap.size w10 (w10.alloc (.cells (ints [0, -1, 32]).toArray 3)) := (Below.refl _ _).alloc (Nat.le_refl _) _
        have HX := Lib.hid (num_lit g _ 3 [0, -1, 32] _ _ (r10.below b11 (Nat.le_refl _)) (Blk.new w10 3 (ints [0, -1, 32])) (by have := r10.lt; omega) rfl (by omega) (by omega) (by omega))
        have D11 := Lib.hid (D10.out.trans (DrB.ofB (g := g) (b11.mono D10.out.size)))
        clear b11 r10 d10 ht2
        go_wp2_with fail
        refine HX.out.mono ?_
        rintro e w12 ⟨xq, hxq, rfl, r12, g12⟩
        generalize gI [0, -1, 32] xq = qq
        have R12 := Lib.hid r12
        have D12 := Lib.hid (D11.out.trans ((DrB.ofG g12).mono D11.out.size))
        clear r12 g12 hxq
        go_wp2_with fail
        refine bodyPost_ret (v := .tuple #[.string u, .string t3, .int .i64 qq]) (by simp [results, Tryd.results136, go_sem]) rfl ⟨u, t3, qq, rfl, HU.out, Nat.le_trans ht3 (by decide), R12.out.more (by omega), D12.out⟩
      · have tz : ((zz : Int) == 0) = false := by rw [beq_eq_false_iff_ne]; omega
        clear z0
        go_wp2_with fail
        refine bodyPost_ret (v := .tuple #[.string u, .string t, .int .i64 s0]) (by simp [results, Tryd.results136, go_sem]) rfl ⟨u, t, s0, rfl, HU.out, htz, R8.out.more (by omega), D8.out⟩
  · have hmw : ¬ (0 : Int) < (m : Int) := by omega
    go_wp2_with fail
    refine (HK.out _ N _ R4.out (by omega) (by omega)).mono ?_
    rintro e w6 ⟨st, rfl, hst, r6, g6⟩
    have R6 := Lib.hid r6
    have D6 := Lib.hid (D4.out.trans ((DrB.ofG g6).mono D4.out.size))
    have hst32 : st < 32 := by omega
    clear r6 g6 hst
    go_wp2_with fail
    refine (l10Term_ok s0 st n _ hs32 hst32 hn5).mono ?_
    rintro e w7 ⟨rfl, b7⟩
    have R7 := Lib.hid (R6.out.below b7 (Nat.le_refl _))
    have D7 := Lib.hid (D6.out.trans ((DrB.ofB (g := g) b7).mono D6.out.size))
    have htz : (⟨(hlT s0 st n).toArray⟩ : ByteArray).size ≤ 1048576 := by simp [ByteArray.size, hlT_len]; omega
    generalize (⟨(hlT s0 st n).toArray⟩ : ByteArray) = t at htz ⊢
    clear b7
    go_wp2_with fail
    refine (HK.out _ 16 _ R7.out (by omega) (by omega)).mono ?_
    rintro e w8 ⟨zz, rfl, hzz, r8, g8⟩
    have R8 := Lib.hid r8
    have D8 := Lib.hid (D7.out.trans ((DrB.ofG g8).mono D7.out.size))
    clear r8 g8 hzz
    by_cases z0 : zz = 0
    · have tz : ((zz : Int) == 0) = true := by rw [z0]; rfl
      clear z0
      go_wp2_with fail
      refine (l2Term_ok g _ n _ R8.out hn5 (by omega)).mono ?_
      rintro e w9 ⟨t2, rfl, ht2, r9, d9⟩
      have R9 := Lib.hid r9
      have D9 := Lib.hid (D8.out.trans (d9.mono D8.out.size))
      clear r9 d9
      go_wp2_with fail
      refine (l2Bad_ok g _ 5 t2 _ R9.out ht2 (by omega) (by omega)).mono ?_
      rintro e w10 ⟨t3, rfl, ht3, r10, d10⟩
      have D10 := Lib.hid (D9.out.trans (d10.mono D9.out.size))
      have b11 : Below w10.heap.size w10 (w10.alloc (.cells (ints [0, -1, 32]).toArray 3)) := (Below.refl _ _).alloc (Nat.le_refl _) _
      have HX := Lib.hid (num_lit g _ 3 [0, -1, 32] _ _ (r10.below b11 (Nat.le_refl _)) (Blk.new w10 3 (ints [0, -1, 32])) (by have := r10.lt; omega) rfl (by omega) (by omega) (by omega))
      have D11 := Lib.hid (D10.out.trans (DrB.ofB (g := g) (b11.mono D10.out.size)))
      clear b11 r10 d10 ht2
      go_wp2_with fail
      refine HX.out.mono ?_
      rintro e w12 ⟨xq, hxq, rfl, r12, g12⟩
      generalize gI [0, -1, 32] xq = qq
      have R12 := Lib.hid r12
      have D12 := Lib.hid (D11.out.trans ((DrB.ofG g12).mono D11.out.size))
      clear r12 g12 hxq
      go_wp2_with fail
      refine bodyPost_ret (v := .tuple #[.string u, .string t3, .int .i64 qq]) (by simp [results, Tryd.results136, go_sem]) rfl ⟨u, t3, qq, rfl, HU.out, Nat.le_trans ht3 (by decide), R12.out.more (by omega), D12.out⟩
    · have tz : ((zz : Int) == 0) = false := by rw [beq_eq_false_iff_ne]; omega
      clear z0
      go_wp2_with fail
      refine bodyPost_ret (v := .tuple #[.string u, .string t, .int .i64 s0]) (by simp [results, Tryd.results136, go_sem]) rfl ⟨u, t, s0, rfl, HU.out, htz, R8.out.more (by omega), D8.out⟩

end Go.Proofs.YtjkgcgbialiipaaDoor
/- Walks: the holding laws' arguments, drawn; whether a term lies within another one; traps. -/
namespace Go.Proofs.YtjkgcgbialiipaaDoor
open Go.RowKit

/-- A network's text and a term are drawn. -/
def DrawHS (w : World) (e : Ending) (w' : World) : Prop := ∃ u t : ByteArray, e = .returned (.tuple #[.string u, .string t]) ∧ u.size ≤ 1048576 ∧ t.size ≤ 1048576 ∧ Below w.heap.size w w'
set_option maxHeartbeats 2000000 in
theorem drawHS_ok (ao : Option Addr) (l c : Nat) (cs : List Int) (w : World) (h : RowU w ao l c cs) (hl : l ≤ 1048576) :
    Calls Tryd.prog 67 #[.slice ao l c] w (DrawHS w) := by
  have HO := Lib.hid (l14Open_ok ao l c cs w h hl)
  clear h
  go_enter Tryd.func67, Tryd.ntmps67
  go_wp2_with fail
  refine HO.out.mono ?_
  rintro e w1 ⟨g, rfl, hg, r1, b1⟩
  have B1 := Lib.hid b1
  have R1 := Lib.hid r1
  clear r1 b1
  go_wp2_with fail
  refine (l10Case_ok g 0 _ R1.out (by omega)).mono ?_
  rintro e w2 ⟨u, t, s, rfl, hu, ht, r2, d2⟩
  have D2 := Lib.hid ((DrB.ofB (g := g) B1.out).trans (d2.mono B1.out.size))
  clear r2 d2
  go_wp2_with fail
  refine bodyPost_ret (v := .tuple #[.string u, .string t]) (by simp [results, Tryd.results67, go_sem]) rfl ⟨u, t, rfl, hu, ht, D2.out.below hg⟩
set_option maxHeartbeats 2000000 in
theorem drawHP_ok (ao : Option Addr) (l c : Nat) (cs : List Int) (w : World) (h : RowU w ao l c cs) (hl : l ≤ 1048576) :
    Calls Tryd.prog 59 #[.slice ao l c] w (DrawHS w) := by
  have HO := Lib.hid (drawHS_ok ao l c cs w h hl)
  clear h
  go_enter Tryd.func59, Tryd.ntmps59
  go_wp2_with fail
  refine HO.out.mono ?_
  rintro e w1 ⟨u, t, rfl, hu, ht, b1⟩
  go_wp2_with fail
  refine bodyPost_ret (v := .tuple #[.string u, .string t]) (by simp [results, Tryd.results59, go_sem]) rfl ⟨u, t, rfl, hu, ht, b1⟩
/-- A network's text and a state are drawn. -/
def DrawLH (w : World) (e : Ending) (w' : World) : Prop := ∃ (u : ByteArray) (s : Int), e = .returned (.tuple #[.string u, .int .i64 s]) ∧ u.size ≤ 1048576 ∧ Below w.heap.size w w'
set_option maxHeartbeats 2000000 in
theorem drawLH_ok (ao : Option Addr) (l c : Nat) (cs : List Int) (w : World) (h : RowU w ao l c cs) (hl : l ≤ 1048576) :
    Calls Tryd.prog 72 #[.slice ao l c] w (DrawLH w) := by
  have HO := Lib.hid (l14Open_ok ao l c cs w h hl)
  clear h
  go_enter Tryd.func72, Tryd.ntmps72
  go_wp2_with fail
  refine HO.out.mono ?_
  rintro e w1 ⟨g, rfl, hg, r1, b1⟩
  have B1 := Lib.hid b1
  have R1 := Lib.hid r1
  clear r1 b1
  go_wp2_with fail
  refine (l10Case_ok g 0 _ R1.out (by omega)).mono ?_
  rintro e w2 ⟨u, t, s, rfl, hu, ht, r2, d2⟩
  have D2 := Lib.hid ((DrB.ofB (g := g) B1.out).trans (d2.mono B1.out.size))
  clear r2 d2
  go_wp2_with fail
  refine bodyPost_ret (v := .tuple #[.string u, .int .i64 s]) (by simp [results, Tryd.results72, go_sem]) rfl ⟨u, s, rfl, hu, D2.out.below hg⟩

/-- Whether a letter lies within another one. -/
def inLet (l m : List UInt8) (i : Nat) : Bool := m.getD i 42 == 42 || l.getD i 42 == m.getD i 42
/-- Whether a term lies within another one, of as many letters. -/
def insT (l m : List UInt8) : Bool := (List.range l.length).all (inLet l m)
theorem insT_no {l m : List UInt8} {i : Nat} (hi : i < l.length) (h : inLet l m i = false) : insT l m = false := by
  rw [insT, List.all_eq_false]
  exact ⟨i, List.mem_range.2 hi, by simp [h]⟩
theorem insT_yes {l m : List UInt8} (h : ∀ i, i < l.length → inLet l m i = true) : insT l m = true := by
  rw [insT, List.all_eq_true]
  exact fun i hi => h i (List.mem_range.1 hi)

set_option maxHeartbeats 4000000 in
theorem inside_ok (t u : ByteArray) (w : World) (hz : t.size = u.size) (h5 : t.size ≤ 5) :
    Calls Tryd.prog 134 #[.string t, .string u] w fun e w' => e = .returned (.bool (insT t.data.toList u.data.toList)) ∧ Below w.heap.size w w' := by
  have HL := Lib.hid (show t.data.toList.length = t.size from rfl)
  go_enter Tryd.func134, Tryd.ntmps134
  go_wp2_with fail
  go_loopw [5] (fun q wr => ∃ k : Nat, k ≤ t.size ∧ q = .int .i64 k ∧ (∀ j, j < k → inLet t.data.toList u.data.toList j = true) ∧ Below w.heap.size w wr) (fun q _ => t.size - (intOf q).toNat)
  case atStart => exact ⟨0, Nat.zero_le _, rfl, fun j hj => absurd hj (Nat.not_lt_zero _), Below.refl _ _⟩
  case round =>
    obtain ⟨k, hk, rfl, hall, hb⟩ := hrel
    have HA := Lib.hid hall
    have HB := Lib.hid hb
    clear hall hb
    by_cases hlt : k < t.size
    · have hlt' : (k : Int) < (t.size : Int) := by omega
      have hltu : k < u.size := by omega
      have hltu' : (k : Int) < (u.size : Int) := by omega
      have hk0 : (0 : Int) ≤ (k : Int) := by omega
      have hb1 := bytes_get t k hlt
      have hb2 := bytes_get u k hltu
      by_cases hst : u.data.toList.getD k 42 = 42
      · have hb3 : (((u[k].toNat : Nat) : Int) != 42) = false := by rw [hb2, hst]; rfl
        have HQ := Lib.hid (show inLet t.data.toList u.data.toList k = true by rw [inLet, hst]; rfl)
        clear hst hb1 hb2
        go_wp2_with fail
        go_quiet (fail)
        go_wp2_with fail
        go_roundw
        case rel => exact ⟨k + 1, by omega, by go_num, fun j hj => by
            by_cases e : j = k
            · rw [e]; exact HQ.out
            · exact HA.out j (by omega), HB.out.trans ⟨rfl, rfl, rfl, Nat.le_refl _, fun _ _ => rfl⟩⟩
        case measure => simp [intOf]; omega
      · have hb3 : (((u[k].toNat : Nat) : Int) != 42) = true := by
          rw [hb2, bne_iff_ne]
          intro e
          exact hst (UInt8.toNat_inj.1 (by show _ = 42; omega))
        by_cases he : t.data.toList.getD k 42 = u.data.toList.getD k 42
        · have hb4 : (((t[k].toNat : Nat) : Int) != ((u[k].toNat : Nat) : Int)) = false := by rw [hb1, hb2, he]; simp
          have HQ := Lib.hid (show inLet t.data.toList u.data.toList k = true by rw [inLet, he]; simp)
          clear hst hb1 hb2 he
          go_wp2_with fail
          go_quiet (fail)
          go_wp2_with fail
          go_roundw
          case rel => exact ⟨k + 1, by omega, by go_num, fun j hj => by
              by_cases e : j = k
              · rw [e]; exact HQ.out
              · exact HA.out j (by omega), HB.out.trans ⟨rfl, rfl, rfl, Nat.le_refl _, fun _ _ => rfl⟩⟩
          case measure => simp [intOf]; omega
        · have hb4 : (((t[k].toNat : Nat) : Int) != ((u[k].toNat : Nat) : Int)) = true := by
            rw [hb1, hb2, bne_iff_ne]
            intro e
            exact he (UInt8.toNat_inj.1 (by omega))
          have HQ := Lib.hid (insT_no (l := t.data.toList) (m := u.data.toList) (i := k) (by rw [HL.out]; exact hlt) (by rw [inLet, Bool.or_eq_false_iff, beq_eq_false_iff_ne, beq_eq_false_iff_ne]; exact ⟨hst, he⟩))
          clear hst hb1 hb2 he
          go_wp2_with fail
          go_quiet (fail)
          go_wp2_with fail
          go_ret
          exact ⟨retb HQ.out.symm, HB.out.trans ⟨rfl, rfl, rfl, Nat.le_refl _, fun _ _ => rfl⟩⟩
    · have hlt' : ¬ (k : Int) < (t.size : Int) := by omega
      have HQ := Lib.hid (insT_yes (l := t.data.toList) (m := u.data.toList) fun i hi => HA.out i (by rw [HL.out] at hi; omega))
      go_wp2_with fail
      go_ret
      exact ⟨retb HQ.out.symm, HB.out⟩

/-- What IsInside gives. -/
def iiV (t u : ByteArray) : Bool := termB t.data.toList t.size && (termB u.data.toList t.size && insT t.data.toList u.data.toList)
set_option maxHeartbeats 2000000 in
theorem isInsideI_ok (t u : ByteArray) (w : World) (ht : t.size ≤ 1048576) (hu : u.size ≤ 1048576) :
    Calls Tryd.prog 65 #[.string t, .string u] w fun e w' => e = .returned (.bool (iiV t u)) ∧ Below w.heap.size w w' := by
  have HT := Lib.hid (fun W => tvI_ok t t.size W (by unfold maxLen; omega))
  have HU := Lib.hid (fun W => tvI_ok u t.size W (by unfold maxLen; omega))
  have HI := Lib.hid (fun W => inside_ok t u W)
  have HV : Hid (iiV t u = (termB t.data.toList t.size && (termB u.data.toList t.size && insT t.data.toList u.data.toList))) := rfl
  cases h1 : termB t.data.toList t.size with
  | false =>
    rw [h1] at HT HV
    clear h1
    go_enter Tryd.func65, Tryd.ntmps65
    go_wp2_with fail
    refine (HT.out _).mono ?_
    rintro e w1 ⟨rfl, rfl⟩
    go_wp2_with fail
    go_ret
    exact ⟨retb HV.out.symm, Below.refl _ _⟩
  | true =>
    rw [h1] at HT HV
    cases h2 : termB u.data.toList t.size with
    | false =>
      rw [h2] at HU HV
      clear h1 h2
      go_enter Tryd.func65, Tryd.ntmps65
      go_wp2_with fail
      refine (HT.out _).mono ?_
      rintro e w1 ⟨rfl, rfl⟩
      go_wp2_with fail
      refine (HU.out _).mono ?_
      rintro e w1 ⟨rfl, rfl⟩
      go_wp2_with fail
      go_ret
      exact ⟨retb HV.out.symm, Below.refl _ _⟩
    | true =>
      rw [h2] at HU HV
      have hz : (u.size : Int) = t.size ∧ (t.size : Int) ≤ 5 := by
        rw [termB, Bool.and_eq_true, Bool.and_eq_true, decide_eq_true_iff, decide_eq_true_iff] at h2
        exact ⟨h2.1.2, h2.1.1.2⟩
      have HI2 := Lib.hid (fun W => HI.out W (by omega) (by omega))
      clear h1 h2 hz HI
      go_enter Tryd.func65, Tryd.ntmps65
      go_wp2_with fail
      refine (HT.out _).mono ?_
      rintro e w1 ⟨rfl, rfl⟩
      go_wp2_with fail
      refine (HU.out _).mono ?_
      rintro e w1 ⟨rfl, rfl⟩
      go_wp2_with fail
      refine (HI2.out _).mono ?_
      rintro e w1 ⟨rfl, b1⟩
      go_wp2_with fail
      go_ret
      exact ⟨retb HV.out.symm, b1⟩

end Go.Proofs.YtjkgcgbialiipaaDoor
/- Walks: the least term around one state; traps. -/
namespace Go.Proofs.YtjkgcgbialiipaaDoor
open Go.RowKit

theorem byZ_dig (s n : Nat) : byZ (digS (bitL s n)) = (bitL s n).map (48 + ·) := by
  apply List.ext_getElem
  · simp [byZ, digS, strOfNums]
  · intro i h1 h2
    have hb := bN_lt s i
    simp [byZ, digS, strOfNums, bitL]
    omega
theorem dig_gI {s n i : Nat} (h : i < n) : gI ((bitL s n).map (48 + ·)) i = 48 + ((bN s i : Nat) : Int) := by
  simp [gI, bitL, List.getD, h]
theorem dig_end (s n : Nat) : strOfNums ((bitL s n).map (48 + ·)) = digS (bitL s n) := rfl

set_option maxRecDepth 100000 in
set_option maxHeartbeats 4000000 in
theorem hull_ok (la : Option Addr) (lc s n : Nat) (w : World) (hr : RowI w la 1 lc [(s : Int)]) (hs : s < 32) (hn : n ≤ 5) :
    Calls Tryd.prog 133 #[.slice la 1 lc, .int .i64 n] w fun e w' => e = .returned (.string (digS (bitL s n))) ∧ Below w.heap.size w w' := by
  obtain ⟨lb, lo, rfl, hlb⟩ := hr.2.some (by omega)
  have HC := Lib.hid (fun W (hW : Below w.heap.size w W) => show W.cell? ⟨lb, lo, none⟩ = some (.int .i64 (s : Int)) by
    have := (hr.below hW (Nat.le_refl _)).2.cell lb lo rfl 0 (by omega)
    rw [Nat.add_zero] at this; exact this)
  have hc0 := HC.out w (Below.refl _ _)
  clear hr
  go_enter Tryd.func133, Tryd.ntmps133
  go_wp2_with fail
  refine (fmtI_ok s n hs hn _).mono ?_
  rintro e w1 ⟨rfl, b1⟩
  have HZ := Lib.hid (byZ_dig s n)
  have HE := Lib.hid (dig_end s n)
  have HG := Lib.hid (fun i (h : i < n) => dig_gI (s := s) h)
  have hts : (digS (bitL s n)).size = n := by rw [digS_size, bitL_len]
  have HZl : Hid (((bitL s n).map (48 + ·)).length = n) := by unfold Hid; rw [List.length_map, bitL_len]
  have HTb0 : Hid (digS (bitL s n) = digS (bitL s n)) := rfl
  generalize hTb : digS (bitL s n) = tb at HZ HE hts ⊢
  have HTb := Lib.hid hTb
  clear hTb HTb0
  generalize ((bitL s n).map (48 + ·)) = Z at HZ HE HG HZl
  have hcv := run_bytes_of_string (P := Tryd.prog) w1 9 22 5 tb Tryd.underlying9 Tryd.underlying22 Tryd.underlying5
  have hcap := grownCap_ge w1 tb.size 0 5
  generalize grownCap w1 tb.size 0 5 = cap at hcv hcap
  have b2 : Below w.heap.size w (w1.drew.alloc (.cells (bytesRow tb cap) 5 ((bytesRow tb cap).size, (bytesRow tb cap).size + 1))) :=
    (show Below w.heap.size w w1.drew from ⟨b1.os, b1.tape, b1.output, b1.size, b1.block⟩).alloc b1.size _
  have Y1 := ByAt.conv w1.drew tb cap 5 hcap
  have hgw : w.heap.size ≤ w1.heap.size := b1.size
  rw [HZ.out] at Y1
  have HY1 := Lib.hid Y1
  have B2 := Lib.hid b2
  clear b1 b2 Y1 HZ hc0
  generalize hw1 : w1.drew.alloc (.cells (bytesRow tb cap) 5 ((bytesRow tb cap).size, (bytesRow tb cap).size + 1)) = w2 at hcv HY1 B2
  have hg2 : w1.drew.heap.size = w1.heap.size := rfl
  rw [hg2] at HY1
  generalize w1.heap.size = g at HY1 hgw hcv
  clear hg2 hw1
  go_wp2_with fail
  go_loopw [17] (fun i wr => ∃ k : Nat, k ≤ 1 ∧ i = .int .i64 k ∧ ByAt wr g Z ∧ Below w.heap.size w wr) (fun i _ => 1 - (intOf i).toNat)
  case atStart => exact ⟨0, Nat.zero_le _, rfl, HY1.out, B2.out⟩
  case round =>
    obtain ⟨k, hk, rfl, hY, hb⟩ := hrel
    have HY := Lib.hid hY
    have HB := Lib.hid hb
    clear hY hb
    by_cases hk1 : k = 0
    · subst hk1
      have hc1 := HC.out _ HB.out
      go_wp2_with fail
      go_loopw [23] (fun j wi => ∃ i : Nat, i ≤ n ∧ j = .int .i64 i ∧ ByAt wi g Z ∧ Below w.heap.size w wi) (fun j _ => n - (intOf j).toNat)
      case atStart => exact ⟨0, Nat.zero_le _, rfl, HY.out, HB.out⟩
      case round =>
        obtain ⟨i, hi, rfl, hY2, hb2⟩ := hrel
        have HY2 := Lib.hid hY2
        have HB2 := Lib.hid hb2
        by_cases hin : i < n
        · have hiw : (i : Int) < (tb.size : Int) := by omega
          have hcl := hY2.cell i (by rw [HZl.out]; exact hin)
          rw [HG.out i hin] at hcl
          have ev : bits .and .i64 ((s : Int) / 2 ^ i) 1 = ((bN s i : Nat) : Int) := bit_int (s : Int) i (by omega) (by omega)
          have hbl := bN_lt s i
          have hi0 : (0 : Int) ≤ (i : Int) := by omega
          have hx1 : ((48 + ((bN s i : Nat) : Int)) != 42) = true := by rw [bne_iff_ne]; omega
          have hx2 : IntKind.u8.wrap (48 + ((bN s i : Nat) : Int) - 48) = ((bN s i : Nat) : Int) := by rw [IntKind.wrap_u8]; omega
          have hx3 : IntKind.i64.wrap ((bN s i : Nat) : Int) = ((bN s i : Nat) : Int) := wraps_i64 _ (by omega) (by omega)
          generalize ((bN s i : Nat) : Int) = b at hcl ev hx1 hx2 hx3
          generalize 48 + b = y at hcl hx1 hx2
          clear hY2 hb2 hbl
          go_wp2_with fail
          go_quiet (fail)
          go_wp2_with fail
          go_roundw
          case rel => exact ⟨i + 1, by omega, by go_num, ⟨HY2.out.cell, HY2.out.free, HY2.out.lt⟩, HB2.out.trans ⟨rfl, rfl, rfl, Nat.le_refl _, fun _ _ => rfl⟩⟩
          case measure => simp [intOf] <;> omega
        · have hiw : ¬ (i : Int) < (tb.size : Int) := by omega
          go_wp2_with fail
          go_roundw
          case rel => exact ⟨1, by omega, by go_num, HY2.out, HB2.out⟩
          case measure => simp [intOf] <;> omega
    · obtain rfl : k = 1 := by omega
      have hcv2 := run_convert_bytes_arg wr 22 5 Tryd.underlying22 Tryd.underlying5 g 0 n cap Z (by rw [HZl.out]) (fun i hi => by rw [Nat.zero_add]; exact HY.out.cell i (by rw [HZl.out]; omega)) 9 Tryd.underlying9
      rw [HE.out] at hcv2
      go_wp2_with fail
      go_ret
      exact ⟨rett HTb.out.symm, HB.out⟩

set_option maxRecDepth 100000 in
set_option maxHeartbeats 4000000 in
theorem hullOfI_ok (la : Option Addr) (lc s n : Nat) (w : World) (hr : RowI w la 1 lc [(s : Int)]) (h1 : 1 ≤ n) (hn : n ≤ 5) (hs : s < 2 ^ n) :
    Calls Tryd.prog 64 #[.slice la 1 lc, .int .i64 n] w fun e w' => e = .returned (.tuple #[.string (digS (bitL s n)), .bool true]) ∧ Below w.heap.size w w' := by
  have hp : (2 ^ n : Nat) ≤ 32 := Nat.pow_le_pow_right (n := 2) (by decide) hn
  obtain ⟨lb, lo, rfl, hlb⟩ := hr.2.some (by omega)
  have HH := Lib.hid (fun W (hW : Below w.heap.size w W) => hull_ok (some ⟨lb, lo, none⟩) lc s n W (hr.below hW (Nat.le_refl _)) (by omega) hn)
  have HC := Lib.hid (fun W (hW : Below w.heap.size w W) => show W.cell? ⟨lb, lo, none⟩ = some (.int .i64 (s : Int)) by
    have := (hr.below hW (Nat.le_refl _)).2.cell lb lo rfl 0 (by omega)
    rw [Nat.add_zero] at this; exact this)
  have hpw := wrap_pow_nat n (by omega)
  generalize (2 ^ n : Nat) = N at hpw hp hs
  have hn1 : ¬ (n : Int) < 1 := by omega
  have hn5 : ¬ (5 : Int) < (n : Int) := by omega
  have hs0 : ¬ (s : Int) < 0 := by omega
  have hsN : ¬ (N : Int) ≤ (s : Int) := by omega
  have hnz : (0 : Int) ≤ (n : Int) := by omega
  clear hr
  go_enter Tryd.func64, Tryd.ntmps64
  go_wp2_with fail
  go_loopw [21] (fun i wr => ∃ k : Nat, k ≤ 1 ∧ i = .int .i64 k ∧ Below w.heap.size w wr) (fun i _ => 1 - (intOf i).toNat)
  case atStart => exact ⟨0, Nat.zero_le _, rfl, Below.refl _ _⟩
  case round =>
    obtain ⟨k, hk, rfl, hb⟩ := hrel
    have HB := Lib.hid hb
    clear hb
    by_cases hk1 : k = 0
    · subst hk1
      have hc1 := HC.out _ HB.out
      go_wp2_with fail
      go_roundw
      case rel => exact ⟨1, by omega, by go_num, HB.out⟩
      case measure => simp [intOf] <;> omega
    · obtain rfl : k = 1 := by omega
      go_wp2_with fail
      refine (HH.out _ HB.out).mono ?_
      rintro e w3 ⟨rfl, b3⟩
      go_wp2_with fail
      go_ret2
      exact ⟨rfl, HB.out.trans (b3.mono HB.out.size)⟩

/-- Whether no step of all switches leaves a term. -/
def trB (ps : List ByteArray) (l : List UInt8) : Bool := (stL l (2 ^ ps.length)).all fun s => hasT l (allTo ps s.toNat ps.length)
theorem stL_at {l : List UInt8} {k i : Nat} (h : i < (stL l k).length) : ∃ s : Nat, gI (stL l k) i = s ∧ s < k ∧ hasT l s = true := by
  have := List.mem_of_getElem? (gI_lt h)
  simp only [stL, List.mem_map, List.mem_filter, List.mem_range] at this
  obtain ⟨s, ⟨h1, h2⟩, h3⟩ := this
  exact ⟨s, h3.symm, h1, h2⟩

set_option maxRecDepth 100000 in
set_option maxHeartbeats 4000000 in
theorem trap_ok (ao : Option Addr) (c : Nat) (ps : List ByteArray) (t : ByteArray) (w : World) (h : RowN w ao ps.length c ps.length (bitsN ps ps.length)) (hn : netB ps = true) (h5 : ps.length ≤ 5) (ht : t.data.toList.all isT = true) (hz : t.size = ps.length)
    (hT : ∀ s, s < 2 ^ ps.length → hasT t.data.toList s = true → hasT t.data.toList (allTo ps s ps.length) = true) :
    Calls Tryd.prog 144 #[.slice ao ps.length c, .string t] w fun e w' => e = .returned (.bool true) ∧ Below w.heap.size w w' := by
  have hp := pow_32 h5
  have HS := Lib.hid (statesOf_ok t w ht (by omega))
  have HSt := Lib.hid (fun s W (hW : Below w.heap.size w W) (hs : s < 2 ^ ps.length) => step_ok ao c ps s W (h.below hW (Nat.le_refl _)) hn h5 hs)
  have HHs := Lib.hid (fun s W (hs : s < 32) => hasI_ok t s W ht (by omega) hs)
  have HL := Lib.hid (fun s (hs : s < 2 ^ ps.length) => allTo_lt hn h5 s)
  have HT := Lib.hid hT
  rw [hz] at HS
  clear h hT
  go_enter Tryd.func144, Tryd.ntmps144
  go_wp2_with fail
  refine HS.out.mono ?_
  rintro e w1 ⟨a, l, rfl, o1, b1⟩
  have B1 := Lib.hid b1
  have Z1 := Lib.hid o1.rowI
  have HG := Lib.hid (fun i (h : i < l) => stL_at (l := t.data.toList) (k := 2 ^ ps.length) (i := i) (by rw [o1.1]; exact h))
  have hl32 : l ≤ 32 := by rw [← o1.1]; exact Nat.le_trans (stL_len _ _) hp
  clear b1 o1
  go_wp2_with fail
  go_loopw [10] (fun i wr => ∃ k : Nat, k ≤ l ∧ i = .int .i64 k ∧ Below w1.heap.size w1 wr) (fun i _ => l - (intOf i).toNat)
  case atStart => exact ⟨0, Nat.zero_le _, rfl, Below.refl _ _⟩
  case round =>
    obtain ⟨k, hk, rfl, hb⟩ := hrel
    have HB := Lib.hid hb
    clear hb
    by_cases hkl : k < l
    · have hkw : (k : Int) < (l : Int) := by omega
      have hrow := Z1.out.below HB.out (Nat.le_refl _)
      obtain ⟨lb, lo, rfl, hlb⟩ := hrow.2.some (by omega)
      have hcl := hrow.2.cell lb lo rfl k hkl
      obtain ⟨s, hs1, hs2, hs3⟩ := HG.out k hkl
      rw [hs1] at hcl
      have HStep := Lib.hid (fun W hW => HSt.out s W hW hs2)
      have hlt := HL.out s hs2
      have HHas := Lib.hid (fun W => HHs.out (allTo ps s ps.length) W (by omega))
      rw [HT.out s hs2 hs3] at HHas
      generalize allTo ps s ps.length = y at HStep HHas
      clear hrow hs1 hlt hs2
      go_wp2_with fail
      refine (HStep.out _ (B1.out.trans (HB.out.mono B1.out.size))).mono ?_
      rintro e w2 ⟨rfl, b2⟩
      have HB2 := Lib.hid (HB.out.trans (b2.mono HB.out.size))
      clear b2
      go_wp2_with fail
      refine (HHas.out _).mono ?_
      rintro e w3 ⟨rfl, b3⟩
      have HB3 := Lib.hid (HB2.out.trans (b3.mono HB2.out.size))
      clear b3
      go_wp2_with fail
      go_roundw
      case rel => exact ⟨k + 1, by omega, by go_num, HB3.out⟩
      case measure => simp [intOf] <;> omega
    · have hkw : ¬ (k : Int) < (l : Int) := by omega
      go_wp2_with fail
      go_ret
      exact ⟨rfl, B1.out.trans (HB.out.mono B1.out.size)⟩

set_option maxHeartbeats 2000000 in
theorem isTrapI_ok (s t : ByteArray) (w : World) (hs : s.size ≤ 1048576) (ht : t.size ≤ 1048576) (hm : MaxLenIs w) (hb : htB (cutsP 44 s) t.data.toList = true)
    (hT : ∀ x, x < 2 ^ (cutsP 44 s).length → hasT t.data.toList x = true → hasT t.data.toList (allTo (cutsP 44 s) x (cutsP 44 s).length) = true) :
    Calls Tryd.prog 71 #[.string s, .string t] w fun e w' => e = .returned (.bool true) ∧ Below w.heap.size w w' := by
  have HO := Lib.hid (termOf_ok s t w hs ht hm)
  have hp0 := cutsP_pos 44 s
  generalize cutsP 44 s = ps at HO hb hT hp0
  obtain ⟨hn, hz, hall⟩ := ht_get hb
  have h5 := net_le hn hp0
  have HN := Lib.hid (netN_yes hn)
  have hlen := bitsN_len ps ps.length
  have HTr := Lib.hid (fun (ao : Option Addr) (c : Nat) W h => trap_ok ao c ps t W h hn h5 hall hz hT)
  rw [hb] at HO
  clear hb hT hn hz hall
  go_enter Tryd.func71, Tryd.ntmps71
  go_wp2_with fail
  refine HO.out.mono ?_
  rintro e w1 ⟨v, rfl, o1, b1⟩
  rw [HN.out] at o1
  obtain ⟨a, c, rfl, r1⟩ := o1.row (bitsN_wide ps ps.length)
  rw [hlen] at r1 ⊢
  have HT1 := Lib.hid (HTr.out _ _ _ r1)
  clear o1 r1
  go_wp2_with fail
  refine HT1.out.mono ?_
  rintro e w2 ⟨rfl, b2⟩
  go_wp2_with fail
  go_ret
  exact ⟨rfl, b1.trans (b2.mono b1.size)⟩

end Go.Proofs.YtjkgcgbialiipaaDoor
/- Plain: the network in which switches are held; what is forced. -/
namespace Go.Proofs.YtjkgcgbialiipaaDoor
open Go.RowKit

theorem ht_len {ps : List ByteArray} {l : List UInt8} (h : htB ps l = true) : netB ps = true ∧ l.length = ps.length ∧ l.all isT = true := by
  rw [htB, Bool.and_eq_true, termB, Bool.and_eq_true, Bool.and_eq_true, decide_eq_true_iff, decide_eq_true_iff] at h
  exact ⟨h.1, by omega, h.2.2⟩
theorem hsF_lt {ps : List ByteArray} {l : List UInt8} (hn : netB ps = true) (hl : l.all isT = true) {k s : Nat} (hk : k < ps.length) : hsF ps l k s < 2 := by
  unfold hsF
  split
  · exact bitN_lt (netB_get hn k hk).1 s
  · have := ltr_lt hl k; omega
/-- The parts of the held network's text. -/
def hsP (ps : List ByteArray) (l : List UInt8) : List ByteArray := listF (digF (hsF ps l) ps.length) ps.length
theorem hsP_len (ps : List ByteArray) (l : List UInt8) : (hsP ps l).length = ps.length := listF_len _ _
theorem hs_cuts {ps : List ByteArray} {l : List UInt8} (h0 : 0 < ps.length) (h : htB ps l = true) : cutsP 44 (hsT ps l) = hsP ps l := by
  obtain ⟨hn, _, hl⟩ := ht_len h
  rw [hsT_yes h]
  exact cuts_net h0 fun k s hk _ => hsF_lt hn hl hk
theorem hsP_bit {ps : List ByteArray} {l : List UInt8} (hn : netB ps = true) (hl : l.all isT = true) {k s : Nat} (hk : k < ps.length) (hs : s < 2 ^ ps.length) : bitN (hsP ps l) k s = hsF ps l k s := bitN_net hk hs (hsF_lt hn hl hk)
theorem hsP_net {ps : List ByteArray} {l : List UInt8} (hn : netB ps = true) (hl : l.all isT = true) (h0 : 0 < ps.length) (h5 : ps.length ≤ 5) : netB (hsP ps l) = true := netB_net ⟨h0, h5⟩ fun _ _ hk _ => hsF_lt hn hl hk
/-- A step of the held network. -/
def hsS (ps : List ByteArray) (l : List UInt8) (s : Nat) : Nat := allTo (hsP ps l) s ps.length
theorem hsS_lt {ps : List ByteArray} {l : List UInt8} (hn : netB ps = true) (hl : l.all isT = true) (h0 : 0 < ps.length) (h5 : ps.length ≤ 5) (s : Nat) : hsS ps l s < 2 ^ ps.length := by
  have := allTo_lt (hsP_net hn hl h0 h5) (by rw [hsP_len]; exact h5) s
  rw [hsP_len] at this
  exact this
theorem hsS_bit {ps : List ByteArray} {l : List UInt8} (hn : netB ps = true) (hl : l.all isT = true) (h0 : 0 < ps.length) (h5 : ps.length ≤ 5) {s j : Nat} (hj : j < ps.length) (hs : s < 2 ^ ps.length) : (hsS ps l s).testBit j = decide (hsF ps l j s = 1) := by
  have := allTo_bit (hsP_net hn hl h0 h5) (by rw [hsP_len]; exact h5) (s := s) (j := j) (by rw [hsP_len]; exact hj)
  rw [hsP_len, hsP_bit hn hl hj hs] at this
  exact this
/-- The held network of a term without a held switch is the network. -/
theorem hs_self {t : ByteArray} {ps : List ByteArray} {l : List UInt8} (ht : cutsP 44 t = ps) (_ : 0 < ps.length) (h : htB ps l = true) (hst : ∀ i, i < ps.length → ltr l i = 2) : hsT ps l = t := by
  obtain ⟨hn, _, hl⟩ := ht_len h
  have e := text_cuts t
  rw [ht] at e
  rw [hsT_yes h]
  conv => rhs; rw [← e]
  rw [netT]
  have key : ∀ n, n ≤ ps.length → joinF (digF (hsF ps l) ps.length) ⟨#[44]⟩ n = joinF (gT ps) ⟨#[44]⟩ n := by
    intro n
    induction n with
    | zero => intro _; rfl
    | succ n ih =>
      intro hn'
      rw [joinF, joinF, ih (by omega), hs_star (hst n (by omega)), gT_dig hn (by omega)]
  exact key _ (Nat.le_refl _)

/-! The set of held switches. -/
theorem heldTo_bit (l : List UInt8) (i : Nat) : ∀ k, (heldTo l k).testBit i = (decide (i < k) && !decide (l.getD i 42 = 42))
  | 0 => by simp [heldTo]
  | k + 1 => by
    have ih := heldTo_bit l i k
    rw [heldTo_succ]
    split
    · rename_i h
      rw [ih]
      by_cases e : i = k
      · subst e; rw [h]; simp
      · have : decide (i < k + 1) = decide (i < k) := by rw [decide_eq_decide]; omega
        rw [this]
    · rename_i h
      rw [Nat.testBit_or, ih, Nat.testBit_two_pow]
      by_cases e : i = k
      · subst e
        rw [show decide (l.getD i 42 = 42) = false from decide_eq_false h]; simp
      · have h1 : decide (i < k + 1) = decide (i < k) := by rw [decide_eq_decide]; omega
        have h2 : decide (k = i) = false := by simp; omega
        rw [h1, h2, Bool.or_false]
theorem ltr_two {l : List UInt8} (hl : l.all isT = true) {i : Nat} : ltr l i = 2 ↔ l.getD i 42 = 42 := by
  constructor
  · intro h
    by_cases hi : i < l.length
    · refine Classical.byContradiction fun hne => ?_
      have := (ltr_dig hl hi hne).2
      omega
    · rw [List.getD_eq_getElem?_getD, List.getElem?_eq_none (by omega)]; rfl
  · exact ltr_star
theorem held_no {l : List UInt8} (hl : l.all isT = true) {i : Nat} (h : (heldTo l l.length).testBit i = false) (hi : i < l.length) : ltr l i = 2 := by
  rw [heldTo_bit] at h
  rw [ltr_two hl]
  simpa [hi] using h
theorem held_zero {l : List UInt8} (hl : l.all isT = true) (h : heldTo l l.length = 0) {i : Nat} (hi : i < l.length) : ltr l i = 2 := held_no hl (by rw [h]; simp) hi
/-- Whether a state's switches have the values of a term. -/
theorem hasT_iff {l : List UInt8} {s : Nat} : hasT l s = true ↔ ∀ i, i < l.length → ltr l i = 2 ∨ ltr l i = bN s i := by
  rw [hasT, List.all_eq_true]
  constructor
  · intro h i hi
    have := h i (List.mem_range.2 hi)
    simpa [letB] using this
  · intro h i hi
    have := h i (List.mem_range.1 hi)
    simpa [letB] using this
/-- A step of the held network lies in the term. -/
theorem hsS_has {ps : List ByteArray} {l : List UInt8} (h0 : 0 < ps.length) (h5 : ps.length ≤ 5) (h : htB ps l = true) {s : Nat} (hs : s < 2 ^ ps.length) : hasT l (hsS ps l s) = true := by
  obtain ⟨hn, hz, hl⟩ := ht_len h
  rw [hasT_iff]
  intro i hi
  by_cases e : ltr l i = 2
  · exact .inl e
  · refine .inr ?_
    have hb := hsS_bit hn hl h0 h5 (s := s) (j := i) (by omega) hs
    have hlt := ltr_lt hl i
    have h1 : hsF ps l i s = ltr l i := by rw [hsF, if_neg e]
    have h2 := bit_test (hsS ps l s) i
    rw [show hsS ps l s / 2 ^ i % 2 = bN (hsS ps l s) i from rfl, hb, h1] at h2
    rw [h2]
    rcases (show ltr l i = 0 ∨ ltr l i = 1 by omega) with e1 | e1 <;> rw [e1] <;> rfl
/-- Free switches take the values of their rules. -/
theorem hsS_free {ps : List ByteArray} {l : List UInt8} (h0 : 0 < ps.length) (h5 : ps.length ≤ 5) (h : htB ps l = true) {s i : Nat} (hs : s < 2 ^ ps.length) (hi : i < ps.length) (hf : ltr l i = 2) : (hsS ps l s).testBit i = (allTo ps s ps.length).testBit i := by
  obtain ⟨hn, hz, hl⟩ := ht_len h
  rw [hsS_bit hn hl h0 h5 hi hs, allTo_bit hn h5 hi, hsF, if_pos hf]
theorem hsS_held {ps : List ByteArray} {l : List UInt8} (h0 : 0 < ps.length) (h5 : ps.length ≤ 5) (h : htB ps l = true) {s : Nat} (hs : s < 2 ^ ps.length) : (hsS ps l s ^^^ allTo ps s ps.length) &&& (31 - heldTo l l.length) = 0 := by
  obtain ⟨hn, hz, hl⟩ := ht_len h
  have hp := pow_32 h5
  have hh := heldTo_lt l l.length
  rw [hz] at hh
  apply Nat.eq_of_testBit_eq
  intro i
  rw [Nat.testBit_and, Nat.testBit_xor, Nat.zero_testBit]
  by_cases hi : i < ps.length
  · by_cases e : ltr l i = 2
    · rw [hsS_free h0 h5 h hs hi e]; simp
    · have : (heldTo l l.length).testBit i = true := by
        cases hb : (heldTo l l.length).testBit i with
        | true => rfl
        | false => exact absurd (held_no hl hb (by omega)) e
      have h2 := andNot_bit 31 (heldTo l l.length) i (by rw [hz]; omega) (by omega)
      have h3 : (31 &&& (31 - heldTo l l.length)) = 31 - heldTo l l.length := by
        rw [Nat.and_comm, show (31 : Nat) = 2 ^ 5 - 1 from rfl, Nat.and_two_pow_sub_one_eq_mod, Nat.mod_eq_of_lt (by omega)]
      rw [h3, this] at h2
      rw [h2]; simp
  · have h4 : (2 : Nat) ^ ps.length ≤ 2 ^ i := Nat.pow_le_pow_right (by decide) (by omega)
    rw [Nat.testBit_lt_two_pow (Nat.lt_of_lt_of_le (hsS_lt hn hl h0 h5 s) h4), Nat.testBit_lt_two_pow (Nat.lt_of_lt_of_le (allTo_lt hn h5 s) h4)]
    rfl
/-- The fixed points of the held network are those that have the held values and in which no free switch is restless. -/
theorem hs_fixed {ps : List ByteArray} {l : List UInt8} (h0 : 0 < ps.length) (h5 : ps.length ≤ 5) (h : htB ps l = true) {s : Nat} (hs : s < 2 ^ ps.length) : hsS ps l s = s ↔ (hasT l s = true ∧ ∀ i, i < ps.length → ltr l i = 2 → s.testBit i = (allTo ps s ps.length).testBit i) := by
  obtain ⟨hn, hz, hl⟩ := ht_len h
  constructor
  · intro e
    refine ⟨by have := hsS_has h0 h5 h hs; rwa [e] at this, fun i hi hf => ?_⟩
    have := hsS_free h0 h5 h hs hi hf
    rwa [e] at this
  · rintro ⟨h1, h2⟩
    refine eq_pow (hsS_lt hn hl h0 h5 s) hs fun i hi => ?_
    by_cases e : ltr l i = 2
    · rw [hsS_free h0 h5 h hs hi e, h2 i hi e]
    · have h3 := hasT_iff.1 (hsS_has h0 h5 h hs) i (by omega)
      have h4 := hasT_iff.1 h1 i (by omega)
      have h5' : bN (hsS ps l s) i = bN s i := by
        rcases h3 with h3 | h3
        · exact absurd h3 e
        rcases h4 with h4 | h4
        · exact absurd h4 e
        omega
      have e1 := bit_test (hsS ps l s) i
      have e2 := bit_test s i
      rw [show hsS ps l s / 2 ^ i % 2 = bN (hsS ps l s) i from rfl] at e1
      rw [show s / 2 ^ i % 2 = bN s i from rfl] at e2
      rw [e1, e2] at h5'
      cases h6 : (hsS ps l s).testBit i <;> cases h7 : s.testBit i <;> simp_all

end Go.Proofs.YtjkgcgbialiipaaDoor
/- HeldPoints on both sides, and the law FnExactHeldPoints. -/
namespace Go.Proofs.YtjkgcgbialiipaaDoor
open Go.RowKit

theorem hsT_size (ps : List ByteArray) (l : List UInt8) (hp : 0 < ps.length) : (hsT ps l).size ≤ 1048576 := by
  cases h : htB ps l with
  | false => rw [hsT_no h]; decide
  | true =>
    rw [hsT_yes h]
    have := netT_size (hsF ps l) ps.length (net_le (by rw [htB, Bool.and_eq_true] at h; exact h.1) hp)
    omega
/-- What HeldPoints gives. -/
def hpV (ps : List ByteArray) (l : List UInt8) : List Int := if htB ps l = true then fpV (cutsP 44 (hsT ps l)) else []
theorem hpV_no {ps : List ByteArray} {l : List UInt8} (h : htB ps l = false) : hpV ps l = [] := by simp [hpV, h]
theorem hpV_yes {ps : List ByteArray} {l : List UInt8} (h : htB ps l = true) : hpV ps l = fpV (cutsP 44 (hsT ps l)) := by simp [hpV, h]
theorem hpV_len (ps : List ByteArray) (l : List UInt8) : (hpV ps l).length ≤ 32 := by
  cases h : htB ps l with
  | false => rw [hpV_no h]; decide
  | true => rw [hpV_yes h]; exact fpV_len _ (cutsP_pos 44 _)

set_option maxHeartbeats 1000000 in
theorem hpS_ok (s t : ByteArray) (w : World) (hs : s.size ≤ 1048576) (ht : t.size ≤ 1048576) :
    Calls Tryd.prog 61 #[.string s, .string t] w fun e w' => ∃ v, e = .returned v ∧ OwnI w' w.heap.size v (hpV (cutsP 44 s) t.data.toList) ∧ Below w.heap.size w w' := by
  have HO := Lib.hid (hsS_ok s t w hs ht)
  have hp0 := cutsP_pos 44 s
  generalize cutsP 44 s = ps at HO hp0 ⊢
  have HF := Lib.hid (fun W => fpS_ok (hsT ps t.data.toList) W (hsT_size ps t.data.toList hp0))
  cases hb : htB ps t.data.toList with
  | false =>
    have HV := Lib.hid (hpV_no hb)
    rw [hb] at HO
    clear hb HF
    generalize hsT ps t.data.toList = u at HO
    have O0 := Lib.hid (fun W => OwnI.lit W w.heap.size [])
    go_enter Tryd.func61, Tryd.ntmps61
    go_wp2_with fail
    refine HO.out.mono ?_
    rintro e w1 ⟨rfl, b1⟩
    go_wp2_with fail
    go_ret
    exact ⟨_, rfl, by rw [HV.out]; exact O0.out w1 b1.size (by decide), b1.alloc b1.size _⟩
  | true =>
    have HV := Lib.hid (hpV_yes hb)
    rw [hb] at HO
    clear hb
    generalize hsT ps t.data.toList = u at HO HF HV
    go_enter Tryd.func61, Tryd.ntmps61
    go_wp2_with fail
    refine HO.out.mono ?_
    rintro e w1 ⟨rfl, b1⟩
    go_wp2_with fail
    refine (HF.out _).mono ?_
    rintro e w2 ⟨v2, rfl, o2, b2⟩
    go_wp2_with fail
    go_ret
    exact ⟨_, rfl, by rw [HV.out]; exact OwnI.base' o2 b1.size, b1.trans (b2.mono b1.size)⟩

set_option maxHeartbeats 1000000 in
theorem hpI_ok (s t : ByteArray) (w : World) (hs : s.size ≤ 1048576) (ht : t.size ≤ 1048576) (hm : MaxLenIs w) :
    Calls Tryd.prog 60 #[.string s, .string t] w fun e w' => ∃ v, e = .returned v ∧ OwnI w' w.heap.size v (hpV (cutsP 44 s) t.data.toList) ∧ Below w.heap.size w w' := by
  have HO := Lib.hid (hsI_ok s t w hs ht hm)
  have hp0 := cutsP_pos 44 s
  generalize cutsP 44 s = ps at HO hp0 ⊢
  have HF := Lib.hid (fun W (hW : MaxLenIs W) => fpI_ok (hsT ps t.data.toList) W (hsT_size ps t.data.toList hp0) hW)
  have HM := Lib.hid (fun W (hW : Below w.heap.size w W) => hm.below hW (Nat.le_refl _))
  cases hb : htB ps t.data.toList with
  | false =>
    have HV := Lib.hid (hpV_no hb)
    rw [hb] at HO
    clear hb HF
    generalize hsT ps t.data.toList = u at HO
    go_enter Tryd.func60, Tryd.ntmps60
    go_wp2_with fail
    refine HO.out.mono ?_
    rintro e w1 ⟨rfl, b1⟩
    go_wp2_with fail
    go_ret
    exact ⟨_, rfl, by rw [HV.out]; exact OwnI.nil _ _, b1⟩
  | true =>
    have HV := Lib.hid (hpV_yes hb)
    rw [hb] at HO
    clear hb
    generalize hsT ps t.data.toList = u at HO HF HV
    go_enter Tryd.func60, Tryd.ntmps60
    go_wp2_with fail
    refine HO.out.mono ?_
    rintro e w1 ⟨rfl, b1⟩
    go_wp2_with fail
    refine (HF.out _ (HM.out _ b1)).mono ?_
    rintro e w2 ⟨v2, rfl, o2, b2⟩
    go_wp2_with fail
    go_ret
    exact ⟨_, rfl, by rw [HV.out]; exact OwnI.base' o2 b1.size, b1.trans (b2.mono b1.size)⟩

end Go.Proofs.YtjkgcgbialiipaaDoor
/- A state told as a term; whether it lies within another one. -/
namespace Go.Proofs.YtjkgcgbialiipaaDoor
open Go.RowKit

theorem dig_list (s n : Nat) : (digS (bitL s n)).data.toList = (List.range n).map fun i => UInt8.ofNat (48 + bN s i) := by
  have e : ∀ i, ((48 : Int) + ((bN s i : Nat) : Int)).toNat = 48 + bN s i := fun i => by omega
  simp [digS, strOfNums, bitL, e]
theorem dig_get {s n i : Nat} (h : i < n) : (digS (bitL s n)).data.toList.getD i 42 = UInt8.ofNat (48 + bN s i) := by
  rw [dig_list]; simp [List.getD, h]
theorem dig_len (s n : Nat) : (digS (bitL s n)).data.toList.length = n := by rw [dig_list]; simp
theorem dig_isT (s i : Nat) : isT (UInt8.ofNat (48 + bN s i)) = true := by
  have := bN_lt s i
  rcases (show bN s i = 0 ∨ bN s i = 1 by omega) with e | e <;> rw [e] <;> rfl
theorem dig_term {s n : Nat} (h1 : 1 ≤ n) (h5 : n ≤ 5) : termB (digS (bitL s n)).data.toList n = true := by
  rw [termB, Bool.and_eq_true, Bool.and_eq_true, decide_eq_true_iff, decide_eq_true_iff, dig_len, dig_list]
  refine ⟨⟨⟨by omega, by omega⟩, rfl⟩, ?_⟩
  rw [List.all_eq_true]
  intro b hb
  obtain ⟨i, _, rfl⟩ := List.mem_map.1 hb
  exact dig_isT s i
theorem ins_has {l : List UInt8} {s n : Nat} (hl : l.all isT = true) (hz : l.length = n) : insT (digS (bitL s n)).data.toList l = hasT l s := by
  have hlet : ∀ i, i < n → inLet (digS (bitL s n)).data.toList l i = letB l s i := by
    intro i hi
    rw [inLet, letB, dig_get hi]
    by_cases h : l.getD i 42 = 42
    · rw [h, ltr_star h]; rfl
    · obtain ⟨h1, h2⟩ := ltr_dig hl (by omega) h
      have hb := bN_lt s i
      have e1 : (l.getD i 42 == 42) = false := by rw [beq_eq_false_iff_ne]; exact h
      have e2 : (ltr l i == 2) = false := by rw [beq_eq_false_iff_ne]; omega
      rw [e1, e2, Bool.false_or, Bool.false_or]
      rw [Bool.eq_iff_iff, beq_iff_eq, beq_iff_eq, ← UInt8.toNat_inj]
      have : (UInt8.ofNat (48 + bN s i)).toNat = 48 + bN s i := by simp; omega
      rw [this]
      omega
  rw [insT, hasT, dig_len, hz]
  rw [Bool.eq_iff_iff, List.all_eq_true, List.all_eq_true]
  constructor
  · intro h i hi; rw [← hlet i (List.mem_range.1 hi)]; exact h i hi
  · intro h i hi; rw [hlet i (List.mem_range.1 hi)]; exact h i hi
theorem ii_has {t : ByteArray} {s n : Nat} (h : termB t.data.toList n = true) : iiV (digS (bitL s n)) t = hasT t.data.toList s := by
  have h' := h
  rw [termB, Bool.and_eq_true, Bool.and_eq_true, decide_eq_true_iff, decide_eq_true_iff] at h'
  have hz : (digS (bitL s n)).size = n := by rw [digS_size, bitL_len]
  rw [iiV, hz, dig_term (by omega) (by omega), h, Bool.true_and, Bool.true_and, ins_has h'.2 (by omega)]
theorem held_eq {ps : List ByteArray} {l : List UInt8} (h : htB ps l = true) : heldV l = (heldTo l l.length : Nat) ∧ heldTo l l.length < 2 ^ ps.length := by
  have h' := h
  rw [htB, Bool.and_eq_true] at h'
  obtain ⟨_, hz, _⟩ := ht_len h
  refine ⟨by rw [heldV, hz, if_pos h'.2], ?_⟩
  have := heldTo_lt l l.length
  rwa [hz] at this ⊢

end Go.Proofs.YtjkgcgbialiipaaDoor
