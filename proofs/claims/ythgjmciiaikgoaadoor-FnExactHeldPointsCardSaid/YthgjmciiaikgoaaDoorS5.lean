/- Walks: NetworkOfBlocks, SameSchedule; the laws on them. -/
import Derived.Test.YthgjmciiaikgoaaDoorS4
namespace Go.Proofs.YthgjmciiaikgoaaDoor
open Go.RowKit

theorem ret2s {a b : ByteArray} {c d : Bool} (h : a = b) (h' : c = d) : Ending.returned (.tuple #[.string a, .bool c]) = .returned (.tuple #[.string b, .bool d]) := by rw [h, h']
theorem netT_size (F : Nat → Nat → Nat) (n : Nat) (hn : n ≤ 5) : (netT F n).size ≤ 165 := by
  have hp : (2 ^ n : Nat) ≤ 32 := Nat.pow_le_pow_right (n := 2) (by decide) hn
  have := joinF_size (digF F n) ⟨#[44]⟩ 32 (by decide) (fun i => by rw [digF_size]; exact hp) n
  have h2 : n * (32 + 1) ≤ 5 * (32 + 1) := Nat.mul_le_mul_right _ hn
  unfold netT
  omega

theorem netN_wide (ps : List ByteArray) : W32 (netN ps) := by
  unfold netN
  split
  · exact bitsN_wide ps _
  · intro b hb; cases hb

set_option maxHeartbeats 2000000 in
theorem nobS_ok (t : ByteArray) (bo : Option Addr) (l d : Nat) (zs : List Int) (w : World) (hs : t.size ≤ 1048576) (hz : RowI w bo l d zs) (hl : l ≤ 1048576) :
    Calls Tryd.prog 31 #[.string t, .slice bo l d] w fun e w' => e = .returned (.tuple #[.string (nbT (cutsP 44 t) zs), .bool (nbB (cutsP 44 t) zs)]) ∧ Below w.heap.size w w' := by
  have HO := Lib.hid (l11Blocks_ok t bo l d zs w hs hz)
  have hp0 := cutsP_pos 44 t
  generalize cutsP 44 t = ps at HO hp0 ⊢
  obtain rfl := hz.1
  cases hb : nbB ps zs with
  | false =>
    have HV := Lib.hid (nbT_no hb)
    have HB := Lib.hid hb
    rw [hb] at HO
    clear hb hz
    go_enter Tryd.func31, Tryd.ntmps31
    go_wp2_with fail
    refine HO.out.mono ?_
    rintro e w1 ⟨v, rfl, o1, b1⟩
    clear o1
    go_wp2_with fail
    go_ret2
    exact ⟨ret2s HV.out.symm rfl, b1⟩
  | true =>
    rw [hb] at HO
    have HV := Lib.hid (nbT_yes hb)
    have hn := nb_net hb
    have h5 := net_le hn hp0
    have HN := Lib.hid (netL_yes hn)
    have hbl := nb_blocks hb
    have HNet := Lib.hid (fun ao c W (h : RowT W ao ps.length c ps) (hW : Below w.heap.size w W) => l11Network_ok ao ps.length c ps bo zs.length d zs W h (hz.below hW (Nat.le_refl _)) hn h5 hbl hl)
    have HZ := Lib.hid (fun k => digF_size (schF ps zs) ps.length k)
    have hp : (2 ^ ps.length : Nat) ≤ 32 := Nat.pow_le_pow_right (n := 2) (by decide) h5
    have HE : Hid (netT (schF ps zs) ps.length = joinF (digF (schF ps zs) ps.length) ⟨#[44]⟩ ps.length) := rfl
    have HLen := Lib.hid (listF_len (digF (schF ps zs) ps.length) ps.length)
    have HGT : Hid (∀ i, i < ps.length → gT (listF (digF (schF ps zs) ps.length) ps.length) i = digF (schF ps zs) ps.length i) := fun i hi => by simp [gT, listF, List.getD, hi]
    clear hb hz hn hbl
    go_enter Tryd.func31, Tryd.ntmps31
    go_wp2_with fail
    refine HO.out.mono ?_
    rintro e w1 ⟨v, rfl, o1, b1⟩
    rw [HN.out] at o1
    obtain ⟨a, c, rfl, r1⟩ := o1.row
    have HN1 := Lib.hid (HNet.out _ _ _ r1 b1)
    clear o1 r1
    go_wp2_with fail
    refine HN1.out.mono ?_
    rintro e w2 ⟨v2, rfl, o2, b2⟩
    have C2 := Lib.hid (b1.trans (b2.mono b1.size))
    obtain ⟨a2, cp2, rfl, r2⟩ := o2.row
    rw [HLen.out] at r2 ⊢
    have HT := Lib.hid (l3Text_ok a2 _ cp2 _ (digF (schF ps zs) ps.length) w2 r2 HGT.out (fun i => by rw [HZ.out i]; omega) (by omega))
    rw [← HE.out] at HT
    clear o2 r2 b2
    go_wp2_with fail
    refine HT.out.mono ?_
    rintro e w3 ⟨rfl, rfl⟩
    go_wp2_with fail
    go_ret2
    exact ⟨ret2s HV.out.symm rfl, C2.out⟩

set_option maxHeartbeats 1000000 in
theorem nobClosure_ok (s p6 p3 : Nat) (ao bo : Option Addr) (c l d : Nat) (ps : List ByteArray) (zs : List Int) (w : World)
    (c6 : w.cell? ⟨p6, 0, none⟩ = some (.slice ao ps.length c)) (c3 : w.cell? ⟨p3, 0, none⟩ = some (.slice bo l d))
    (hr : Calls Tryd.prog 52 #[.slice ao ps.length c, .slice bo l d, .int .i64 s] w fun e w' => e = .returned (.int .i64 (runTo ps zs s l : Nat)) ∧ Below w.heap.size w w') :
    Calls Tryd.prog 75 #[.int .i64 s, .pointer (some ⟨p6, 0, none⟩), .pointer (some ⟨p3, 0, none⟩)] w fun e w' => e = .returned (.int .i64 (runTo ps zs s l : Nat)) ∧ Below w.heap.size w w' := by
  have HR := Lib.hid hr
  clear hr
  go_enter Tryd.func75, Tryd.ntmps75
  go_wp2_with fail
  refine HR.out.mono ?_
  rintro e w1 ⟨rfl, b1⟩
  go_wp2_with fail
  go_ret
  exact ⟨rfl, b1⟩

set_option maxHeartbeats 4000000 in
theorem nobI_ok (t : ByteArray) (bo : Option Addr) (l d : Nat) (zs : List Int) (w : World) (hs : t.size ≤ 1048576) (hz : RowI w bo l d zs) (hl : l ≤ 1048576) (hm : MaxLenIs w) :
    Calls Tryd.prog 32 #[.string t, .slice bo l d] w fun e w' => e = .returned (.tuple #[.string (nbT (cutsP 44 t) zs), .bool (nbB (cutsP 44 t) zs)]) ∧ Below w.heap.size w w' := by
  have bb : Below w.heap.size w (w.alloc (.cells #[.slice bo l d] 22)) := (Below.refl _ _).alloc (Nat.le_refl _) _
  have HO := Lib.hid (blocksOf_ok t bo l d zs _ hs (hz.below bb (Nat.le_refl _)) (hm.below bb (Nat.le_refl _)))
  have hc3 := (Blk.new w 22 [.slice bo l d]).cell (i := 0) rfl
  have hp0 := cutsP_pos 44 t
  generalize cutsP 44 t = ps at HO hp0 ⊢
  obtain rfl := hz.1
  have Z0 := Lib.hid (hz.below bb (Nat.le_refl _))
  have B0 := Lib.hid bb
  have C3 := Lib.hid hc3
  clear bb hm hz hc3
  cases hb : nbB ps zs with
  | false =>
    have HV := Lib.hid (nbT_no hb)
    rw [hb] at HO
    clear hb
    go_enter Tryd.func32, Tryd.ntmps32
    go_wp2_with fail
    refine HO.out.mono ?_
    rintro e w1 ⟨v, rfl, o1, b1⟩
    obtain ⟨va, vc, rfl, _⟩ := o1.row (netN_wide ps)
    clear o1
    go_wp2_with fail
    go_ret2
    exact ⟨ret2s HV.out.symm rfl, (B0.out.trans (b1.mono B0.out.size)).alloc (B0.out.trans (b1.mono B0.out.size)).size _⟩
  | true =>
    rw [hb] at HO
    have HV := Lib.hid (nbT_yes hb)
    have hn := nb_net hb
    have h5 := net_le hn hp0
    have HN := Lib.hid (netN_yes hn)
    have hlen := bitsN_len ps ps.length
    have hbl := nb_blocks hb
    have hp : (2 ^ ps.length : Nat) ≤ 32 := Nat.pow_le_pow_right (n := 2) (by decide) h5
    have HRun := Lib.hid (fun ao c s W (h : RowN W ao ps.length c ps.length (bitsN ps ps.length)) (hzW : RowI W bo zs.length d zs) (hs : s < 2 ^ ps.length) => run_ok ao c ps bo zs.length d zs s W h hzW hn h5 hs hbl hl)
    have HLt := Lib.hid (fun s (hs : s < 2 ^ ps.length) => Nat.lt_of_lt_of_le (runTo_lt hn h5 zs hs zs.length) hp)
    clear hb hn hbl
    go_enter Tryd.func32, Tryd.ntmps32
    go_wp2_with fail
    refine HO.out.mono ?_
    rintro e w1 ⟨v, rfl, o1, b1⟩
    rw [HN.out] at o1
    obtain ⟨a, c, rfl, r1⟩ := o1.row (bitsN_wide ps ps.length)
    rw [hlen] at r1 ⊢
    have b2 : Below w1.heap.size w1 (w1.alloc (.cells #[.slice a ps.length c] 55)) := (Below.refl _ _).alloc (Nat.le_refl _) _
    have R2 := Lib.hid (r1.below b2 (Nat.le_refl _))
    have Z2 := Lib.hid ((Z0.out.below b1 (Nat.le_refl _)).below b2 (Nat.le_refl _))
    have d6 := (Blk.new w1 55 [.slice a ps.length c]).cell (i := 0) rfl
    have h0 := World.block_lt_of_cell? _ ⟨w.heap.size, 0, none⟩ C3.out
    have c31 : w1.cell? ⟨w.heap.size, 0, none⟩ = some (.slice bo zs.length d) := (b1.cell (p := ⟨w.heap.size, 0, none⟩) h0).trans C3.out
    have d3 : (w1.alloc (.cells #[.slice a ps.length c] 55)).cell? ⟨w.heap.size, 0, none⟩ = some (.slice bo zs.length d) := (b2.cell (p := ⟨w.heap.size, 0, none⟩) (Nat.lt_of_lt_of_le h0 b1.size)).trans c31
    have B2 := Lib.hid ((B0.out.trans (b1.mono B0.out.size)).trans (b2.mono (B0.out.trans (b1.mono B0.out.size)).size))
    have D3 := Lib.hid d3
    have D6 := Lib.hid d6
    have HFS := Lib.hid (fun (W0 : World) (q : Nat) (R2 : RowN W0 a ps.length c ps.length (bitsN ps ps.length)) (Z2 : RowI W0 bo zs.length d zs) (D6 : W0.cell? ⟨q, 0, none⟩ = some (.slice a ps.length c)) (D3 : W0.cell? ⟨w.heap.size, 0, none⟩ = some (.slice bo zs.length d)) =>
      fromStep_ok ps.length h5 75 #[.pointer (some ⟨q, 0, none⟩), .pointer (some ⟨w.heap.size, 0, none⟩)] (fun s => runTo ps zs s zs.length) W0 (fun _ _ => by kernel_rfl)
        (fun s hs W hW => nobClosure_ok s q w.heap.size a bo c zs.length d ps zs W ((hW.cell (p := ⟨q, 0, none⟩) (World.block_lt_of_cell? W0 ⟨q, 0, none⟩ D6)).trans D6) ((hW.cell (p := ⟨w.heap.size, 0, none⟩) (World.block_lt_of_cell? W0 ⟨w.heap.size, 0, none⟩ D3)).trans D3) (HRun.out a c s W (R2.below hW (Nat.le_refl _)) (Z2.below hW (Nat.le_refl _)) hs)) HLt.out)
    have HF := Lib.hid (HFS.out _ _ R2.out Z2.out D6.out D3.out)
    clear o1 r1 b1 b2 d6 d3 c31 hlen HFS
    go_wp2_with fail
    refine HF.out.mono ?_
    rintro e w3 ⟨v3, rfl, o3, b3⟩
    have C3' := Lib.hid (B2.out.trans (b3.mono B2.out.size))
    obtain ⟨a3, c3, rfl, r3⟩ := o3.row (fromL_wide _ _ _)
    rw [fromL_len] at r3 ⊢
    have HT := Lib.hid (netText_ok a3 ps.length c3 (schF ps zs) w3 r3 ⟨by omega, h5⟩ (fun k s _ _ => bN_lt _ _))
    clear o3 r3 b3
    go_wp2_with fail
    refine HT.out.mono ?_
    rintro e w4 ⟨rfl, b4⟩
    go_wp2_with fail
    go_ret2
    exact ⟨ret2s HV.out.symm rfl, C3'.out.trans (b4.mono C3'.out.size)⟩

end Go.Proofs.YthgjmciiaikgoaaDoor
