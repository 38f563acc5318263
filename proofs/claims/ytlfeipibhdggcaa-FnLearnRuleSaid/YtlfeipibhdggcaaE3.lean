/- Walks: LearnRule of the program; the law on it. -/
import Derived.Test.YtlfeipibhdggcaaBt
import Derived.Test.YtlfeipibhdggcaaE2
namespace Go.Proofs.Ytlfeipibhdggcaa
open Go.RowKit Go.Maps

set_option maxHeartbeats 2000000 in
theorem lrI_ok (ao : Option Addr) (n c : Nat) (zs : List (Int × Int)) (m i : Int) (w : World) (h : RowS w ao n c zs) :
    Calls Try.prog 14 #[.slice ao n c, .int .i64 m, .int .i64 i] w fun e w' => e = .returned (.tuple #[.string (lrT zs m i), .bool (lrB zs m i)]) ∧ Below w.heap.size w w' := by
  have HL := Lib.hid (leI_ok ao n c zs m i w h)
  by_cases hneg : leastI zs m i < 0
  · have HR := Lib.hid (lr_no hneg)
    have HN := Lib.hid hneg
    generalize leastI zs m i = r at hneg HL
    go_enter Try.func14, Try.ntmps14
    go_wp2_with fail
    refine HL.out.mono ?_
    rintro e w1 ⟨rfl, b1⟩
    go_wp2
    go_ret2
    exact ⟨ret2 HR.out.1.symm HR.out.2.symm, b1.alloc b1.size _⟩
  · obtain ⟨r, hr⟩ := Int.eq_ofNat_of_zero_le (show 0 ≤ leastI zs m i by omega)
    obtain ⟨hsw, hrN, hE⟩ := leastI_of hr
    have hsw' := hsw
    simp only [swB, Bool.and_eq_true] at hsw'
    obtain ⟨hm, hl, hz, hlt⟩ := seen_parts hsw'.1
    have hi := inB_iff.1 hsw'.2
    clear hsw' hlt
    obtain ⟨p, rfl⟩ := Int.eq_ofNat_of_zero_le (show 0 ≤ m by omega)
    obtain ⟨j, rfl⟩ := Int.eq_ofNat_of_zero_le hi.1
    rw [Int.toNat_natCast] at hrN hE
    have hp : (2 ^ p : Nat) ≤ 32 := Nat.pow_le_pow_right (n := 2) (by decide) (show p ≤ 5 by omega)
    have hr32 : r < 32 := by omega
    have HX := Lib.hid (fun W hW => values_ok ao n c zs j r (by omega) hr32 hz W hW)
    have HR := Lib.hid (lr_yes hr)
    rw [hr] at HL
    have HLen := Lib.hid h.len
    have HEx : Hid (Agree zs j r zs.length) := hE
    have hpj : ¬ p ≤ j := by omega
    clear hsw hE hz hrN hr hneg
    go_enter Try.func14, Try.ntmps14
    go_wp2_with fail
    refine HL.out.mono ?_
    rintro e w1 ⟨rfl, b1⟩
    have c1 := b1.alloc b1.size (.cells #[.int .i64 r] 3)
    have hcs : (w1.alloc (.cells #[.int .i64 r] 3)).cell? ⟨w1.heap.size, 0, none⟩ = some (.int .i64 r) := (Blk.new w1 3 [.int .i64 r]).cell (i := 0) rfl
    have HCS := Lib.hid hcs
    have hr1 := h.below c1 (Nat.le_refl _)
    go_wp2_with fail
    refine (HX.out _ hr1).mono ?_
    rintro e w2 ⟨⟨ha, rfl, hmap⟩ | ⟨ha, rfl⟩, b2⟩
    rotate_left
    · exact absurd HEx.out (by rw [HLen.out]; exact ha)
    have c2 := c1.trans (b2.mono c1.size)
    have hcs2 := (b2.cell (p := ⟨w1.heap.size, 0, none⟩) (by simp)).trans hcs
    have hsz : (w1.alloc (.cells #[.int .i64 r] 3)).heap.size = w1.heap.size + 1 := by simp
    have hlt2 : w1.heap.size + 2 ≤ w2.heap.size := by have := hmap.lt; omega
    rw [hsz] at hmap
    have hcm : (w2.alloc (.cells #[.map (some (w1.heap.size + 1))] 49)).cell? ⟨w2.heap.size, 0, none⟩ = some (.map (some (w1.heap.size + 1))) := (Blk.new w2 49 [.map (some (w1.heap.size + 1))]).cell (i := 0) rfl
    have c3 := c2.alloc c2.size (.cells #[.map (some (w1.heap.size + 1))] 49)
    have hca : Below w2.heap.size w2 (w2.alloc (.cells #[.map (some (w1.heap.size + 1))] 49)) := (Below.refl _ _).alloc (Nat.le_refl _) _
    have hcs3 := (hca.cell (p := ⟨w1.heap.size, 0, none⟩) (by show w1.heap.size < w2.heap.size; omega)).trans hcs2
    have hmap3 := hmap.alloc (.cells #[.map (some (w1.heap.size + 1))] 49)
    have hszz : (w2.alloc (.cells #[.map (some (w1.heap.size + 1))] 49)).heap.size = w2.heap.size + 1 := by simp
    have HE := Lib.hid (each_ok p (by omega) 35 #[.pointer (some ⟨w2.heap.size, 0, none⟩), .pointer (some ⟨w1.heap.size, 0, none⟩)] (fun s => ruleTo zs j r s zs.length) _ (fun _ _ => by kernel_rfl) (fun s hs W hW => by
      have hb := ruleTo_bit zs j r s zs.length
      obtain ⟨v, hv⟩ := Int.eq_ofNat_of_zero_le (show 0 ≤ ruleTo zs j r s zs.length by omega)
      have := lrClosure_ok s r v n (w1.heap.size + 1) w2.heap.size w1.heap.size (keyF zs j r n) W (by omega) hr32 (hmap3.below hW (by omega)) ((hW.cell (p := ⟨w2.heap.size, 0, none⟩) (by show w2.heap.size < _; omega)).trans hcm) ((hW.cell (p := ⟨w1.heap.size, 0, none⟩) (by show w1.heap.size < _; omega)).trans hcs3) (by rw [← HLen.out]; exact hv) (by omega)
      show Calls _ _ _ _ fun e W' => e = .returned (.int .u8 (ruleTo zs j r s zs.length)) ∧ _
      rw [hv]
      exact this))
    have HTx := Lib.hid (text_ok p (eachL (fun s => ruleTo zs j r s zs.length) (2 ^ p)) (by omega) (eachL_len _ _) (fun q hq => by rw [eachL_get _ _ _ (by omega) hq]; exact ruleTo_bit zs j r q zs.length))
    have HEq := Lib.hid (bitT_each (fun s => ruleTo zs j r s zs.length) (2 ^ p) hp (fun q => by have := ruleTo_bit zs j r q zs.length; omega))
    clear hcs hr1 hmap hcm hca hcs3 hmap3 h b1 b2 c1 c2 HX HL
    go_wp2_with fail
    refine HE.out.mono ?_
    rintro e w4 ⟨rfl, b4⟩
    have c4 := c3.trans (b4.mono c3.size)
    clear b4 c3
    go_wp2_with fail
    refine (HTx.out _).mono ?_
    rintro e w5 ⟨rfl, b5⟩
    go_wp2_with fail
    go_ret2
    exact ⟨ret2 (HEq.out.trans HR.out.1.symm) HR.out.2.symm, c4.trans (b5.mono c4.size)⟩

end Go.Proofs.Ytlfeipibhdggcaa
