/- Walk: a text is drawn. -/
import Derived.Test.YtlfadpfodmpneaaDoorNu8
namespace Go.Proofs.YtlfadpfodmpneaaDoor
open Go.RowKit

theorem of_five (x : Nat) (h : x < 5) : (gT [⟨#[]⟩, ⟨#[32]⟩, ⟨#[48]⟩, ⟨#[45]⟩, ⟨#[120]⟩] x).size ≤ 1 := by
  have key : ∀ x : Fin 5, (gT [⟨#[]⟩, ⟨#[32]⟩, ⟨#[48]⟩, ⟨#[45]⟩, ⟨#[120]⟩] x.val).size ≤ 1 := by decide +kernel
  exact key ⟨x, h⟩
/-- A text is drawn. -/
def DrawPN (w : World) (e : Ending) (w' : World) : Prop := ∃ u : ByteArray, e = .returned (.string u) ∧ u.size ≤ 1048576 ∧ Below w.heap.size w w'
set_option maxHeartbeats 4000000 in
theorem drawPN_ok (ao : Option Addr) (l c : Nat) (cs : List Int) (w : World) (h : RowU w ao l c cs) (hl : l ≤ 1048576) :
    Calls Tryd.prog 16 #[.slice ao l c] w (DrawPN w) := by
  have HO := Lib.hid (l14Open_ok ao l c cs w h hl)
  have HD := Lib.hid (fun W (hW : Below w.heap.size w W) => drawFN_ok ao l c cs W (h.below hW (Nat.le_refl _)) hl)
  clear h
  go_enter Tryd.func16, Tryd.ntmps16
  go_wp2_with fail
  refine HO.out.mono ?_
  rintro e w1 ⟨g, rfl, hg, r1, b1⟩
  have hgw := r1.lt
  have B1 := Lib.hid b1
  have R1 := Lib.hid r1
  have HK := Lib.hid (fun Q m W (h : Rd W g Q) (hQ : Q ≤ 1000000) (hm : m ≤ 1048576) => pick_ok g Q m W h hQ hm)
  clear r1 b1
  go_wp2_with fail
  refine (HD.out _ B1.out).mono ?_
  rintro e w2 ⟨v2, zs, rfl, o2, h4, hir, b2⟩
  obtain ⟨va, vc, rfl, q2⟩ := o2.out
  have R2 := Lib.hid (R1.out.below b2 (Nat.le_refl _))
  have B2 := Lib.hid (B1.out.trans (b2.mono B1.out.size))
  have HFm := Lib.hid (nusS_ok va zs.length vc zs w2 q2.rowI hir (by omega))
  have hgw2 : g < w2.heap.size := Nat.lt_of_lt_of_le hgw b2.size
  obtain ⟨hz1, hz0⟩ := nusV_bnd hir h4
  generalize nusV zs = u at HFm hz1 hz0
  clear o2 q2 b2 hir
  go_wp2_with fail
  refine HFm.out.mono ?_
  rintro e w3 ⟨rfl, b3⟩
  have R3 := Lib.hid (R2.out.below b3 (Nat.le_refl _))
  have D3 := Lib.hid (DrB.ofB (g := g) (B2.out.trans (b3.mono B2.out.size)))
  clear b3
  go_wp2_with fail
  refine (HK.out _ 2 _ R3.out (by omega) (by omega)).mono ?_
  rintro e w4 ⟨y, rfl, hy, r4, g4⟩
  have R4 := Lib.hid r4
  have D4 := Lib.hid (D3.out.trans ((DrB.ofG g4).mono D3.out.size))
  clear r4 g4
  by_cases y0 : y = 0
  · have ty : ((y : Int) == 0) = true := by rw [y0]; rfl
    clear y0 hy
    go_wp2_with fail
    go_ret
    exact ⟨u, rfl, by omega, D4.out.below hg⟩
  · have ty : ((y : Int) == 0) = false := by rw [beq_eq_false_iff_ne]; omega
    clear y0 hy
    go_wp2_with fail
    refine (HK.out _ u.size _ R4.out (by omega) (by omega)).mono ?_
    rintro e w5 ⟨k, rfl, hk, r5, g5⟩
    have R5 := Lib.hid r5
    have D5 := Lib.hid (D4.out.trans ((DrB.ofG g5).mono D4.out.size))
    have hgw5 := r5.lt
    have hku : k < u.size := by omega
    have hkw : (k : Int) ≤ (u.size : Int) := by omega
    clear r5 g5 hk
    have hb6 : Blk (w5.drew.alloc (.cells (strs [⟨#[]⟩, ⟨#[32]⟩, ⟨#[48]⟩, ⟨#[45]⟩, ⟨#[120]⟩]).toArray 9)) w5.heap.size 9 (strs [⟨#[]⟩, ⟨#[32]⟩, ⟨#[48]⟩, ⟨#[45]⟩, ⟨#[120]⟩]) := Blk.new w5.drew 9 (strs [⟨#[]⟩, ⟨#[32]⟩, ⟨#[48]⟩, ⟨#[45]⟩, ⟨#[120]⟩])
    have bb6 : Below w5.heap.size w5 (w5.drew.alloc (.cells (strs [⟨#[]⟩, ⟨#[32]⟩, ⟨#[48]⟩, ⟨#[45]⟩, ⟨#[120]⟩]).toArray 9)) := (show Below w5.heap.size w5 w5.drew from ⟨rfl, rfl, rfl, Nat.le_refl _, fun _ _ => rfl⟩).trans ((Below.refl w5.heap.size w5.drew).alloc (Nat.le_refl _) _)
    have HX := Lib.hid (of_ok g 2 5 5 (some ⟨w5.heap.size, 0, none⟩) [⟨#[]⟩, ⟨#[32]⟩, ⟨#[48]⟩, ⟨#[45]⟩, ⟨#[120]⟩] _ (R5.out.below bb6 (Nat.le_refl _)) (RowT.of_blk hb6 (by unfold maxLen; decide)) (by omega) (by omega) (fun a e => by cases e; show w5.heap.size ≠ g; omega) (by omega))
    have D6 := Lib.hid (D5.out.trans (DrB.ofB (g := g) (bb6.mono D5.out.size)))
    have hk0 : (0 : Int) ≤ (k : Int) := by omega
    have HExt := Lib.hid (fun (z : Nat) (hz : z < 2) => show IntKind.i64.wrap ((k : Int) + (z : Int)) = ((k : Int) + (z : Int)) ∧ (0 : Int) ≤ (k : Int) + (z : Int) ∧ ((k : Int) + (z : Int)).toNat = k + z ∧ (k : Int) + (z : Int) ≤ (u.size : Int) from ⟨wraps_i64 _ (by omega) (by omega), by omega, by omega, by omega⟩)
    have HSz2 := Lib.hid (fun (z : Nat) => show (u.extract (k + z) u.size).size ≤ u.size by rw [ByteArray.size_extract]; omega)
    obtain ⟨p1, hp1, hq1⟩ : ∃ p, u.extract 0 k = p ∧ p.size ≤ k := ⟨_, rfl, by simp; omega⟩
    clear hb6 bb6
    go_wp2_with fail
    go_region_with (first
      | (go_at_call 32; refine HX.out.mono ?_; rintro e w6 ⟨x, hx, rfl, r6, g6⟩; have hxs := of_five x hx; generalize gT [⟨#[]⟩, ⟨#[32]⟩, ⟨#[48]⟩, ⟨#[45]⟩, ⟨#[120]⟩] x = q at hxs; clear hx)
      | (go_at_call 30; refine (HK.out _ 2 _ r6 (by omega) (by omega)).mono ?_; rintro e w7 ⟨z, rfl, hz, r7, g7⟩; obtain ⟨e1, e2, e3, e4⟩ := HExt.out z (by omega); have hzs := HSz2.out z))
    all_goals
      have D7 := Lib.hid ((D6.out.trans ((DrB.ofG g6).mono D6.out.size)).trans ((DrB.ofG g7).mono (by have := D6.out.size; have := g6.size; omega)))
      clear r6 g6 r7 g7
      go_wp2_with fail
      go_ret
      exact ⟨_, rfl, by rw [ByteArray.size_append, ByteArray.size_append]; omega, D7.out.below hg⟩

end Go.Proofs.YtlfadpfodmpneaaDoor
