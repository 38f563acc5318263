/- Walks: the arguments of the laws on steps that were seen, drawn. -/
import Derived.Test.YtlfeipibhdggcaaR7
namespace Go.Proofs.Ytlfeipibhdggcaa
open Go.RowKit

/-- A number is drawn. -/
def NumAny (g P : Nat) (w : World) (e : Ending) (w' : World) : Prop := ∃ s : Int, e = .returned (.int .i64 s) ∧ Rd w' g P ∧ DrB g w.heap.size w w'

set_option maxHeartbeats 1000000 in
theorem l1Switch_ok (g P : Nat) (w : World) (h : Rd w g P) (hP : P ≤ 900000) :
    Calls Try.prog 23 #[.pointer (some ⟨g, 0, none⟩)] w (NumAny g (P + 1) w) := by
  have b0 : Below w.heap.size w (w.alloc (.cells (ints [0, 1, 2, 0, 1, 3, 0, 1, -1, 9223372036854775807]).toArray 3)) := (Below.refl _ _).alloc (Nat.le_refl _) _
  have HX := Lib.hid (num_lit g P 10 [0, 1, 2, 0, 1, 3, 0, 1, -1, 9223372036854775807] _ _ (h.below b0 (Nat.le_refl _)) (Blk.new w 3 (ints [0, 1, 2, 0, 1, 3, 0, 1, -1, 9223372036854775807])) (by have := h.lt; omega) rfl (by omega) (by omega) (by omega))
  have D0 := Lib.hid (DrB.ofB (g := g) b0)
  clear h b0
  go_enter Try.func23, Try.ntmps23
  go_wp2_with fail
  refine HX.out.mono ?_
  rintro e w1 ⟨x, hx, rfl, r1, g1⟩
  generalize gI [0, 1, 2, 0, 1, 3, 0, 1, -1, 9223372036854775807] x = y
  have R1 := Lib.hid r1
  have D1 := Lib.hid (D0.out.trans ((DrB.ofG g1).mono D0.out.size))
  clear r1 g1 hx
  go_wp2_with fail
  go_ret
  exact ⟨_, rfl, R1.out, D1.out⟩

/-- What the reference draws for Explains. -/
def DrawE (w : World) (e : Ending) (w' : World) : Prop := ∃ v zs, ∃ n i q : Int, e = .returned (.tuple #[v, .int .i64 n, .int .i64 i, .int .i64 q]) ∧ zs.length ≤ 70 ∧ OwnS w' w.heap.size v zs ∧ Below w.heap.size w w'

set_option maxHeartbeats 2000000 in
theorem drawExplains_ok (ao : Option Addr) (l c : Nat) (cs : List Int) (w : World) (h : RowU w ao l c cs) (hl : l ≤ 1048576) :
    Calls Try.prog 6 #[.slice ao l c] w (DrawE w) := by
  have HO := Lib.hid (l14Open_ok ao l c cs w h hl)
  have HK := Lib.hid (fun g Q m W (h : Rd W g Q) (hQ : Q ≤ 1000000) (hm : m ≤ 1048576) => pick_ok g Q m W h hQ hm)
  clear h
  go_enter Try.func6, Try.ntmps6
  go_wp2_with fail
  refine HO.out.mono ?_
  rintro e w1 ⟨g, rfl, hg, r1, b1⟩
  have R1 := Lib.hid r1
  have B1 := Lib.hid b1
  clear r1 b1 HO
  go_wp2_with fail
  refine (l12Draw_ok g 0 _ R1.out (by omega)).mono ?_
  rintro e w2 ⟨v, zs, n, rfl, hz, o2, r2, d2⟩
  have R2 := Lib.hid r2
  have O2 := Lib.hid (o2.base B1.out.size)
  have D2 := Lib.hid ((DrB.ofB (g := g) B1.out).trans (d2.mono B1.out.size))
  have hgo : g < w1.heap.size := R1.out.lt
  have O2b := Lib.hid o2
  clear r2 o2 d2
  go_wp2_with fail
  refine (l1Switch_ok g _ _ R2.out (by omega)).mono ?_
  rintro e w3 ⟨i, rfl, r3, d3⟩
  have R3 := Lib.hid r3
  have O3 := Lib.hid (O2b.out.dr d3 (Nat.le_refl _) hgo)
  have D3 := Lib.hid (D2.out.trans (d3.mono D2.out.size))
  clear r3 d3
  go_wp2_with fail
  refine (HK.out g _ 8 _ R3.out (by omega) (by omega)).mono ?_
  rintro e w4 ⟨x, rfl, hx, r4, g4⟩
  have R4 := Lib.hid r4
  have O4 := Lib.hid (O3.out.dr (DrB.ofG g4) (Nat.le_refl _) hgo)
  have D4 := Lib.hid (D3.out.trans ((DrB.ofG g4).mono D3.out.size))
  clear r4 g4 hx
  go_wp2_with fail
  refine (HK.out g _ 4 _ R4.out (by omega) (by omega)).mono ?_
  rintro e w5 ⟨y, rfl, hy, r5, g5⟩
  have R5 := Lib.hid r5
  have O5 := Lib.hid (O4.out.dr (DrB.ofG g5) (Nat.le_refl _) hgo)
  have D5 := Lib.hid (D4.out.trans ((DrB.ofG g5).mono D4.out.size))
  clear r5 g5 hy
  have b6 : Below w5.heap.size w5 (w5.alloc (.cells (ints [(x : Int), (y : Int), 0, 7, -1, 32]).toArray 3)) := (Below.refl _ _).alloc (Nat.le_refl _) _
  have HX := Lib.hid (num_lit g _ 6 [(x : Int), (y : Int), 0, 7, -1, 32] _ _ (R5.out.below b6 (Nat.le_refl _)) (Blk.new w5 3 (ints [(x : Int), (y : Int), 0, 7, -1, 32])) (by have := R5.out.lt; omega) rfl (by omega) (by omega) (by omega))
  have D6 := Lib.hid (D5.out.trans (DrB.ofB (g := g) (b6.mono D5.out.size)))
  have O6 := Lib.hid (O5.out.alloc (.cells (ints [(x : Int), (y : Int), 0, 7, -1, 32]).toArray 3))
  clear b6
  go_wp2_with fail
  refine HX.out.mono ?_
  rintro e w7 ⟨z, hz7, rfl, r7, g7⟩
  generalize gI [(x : Int), (y : Int), 0, 7, -1, 32] z = q
  have O7 := Lib.hid ((O6.out.dr (DrB.ofG g7) (Nat.le_refl _) hgo).base B1.out.size)
  have D7 := Lib.hid (D6.out.trans ((DrB.ofG g7).mono D6.out.size))
  clear r7 g7 hz7
  go_wp2_with fail
  refine bodyPost_ret (v := .tuple #[v, .int .i64 n, .int .i64 i, .int .i64 q]) (by simp [results, Try.results6, go_sem]) rfl ⟨_, zs, n, i, q, rfl, hz, O7.out, D7.out.below hg⟩

end Go.Proofs.Ytlfeipibhdggcaa
