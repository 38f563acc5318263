/- Walks: lists of numbers and texts of them, drawn. -/
import Derived.Test.YtlfadpfodmpneaaDoorNu7
import Derived.Test.YtlfadpfodmpneaaDoorR2
import Derived.Test.YtlfadpfodmpneaaDoorR3
import Derived.Deep.RegionLaw
namespace Go.Proofs.YtlfadpfodmpneaaDoor
open Go.RowKit

theorem num_litN (g Q n : Nat) (zs : List Int) (W : World) (q : Nat) (h : Rd W g Q) (hW : Blk W q 3 (ints zs)) (hq : q ≠ g) (hn : zs.length = n) (hn0 : 0 < n) (hn1 : n ≤ 100) (hQ : Q ≤ 1000000) :
    Calls Tryd.prog 31 #[.pointer (some ⟨g, 0, none⟩), .slice (some ⟨q, 0, none⟩) n n] W (NumP g (Q + 1) zs W) :=
  num_ok g Q n n (some ⟨q, 0, none⟩) zs W h ((OutI.of_blk' hW hn (Nat.zero_le q) (by unfold maxLen; omega)).rowI) hn0 (by omega) (fun a e => by cases e; exact hq) hQ
theorem OwnI.baseQ {w : World} {B B' : Nat} {v : Value} {zs : List Int} (h : OwnI w B v zs) (hB : B' ≤ B) : OwnI w B' v zs := by
  obtain ⟨h0, h1 | ⟨g, cap, cur, e, hg, h2⟩⟩ := h
  · exact ⟨h0, .inl h1⟩
  · exact ⟨h0, .inr ⟨g, cap, cur, e, Nat.le_trans hB hg, h2⟩⟩
theorem InR.nil : InR [] := fun _ hi => absurd hi (Nat.not_lt_zero _)
theorem InR.snoc {zs : List Int} {x : Int} (h : InR zs) (hx : -9223372036854775808 ≤ x ∧ x ≤ 9223372036854775807) : InR (zs ++ [x]) := by
  intro i hi
  by_cases e : i < zs.length
  · rw [show gI (zs ++ [x]) i = gI zs i by simp only [gI, List.getD, List.getElem?_append_left e]]
    exact h i e
  · have e2 : i = zs.length := by simp at hi; omega
    subst e2
    rw [show gI (zs ++ [x]) zs.length = x by simp [gI, List.getD]]
    exact hx
theorem lit7_r {v : Nat} (h : v < 7) : -9223372036854775808 ≤ gI [0, 1, -1, 12, 3, -9223372036854775808, 1000000] v ∧ gI [0, 1, -1, 12, 3, -9223372036854775808, 1000000] v ≤ 9223372036854775807 := by
  have key : ∀ v : Fin 7, -9223372036854775808 ≤ gI [0, 1, -1, 12, 3, -9223372036854775808, 1000000] v.val ∧ gI [0, 1, -1, 12, 3, -9223372036854775808, 1000000] v.val ≤ 9223372036854775807 := by decide +kernel
  exact key ⟨v, h⟩

/-- A list of numbers is drawn. -/
def DrawFN (w : World) (e : Ending) (w' : World) : Prop := ∃ v zs, e = .returned v ∧ OwnI w' w.heap.size v zs ∧ zs.length ≤ 4 ∧ InR zs ∧ Below w.heap.size w w'
set_option maxHeartbeats 4000000 in
theorem drawFN_ok (ao : Option Addr) (l c : Nat) (cs : List Int) (w : World) (h : RowU w ao l c cs) (hl : l ≤ 1048576) :
    Calls Tryd.prog 14 #[.slice ao l c] w (DrawFN w) := by
  have HO := Lib.hid (l14Open_ok ao l c cs w h hl)
  clear h
  go_enter Tryd.func14, Tryd.ntmps14
  go_wp2_with fail
  refine HO.out.mono ?_
  rintro e w1 ⟨g, rfl, hg, r1, b1⟩
  have hgw := r1.lt
  have b2 : Below w1.heap.size w1 (w1.alloc (.cells #[] 3)) := (Below.refl _ _).alloc (Nat.le_refl _) _
  have B1 := Lib.hid b1
  have R2 := Lib.hid (r1.below b2 (Nat.le_refl _))
  have D2 := Lib.hid (DrB.ofB (g := g) b2)
  have O2 := Lib.hid (OwnI.lit w1 w1.heap.size [] (Nat.le_refl _) (by decide))
  have HK := Lib.hid (fun Q m W (h : Rd W g Q) (hQ : Q ≤ 1000000) (hm : m ≤ 1048576) => pick_ok g Q m W h hQ hm)
  clear r1 b1 b2
  go_wp2_with fail
  refine (HK.out _ 5 _ R2.out (by omega) (by omega)).mono ?_
  rintro e w3 ⟨n, rfl, hn, r3, g3⟩
  have R3 := Lib.hid r3
  have D3 := Lib.hid (D2.out.trans ((DrB.ofG g3).mono D2.out.size))
  have O3 := Lib.hid (O2.out.dr (DrB.ofG g3) (Nat.le_refl _) hgw)
  have hn4 : n ≤ 4 := by omega
  clear r3 g3 hn
  go_wp2_with fail
  go_loopw [4, 5] (fun v q wr => ∃ (k : Nat) (zs : List Int), k ≤ n ∧ q = .int .i64 k ∧ zs.length + k ≤ 4 ∧ OwnI wr w1.heap.size v zs ∧ InR zs ∧ Rd wr g (1 + zs.length) ∧ DrB g w1.heap.size w1 wr) (fun _ q _ => (intOf q).toNat)
  case atStart => exact ⟨n, [], Nat.le_refl _, rfl, by simpa using hn4, O3.out, InR.nil, R3.out, D3.out⟩
  case round =>
    obtain ⟨k, zs, hk, rfl, hlk, ho, hir, hr, hd⟩ := hrel
    have HOo := Lib.hid ho
    have HIr := Lib.hid hir
    have HR := Lib.hid hr
    have HD := Lib.hid hd
    clear ho hir hr hd
    by_cases hk0 : 0 < k
    · have hkw : (0 : Int) < (k : Int) := by omega
      have b4 : Below wr.heap.size wr (wr.alloc (.cells (ints [0, 1, -1, 12, 3, -9223372036854775808, 1000000]).toArray 3)) := (Below.refl _ _).alloc (Nat.le_refl _) _
      have HX := Lib.hid (num_litN g (1 + zs.length) 7 [0, 1, -1, 12, 3, -9223372036854775808, 1000000] _ _ (HR.out.below b4 (Nat.le_refl _)) (Blk.new wr 3 (ints [0, 1, -1, 12, 3, -9223372036854775808, 1000000])) (by have := HR.out.lt; omega) rfl (by omega) (by omega) (by omega))
      have D4 := Lib.hid (HD.out.trans (DrB.ofB (g := g) (b4.mono HD.out.size)))
      have O4 := Lib.hid (HOo.out.alloc (.cells (ints [0, 1, -1, 12, 3, -9223372036854775808, 1000000]).toArray 3))
      clear b4
      go_wp2_with fail
      refine HX.out.mono ?_
      rintro e w5 ⟨x, hx, rfl, r5, g5⟩
      have hx7 : x < 7 := hx
      have HXr := Lib.hid (lit7_r hx7)
      generalize gI [0, 1, -1, 12, 3, -9223372036854775808, 1000000] x = y at HXr
      have R5 := Lib.hid r5
      have D5 := Lib.hid (D4.out.trans ((DrB.ofG g5).mono D4.out.size))
      have O5 := Lib.hid (O4.out.dr (DrB.ofG g5) (Nat.le_refl _) hgw)
      clear r5 g5 hx
      go_wp2_with (at_builtin; refine wpList_appI (OwnI.alloc O5.out _) (RowI.one _ _) rfl _ _ rfl rfl rfl (by omega) (by have := D5.out.size; simp; omega) ?_; intro v6 w6 o6 g6)
      go_roundw
      case rel => exact ⟨k - 1, _, by omega, by go_num, by simp; omega, o6, HIr.out.snoc HXr.out, (O5.out.oneApp hgw R5.out g6).more (by simp; omega), (D5.out.alloc D5.out.size _).grown g6 (by have := D5.out.size; simp; omega) (fun j hj => (World.ownsRow.lt O5.out j hj).1)⟩
      case measure => simp [intOf] <;> omega
    · have hkw : ¬ (0 : Int) < (k : Int) := by omega
      go_wp2_with fail
      go_ret
      exact ⟨_, zs, rfl, OwnI.baseQ HOo.out B1.out.size, by omega, HIr.out, ((DrB.ofB (g := g) B1.out).trans (HD.out.mono B1.out.size)).below hg⟩

/-- A list and a number are drawn. -/
def DrawFS (w : World) (e : Ending) (w' : World) : Prop := ∃ (v : Value) (zs : List Int) (n : Int), e = .returned (.tuple #[v, .int .i64 n]) ∧ OwnI w' w.heap.size v zs ∧ zs.length ≤ 4 ∧ Below w.heap.size w w'
set_option maxHeartbeats 4000000 in
theorem drawFS_ok (ao : Option Addr) (l c : Nat) (cs : List Int) (w : World) (h : RowU w ao l c cs) (hl : l ≤ 1048576) :
    Calls Tryd.prog 17 #[.slice ao l c] w (DrawFS w) := by
  have HO := Lib.hid (l14Open_ok ao l c cs w h hl)
  clear h
  go_enter Tryd.func17, Tryd.ntmps17
  go_wp2_with fail
  refine HO.out.mono ?_
  rintro e w1 ⟨g, rfl, hg, r1, b1⟩
  have hgw := r1.lt
  have B1 := Lib.hid b1
  have b2 : Below w1.heap.size w1 (w1.alloc (.cells (ints [3, 2, 1, 5, 0, 6]).toArray 3)) := (Below.refl _ _).alloc (Nat.le_refl _) _
  have HX0 := Lib.hid (num_litN g 0 6 [3, 2, 1, 5, 0, 6] _ _ (r1.below b2 (Nat.le_refl _)) (Blk.new w1 3 (ints [3, 2, 1, 5, 0, 6])) (by omega) rfl (by omega) (by omega) (by omega))
  have D2 := Lib.hid (DrB.ofB (g := g) b2)
  have HK := Lib.hid (fun Q m W (h : Rd W g Q) (hQ : Q ≤ 1000000) (hm : m ≤ 1048576) => pick_ok g Q m W h hQ hm)
  clear r1 b1 b2
  go_wp2_with fail
  refine HX0.out.mono ?_
  rintro e w2 ⟨x0, hx0, rfl, r2, g2⟩
  generalize gI [3, 2, 1, 5, 0, 6] x0 = n0
  have R2 := Lib.hid r2
  have D2' := Lib.hid (D2.out.trans ((DrB.ofG g2).mono D2.out.size))
  have hgw2 := r2.lt
  clear r2 g2 hx0
  have b3 : Below w2.heap.size w2 (w2.alloc (.cells #[] 3)) := (Below.refl _ _).alloc (Nat.le_refl _) _
  have R3 := Lib.hid (R2.out.below b3 (Nat.le_refl _))
  have D3 := Lib.hid (DrB.ofB (g := g) b3)
  have O3 := Lib.hid (OwnI.lit w2 w2.heap.size [] (Nat.le_refl _) (by decide))
  clear b3
  go_wp2_with fail
  refine (HK.out _ 4 _ R3.out (by omega) (by omega)).mono ?_
  rintro e w4 ⟨n, rfl, hn, r4, g4⟩
  have R4 := Lib.hid r4
  have D4 := Lib.hid (D3.out.trans ((DrB.ofG g4).mono D3.out.size))
  have O4 := Lib.hid (O3.out.dr (DrB.ofG g4) (Nat.le_refl _) hgw2)
  have hn4 : n ≤ 3 := by omega
  clear r4 g4 hn
  go_wp2_with fail
  go_loopw [6, 7] (fun v q wr => ∃ (k : Nat) (zs : List Int), k ≤ n ∧ q = .int .i64 k ∧ zs.length + k ≤ 4 ∧ OwnI wr w2.heap.size v zs ∧ Rd wr g (2 + zs.length) ∧ DrB g w2.heap.size w2 wr) (fun _ q _ => (intOf q).toNat)
  case atStart => exact ⟨n, [], Nat.le_refl _, rfl, by simp; omega, O4.out, R4.out, D4.out⟩
  case round =>
    obtain ⟨k, zs, hk, rfl, hlk, ho, hr, hd⟩ := hrel
    have HOo := Lib.hid ho
    have HR := Lib.hid hr
    have HD := Lib.hid hd
    clear ho hr hd
    by_cases hk0 : 0 < k
    · have hkw : (0 : Int) < (k : Int) := by omega
      have b4 : Below wr.heap.size wr (wr.alloc (.cells (ints [0, 1, 2, 5, -1, 32]).toArray 3)) := (Below.refl _ _).alloc (Nat.le_refl _) _
      have HX := Lib.hid (num_litN g (2 + zs.length) 6 [0, 1, 2, 5, -1, 32] _ _ (HR.out.below b4 (Nat.le_refl _)) (Blk.new wr 3 (ints [0, 1, 2, 5, -1, 32])) (by have := HR.out.lt; omega) rfl (by omega) (by omega) (by omega))
      have D4 := Lib.hid (HD.out.trans (DrB.ofB (g := g) (b4.mono HD.out.size)))
      have O4 := Lib.hid (HOo.out.alloc (.cells (ints [0, 1, 2, 5, -1, 32]).toArray 3))
      clear b4
      go_wp2_with fail
      refine HX.out.mono ?_
      rintro e w5 ⟨x, hx, rfl, r5, g5⟩
      generalize gI [0, 1, 2, 5, -1, 32] x = y
      have R5 := Lib.hid r5
      have D5 := Lib.hid (D4.out.trans ((DrB.ofG g5).mono D4.out.size))
      have O5 := Lib.hid (O4.out.dr (DrB.ofG g5) (Nat.le_refl _) hgw2)
      clear r5 g5 hx
      go_wp2_with (at_builtin; refine wpList_appI (OwnI.alloc O5.out _) (RowI.one _ _) rfl _ _ rfl rfl rfl (by omega) (by have := D5.out.size; simp; omega) ?_; intro v6 w6 o6 g6)
      go_roundw
      case rel => exact ⟨k - 1, _, by omega, by go_num, by simp; omega, o6, (O5.out.oneApp hgw2 R5.out g6).more (by simp; omega), (D5.out.alloc D5.out.size _).grown g6 (by have := D5.out.size; simp; omega) (fun j hj => (World.ownsRow.lt O5.out j hj).1)⟩
      case measure => simp [intOf] <;> omega
    · have hkw : ¬ (0 : Int) < (k : Int) := by omega
      have hs12 : w1.heap.size ≤ w2.heap.size := D2'.out.size
      go_wp2_with fail
      go_ret2
      exact ⟨_, zs, _, rfl, OwnI.baseQ HOo.out (Nat.le_trans B1.out.size hs12), by omega, (((DrB.ofB (g := g) B1.out).trans (D2'.out.mono B1.out.size)).trans (HD.out.mono (Nat.le_trans B1.out.size hs12))).below hg⟩

theorem nusV_bnd {zs : List Int} (h : InR zs) (h4 : zs.length ≤ 4) : (nusV zs).size ≤ 100 ∧ 0 < (nusV zs).size := by
  by_cases h0 : 0 < zs.length
  · rw [nusV_yes h0]
    have := joinF_size (nusF zs) ⟨#[32]⟩ 21 (by decide) (nusF_le h) zs.length
    refine ⟨?_, ?_⟩
    · have : zs.length * (21 + 1) ≤ 4 * (21 + 1) := Nat.mul_le_mul_right _ h4
      omega
    · obtain ⟨q, hq⟩ : ∃ q, zs.length = q + 1 := ⟨zs.length - 1, by omega⟩
      rw [hq]
      simp only [joinF, ByteArray.size_append]
      have h2 : 0 < (nusF zs q).size := itB_pos _
      omega
  · have e : zs = [] := List.eq_nil_of_length_eq_zero (by omega)
    subst e
    rw [nusV_nil]
    exact ⟨by decide, by decide⟩

end Go.Proofs.YtlfadpfodmpneaaDoor
