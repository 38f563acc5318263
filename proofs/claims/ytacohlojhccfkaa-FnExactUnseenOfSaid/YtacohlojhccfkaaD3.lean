/- The law on UnseenOf. -/
import Derived.Test.YtacohlojhccfkaaD2
namespace Go.Proofs.Ytacohlojhccfkaa
open Go.RowKit

set_option maxHeartbeats 4000000 in
theorem FnExactUnseenOf_ok (ao : Option Addr) (n c : Nat) (zs : List (Int × Int)) (m : Int) (w : World) (h : RowS w ao n c zs) :
    Calls Try.prog 3 #[.slice ao n c, .int .i64 m] w fun e w' => e = .returned (.bool true) ∧ Below w.heap.size w w' := by
  have hml := h.cap
  have hml' := h.le
  by_cases hbig : n ≤ 1048576
  rotate_left
  · go_enter Try.func3, Try.ntmps3
    go_wp2_with fail
    refine (szSeenS_ok ao n c w (by omega)).mono ?_
    rintro e w1 ⟨rfl, rfl⟩
    rw [if_neg hbig]
    go_wp2_with fail
    go_ret
    exact ⟨rfl, Below.refl _ _⟩
  have hn : n * 16 ≤ 281474976710656 := by omega
  have h2 : ¬ (1048576 - (n : Int) < 0) := by omega
  have hk1 : ¬ (1 + 2 * (n : Int) < 0) := by omega
  have hL := unV_len zs m
  have HZ := Lib.hid h
  generalize hV : unV zs m = vs at hL
  go_enter Try.func3, Try.ntmps3
  go_wp2_with fail
  refine (szSeenS_ok ao n c w (by omega)).mono ?_
  rintro e w0 ⟨rfl, rfl⟩
  rw [if_pos hbig]
  go_wp2_with fail
  refine (toSeenS_ok _ _ _ zs _ h hn).mono ?_
  rintro e w1 ⟨g1, hg1, rfl, k1, b1⟩
  go_wp2_with fail
  refine (unS_ok _ _ _ zs _ _ (RowS.of_blk k1 h.len (by omega))).mono ?_
  rintro e w2 ⟨v2, rfl, o2, b2⟩
  have c2 : Below w.heap.size w w2 := b1.trans (b2.mono b1.size)
  rw [hV] at o2
  obtain ⟨a2, p2, rfl, q2⟩ := o2.out
  go_wp2_with fail
  refine (toSeenS_ok _ _ _ zs _ (h.below c2 (Nat.le_refl _)) hn).mono ?_
  rintro e w3 ⟨g3, hg3, rfl, k3, b3⟩
  have c3 : Below w.heap.size w w3 := c2.trans (b3.mono c2.size)
  go_wp2_with fail
  refine (unI_ok _ _ _ zs _ _ (RowS.of_blk k3 h.len (by omega))).mono ?_
  rintro e w4 ⟨a4, l4, rfl, q4, b4⟩
  rw [hV] at q4
  have c4 : Below w.heap.size w w4 := c3.trans (b4.mono c3.size)
  have k4 := k3.below b4 k3.lt
  have r2 := (q2.rowI.below b3 (Nat.le_refl _)).below b4 (Nat.le_refl _)
  go_wp2_with fail
  refine (eqIntS_ok _ _ _ _ _ _ vs vs _ q4.rowI r2).mono ?_
  rintro e w5 ⟨rfl, b5⟩
  have c5 : Below w.heap.size w w5 := c4.trans (b5.mono c4.size)
  have k5 := k4.below b5 k4.lt
  simp only [decide_true]
  go_wp2_with fail
  refine (toSeenS_ok _ _ _ zs _ (h.below c5 (Nat.le_refl _)) hn).mono ?_
  rintro e w6 ⟨g6, hg6, rfl, k6, b6⟩
  have c6 : Below w.heap.size w w6 := c5.trans (b6.mono c5.size)
  go_wp2_with fail
  refine (eqSeenS_ok _ _ _ _ _ _ zs zs _ (RowS.of_blk (k5.below b6 k5.lt) h.len (by omega)) (RowS.of_blk k6 h.len (by omega))).mono ?_
  rintro e w7 ⟨rfl, b7⟩
  have c7 : Below w.heap.size w w7 := c6.trans (b7.mono c6.size)
  simp only [decide_true]
  have k7 := (k5.below b6 k5.lt).below b7 (k5.below b6 k5.lt).lt
  have q4' := ((q4.below b5 (Nat.le_refl _)).below b6 (Nat.le_refl _)).below b7 (Nat.le_refl _)
  have r2' := ((r2.below b5 (Nat.le_refl _)).below b6 (Nat.le_refl _)).below b7 (Nat.le_refl _)
  have hcl : (cellsS zs).length = 2 * n := by rw [cellsS_len, h.len]
  go_wp2_with fail
  refine (markSeenS_ok g3 n n _ _ _ _ k7 hcl (by decide) (by omega)).mono ?_
  rintro e w8 ⟨rfl, g8, z8⟩
  have c8 : Below w.heap.size w w8 := c7.grown g8 c7.size (fun j hj => by cases hj; exact Nat.le_trans c2.size hg3)
  have n34 : ∀ a, a4 = some a → some a.block ≠ some g3 := fun a e e' => by
    cases e'
    have h1 := q4.2.own a e
    have h2 := k3.lt
    omega
  have n32 : ∀ a, a2 = some a → some a.block ≠ some g3 := fun a e e' => by
    cases e'
    have h2 := q2.2.lt a e
    omega
  have q48 := q4'.grown g8 n34
  have r28 := r2'.grown g8 n32
  go_wp2_with fail
  refine (eqIntS_ok _ _ _ _ _ _ vs vs _ q48.rowI r28).mono ?_
  rintro e w9 ⟨rfl, b9⟩
  have c9 : Below w.heap.size w w9 := c8.trans (b9.mono c8.size)
  simp only [decide_true]
  go_wp2_with fail
  refine (markIntS_ok _ _ _ _ _ _ _ (q48.below b9 (Nat.le_refl _)) (by decide) (by have := q4.1; omega)).mono ?_
  rintro e w10 ⟨rfl, r10, g10, z10⟩
  have c10 : Below w.heap.size w w10 := Below.ofBlk c9 g10 c9.size (fun a e => Nat.le_trans c3.size (q4.2.own a e))
  have h1L : ¬ (1 + (l4 : Int) < 0) := by omega
  go_wp2_with fail
  refine (heldIntS_ok _ _ _ _ _ _ r10.rowI (fun i hi => marks_get _ _ _ _ hi) (by decide) (by have := q4.1; omega)).mono ?_
  rintro e w11 ⟨rfl, rfl⟩
  go_wp2_with fail
  refine (toSeenS_ok _ _ _ zs _ (h.below c10 (Nat.le_refl _)) hn).mono ?_
  rintro e w12 ⟨g12, hg12, rfl, k12, b12⟩
  have c12 : Below w.heap.size w w12 := c10.trans (b12.mono c10.size)
  go_wp2_with fail
  refine (unI_ok _ _ _ zs _ _ (RowS.of_blk k12 h.len (by omega))).mono ?_
  rintro e w13 ⟨a13, l13, rfl, q13, b13⟩
  rw [hV] at q13
  have c13 : Below w.heap.size w w13 := c12.trans (b13.mono c12.size)
  have n42 : ∀ a, a2 = some a → some a.block ≠ blkOf a4 := fun a e e' => by
    obtain ⟨a', ha', he'⟩ := Option.map_eq_some_iff.1 e'.symm
    have h1 := q4.2.own a' ha'
    have h2 := q2.2.lt a e
    have h3 := b3.size
    omega
  have r213 := (((r28.below b9 (Nat.le_refl _)).grown g10 n42).below b12 (Nat.le_refl _)).below b13 (Nat.le_refl _)
  go_wp2_with fail
  refine (eqIntS_ok _ _ _ _ _ _ vs vs _ q13.rowI r213).mono ?_
  rintro e w14 ⟨rfl, b14⟩
  have c14 : Below w.heap.size w w14 := c13.trans (b14.mono c13.size)
  simp only [decide_true]
  have r414 := ((r10.rowI.below b12 (Nat.le_refl _)).below b13 (Nat.le_refl _)).below b14 (Nat.le_refl _)
  go_wp2_with fail
  refine (heldIntS_ok _ _ _ _ _ _ r414 (fun i hi => marks_get _ _ _ _ hi) (by decide) (by have := q4.1; omega)).mono ?_
  rintro e w15 ⟨rfl, rfl⟩
  go_wp2_with fail
  go_ret
  exact ⟨rfl, c14⟩

end Go.Proofs.Ytacohlojhccfkaa
