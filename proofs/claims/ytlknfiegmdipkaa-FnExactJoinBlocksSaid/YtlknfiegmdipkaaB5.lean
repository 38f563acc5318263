/- Walks: JoinBlocks where there is nothing to join; the law on JoinBlocks. -/
import Derived.Test.YtlknfiegmdipkaaB4
namespace Go.Proofs.Ytlknfiegmdipkaa
open Go.RowKit

set_option maxHeartbeats 1000000 in
theorem jbS_no (ao : Option Addr) (n c : Nat) (zs : List Int) (m k : Int) (w : World) (h : RowI w ao n c zs) (hno : ¬ (blocksV zs m = true ∧ 0 ≤ k ∧ k ≤ (n : Int) - 2)) :
    Calls Try.prog 20 #[.slice ao n c, .int .i64 m, .int .i64 k] w fun e w' => ∃ v, e = .returned (.tuple #[v, .bool false]) ∧ OwnI w' w.heap.size v [] ∧ Below w.heap.size w w' := by
  have hml := h.2.cap
  have hml' := h.2.le
  unfold maxLen at hml
  have HB := Lib.hid (bvS_ok _ _ _ zs m w h)
  by_cases hv : blocksV zs m = true
  · have hq := inB_false (show ¬ (0 ≤ k ∧ k ≤ (n : Int) - 2) from fun e => hno ⟨hv, e⟩)
    go_enter Try.func20, Try.ntmps20
    go_wp2_with fail
    refine HB.out.mono ?_
    rintro e w1 ⟨rfl, b1⟩
    rw [hv]
    clear hno hv
    go_wp2_with (go_at_call 28; refine (l1In_ok _ _ _ _).mono ?_; rintro e w' ⟨rfl, rfl⟩)
    go_ret2
    exact ⟨_, rfl, OwnI.lit w1 w.heap.size [] b1.size (by decide), b1.alloc b1.size _⟩
  · have hvb : blocksV zs m = false := by simpa using hv
    go_enter Try.func20, Try.ntmps20
    go_wp2_with fail
    refine HB.out.mono ?_
    rintro e w1 ⟨rfl, b1⟩
    rw [hvb]
    clear hno hv hvb
    go_wp2
    go_ret2
    exact ⟨_, rfl, OwnI.lit w1 w.heap.size [] b1.size (by decide), b1.alloc b1.size _⟩

set_option maxHeartbeats 1000000 in
theorem jbI_no (ao : Option Addr) (n c : Nat) (zs : List Int) (m k : Int) (w : World) (h : RowI w ao n c zs) (hno : ¬ (blocksV zs m = true ∧ 0 ≤ k ∧ k ≤ (n : Int) - 2)) :
    Calls Try.prog 21 #[.slice ao n c, .int .i64 m, .int .i64 k] w fun e w' => e = .returned (.tuple #[.slice none 0 0, .bool false]) ∧ Below w.heap.size w w' := by
  have hml := h.2.cap
  have hml' := h.2.le
  unfold maxLen at hml
  have HB := Lib.hid (bvI_ok _ _ _ zs m w h)
  by_cases hv : blocksV zs m = true
  · have hv' : blocksI zs m = true := by rw [blocks_same]; exact hv
    have hk : k < 0 ∨ ¬ k < 0 ∧ (n : Int) - 1 ≤ k := by
      by_cases h0 : k < 0
      · exact .inl h0
      · exact .inr ⟨h0, by
          rcases Int.lt_or_le k ((n : Int) - 1) with h1 | h1
          · exact absurd ⟨hv, by omega, by omega⟩ hno
          · exact h1⟩
    clear hno hv
    rcases hk with hk | ⟨hk, hk2⟩
    all_goals
      go_enter Try.func21, Try.ntmps21
      go_wp2_with fail
      refine HB.out.mono ?_
      rintro e w1 ⟨rfl, b1⟩
      rw [hv']
      go_wp2
      go_ret2
      exact ⟨rfl, b1⟩
  · have hvb : blocksI zs m = false := by rw [blocks_same]; simpa using hv
    go_enter Try.func21, Try.ntmps21
    go_wp2_with fail
    refine HB.out.mono ?_
    rintro e w1 ⟨rfl, b1⟩
    rw [hvb]
    clear hno hv hvb
    go_wp2
    go_ret2
    exact ⟨rfl, b1⟩

def joinW (zs : List Int) (m k : Int) : Bool := blocksV zs m && decide (0 ≤ k) && decide (k ≤ (zs.length : Int) - 2)
def joinL (zs : List Int) (m k : Int) : List Int := if joinW zs m k = true then joinV zs k.toNat else []

theorem jbS_ok (ao : Option Addr) (n c : Nat) (zs : List Int) (m k : Int) (w : World) (h : RowI w ao n c zs) (hn : n ≤ 1048576) :
    Calls Try.prog 20 #[.slice ao n c, .int .i64 m, .int .i64 k] w fun e w' => ∃ v, e = .returned (.tuple #[v, .bool (joinW zs m k)]) ∧ OwnI w' w.heap.size v (joinL zs m k) ∧ Below w.heap.size w w' := by
  by_cases hy : blocksV zs m = true ∧ 0 ≤ k ∧ k ≤ (n : Int) - 2
  · obtain ⟨h1, h2, h3⟩ := hy
    obtain ⟨q, rfl⟩ := Int.eq_ofNat_of_zero_le h2
    have hw : joinW zs m q = true := by have := h.1; simp [joinW, h1]; omega
    obtain ⟨b, o, rfl, _⟩ := h.2.some (by omega)
    rw [joinL, hw, if_pos rfl, Int.toNat_natCast]
    exact jbS_yes b o n c zs m q w h (by omega) h1 (by omega)
  · have hw : joinW zs m k = false := by
      rw [← Bool.not_eq_true]
      intro e
      have hl := h.1
      simp only [joinW, Bool.and_eq_true, decide_eq_true_iff] at e
      exact hy ⟨e.1.1, e.1.2, by omega⟩
    rw [joinL, hw, if_neg (by decide)]
    exact jbS_no ao n c zs m k w h hy
theorem jbI_ok (ao : Option Addr) (n c : Nat) (zs : List Int) (m k : Int) (w : World) (h : RowI w ao n c zs) (hn : n ≤ 1048576) :
    Calls Try.prog 21 #[.slice ao n c, .int .i64 m, .int .i64 k] w fun e w' => ∃ v, e = .returned (.tuple #[v, .bool (joinW zs m k)]) ∧ OwnI w' w.heap.size v (joinL zs m k) ∧ Below w.heap.size w w' := by
  by_cases hy : blocksV zs m = true ∧ 0 ≤ k ∧ k ≤ (n : Int) - 2
  · obtain ⟨h1, h2, h3⟩ := hy
    obtain ⟨q, rfl⟩ := Int.eq_ofNat_of_zero_le h2
    have hw : joinW zs m q = true := by have := h.1; simp [joinW, h1]; omega
    obtain ⟨b, o, rfl, _⟩ := h.2.some (by omega)
    rw [joinL, hw, if_pos rfl, Int.toNat_natCast]
    exact jbI_yes b o n c zs m q w h (by omega) h1 (by omega)
  · have hw : joinW zs m k = false := by
      rw [← Bool.not_eq_true]
      intro e
      have hl := h.1
      simp only [joinW, Bool.and_eq_true, decide_eq_true_iff] at e
      exact hy ⟨e.1.1, e.1.2, by omega⟩
    rw [joinL, hw, if_neg (by decide)]
    exact (jbI_no ao n c zs m k w h hy).mono fun e w' ⟨he, hb⟩ => ⟨_, he, OwnI.nil _ _, hb⟩

theorem joinL_len (zs : List Int) (m k : Int) : (joinL zs m k).length ≤ zs.length + 1 := by
  unfold joinL
  split
  · rename_i h
    simp only [joinW, Bool.and_eq_true, decide_eq_true_iff] at h
    simp [joinV]
    omega
  · simp

set_option maxHeartbeats 2000000 in
theorem FnExactJoinBlocks_ok (ao : Option Addr) (n c : Nat) (zs : List Int) (m k : Int) (w : World) (h : RowI w ao n c zs) :
    Calls Try.prog 6 #[.slice ao n c, .int .i64 m, .int .i64 k] w fun e w' => e = .returned (.bool true) ∧ Below w.heap.size w w' := by
  have hml := h.2.cap
  have hml' := h.2.le
  unfold maxLen at hml
  by_cases hbig : 1048576 < n
  · go_enter Try.func6, Try.ntmps6
    go_wp2
    go_ret
    exact ⟨rfl, Below.refl _ _⟩
  have hn : n * 8 ≤ 281474976710656 := by omega
  have hlen := joinL_len zs m k
  rw [h.1] at hlen
  go_enter Try.func6, Try.ntmps6
  go_wp2_with fail
  refine (toIntS_ok _ _ _ zs _ h hn).mono ?_
  rintro e w1 ⟨x1, rfl, k1, b1⟩
  go_wp2_with fail
  refine (jbS_ok _ _ _ zs _ _ _ k1.rowI (by omega)).mono ?_
  rintro e w2 ⟨v2, rfl, o2, b2⟩
  have c2 : Below w.heap.size w w2 := b1.trans (b2.mono b1.size)
  obtain ⟨a2, p2, rfl, q2⟩ := o2.out
  go_wp2_with fail
  refine (toIntS_ok _ _ _ zs _ (h.below c2 (Nat.le_refl _)) hn).mono ?_
  rintro e w3 ⟨x3, rfl, k3, b3⟩
  have c3 : Below w.heap.size w w3 := c2.trans (b3.mono c2.size)
  go_wp2_with fail
  refine (jbI_ok _ _ _ zs _ _ _ k3.rowI (by omega)).mono ?_
  rintro e w4 ⟨v4, rfl, o4, b4⟩
  have c4 : Below w.heap.size w w4 := c3.trans (b4.mono c3.size)
  obtain ⟨a4, p4, rfl, q4⟩ := o4.out
  have r2 := (q2.rowI.below b3 (Nat.le_refl _)).below b4 (Nat.le_refl _)
  have r3 := k3.below b4 (Nat.le_refl _)
  have hL : (joinL zs m k).length ≤ 1099511627776 := by omega
  go_wp2_with fail
  refine (eqIntS_ok _ _ _ _ _ _ (joinL zs m k) (joinL zs m k) _ q4.rowI r2).mono ?_
  rintro e w5 ⟨rfl, b5⟩
  have c5 : Below w.heap.size w w5 := c4.trans (b5.mono c4.size)
  simp only [decide_true]
  go_wp2_with fail
  refine (toIntS_ok _ _ _ zs _ (h.below c5 (Nat.le_refl _)) hn).mono ?_
  rintro e w6 ⟨x6, rfl, k6, b6⟩
  have c6 : Below w.heap.size w w6 := c5.trans (b6.mono c5.size)
  go_wp2_with fail
  refine (eqIntS_ok _ _ _ _ _ _ zs zs _ ((r3.rowI.below b5 (Nat.le_refl _)).below b6 (Nat.le_refl _)) k6.rowI).mono ?_
  rintro e w7 ⟨rfl, b7⟩
  have c7 : Below w.heap.size w w7 := c6.trans (b7.mono c6.size)
  simp only [decide_true]
  have r3' := ((r3.below b5 (Nat.le_refl _)).below b6 (Nat.le_refl _)).below b7 (Nat.le_refl _)
  have q4' := ((q4.below b5 (Nat.le_refl _)).below b6 (Nat.le_refl _)).below b7 (Nat.le_refl _)
  have r2' := ((r2.below b5 (Nat.le_refl _)).below b6 (Nat.le_refl _)).below b7 (Nat.le_refl _)
  go_wp2_with fail
  refine (markIntS_ok _ _ _ _ _ _ _ r3' (by decide) (by omega)).mono ?_
  rintro e w8 ⟨rfl, r38, g8, z8⟩
  have c8 : Below w.heap.size w w8 := Below.ofBlk c7 g8 c7.size (fun a e => Nat.le_trans c2.size (r3.2.own a e))
  have n34 : ∀ a, a4 = some a → some a.block ≠ blkOf x3 := fun a e e' => by
    obtain ⟨a', ha', he'⟩ := Option.map_eq_some_iff.1 e'.symm
    have h1 := q4.2.own a e
    have h2 := k3.2.lt a' ha'
    omega
  have n32 : ∀ a, a2 = some a → some a.block ≠ blkOf x3 := fun a e e' => by
    obtain ⟨a', ha', he'⟩ := Option.map_eq_some_iff.1 e'.symm
    have h1 := k3.2.own a' ha'
    have h2 := q2.2.lt a e
    omega
  have q48 := q4'.grown g8 n34
  have r28 := r2'.grown g8 n32
  go_wp2_with fail
  refine (eqIntS_ok _ _ _ _ _ _ (joinL zs m k) (joinL zs m k) _ q48.rowI r28).mono ?_
  rintro e w9 ⟨rfl, b9⟩
  have c9 : Below w.heap.size w w9 := c8.trans (b9.mono c8.size)
  simp only [decide_true]
  go_wp2_with fail
  refine (markIntS_ok _ _ _ _ _ _ _ (q48.below b9 (Nat.le_refl _)) (by decide) hL).mono ?_
  rintro e w10 ⟨rfl, r10, g10, z10⟩
  have c10 : Below w.heap.size w w10 := Below.ofBlk c9 g10 c9.size (fun a e => Nat.le_trans c3.size (q4.2.own a e))
  go_wp2_with fail
  refine (heldIntS_ok _ _ _ _ _ _ r10.rowI (fun i hi => marks_get _ _ _ _ hi) (by decide) hL).mono ?_
  rintro e w11 ⟨rfl, rfl⟩
  have h1L : ¬ (1 + ((joinL zs m k).length : Int) < 0) := by omega
  go_wp2_with fail
  refine (toIntS_ok _ _ _ zs _ (h.below c10 (Nat.le_refl _)) hn).mono ?_
  rintro e w12 ⟨x12, rfl, k12, b12⟩
  have c12 : Below w.heap.size w w12 := c10.trans (b12.mono c10.size)
  go_wp2_with fail
  refine (jbI_ok _ _ _ zs _ _ _ k12.rowI (by omega)).mono ?_
  rintro e w13 ⟨v13, rfl, o13, b13⟩
  have c13 : Below w.heap.size w w13 := c12.trans (b13.mono c12.size)
  obtain ⟨a13, p13, rfl, q13⟩ := o13.out
  have n42 : ∀ a, a2 = some a → some a.block ≠ blkOf a4 := fun a e e' => by
    obtain ⟨a', ha', he'⟩ := Option.map_eq_some_iff.1 e'.symm
    have h1 := q4.2.own a' ha'
    have h2 := q2.2.lt a e
    have h3 := b3.size
    omega
  have r213 := (((r28.below b9 (Nat.le_refl _)).grown g10 n42).below b12 (Nat.le_refl _)).below b13 (Nat.le_refl _)
  go_wp2_with fail
  refine (eqIntS_ok _ _ _ _ _ _ (joinL zs m k) (joinL zs m k) _ q13.rowI r213).mono ?_
  rintro e w14 ⟨rfl, b14⟩
  have c14 : Below w.heap.size w w14 := c13.trans (b14.mono c13.size)
  simp only [decide_true]
  have r414 := ((r10.rowI.below b12 (Nat.le_refl _)).below b13 (Nat.le_refl _)).below b14 (Nat.le_refl _)
  go_wp2_with fail
  refine (heldIntS_ok _ _ _ _ _ _ r414 (fun i hi => marks_get _ _ _ _ hi) (by decide) hL).mono ?_
  rintro e w15 ⟨rfl, rfl⟩
  go_wp2_with fail
  go_ret
  exact ⟨rfl, c14⟩

end Go.Proofs.Ytlknfiegmdipkaa
