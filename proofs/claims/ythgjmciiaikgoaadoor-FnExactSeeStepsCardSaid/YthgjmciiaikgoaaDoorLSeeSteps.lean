/- The law FnExactSeeSteps. -/
import Derived.Test.YthgjmciiaikgoaaDoorQ2
namespace Go.Proofs.YthgjmciiaikgoaaDoor
open Go.RowKit

theorem RowS.grown {w w' : World} {row : Option Nat} {ao : Option Addr} {n c : Nat} {zs : List (Int × Int)} (h : RowS w ao n c zs) (hg : w.grownBy w' row) (hne : ∀ a, ao = Option.some a → Option.some a.block ≠ row) : RowS w' ao n c zs :=
  ⟨h.len, h.le, h.cap, fun hn => let ⟨b, o, e, hbo⟩ := h.some hn; ⟨b, o, e, Nat.lt_of_lt_of_le hbo hg.size⟩, fun b o e i hi => by
    obtain ⟨b', o', e', hbo⟩ := h.some (by omega)
    rw [e] at e'
    cases e'
    rw [← h.before b o e i hi]
    simp only [World.cell?]
    rw [hg.block b hbo (hne _ e)], fun b o e i hi => by
    obtain ⟨b', o', e', hbo⟩ := h.some (by omega)
    rw [e] at e'
    cases e'
    rw [← h.after b o e i hi]
    simp only [World.cell?]
    rw [hg.block b hbo (hne _ e)]⟩
theorem OutS.own {w : World} {B : Nat} {ao : Option Addr} {n : Nat} {zs : List (Int × Int)} (h : OutS w B ao n zs) : ∀ a, ao = some a → B ≤ a.block ∧ a.block < w.heap.size := fun a e => by
  obtain ⟨_, ⟨rfl, _⟩ | ⟨g, cs, rfl, hg, hb, _⟩⟩ := h
  · cases e
  · cases e; exact ⟨hg, hb.lt⟩

set_option maxHeartbeats 4000000 in
theorem FnExactSeeSteps_ok (t : ByteArray) (ao : Option Addr) (n c : Nat) (zs : List Int) (w : World) (_ : t.size ≤ maxLen) (h : RowI w ao n c zs) (hm : MaxLenIs w) :
    Calls Tryd.prog 5 #[.string t, .slice ao n c] w fun e w' => e = .returned (.bool true) ∧ Below w.heap.size w w' := by
  have hml := h.2.cap
  have hml' := h.2.le
  unfold maxLen at hml
  go_enter Tryd.func5, Tryd.ntmps5
  by_cases hb0 : 1048576 < t.size
  · go_wp2
    go_ret
    exact ⟨rfl, Below.refl _ _⟩
  by_cases hbig : 1048576 < n
  · go_wp2
    go_ret
    exact ⟨rfl, Below.refl _ _⟩
  have hn : n * 8 ≤ 281474976710656 := by omega
  have ht : t.size ≤ 1048576 := by omega
  have hn2 : n ≤ 1048576 := by omega
  have HM := Lib.hid hm
  have hL := seeV_len (cutsP 44 t) zs
  clear hm
  go_wp2_with fail
  refine (toIntS_ok _ _ _ zs _ h hn).mono ?_
  rintro e w1 ⟨x1, rfl, k1, b1⟩
  go_wp2_with fail
  refine (seeS_ok t _ _ _ zs _ ht k1.rowI hn2).mono ?_
  rintro e w2 ⟨v2, rfl, o2, b2⟩
  have c2 : Below w.heap.size w w2 := b1.trans (b2.mono b1.size)
  obtain ⟨a2, p2, rfl, q2, l2⟩ := o2.out
  clear o2
  go_wp2_with fail
  refine (toIntS_ok _ _ _ zs _ (h.below c2 (Nat.le_refl _)) hn).mono ?_
  rintro e w3 ⟨x3, rfl, k3, b3⟩
  have c3 : Below w.heap.size w w3 := c2.trans (b3.mono c2.size)
  go_wp2_with fail
  refine (seeI_ok t _ _ _ zs _ ht k3.rowI hn2 (HM.out.below c3 (Nat.le_refl _))).mono ?_
  rintro e w4 ⟨a4, l4, rfl, o4, b4⟩
  have c4 : Below w.heap.size w w4 := c3.trans (b4.mono c3.size)
  have e4 := o4.1
  subst e4
  have r2 := (q2.below b3 (Nat.le_refl _)).below b4 (Nat.le_refl _)
  have r3 := k3.below b4 (Nat.le_refl _)
  have hLm : (seeV (cutsP 44 t) zs).length ≤ maxLen := by unfold maxLen; omega
  have HI := Lib.hid (fun x W (hW : MaxLenIs W) (hk : RowI W x n n zs) => seeI_ok t x n n zs W ht hk hn2 hW)
  have HLm := Lib.hid hLm
  clear hLm
  generalize seeB (cutsP 44 t) zs = okb at HI ⊢
  generalize seeV (cutsP 44 t) zs = sl at hL HLm q2 r2 o4 HI ⊢
  go_wp2_with fail
  refine (eqSeenS_ok _ _ _ _ _ _ sl sl _ (o4.row HLm.out) r2).mono ?_
  rintro e w5 ⟨rfl, b5⟩
  have c5 : Below w.heap.size w w5 := c4.trans (b5.mono c4.size)
  simp only [decide_true]
  go_wp2_with fail
  refine (toIntS_ok _ _ _ zs _ (h.below c5 (Nat.le_refl _)) hn).mono ?_
  rintro e w6 ⟨x6, rfl, k6, b6⟩
  have c6 : Below w.heap.size w w6 := c5.trans (b6.mono c5.size)
  go_wp2_with fail
  refine (eqIntS_ok _ _ _ _ _ _ zs zs _ ((r3.rowI.below b5 (Nat.le_refl _)).below b6 (Nat.le_refl _)) k6.rowI).mono ?_
  rintro e w7 ⟨rfl, b7⟩
  have c7 : Below w.heap.size w w7 := c6.trans (b7.mono c6.size)
  simp only [decide_true]
  have r3' := ((r3.below b5 (Nat.le_refl _)).below b6 (Nat.le_refl _)).below b7 (Nat.le_refl _)
  have q4' := ((o4.below b5 (Nat.le_refl _)).below b6 (Nat.le_refl _)).below b7 (Nat.le_refl _)
  have r2' := ((r2.below b5 (Nat.le_refl _)).below b6 (Nat.le_refl _)).below b7 (Nat.le_refl _)
  go_wp2_with fail
  refine (markIntS_ok _ _ _ _ _ _ _ r3' (by decide) (by omega)).mono ?_
  rintro e w8 ⟨rfl, r38, g8, z8⟩
  have c8 : Below w.heap.size w w8 := Below.ofBlk c7 g8 c7.size (fun a e => Nat.le_trans c2.size (r3.2.own a e))
  have n34 : ∀ a, a4 = some a → some a.block ≠ blkOf x3 := fun a e e' => by
    obtain ⟨a', ha', he'⟩ := Option.map_eq_some_iff.1 e'.symm
    have h1 := (o4.own a e).1
    have h2 := k3.2.lt a' ha'
    omega
  have n32 : ∀ a, a2 = some a → some a.block ≠ blkOf x3 := fun a e e' => by
    obtain ⟨a', ha', he'⟩ := Option.map_eq_some_iff.1 e'.symm
    have h1 := k3.2.own a' ha'
    have h2 := (l2 a e).2
    omega
  have q48 := q4'.grown g8 n34
  have r28 := r2'.grown g8 n32
  have hn1 : ¬ (1 + (n : Int)) < 0 := by omega
  go_wp2_with fail
  refine (eqSeenS_ok _ _ _ _ _ _ sl sl _ (q48.row HLm.out) r28).mono ?_
  rintro e w9 ⟨rfl, b9⟩
  have c9 : Below w.heap.size w w9 := c8.trans (b9.mono c8.size)
  simp only [decide_true]
  go_wp2_with fail
  refine (markS_ok _ _ _ _ _ 1 _ (q48.below b9 (Nat.le_refl _)) (by decide) (by omega)).mono ?_
  rintro e w10 ⟨rfl, r10, g10, z10⟩
  have c10 : Below w.heap.size w w10 := Below.ofBlk c9 g10 c9.size (fun a e => Nat.le_trans c3.size (o4.own a e).1)
  go_wp2_with fail
  refine (heldS_ok' _ _ _ 1 _ (r10.row HLm.out) (by decide) (by omega)).mono ?_
  rintro e w11 ⟨rfl, rfl⟩
  have h1L : ¬ (1 + 2 * (sl.length : Int) < 0) := by omega
  go_wp2_with fail
  refine (toIntS_ok _ _ _ zs _ (h.below c10 (Nat.le_refl _)) hn).mono ?_
  rintro e w12 ⟨x12, rfl, k12, b12⟩
  have c12 : Below w.heap.size w w12 := c10.trans (b12.mono c10.size)
  go_wp2_with fail
  refine (HI.out _ _ (HM.out.below c12 (Nat.le_refl _)) k12.rowI).mono ?_
  rintro e w13 ⟨a13, l13, rfl, o13, b13⟩
  have c13 : Below w.heap.size w w13 := c12.trans (b13.mono c12.size)
  have e13 := o13.1
  subst e13
  have n42 : ∀ a, a2 = some a → some a.block ≠ blkOf a4 := fun a e e' => by
    obtain ⟨a', ha', he'⟩ := Option.map_eq_some_iff.1 e'.symm
    have h1 := (o4.own a' ha').1
    have h2 := (l2 a e).2
    have h3 := b3.size
    omega
  have r213 := (((r28.below b9 (Nat.le_refl _)).grown g10 n42).below b12 (Nat.le_refl _)).below b13 (Nat.le_refl _)
  go_wp2_with fail
  refine (eqSeenS_ok _ _ _ _ _ _ sl sl _ (o13.row HLm.out) r213).mono ?_
  rintro e w14 ⟨rfl, b14⟩
  have c14 : Below w.heap.size w w14 := c13.trans (b14.mono c13.size)
  simp only [decide_true]
  have r414 := (((r10.row HLm.out).below b12 (Nat.le_refl _)).below b13 (Nat.le_refl _)).below b14 (Nat.le_refl _)
  go_wp2_with fail
  refine (heldS_ok' _ _ _ 1 _ r414 (by decide) (by omega)).mono ?_
  rintro e w15 ⟨rfl, rfl⟩
  go_wp2_with fail
  go_ret
  exact ⟨rfl, c14⟩

end Go.Proofs.YthgjmciiaikgoaaDoor
