/- The law FnExactParseNumbers. -/
import Derived.Test.YtlfadpfodmpneaaDoorNu6
import Derived.Test.YtlfadpfodmpneaaDoorB1
namespace Go.Proofs.YtlfadpfodmpneaaDoor
open Go.RowKit

set_option maxHeartbeats 2000000 in
theorem FnExactParseNumbers_ok (s : ByteArray) (w : World) (_ : s.size ≤ maxLen) (hp : PowIs w) (he : ErrsAre w) (hm : MaxLenIs w) :
    Calls Tryd.prog 4 #[.string s] w fun e w' => e = .returned (.bool true) ∧ Below w.heap.size w w' := by
  go_enter Tryd.func4, Tryd.ntmps4
  by_cases hb0 : 1048576 < s.size
  · go_wp2
    go_ret
    exact ⟨rfl, Below.refl _ _⟩
  · have hs : s.size ≤ 1048576 := by omega
    have HM := Lib.hid (fun W (hW : Below w.heap.size w W) => hm.below hW (Nat.le_refl _))
    have HP := Lib.hid (fun W (hW : Below w.heap.size w W) => hp.below hW (Nat.le_refl _))
    have HE := Lib.hid (fun W (hW : Below w.heap.size w W) => he.below hW (Nat.le_refl _))
    have HS := Lib.hid (pnS_ok s w hs)
    have HI := Lib.hid (fun W (hW : Below w.heap.size w W) => pnI_ok s W hs (HM.out W hW) (HP.out W hW) (HE.out W hW))
    have hL0 := pnV_len (cutsP 32 s)
    generalize pnV (cutsP 32 s) = zs at HS HI hL0
    generalize pnB (cutsP 32 s) = fl at HS HI
    have hL : zs.length ≤ 1099511627776 := by omega
    have h1L : ¬ (1 + (zs.length : Int) < 0) := by omega
    clear hm hp he HM HP HE
    go_wp2_with fail
    refine HS.out.mono ?_
    rintro e w1 ⟨v1, rfl, o1, b1⟩
    obtain ⟨a1, p1, rfl, q1⟩ := o1.out
    go_wp2_with fail
    refine (HI.out _ b1).mono ?_
    rintro e w2 ⟨a2, p2, rfl, q2, b2⟩
    have c2 : Below w.heap.size w w2 := b1.trans (b2.mono b1.size)
    obtain rfl := q2.1
    have r1 := q1.below b2 (Nat.le_refl _)
    go_wp2_with fail
    refine (eqIntS_ok _ _ _ _ _ _ zs zs _ q2.rowI r1.rowI).mono ?_
    rintro e w3 ⟨rfl, b3⟩
    have c3 : Below w.heap.size w w3 := c2.trans (b3.mono c2.size)
    simp only [decide_true]
    have r13 := r1.below b3 (Nat.le_refl _)
    go_wp2_with fail
    refine (markIntS_ok _ _ _ _ _ _ _ (q2.below b3 (Nat.le_refl _)) (by decide) hL).mono ?_
    rintro e w4 ⟨rfl, r4, g4, z4⟩
    have c4 : Below w.heap.size w w4 := Below.ofBlk c3 g4 c3.size (fun a e => Nat.le_trans b1.size (q2.2.own a e))
    go_wp2_with fail
    refine (heldIntS_ok _ _ _ _ _ _ r4.rowI (fun i hi => marks_get _ _ _ _ hi) (by decide) hL).mono ?_
    rintro e w5 ⟨rfl, rfl⟩
    have n12 : ∀ a, a1 = some a → some a.block ≠ blkOf a2 := fun a e e' => by
      obtain ⟨a', ha', he'⟩ := Option.map_eq_some_iff.1 e'.symm
      have h1 := q2.2.own a' ha'
      have h2 := q1.2.lt a e
      omega
    have r14 := r13.grown g4 n12
    go_wp2_with fail
    refine (HI.out _ c4).mono ?_
    rintro e w6 ⟨a6, p6, rfl, q6, b6⟩
    have c6 : Below w.heap.size w w6 := c4.trans (b6.mono c4.size)
    obtain rfl := q6.1
    go_wp2_with fail
    refine (eqIntS_ok _ _ _ _ _ _ zs zs _ q6.rowI (r14.below b6 (Nat.le_refl _)).rowI).mono ?_
    rintro e w7 ⟨rfl, b7⟩
    have c7 : Below w.heap.size w w7 := c6.trans (b7.mono c6.size)
    simp only [decide_true]
    have r47 := (r4.rowI.below b6 (Nat.le_refl _)).below b7 (Nat.le_refl _)
    go_wp2_with fail
    refine (heldIntS_ok _ _ _ _ _ _ r47 (fun i hi => marks_get _ _ _ _ hi) (by decide) hL).mono ?_
    rintro e w8 ⟨rfl, rfl⟩
    go_wp2_with fail
    go_ret
    exact ⟨rfl, c7⟩

end Go.Proofs.YtlfadpfodmpneaaDoor
