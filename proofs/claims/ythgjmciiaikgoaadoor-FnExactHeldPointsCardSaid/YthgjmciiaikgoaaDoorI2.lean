/- HeldPoints on both sides, and the law FnExactHeldPoints. -/
import Derived.Test.YthgjmciiaikgoaaDoorH6
import Derived.Test.YthgjmciiaikgoaaDoorI1
import Derived.Test.YthgjmciiaikgoaaDoorS5
import Derived.Test.YthgjmciiaikgoaaDoorB1
namespace Go.Proofs.YthgjmciiaikgoaaDoor
open Go.RowKit

theorem hsT_size (ps : List ByteArray) (l : List UInt8) (hp : 0 < ps.length) : (hsT ps l).size ≤ 1048576 := by
  cases h : htB ps l with
  | false => rw [hsT_no h]; decide
  | true =>
    rw [hsT_yes h]
    have := netT_size (hsF ps l) ps.length (net_le (by rw [htB, Bool.and_eq_true] at h; exact h.1) hp)
    omega
/-- What HeldPoints gives. -/
def hpV (ps : List ByteArray) (l : List UInt8) : List Int := if htB ps l = true then fpV (cutsP 44 (hsT ps l)) else []
theorem hpV_no {ps : List ByteArray} {l : List UInt8} (h : htB ps l = false) : hpV ps l = [] := by simp [hpV, h]
theorem hpV_yes {ps : List ByteArray} {l : List UInt8} (h : htB ps l = true) : hpV ps l = fpV (cutsP 44 (hsT ps l)) := by simp [hpV, h]
theorem hpV_len (ps : List ByteArray) (l : List UInt8) : (hpV ps l).length ≤ 32 := by
  cases h : htB ps l with
  | false => rw [hpV_no h]; decide
  | true => rw [hpV_yes h]; exact fpV_len _ (cutsP_pos 44 _)

set_option maxHeartbeats 1000000 in
theorem hpS_ok (s t : ByteArray) (w : World) (hs : s.size ≤ 1048576) (ht : t.size ≤ 1048576) :
    Calls Tryd.prog 42 #[.string s, .string t] w fun e w' => ∃ v, e = .returned v ∧ OwnI w' w.heap.size v (hpV (cutsP 44 s) t.data.toList) ∧ Below w.heap.size w w' := by
  have HO := Lib.hid (hsS_ok s t w hs ht)
  have hp0 := cutsP_pos 44 s
  generalize cutsP 44 s = ps at HO hp0 ⊢
  have HF := Lib.hid (fun W => fpS_ok (hsT ps t.data.toList) W (hsT_size ps t.data.toList hp0))
  cases hb : htB ps t.data.toList with
  | false =>
    have HV := Lib.hid (hpV_no hb)
    rw [hb] at HO
    clear hb HF
    generalize hsT ps t.data.toList = u at HO
    have O0 := Lib.hid (fun W => OwnI.lit W w.heap.size [])
    go_enter Tryd.func42, Tryd.ntmps42
    go_wp2_with fail
    refine HO.out.mono ?_
    rintro e w1 ⟨rfl, b1⟩
    go_wp2_with fail
    go_ret
    exact ⟨_, rfl, by rw [HV.out]; exact O0.out w1 b1.size (by decide), b1.alloc b1.size _⟩
  | true =>
    have HV := Lib.hid (hpV_yes hb)
    rw [hb] at HO
    clear hb
    generalize hsT ps t.data.toList = u at HO HF HV
    go_enter Tryd.func42, Tryd.ntmps42
    go_wp2_with fail
    refine HO.out.mono ?_
    rintro e w1 ⟨rfl, b1⟩
    go_wp2_with fail
    refine (HF.out _).mono ?_
    rintro e w2 ⟨v2, rfl, o2, b2⟩
    go_wp2_with fail
    go_ret
    exact ⟨_, rfl, by rw [HV.out]; exact OwnI.base' o2 b1.size, b1.trans (b2.mono b1.size)⟩

set_option maxHeartbeats 1000000 in
theorem hpI_ok (s t : ByteArray) (w : World) (hs : s.size ≤ 1048576) (ht : t.size ≤ 1048576) (hm : MaxLenIs w) :
    Calls Tryd.prog 43 #[.string s, .string t] w fun e w' => ∃ v, e = .returned v ∧ OwnI w' w.heap.size v (hpV (cutsP 44 s) t.data.toList) ∧ Below w.heap.size w w' := by
  have HO := Lib.hid (hsI_ok s t w hs ht hm)
  have hp0 := cutsP_pos 44 s
  generalize cutsP 44 s = ps at HO hp0 ⊢
  have HF := Lib.hid (fun W (hW : MaxLenIs W) => fpI_ok (hsT ps t.data.toList) W (hsT_size ps t.data.toList hp0) hW)
  have HM := Lib.hid (fun W (hW : Below w.heap.size w W) => hm.below hW (Nat.le_refl _))
  cases hb : htB ps t.data.toList with
  | false =>
    have HV := Lib.hid (hpV_no hb)
    rw [hb] at HO
    clear hb HF
    generalize hsT ps t.data.toList = u at HO
    go_enter Tryd.func43, Tryd.ntmps43
    go_wp2_with fail
    refine HO.out.mono ?_
    rintro e w1 ⟨rfl, b1⟩
    go_wp2_with fail
    go_ret
    exact ⟨_, rfl, by rw [HV.out]; exact OwnI.nil _ _, b1⟩
  | true =>
    have HV := Lib.hid (hpV_yes hb)
    rw [hb] at HO
    clear hb
    generalize hsT ps t.data.toList = u at HO HF HV
    go_enter Tryd.func43, Tryd.ntmps43
    go_wp2_with fail
    refine HO.out.mono ?_
    rintro e w1 ⟨rfl, b1⟩
    go_wp2_with fail
    refine (HF.out _ (HM.out _ b1)).mono ?_
    rintro e w2 ⟨v2, rfl, o2, b2⟩
    go_wp2_with fail
    go_ret
    exact ⟨_, rfl, by rw [HV.out]; exact OwnI.base' o2 b1.size, b1.trans (b2.mono b1.size)⟩

set_option maxHeartbeats 2000000 in
theorem FnExactHeldPoints_ok (s t : ByteArray) (w : World) (_ : s.size ≤ maxLen) (_ : t.size ≤ maxLen) (hm : MaxLenIs w) :
    Calls Tryd.prog 13 #[.string s, .string t] w fun e w' => e = .returned (.bool true) ∧ Below w.heap.size w w' := by
  go_enter Tryd.func13, Tryd.ntmps13
  by_cases hb0 : 1048576 < s.size
  · go_wp2
    go_ret
    exact ⟨rfl, Below.refl _ _⟩
  by_cases hb1 : 1048576 < t.size
  · go_wp2
    go_ret
    exact ⟨rfl, Below.refl _ _⟩
  · have hs : s.size ≤ 1048576 := by omega
    have ht : t.size ≤ 1048576 := by omega
    have HM := Lib.hid (fun W (hW : Below w.heap.size w W) => hm.below hW (Nat.le_refl _))
    have HS := Lib.hid (hpS_ok s t w hs ht)
    have HI := Lib.hid (fun W hW => hpI_ok s t W hs ht hW)
    have hL0 := hpV_len (cutsP 44 s) t.data.toList
    generalize hpV (cutsP 44 s) t.data.toList = zs at HS HI hL0
    have hL : zs.length ≤ 1099511627776 := by omega
    have h1L : ¬ (1 + (zs.length : Int) < 0) := by omega
    clear hm
    go_wp2_with fail
    refine HS.out.mono ?_
    rintro e w1 ⟨v1, rfl, o1, b1⟩
    obtain ⟨a1, p1, rfl, q1⟩ := o1.out
    go_wp2_with fail
    refine (HI.out _ (HM.out _ b1)).mono ?_
    rintro e w2 ⟨v2, rfl, o2, b2⟩
    have c2 : Below w.heap.size w w2 := b1.trans (b2.mono b1.size)
    obtain ⟨a2, p2, rfl, q2⟩ := o2.out
    have r1 := q1.below b2 (Nat.le_refl _)
    go_wp2_with fail
    refine (eqIntS_ok _ _ _ _ _ _ zs zs _ q2.rowI r1.rowI).mono ?_
    rintro e w3 ⟨rfl, b3⟩
    have c3 : Below w.heap.size w w3 := c2.trans (b3.mono c2.size)
    simp only [decide_true]
    have r13 := r1.below b3 (Nat.le_refl _)
    go_wp2_with fail
    refine (markIntS_ok _ _ _ _ _ _ _ (q2.below b3 (Nat.le_refl _)) (by decide) hL).mono ?_
    rintro e w4 ⟨rfl, r4, g4, z4⟩
    have c4 : Below w.heap.size w w4 := Below.ofBlk c3 g4 c3.size (fun a e => Nat.le_trans b1.size (q2.2.own a e))
    go_wp2_with fail
    refine (heldIntS_ok _ _ _ _ _ _ r4.rowI (fun i hi => marks_get _ _ _ _ hi) (by decide) hL).mono ?_
    rintro e w5 ⟨rfl, rfl⟩
    have n12 : ∀ a, a1 = some a → some a.block ≠ blkOf a2 := fun a e e' => by
      obtain ⟨a', ha', he'⟩ := Option.map_eq_some_iff.1 e'.symm
      have h1 := q2.2.own a' ha'
      have h2 := q1.2.lt a e
      omega
    have r14 := r13.grown g4 n12
    go_wp2_with fail
    refine (HI.out _ (HM.out _ c4)).mono ?_
    rintro e w6 ⟨v6, rfl, o6, b6⟩
    have c6 : Below w.heap.size w w6 := c4.trans (b6.mono c4.size)
    obtain ⟨a6, p6, rfl, q6⟩ := o6.out
    go_wp2_with fail
    refine (eqIntS_ok _ _ _ _ _ _ zs zs _ q6.rowI (r14.below b6 (Nat.le_refl _)).rowI).mono ?_
    rintro e w7 ⟨rfl, b7⟩
    have c7 : Below w.heap.size w w7 := c6.trans (b7.mono c6.size)
    simp only [decide_true]
    have r47 := (r4.rowI.below b6 (Nat.le_refl _)).below b7 (Nat.le_refl _)
    go_wp2_with fail
    refine (heldIntS_ok _ _ _ _ _ _ r47 (fun i hi => marks_get _ _ _ _ hi) (by decide) hL).mono ?_
    rintro e w8 ⟨rfl, rfl⟩
    go_wp2_with fail
    go_ret
    exact ⟨rfl, c7⟩

end Go.Proofs.YthgjmciiaikgoaaDoor
