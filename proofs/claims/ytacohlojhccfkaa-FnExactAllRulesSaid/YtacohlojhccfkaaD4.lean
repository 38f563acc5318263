/- Walks: AllRules; the law on it. -/
import Derived.Test.YtacohlojhccfkaaD2
namespace Go.Proofs.Ytacohlojhccfkaa
open Go.RowKit Go.Maps

noncomputable def allV (zs : List (Int × Int)) (m i : Int) : Int :=
  if swB zs m i = true then (if agreeB zs i.toNat (2 ^ m.toNat - 1) zs.length = true then wrap64 (2 ^ (unV zs m).length) else 0) else -1
theorem allV_no {zs : List (Int × Int)} {m i : Int} (h : swB zs m i = false) : allV zs m i = -1 := by simp [allV, h]
theorem allV_zero {zs : List (Int × Int)} {m i : Nat} (h : swB zs m i = true) (h1 : ¬ Agree zs i (2 ^ m - 1) zs.length) : allV zs m i = 0 := by simp [allV, h, agreeB_false h1]
theorem allV_yes {zs : List (Int × Int)} {m i : Nat} (h : swB zs m i = true) (h1 : Agree zs i (2 ^ m - 1) zs.length) : allV zs m i = wrap64 (2 ^ (unV zs m).length) := by simp [allV, h, agreeB_true h1]
theorem swC_seen {zs : List (Int × Int)} {m i : Int} (h : seenB zs m = false) : swB zs m i = false := by simp [swB, h]
theorem swC_in {zs : List (Int × Int)} {m i : Int} (h : ¬ (0 ≤ i ∧ i ≤ m - 1)) : swB zs m i = false := by simp [swB, inB_false h]
theorem swC_yes {zs : List (Int × Int)} {m i : Int} (h : seenB zs m = true) (h1 : 0 ≤ i ∧ i ≤ m - 1) : swB zs m i = true := by simp [swB, h, inB_true h1]

set_option maxHeartbeats 2000000 in
theorem alS_ok (ao : Option Addr) (n c : Nat) (zs : List (Int × Int)) (m i : Int) (w : World) (h : RowS w ao n c zs) :
    Calls Try.prog 18 #[.slice ao n c, .int .i64 m, .int .i64 i] w fun e w' => e = .returned (.int .i64 (allV zs m i)) ∧ Below w.heap.size w w' := by
  cases hs : swB zs m i with
  | false =>
    have H := Lib.hid hs
    go_enter Try.func18, Try.ntmps18
    go_wp2_with (go_at_call 37; refine (l12Switch_ok _ _ _ zs _ _ _ h).mono ?_; rintro e w' ⟨rfl, rfl⟩)
    go_ret
    exact ⟨reti (allV_no H.out).symm, Below.refl _ _⟩
  | true =>
    have H := Lib.hid hs
    have hs' := hs
    simp only [swB, Bool.and_eq_true] at hs'
    obtain ⟨hm, hl, hz, hlt⟩ := seen_parts hs'.1
    have hi := inB_iff.1 hs'.2
    clear hs'
    have HT := Lib.hid (wrap_top hm)
    obtain ⟨p, rfl⟩ := Int.eq_ofNat_of_zero_le (show 0 ≤ m by omega)
    obtain ⟨j, rfl⟩ := Int.eq_ofNat_of_zero_le hi.1
    have hp : (2 ^ p : Nat) ≤ 32 := Nat.pow_le_pow_right (n := 2) (by decide) (show p ≤ 5 by omega)
    have HTop : Hid (wrap64 (wrap64 (2 ^ p) - 1) = ((2 ^ p - 1 : Nat) : Int)) := HT.out
    have HX := Lib.hid (l12Explains_ok ao n c zs j (2 ^ p - 1) (by omega) (by omega) hz w h)
    have HLen := Lib.hid h.len
    have hvl := unV_len zs p
    clear hz hlt
    go_enter Try.func18, Try.ntmps18
    go_wp2_with (first | (go_at_call 37; refine (l12Switch_ok _ _ _ zs _ _ _ h).mono ?_; rintro e w' ⟨rfl, rfl⟩))
    rw [HTop.out]
    refine HX.out.mono ?_
    rintro e w1 ⟨⟨ha, rfl⟩ | ⟨ha, rfl⟩, b1⟩
    · rw [← HLen.out] at ha
      have HA : Hid (Agree zs j (2 ^ p - 1) zs.length) := ha
      clear ha
      have HU := Lib.hid (unS_ok ao n c zs p w1 (h.below b1 (Nat.le_refl _)))
      clear h
      go_wp2_with fail
      refine HU.out.mono ?_
      rintro e w2 ⟨v2, rfl, o2, b2⟩
      obtain ⟨a2, p2, rfl, q2⟩ := o2.out
      have HR := Lib.hid (allV_yes H.out HA.out)
      clear o2 q2
      generalize (unV zs p).length = l at hvl HR
      go_wp2_with fail
      go_ret
      exact ⟨reti HR.out.symm, b1.trans (b2.mono b1.size)⟩
    · rw [← HLen.out] at ha
      have HA := Lib.hid ha
      clear ha
      go_wp2
      go_ret
      exact ⟨reti (allV_zero H.out HA.out).symm, b1⟩

set_option maxHeartbeats 2000000 in
theorem alI_ok (ao : Option Addr) (n c : Nat) (zs : List (Int × Int)) (m i : Int) (w : World) (h : RowS w ao n c zs) :
    Calls Try.prog 19 #[.slice ao n c, .int .i64 m, .int .i64 i] w fun e w' => e = .returned (.int .i64 (allV zs m i)) ∧ Below w.heap.size w w' := by
  have HV := Lib.hid (svI_ok ao n c zs m w h)
  cases hs : seenB zs m with
  | false =>
    have H := Lib.hid hs
    go_enter Try.func19, Try.ntmps19
    go_wp2_with fail
    refine HV.out.mono ?_
    rintro e w1 ⟨rfl, b1⟩
    go_wp2
    go_ret
    exact ⟨reti (allV_no (swC_seen H.out)).symm, b1⟩
  | true =>
    have H := Lib.hid hs
    obtain ⟨hm, hl, hz, hlt⟩ := seen_parts hs
    by_cases i0 : i < 0
    · have HI := Lib.hid (swC_in (zs := zs) (show ¬ (0 ≤ i ∧ i ≤ m - 1) by omega))
      go_enter Try.func19, Try.ntmps19
      go_wp2_with fail
      refine HV.out.mono ?_
      rintro e w1 ⟨rfl, b1⟩
      go_wp2
      go_ret
      exact ⟨reti (allV_no HI.out).symm, b1⟩
    by_cases i1 : m ≤ i
    · have HI := Lib.hid (swC_in (zs := zs) (show ¬ (0 ≤ i ∧ i ≤ m - 1) by omega))
      go_enter Try.func19, Try.ntmps19
      go_wp2_with fail
      refine HV.out.mono ?_
      rintro e w1 ⟨rfl, b1⟩
      go_wp2
      go_ret
      exact ⟨reti (allV_no HI.out).symm, b1⟩
    have HI := Lib.hid (swC_yes hs (show 0 ≤ i ∧ i ≤ m - 1 by omega))
    have HT := Lib.hid (wrap_top hm)
    obtain ⟨p, rfl⟩ := Int.eq_ofNat_of_zero_le (show 0 ≤ m by omega)
    obtain ⟨j, rfl⟩ := Int.eq_ofNat_of_zero_le (show 0 ≤ i by omega)
    have hpj : ¬ p ≤ j := by omega
    have hp : (2 ^ p : Nat) ≤ 32 := Nat.pow_le_pow_right (n := 2) (by decide) (show p ≤ 5 by omega)
    have HTop : Hid (wrap64 (wrap64 (2 ^ p) - 1) = ((2 ^ p - 1 : Nat) : Int)) := HT.out
    have HX := Lib.hid (fun W hW => values_ok ao n c zs j (2 ^ p - 1) (by omega) (by omega) hz W hW)
    have HLen := Lib.hid h.len
    have hvl := unV_len zs p
    clear hz hlt
    go_enter Try.func19, Try.ntmps19
    go_wp2_with fail
    refine HV.out.mono ?_
    rintro e w1 ⟨rfl, b1⟩
    go_wp2_with fail
    rw [HTop.out]
    refine (HX.out _ (h.below b1 (Nat.le_refl _))).mono ?_
    rintro e w2 ⟨⟨ha, rfl, -⟩ | ⟨ha, rfl⟩, b2⟩
    · rw [← HLen.out] at ha
      have HA : Hid (Agree zs j (2 ^ p - 1) zs.length) := ha
      clear ha
      have c2 : Below w.heap.size w w2 := b1.trans (b2.mono b1.size)
      have HU := Lib.hid (unI_ok ao n c zs p w2 (h.below c2 (Nat.le_refl _)))
      clear h
      go_wp2_with fail
      refine HU.out.mono ?_
      rintro e w3 ⟨a3, l3, rfl, q3, b3⟩
      have hq := q3.1
      have HR := Lib.hid (allV_yes HI.out HA.out)
      clear q3
      rw [hq] at hvl HR
      clear hq
      go_wp2_with fail
      go_ret
      exact ⟨reti HR.out.symm, c2.trans (b3.mono c2.size)⟩
    · rw [← HLen.out] at ha
      have HA := Lib.hid ha
      clear ha
      go_wp2
      go_ret
      exact ⟨reti (allV_zero HI.out HA.out).symm, b1.trans (b2.mono b1.size)⟩

set_option maxHeartbeats 1000000 in
theorem FnExactAllRules_ok (ao : Option Addr) (n c : Nat) (zs : List (Int × Int)) (m i : Int) (w : World) (h : RowS w ao n c zs) :
    Calls Try.prog 4 #[.slice ao n c, .int .i64 m, .int .i64 i] w fun e w' => e = .returned (.bool true) ∧ Below w.heap.size w w' := by
  have hml := h.cap
  have hml' := h.le
  by_cases hbig : n ≤ 1048576
  rotate_left
  · go_enter Try.func4, Try.ntmps4
    go_wp2_with fail
    refine (szSeenS_ok ao n c w (by omega)).mono ?_
    rintro e w1 ⟨rfl, rfl⟩
    rw [if_neg hbig]
    go_wp2_with fail
    go_ret
    exact ⟨rfl, Below.refl _ _⟩
  · have hn : n * 16 ≤ 281474976710656 := by omega
    have h2 : ¬ (1048576 - (n : Int) < 0) := by omega
    go_enter Try.func4, Try.ntmps4
    go_wp2_with fail
    refine (szSeenS_ok ao n c w (by omega)).mono ?_
    rintro e w0 ⟨rfl, rfl⟩
    rw [if_pos hbig]
    go_wp2_with fail
    refine (toSeenS_ok _ _ _ zs _ h hn).mono ?_
    rintro e w1 ⟨g1, hg1, rfl, k1, b1⟩
    go_wp2_with fail
    refine (alS_ok _ _ _ zs _ _ _ (RowS.of_blk k1 h.len (by omega))).mono ?_
    rintro e w2 ⟨rfl, b2⟩
    have c2 : Below w.heap.size w w2 := b1.trans (b2.mono b1.size)
    go_wp2_with fail
    refine (toSeenS_ok _ _ _ zs _ (h.below c2 (Nat.le_refl _)) hn).mono ?_
    rintro e w3 ⟨g3, hg3, rfl, k3, b3⟩
    have c3 : Below w.heap.size w w3 := c2.trans (b3.mono c2.size)
    go_wp2_with fail
    refine (alI_ok _ _ _ zs _ _ _ (RowS.of_blk k3 h.len (by omega))).mono ?_
    rintro e w4 ⟨rfl, b4⟩
    have c4 : Below w.heap.size w w4 := c3.trans (b4.mono c3.size)
    have k4 := k3.below b4 k3.lt
    go_wp2_with fail
    refine (toSeenS_ok _ _ _ zs _ (h.below c4 (Nat.le_refl _)) hn).mono ?_
    rintro e w5 ⟨g5, hg5, rfl, k5, b5⟩
    have c5 : Below w.heap.size w w5 := c4.trans (b5.mono c4.size)
    go_wp2_with fail
    refine (eqSeenS_ok _ _ _ _ _ _ zs zs _ (RowS.of_blk (k4.below b5 k4.lt) h.len (by omega)) (RowS.of_blk k5 h.len (by omega))).mono ?_
    rintro e w6 ⟨rfl, b6⟩
    have c6 : Below w.heap.size w w6 := c5.trans (b6.mono c5.size)
    simp only [decide_true]
    go_wp2_with fail
    go_ret
    exact ⟨rfl, c6⟩


end Go.Proofs.Ytacohlojhccfkaa
