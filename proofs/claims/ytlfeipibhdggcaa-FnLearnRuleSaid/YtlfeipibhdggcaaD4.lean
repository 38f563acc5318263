/- Walks: AllRules; the law on it. -/
import Derived.Test.YtlfeipibhdggcaaD2
namespace Go.Proofs.Ytlfeipibhdggcaa
open Go.RowKit Go.Maps

noncomputable def allV (zs : List (Int × Int)) (m i : Int) : Int :=
  if swB zs m i = true then (if agreeB zs i.toNat (2 ^ m.toNat - 1) zs.length = true then wrap64 (2 ^ (unV zs m).length) else 0) else -1
theorem allV_no {zs : List (Int × Int)} {m i : Int} (h : swB zs m i = false) : allV zs m i = -1 := by simp [allV, h]
theorem allV_zero {zs : List (Int × Int)} {m i : Nat} (h : swB zs m i = true) (h1 : ¬ Agree zs i (2 ^ m - 1) zs.length) : allV zs m i = 0 := by simp [allV, h, agreeB_false h1]
theorem allV_yes {zs : List (Int × Int)} {m i : Nat} (h : swB zs m i = true) (h1 : Agree zs i (2 ^ m - 1) zs.length) : allV zs m i = wrap64 (2 ^ (unV zs m).length) := by simp [allV, h, agreeB_true h1]
theorem swC_seen {zs : List (Int × Int)} {m i : Int} (h : seenB zs m = false) : swB zs m i = false := by simp [swB, h]
theorem swC_in {zs : List (Int × Int)} {m i : Int} (h : ¬ (0 ≤ i ∧ i ≤ m - 1)) : swB zs m i = false := by simp [swB, inB_false h]
theorem swC_yes {zs : List (Int × Int)} {m i : Int} (h : seenB zs m = true) (h1 : 0 ≤ i ∧ i ≤ m - 1) : swB zs m i = true := by simp [swB, h, inB_true h1]

set_option maxHeartbeats 2000000 in
theorem alS_ok (ao : Option Addr) (n c : Nat) (zs : List (Int × Int)) (m i : Int) (w : World) (h : RowS w ao n c zs) :
    Calls Try.prog 17 #[.slice ao n c, .int .i64 m, .int .i64 i] w fun e w' => e = .returned (.int .i64 (allV zs m i)) ∧ Below w.heap.size w w' := by
  cases hs : swB zs m i with
  | false =>
    have H := Lib.hid hs
    go_enter Try.func17, Try.ntmps17
    go_wp2_with (go_at_call 28; refine (l12Switch_ok _ _ _ zs _ _ _ h).mono ?_; rintro e w' ⟨rfl, rfl⟩)
    go_ret
    exact ⟨reti (allV_no H.out).symm, Below.refl _ _⟩
  | true =>
    have H := Lib.hid hs
    have hs' := hs
    simp only [swB, Bool.and_eq_true] at hs'
    obtain ⟨hm, hl, hz, hlt⟩ := seen_parts hs'.1
    have hi := inB_iff.1 hs'.2
    clear hs'
    have HT := Lib.hid (wrap_top hm)
    obtain ⟨p, rfl⟩ := Int.eq_ofNat_of_zero_le (show 0 ≤ m by omega)
    obtain ⟨j, rfl⟩ := Int.eq_ofNat_of_zero_le hi.1
    have hp : (2 ^ p : Nat) ≤ 32 := Nat.pow_le_pow_right (n := 2) (by decide) (show p ≤ 5 by omega)
    have HTop : Hid (wrap64 (wrap64 (2 ^ p) - 1) = ((2 ^ p - 1 : Nat) : Int)) := HT.out
    have HX := Lib.hid (l12Explains_ok ao n c zs j (2 ^ p - 1) (by omega) (by omega) hz w h)
    have HLen := Lib.hid h.len
    have hvl := unV_len zs p
    clear hz hlt
    go_enter Try.func17, Try.ntmps17
    go_wp2_with (first | (go_at_call 28; refine (l12Switch_ok _ _ _ zs _ _ _ h).mono ?_; rintro e w' ⟨rfl, rfl⟩))
    rw [HTop.out]
    refine HX.out.mono ?_
    rintro e w1 ⟨⟨ha, rfl⟩ | ⟨ha, rfl⟩, b1⟩
    · rw [← HLen.out] at ha
      have HA : Hid (Agree zs j (2 ^ p - 1) zs.length) := ha
      clear ha
      have HU := Lib.hid (unS_ok ao n c zs p w1 (h.below b1 (Nat.le_refl _)))
      clear h
      go_wp2_with fail
      refine HU.out.mono ?_
      rintro e w2 ⟨v2, rfl, o2, b2⟩
      obtain ⟨a2, p2, rfl, q2⟩ := o2.out
      have HR := Lib.hid (allV_yes H.out HA.out)
      clear o2 q2
      generalize (unV zs p).length = l at hvl HR
      go_wp2_with fail
      go_ret
      exact ⟨reti HR.out.symm, b1.trans (b2.mono b1.size)⟩
    · rw [← HLen.out] at ha
      have HA := Lib.hid ha
      clear ha
      go_wp2
      go_ret
      exact ⟨reti (allV_zero H.out HA.out).symm, b1⟩

set_option maxHeartbeats 2000000 in
theorem alI_ok (ao : Option Addr) (n c : Nat) (zs : List (Int × Int)) (m i : Int) (w : World) (h : RowS w ao n c zs) :
    Calls Try.prog 9 #[.slice ao n c, .int .i64 m, .int .i64 i] w fun e w' => e = .returned (.int .i64 (allV zs m i)) ∧ Below w.heap.size w w' := by
  have HV := Lib.hid (svI_ok ao n c zs m w h)
  cases hs : seenB zs m with
  | false =>
    have H := Lib.hid hs
    go_enter Try.func9, Try.ntmps9
    go_wp2_with fail
    refine HV.out.mono ?_
    rintro e w1 ⟨rfl, b1⟩
    go_wp2
    go_ret
    exact ⟨reti (allV_no (swC_seen H.out)).symm, b1⟩
  | true =>
    have H := Lib.hid hs
    obtain ⟨hm, hl, hz, hlt⟩ := seen_parts hs
    by_cases i0 : i < 0
    · have HI := Lib.hid (swC_in (zs := zs) (show ¬ (0 ≤ i ∧ i ≤ m - 1) by omega))
      go_enter Try.func9, Try.ntmps9
      go_wp2_with fail
      refine HV.out.mono ?_
      rintro e w1 ⟨rfl, b1⟩
      go_wp2
      go_ret
      exact ⟨reti (allV_no HI.out).symm, b1⟩
    by_cases i1 : m ≤ i
    · have HI := Lib.hid (swC_in (zs := zs) (show ¬ (0 ≤ i ∧ i ≤ m - 1) by omega))
      go_enter Try.func9, Try.ntmps9
      go_wp2_with fail
      refine HV.out.mono ?_
      rintro e w1 ⟨rfl, b1⟩
      go_wp2
      go_ret
      exact ⟨reti (allV_no HI.out).symm, b1⟩
    have HI := Lib.hid (swC_yes hs (show 0 ≤ i ∧ i ≤ m - 1 by omega))
    have HT := Lib.hid (wrap_top hm)
    obtain ⟨p, rfl⟩ := Int.eq_ofNat_of_zero_le (show 0 ≤ m by omega)
    obtain ⟨j, rfl⟩ := Int.eq_ofNat_of_zero_le (show 0 ≤ i by omega)
    have hpj : ¬ p ≤ j := by omega
    have hp : (2 ^ p : Nat) ≤ 32 := Nat.pow_le_pow_right (n := 2) (by decide) (show p ≤ 5 by omega)
    have HTop : Hid (wrap64 (wrap64 (2 ^ p) - 1) = ((2 ^ p - 1 : Nat) : Int)) := HT.out
    have HX := Lib.hid (fun W hW => values_ok ao n c zs j (2 ^ p - 1) (by omega) (by omega) hz W hW)
    have HLen := Lib.hid h.len
    have hvl := unV_len zs p
    clear hz hlt
    go_enter Try.func9, Try.ntmps9
    go_wp2_with fail
    refine HV.out.mono ?_
    rintro e w1 ⟨rfl, b1⟩
    go_wp2_with fail
    rw [HTop.out]
    refine (HX.out _ (h.below b1 (Nat.le_refl _))).mono ?_
    rintro e w2 ⟨⟨ha, rfl, -⟩ | ⟨ha, rfl⟩, b2⟩
    · rw [← HLen.out] at ha
      have HA : Hid (Agree zs j (2 ^ p - 1) zs.length) := ha
      clear ha
      have c2 : Below w.heap.size w w2 := b1.trans (b2.mono b1.size)
      have HU := Lib.hid (unI_ok ao n c zs p w2 (h.below c2 (Nat.le_refl _)))
      clear h
      go_wp2_with fail
      refine HU.out.mono ?_
      rintro e w3 ⟨a3, l3, rfl, q3, b3⟩
      have hq := q3.1
      have HR := Lib.hid (allV_yes HI.out HA.out)
      clear q3
      rw [hq] at hvl HR
      clear hq
      go_wp2_with fail
      go_ret
      exact ⟨reti HR.out.symm, c2.trans (b3.mono c2.size)⟩
    · rw [← HLen.out] at ha
      have HA := Lib.hid ha
      clear ha
      go_wp2
      go_ret
      exact ⟨reti (allV_zero HI.out HA.out).symm, b1.trans (b2.mono b1.size)⟩

end Go.Proofs.Ytlfeipibhdggcaa
