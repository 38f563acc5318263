/- Walks: Explains, IsPossible. -/
import Derived.Test.YtlfeipibhdggcaaA6
namespace Go.Proofs.Ytlfeipibhdggcaa
open Go.RowKit Go.Maps

theorem seen_parts {zs : List (Int × Int)} {m : Int} (h : seenB zs m = true) : (1 ≤ m ∧ m ≤ 5) ∧ zs.length ≤ 32 ∧ Small zs ∧ ∀ k, k < zs.length → (gS zs k).1 < 2 ^ m.toNat ∧ (gS zs k).2 < 2 ^ m.toNat := by
  simp only [seenB, Bool.and_eq_true, decide_eq_true_iff] at h
  obtain ⟨⟨hm, hl⟩, ha⟩ := h
  have hp : (2 ^ m.toNat : Nat) ≤ 32 := Nat.pow_le_pow_right (n := 2) (by decide) (show m.toNat ≤ 5 by omega)
  have hc : ((2 ^ m.toNat : Nat) : Int) = 2 ^ m.toNat := by simp
  have key : ∀ k, k < zs.length → okS (2 ^ m.toNat) (gS zs k) = true := fun k hk => by
    rw [show gS zs k = zs[k] by simp [gS, List.getD, hk]]
    exact List.all_eq_true.1 ha _ (List.getElem_mem _)
  refine ⟨hm, hl, fun k hk => ?_, fun k hk => ?_⟩
  · obtain ⟨a, b, c, d⟩ := okS_iff.1 (key k hk)
    exact ⟨a, by omega, c, by omega⟩
  · obtain ⟨a, b, c, d⟩ := okS_iff.1 (key k hk)
    exact ⟨b, d⟩

open Classical in
noncomputable def agreeB (zs : List (Int × Int)) (i inp n : Nat) : Bool := decide (Agree zs i inp n)
theorem agreeB_true {zs : List (Int × Int)} {i inp n : Nat} (h : Agree zs i inp n) : agreeB zs i inp n = true := by simp [agreeB, h]
theorem agreeB_false {zs : List (Int × Int)} {i inp n : Nat} (h : ¬ Agree zs i inp n) : agreeB zs i inp n = false := by simp [agreeB, h]
theorem agreeB_iff {zs : List (Int × Int)} {i inp n : Nat} : agreeB zs i inp n = true ↔ Agree zs i inp n := by simp [agreeB]

/-- Whether a set of inputs explains a switch. -/
noncomputable def explV (zs : List (Int × Int)) (m i inp : Int) : Bool :=
  seenB zs m && inB i 0 (m - 1) && inB inp 0 (2 ^ m.toNat - 1) && agreeB zs i.toNat inp.toNat zs.length

def swB (zs : List (Int × Int)) (m i : Int) : Bool := seenB zs m && inB i 0 (m - 1)

set_option maxHeartbeats 400000 in
theorem l12Switch_ok (ao : Option Addr) (n c : Nat) (zs : List (Int × Int)) (m i : Int) (w : World) (h : RowS w ao n c zs) :
    Calls Try.prog 28 #[.slice ao n c, .int .i64 m, .int .i64 i] w fun e w' => e = .returned (.bool (swB zs m i)) ∧ w = w' := by
  cases hs : seenB zs m with
  | false =>
    have H := Lib.hid hs
    go_enter Try.func28, Try.ntmps28
    go_wp2_with (go_at_call 41; refine (svS_ok _ _ _ zs _ _ h).mono ?_; rintro e w' ⟨rfl, rfl⟩)
    go_ret
    exact ⟨retb (by simp [swB, H.out]), rfl⟩
  | true =>
    have H := Lib.hid hs
    obtain ⟨hm, -⟩ := seen_parts hs
    go_enter Try.func28, Try.ntmps28
    go_wp2_with (first | (go_at_call 41; refine (svS_ok _ _ _ zs _ _ h).mono ?_; rintro e w' ⟨rfl, rfl⟩) | (go_at_call 29; refine (l1In_ok _ _ _ _).mono ?_; rintro e w' ⟨rfl, rfl⟩))
    go_ret
    exact ⟨retb (by simp [swB, H.out]), rfl⟩

set_option maxHeartbeats 1000000 in
theorem exS_ok (ao : Option Addr) (n c : Nat) (zs : List (Int × Int)) (m i inp : Int) (w : World) (h : RowS w ao n c zs) :
    Calls Try.prog 8 #[.slice ao n c, .int .i64 m, .int .i64 i, .int .i64 inp] w fun e w' => e = .returned (.bool (explV zs m i inp)) ∧ Below w.heap.size w w' := by
  cases hs : swB zs m i with
  | false =>
    have H := Lib.hid hs
    go_enter Try.func8, Try.ntmps8
    go_wp2_with (go_at_call 28; refine (l12Switch_ok _ _ _ zs _ _ _ h).mono ?_; rintro e w' ⟨rfl, rfl⟩)
    go_ret
    exact ⟨retb (by have := H.out; unfold swB at this; rw [explV, this]; rfl), Below.refl _ _⟩
  | true =>
    have H := Lib.hid hs
    have hs' := hs
    simp only [swB, Bool.and_eq_true] at hs'
    obtain ⟨hm, hl, hz, hlt⟩ := seen_parts hs'.1
    have hi := inB_iff.1 hs'.2
    have HT := Lib.hid (wrap_top hm)
    have hp : (2 ^ m.toNat : Nat) ≤ 32 := Nat.pow_le_pow_right (n := 2) (by decide) (show m.toNat ≤ 5 by omega)
    have HC := Lib.hid (show ((2 ^ m.toNat : Nat) : Int) = 2 ^ m.toNat by simp)
    have hp0 : 0 < (2 ^ m.toNat : Nat) := Nat.two_pow_pos _
    have HE : Hid (((2 ^ m.toNat - 1 : Nat) : Int) = 2 ^ m.toNat - 1) := by have := HC.out; unfold Hid; omega
    clear hs'
    cases hb : inB inp 0 (2 ^ m.toNat - 1) with
    | false =>
      have hb' : inB inp 0 (wrap64 (wrap64 (2 ^ m.toNat) - 1)) = false := by rw [HT.out, HE.out]; exact hb
      have HB := Lib.hid hb
      clear hb
      go_enter Try.func8, Try.ntmps8
      go_wp2_with (first | (go_at_call 28; refine (l12Switch_ok _ _ _ zs _ _ _ h).mono ?_; rintro e w' ⟨rfl, rfl⟩) | (go_at_call 29; refine (l1In_ok _ _ _ _).mono ?_; rintro e w' ⟨rfl, rfl⟩))
      go_ret
      exact ⟨retb (by rw [explV, HB.out]; simp), Below.refl _ _⟩
    | true =>
      have hb' : inB inp 0 (wrap64 (wrap64 (2 ^ m.toNat) - 1)) = true := by rw [HT.out, HE.out]; exact hb
      have HB := Lib.hid hb
      have hr := inB_iff.1 hb
      clear hb
      have hin : 0 ≤ inp ∧ inp < 32 := by have := HC.out; omega
      clear hr
      obtain ⟨q, rfl⟩ := Int.eq_ofNat_of_zero_le hin.1
      obtain ⟨j, rfl⟩ := Int.eq_ofNat_of_zero_le hi.1
      have HX := Lib.hid (l12Explains_ok ao n c zs j q (by omega) (by omega) hz w h)
      have HLen := Lib.hid h.len
      clear hz hlt
      go_enter Try.func8, Try.ntmps8
      go_wp2_with (first | (go_at_call 28; refine (l12Switch_ok _ _ _ zs _ _ _ h).mono ?_; rintro e w' ⟨rfl, rfl⟩) | (go_at_call 29; refine (l1In_ok _ _ _ _).mono ?_; rintro e w' ⟨rfl, rfl⟩))
      refine HX.out.mono ?_
      rintro e w1 ⟨⟨ha, rfl⟩ | ⟨ha, rfl⟩, b1⟩
      all_goals
        have HG := Lib.hid ha
        clear ha
        go_wp2
        go_ret
      · exact ⟨retb (by have := H.out; unfold swB at this; rw [explV, this, HB.out, Int.toNat_natCast, Int.toNat_natCast, HLen.out, agreeB_true HG.out]; rfl), b1⟩
      · exact ⟨retb (by rw [explV, Int.toNat_natCast, Int.toNat_natCast, HLen.out, agreeB_false HG.out]; simp), b1⟩

set_option maxHeartbeats 1000000 in
theorem exI_ok (ao : Option Addr) (n c : Nat) (zs : List (Int × Int)) (m i inp : Int) (w : World) (h : RowS w ao n c zs) :
    Calls Try.prog 7 #[.slice ao n c, .int .i64 m, .int .i64 i, .int .i64 inp] w fun e w' => e = .returned (.bool (explV zs m i inp)) ∧ Below w.heap.size w w' := by
  have HV := Lib.hid (svI_ok ao n c zs m w h)
  cases hs : seenB zs m with
  | false =>
    have H := Lib.hid hs
    go_enter Try.func7, Try.ntmps7
    go_wp2_with fail
    refine HV.out.mono ?_
    rintro e w1 ⟨rfl, b1⟩
    go_wp2
    go_ret
    exact ⟨retb (by rw [explV, H.out]; rfl), b1⟩
  | true =>
    have H := Lib.hid hs
    obtain ⟨hm, hl, hz, hlt⟩ := seen_parts hs
    by_cases i0 : i < 0
    · have HI := Lib.hid (inB_false (show ¬ (0 ≤ i ∧ i ≤ m - 1) by omega))
      go_enter Try.func7, Try.ntmps7
      go_wp2_with fail
      refine HV.out.mono ?_
      rintro e w1 ⟨rfl, b1⟩
      go_wp2
      go_ret
      exact ⟨retb (by rw [explV, HI.out]; simp), b1⟩
    by_cases i1 : m ≤ i
    · have HI := Lib.hid (inB_false (show ¬ (0 ≤ i ∧ i ≤ m - 1) by omega))
      go_enter Try.func7, Try.ntmps7
      go_wp2_with fail
      refine HV.out.mono ?_
      rintro e w1 ⟨rfl, b1⟩
      go_wp2
      go_ret
      exact ⟨retb (by rw [explV, HI.out]; simp), b1⟩
    have HI := Lib.hid (inB_true (show 0 ≤ i ∧ i ≤ m - 1 by omega))
    have HP := Lib.hid (wrap_pow hm)
    have hp : (2 ^ m.toNat : Nat) ≤ 32 := Nat.pow_le_pow_right (n := 2) (by decide) (show m.toNat ≤ 5 by omega)
    have HC := Lib.hid (show ((2 ^ m.toNat : Nat) : Int) = 2 ^ m.toNat by simp)
    by_cases q0 : inp < 0
    · have HB := Lib.hid (inB_false (show ¬ (0 ≤ inp ∧ inp ≤ 2 ^ m.toNat - 1) by omega))
      go_enter Try.func7, Try.ntmps7
      go_wp2_with fail
      refine HV.out.mono ?_
      rintro e w1 ⟨rfl, b1⟩
      go_wp2
      go_ret
      exact ⟨retb (by rw [explV, HB.out]; simp), b1⟩
    by_cases q1 : wrap64 (2 ^ m.toNat) ≤ inp
    · have HB := Lib.hid (inB_false (show ¬ (0 ≤ inp ∧ inp ≤ 2 ^ m.toNat - 1) by rw [HP.out, HC.out] at q1; omega))
      go_enter Try.func7, Try.ntmps7
      go_wp2_with fail
      refine HV.out.mono ?_
      rintro e w1 ⟨rfl, b1⟩
      go_wp2
      go_ret
      exact ⟨retb (by rw [explV, HB.out]; simp), b1⟩
    have hin : inp < 2 ^ m.toNat := by rw [HP.out, HC.out] at q1; omega
    have hin32 : inp < 32 := by have := HC.out; omega
    have HB := Lib.hid (inB_true (show 0 ≤ inp ∧ inp ≤ 2 ^ m.toNat - 1 by omega))
    clear hin
    obtain ⟨q, rfl⟩ := Int.eq_ofNat_of_zero_le (show 0 ≤ inp by omega)
    obtain ⟨j, rfl⟩ := Int.eq_ofNat_of_zero_le (show 0 ≤ i by omega)
    have HX := Lib.hid (fun W hW => values_ok ao n c zs j q (by omega) (by omega) hz W hW)
    have HLen := Lib.hid h.len
    clear hz hlt
    go_enter Try.func7, Try.ntmps7
    go_wp2_with fail
    refine HV.out.mono ?_
    rintro e w1 ⟨rfl, b1⟩
    go_wp2_with fail
    refine (HX.out _ (h.below b1 (Nat.le_refl _))).mono ?_
    rintro e w2 ⟨⟨ha, rfl, -⟩ | ⟨ha, rfl⟩, b2⟩
    all_goals
      have HG := Lib.hid ha
      clear ha
      go_wp2
      go_ret
    · exact ⟨retb (by rw [explV, H.out, HI.out, HB.out, Int.toNat_natCast, Int.toNat_natCast, HLen.out, agreeB_true HG.out]; rfl), b1.trans (b2.mono b1.size)⟩
    · exact ⟨retb (by rw [explV, Int.toNat_natCast, Int.toNat_natCast, HLen.out, agreeB_false HG.out]; simp), b1.trans (b2.mono b1.size)⟩

end Go.Proofs.Ytlfeipibhdggcaa
