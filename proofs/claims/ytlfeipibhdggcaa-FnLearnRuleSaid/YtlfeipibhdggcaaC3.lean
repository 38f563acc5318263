/- Walks: LeastInputs; the law on it. -/
import Derived.Test.YtlfeipibhdggcaaC2
namespace Go.Proofs.Ytlfeipibhdggcaa
open Go.RowKit Go.Maps

theorem leastI_no {zs : List (Int × Int)} {m i : Int} (h : swB zs m i = false) : leastI zs m i = -2 := by simp [leastI, h]
theorem leastI_yes {zs : List (Int × Int)} {m i : Int} (h : swB zs m i = true) : leastI zs m i = least (Exp zs i.toNat) (2 ^ m.toNat) := by simp [leastI, h]

set_option maxHeartbeats 1000000 in
theorem leS_ok (ao : Option Addr) (n c : Nat) (zs : List (Int × Int)) (m i : Int) (w : World) (h : RowS w ao n c zs) :
    Calls Try.prog 12 #[.slice ao n c, .int .i64 m, .int .i64 i] w fun e w' => e = .returned (.int .i64 (leastI zs m i)) ∧ Below w.heap.size w w' := by
  cases hs : swB zs m i with
  | false =>
    have H := Lib.hid hs
    go_enter Try.func12, Try.ntmps12
    go_wp2_with (go_at_call 28; refine (l12Switch_ok _ _ _ zs _ _ _ h).mono ?_; rintro e w' ⟨rfl, rfl⟩)
    go_ret
    exact ⟨reti (leastI_no H.out).symm, Below.refl _ _⟩
  | true =>
    have H := Lib.hid hs
    have hs' := hs
    simp only [swB, Bool.and_eq_true] at hs'
    obtain ⟨hm, hl, hz, hlt⟩ := seen_parts hs'.1
    have hi := inB_iff.1 hs'.2
    clear hs'
    obtain ⟨p, rfl⟩ := Int.eq_ofNat_of_zero_le (show 0 ≤ m by omega)
    obtain ⟨j, rfl⟩ := Int.eq_ofNat_of_zero_le hi.1
    have HX := Lib.hid (l12Least_ok ao n c zs p j (by omega) (by omega) hz w h)
    clear hz hlt
    go_enter Try.func12, Try.ntmps12
    go_wp2_with (first | (go_at_call 28; refine (l12Switch_ok _ _ _ zs _ _ _ h).mono ?_; rintro e w' ⟨rfl, rfl⟩))
    refine HX.out.mono ?_
    rintro e w1 ⟨rfl, b1⟩
    go_wp2
    go_ret
    exact ⟨reti (leastI_yes H.out).symm, b1⟩

theorem swB_seen {zs : List (Int × Int)} {m i : Int} (h : seenB zs m = false) : swB zs m i = false := by simp [swB, h]
theorem swB_in {zs : List (Int × Int)} {m i : Int} (h : ¬ (0 ≤ i ∧ i ≤ m - 1)) : swB zs m i = false := by simp [swB, inB_false h]
theorem swB_yes {zs : List (Int × Int)} {m i : Int} (h : seenB zs m = true) (h1 : 0 ≤ i ∧ i ≤ m - 1) : swB zs m i = true := by simp [swB, h, inB_true h1]

theorem takeC {s k : Nat} (h : ¬ popN s ≤ popN k) (t : Nat) (ht : (s : Int) = t) : popN k < popN t := by
  have e : s = t := by omega
  rw [← e]; omega

set_option maxHeartbeats 4000000 in
theorem leI_ok (ao : Option Addr) (n c : Nat) (zs : List (Int × Int)) (m i : Int) (w : World) (h : RowS w ao n c zs) :
    Calls Try.prog 11 #[.slice ao n c, .int .i64 m, .int .i64 i] w fun e w' => e = .returned (.int .i64 (leastI zs m i)) ∧ Below w.heap.size w w' := by
  have HV := Lib.hid (svI_ok ao n c zs m w h)
  cases hs : seenB zs m with
  | false =>
    have H := Lib.hid hs
    go_enter Try.func11, Try.ntmps11
    go_wp2_with fail
    refine HV.out.mono ?_
    rintro e w1 ⟨rfl, b1⟩
    go_wp2
    go_ret
    exact ⟨reti (leastI_no (swB_seen H.out)).symm, b1⟩
  | true =>
    have H := Lib.hid hs
    obtain ⟨hm, hl, hz, hlt⟩ := seen_parts hs
    by_cases i0 : i < 0
    · have HI := Lib.hid (swB_in (zs := zs) (show ¬ (0 ≤ i ∧ i ≤ m - 1) by omega))
      go_enter Try.func11, Try.ntmps11
      go_wp2_with fail
      refine HV.out.mono ?_
      rintro e w1 ⟨rfl, b1⟩
      go_wp2
      go_ret
      exact ⟨reti (leastI_no HI.out).symm, b1⟩
    by_cases i1 : m ≤ i
    · have HI := Lib.hid (swB_in (zs := zs) (show ¬ (0 ≤ i ∧ i ≤ m - 1) by omega))
      go_enter Try.func11, Try.ntmps11
      go_wp2_with fail
      refine HV.out.mono ?_
      rintro e w1 ⟨rfl, b1⟩
      go_wp2
      go_ret
      exact ⟨reti (leastI_no HI.out).symm, b1⟩
    have HI := Lib.hid (swB_yes hs (show 0 ≤ i ∧ i ≤ m - 1 by omega))
    obtain ⟨p, rfl⟩ := Int.eq_ofNat_of_zero_le (show 0 ≤ m by omega)
    obtain ⟨j, rfl⟩ := Int.eq_ofNat_of_zero_le (show 0 ≤ i by omega)
    have hpj : ¬ p ≤ j := by omega
    have hpj2 : decide (p ≤ j) = false := decide_eq_false hpj
    have HP : Hid (wrap64 (2 ^ p) = ((2 ^ p : Nat) : Int)) := wrap_pow_nat p (by omega)
    have hp32 : (2 ^ p : Nat) ≤ 32 := Nat.pow_le_pow_right (n := 2) (by decide) (show p ≤ 5 by omega)
    have HLen := Lib.hid h.len
    have HR : Hid (leastI zs (p : Int) (j : Int) = least (Exp zs j) (2 ^ p)) := (leastI_yes HI.out)
    clear HI hlt
    generalize hN : (2 ^ p : Nat) = N at hp32 HP HR
    clear hN
    go_enter Try.func11, Try.ntmps11
    go_wp2_with fail
    refine HV.out.mono ?_
    rintro e w0 ⟨rfl, b0⟩
    go_wp2_with fail
    rw [HP.out]
    go_loopw [7, 26] (fun b s wr => ∃ (k : Nat) (r : Int), k ≤ N ∧ s = .int .i64 k ∧ b = .int .i64 r ∧ Best (Exp zs j) 0 k r ∧ Below w.heap.size w wr) (fun _ s _ => N - (intOf s).toNat)
    case atStart => exact ⟨0, -1, Nat.zero_le _, rfl, rfl, Best.start _ _, b0⟩
    case round =>
      obtain ⟨k, r, hk, rfl, rfl, hbest, hb⟩ := hrel
      have HB := Lib.hid hbest
      have hrr := hbest.range
      clear hbest
      by_cases hk0 : k < N
      · have hkN : (k : Int) < (N : Int) := by omega
        have hr := h.below hb (Nat.le_refl _)
        have HX := Lib.hid (values_ok ao n c zs j k (by omega) (by omega) hz wr hr)
        clear hr hz h
        by_cases hr0 : r < 0
        · go_wp2_with fail
          refine HX.out.mono ?_
          rintro e w1 ⟨⟨ha, rfl, -⟩ | ⟨ha, rfl⟩, b1⟩
          all_goals
            rw [← HLen.out] at ha
            have HA := Lib.hid ha
            clear ha
            go_wp2
            go_roundw
          case rel => exact ⟨k + 1, k, by omega, by go_num, rfl, Best.take HB.out (by omega) HA.out (fun s hs => by omega), hb.trans (b1.mono hb.size)⟩
          case measure => simp [intOf] <;> omega
          case rel => exact ⟨k + 1, r, by omega, by go_num, rfl, Best.skip HB.out (.inl HA.out), hb.trans (b1.mono hb.size)⟩
          case measure => simp [intOf] <;> omega
        · obtain ⟨s, rfl⟩ := Int.eq_ofNat_of_zero_le (show 0 ≤ r by omega)
          have hs0 : 0 ≤ (s : Int) := by omega
          by_cases hpop : popN s ≤ popN k
          · have hpd : ((popN s : Nat) : Int) ≤ ((popN k : Nat) : Int) := by omega
            go_wp2_with (go_at_call 32; refine (OnesCount_ok _ _ (by omega)).mono ?_; rintro e w' ⟨rfl, rfl⟩)
            go_roundw
            case rel => exact ⟨k + 1, s, by omega, by go_num, rfl, Best.skip HB.out (.inr ⟨s, rfl, hpop⟩), hb⟩
            case measure => simp [intOf] <;> omega
          · have hpd : ¬ ((popN s : Nat) : Int) ≤ ((popN k : Nat) : Int) := by omega
            have HPop := Lib.hid hpop
            clear hpop
            go_wp2_with (first | (go_at_call 32; refine (OnesCount_ok _ _ (by omega)).mono ?_; rintro e w' ⟨rfl, rfl⟩))
            refine HX.out.mono ?_
            rintro e w1 ⟨⟨ha, rfl, -⟩ | ⟨ha, rfl⟩, b1⟩
            all_goals
              rw [← HLen.out] at ha
              have HA := Lib.hid ha
              clear ha
              go_wp2
              go_roundw
            case rel => exact ⟨k + 1, k, by omega, by go_num, rfl, Best.take HB.out (by omega) HA.out (takeC HPop.out), hb.trans (b1.mono hb.size)⟩
            case measure => simp [intOf] <;> omega
            case rel => exact ⟨k + 1, s, by omega, by go_num, rfl, Best.skip HB.out (.inl HA.out), hb.trans (b1.mono hb.size)⟩
            case measure => simp [intOf] <;> omega
      · obtain rfl : k = N := by omega
        go_wp2
        go_ret
        exact ⟨reti (HB.out.eq_least.trans HR.out.symm), hb⟩

end Go.Proofs.Ytlfeipibhdggcaa
