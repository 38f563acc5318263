/- Walks: IsPossible; the laws on Explains and IsPossible. -/
import Derived.Test.YtacohlojhccfkaaA7
namespace Go.Proofs.Ytacohlojhccfkaa
open Go.RowKit Go.Maps

noncomputable def possV (zs : List (Int × Int)) (m : Int) : Bool := seenB zs m && (List.range m.toNat).all fun i => agreeB zs i (2 ^ m.toNat - 1) zs.length

theorem poss_yes {zs : List (Int × Int)} {m : Nat} (hs : seenB zs m = true) (h : ∀ i, i < m → Agree zs i (2 ^ m - 1) zs.length) : possV zs m = true := by
  rw [possV, hs, Bool.true_and, List.all_eq_true]
  intro i hi
  rw [Int.toNat_natCast] at hi ⊢
  exact agreeB_true (h i (List.mem_range.1 hi))
theorem poss_no {zs : List (Int × Int)} {m k : Nat} (hk : k < m) (h : ¬ Agree zs k (2 ^ m - 1) zs.length) : possV zs m = false := by
  rw [possV, Bool.and_eq_false_iff]
  right
  rw [List.all_eq_false, Int.toNat_natCast]
  exact ⟨k, List.mem_range.2 hk, by rw [agreeB_false h]; simp⟩

set_option maxHeartbeats 1000000 in
theorem posS_ok (ao : Option Addr) (n c : Nat) (zs : List (Int × Int)) (m : Int) (w : World) (h : RowS w ao n c zs) :
    Calls Try.prog 49 #[.slice ao n c, .int .i64 m] w fun e w' => e = .returned (.bool (possV zs m)) ∧ Below w.heap.size w w' := by
  cases hs : seenB zs m with
  | false =>
    have H := Lib.hid hs
    by_cases h0 : 0 < m
    · go_enter Try.func49, Try.ntmps49
      go_wp2
      refine wp_loop_rounds 1 ?_
      rw [rounds_succ]
      go_wp2_with (go_at_call 29; refine (svS_ok _ _ _ zs _ _ h).mono ?_; rintro e w' ⟨rfl, rfl⟩)
      go_ret
      exact ⟨retb (by rw [possV, H.out]; rfl), Below.refl _ _⟩
    · go_enter Try.func49, Try.ntmps49
      go_wp2
      refine wp_loop_rounds 1 ?_
      rw [rounds_succ]
      go_wp2_with (go_at_call 29; refine (svS_ok _ _ _ zs _ _ h).mono ?_; rintro e w' ⟨rfl, rfl⟩)
      go_ret
      exact ⟨retb (by rw [possV, H.out]; rfl), Below.refl _ _⟩
  | true =>
    have H := Lib.hid hs
    obtain ⟨hm, hl, hz, hlt⟩ := seen_parts hs
    have HT := Lib.hid (wrap_top hm)
    obtain ⟨p, rfl⟩ := Int.eq_ofNat_of_zero_le (show 0 ≤ m by omega)
    have hp : (2 ^ p : Nat) ≤ 32 := Nat.pow_le_pow_right (n := 2) (by decide) (show p ≤ 5 by omega)
    have HTop : Hid (wrap64 (wrap64 (2 ^ p) - 1) = ((2 ^ p - 1 : Nat) : Int)) := HT.out
    have HLen := Lib.hid h.len
    go_enter Try.func49, Try.ntmps49
    go_wp2
    go_loopw [5] (fun s wr => ∃ k : Nat, k ≤ p ∧ s = .int .i64 k ∧ (∀ i, i < k → Agree zs i (2 ^ p - 1) zs.length) ∧ Below w.heap.size w wr) (fun i _ => p - (intOf i).toNat)
    case atStart => exact ⟨0, Nat.zero_le _, rfl, fun i hi => absurd hi (Nat.not_lt_zero _), Below.refl _ _⟩
    case round =>
      obtain ⟨k, hk, rfl, hag, hb⟩ := hrel
      have HG := Lib.hid hag
      clear hag
      have hr := h.below hb (Nat.le_refl _)
      by_cases hkp : k < p
      · have hkp' : (k : Int) < (p : Int) := by omega
        have HX := Lib.hid (l12Explains_ok ao n c zs k (2 ^ p - 1) (by omega) (by omega) hz wr hr)
        clear hz hlt
        go_wp2_with (go_at_call 29; refine (svS_ok _ _ _ zs _ _ hr).mono ?_; rintro e w' ⟨rfl, rfl⟩)
        rw [HTop.out]
        refine HX.out.mono ?_
        rintro e w1 ⟨⟨ha, rfl⟩ | ⟨ha, rfl⟩, b1⟩
        all_goals
          rw [← HLen.out] at ha
          have HA := Lib.hid ha
          clear ha
          go_wp2
        · go_roundw
          case rel => exact ⟨k + 1, by omega, by go_num, fun i hi => by
              by_cases e : i = k
              · subst e; exact HA.out
              · exact HG.out i (by omega), hb.trans (b1.mono hb.size)⟩
          case measure => simp [intOf]; omega
        · go_ret
          exact ⟨retb (by rw [poss_no hkp HA.out]), hb.trans (b1.mono hb.size)⟩
      · have HY := Lib.hid (poss_yes H.out (fun i hi => HG.out i (by omega)))
        go_wp2_with (go_at_call 29; refine (svS_ok _ _ _ zs _ _ hr).mono ?_; rintro e w' ⟨rfl, rfl⟩)
        go_ret
        exact ⟨retb (by rw [HY.out]), hb⟩

set_option maxHeartbeats 1000000 in
theorem posI_ok (ao : Option Addr) (n c : Nat) (zs : List (Int × Int)) (m : Int) (w : World) (h : RowS w ao n c zs) :
    Calls Try.prog 51 #[.slice ao n c, .int .i64 m] w fun e w' => e = .returned (.bool (possV zs m)) ∧ Below w.heap.size w w' := by
  have HV := Lib.hid (svI_ok ao n c zs m w h)
  cases hs : seenB zs m with
  | false =>
    have H := Lib.hid hs
    go_enter Try.func51, Try.ntmps51
    go_wp2_with fail
    refine HV.out.mono ?_
    rintro e w1 ⟨rfl, b1⟩
    go_wp2
    go_ret
    exact ⟨retb (by rw [possV, H.out]; rfl), b1⟩
  | true =>
    have H := Lib.hid hs
    obtain ⟨hm, hl, hz, hlt⟩ := seen_parts hs
    have HT := Lib.hid (wrap_top hm)
    obtain ⟨p, rfl⟩ := Int.eq_ofNat_of_zero_le (show 0 ≤ m by omega)
    have hp : (2 ^ p : Nat) ≤ 32 := Nat.pow_le_pow_right (n := 2) (by decide) (show p ≤ 5 by omega)
    have HTop : Hid (wrap64 (wrap64 (2 ^ p) - 1) = ((2 ^ p - 1 : Nat) : Int)) := HT.out
    have HLen := Lib.hid h.len
    go_enter Try.func51, Try.ntmps51
    go_wp2_with fail
    refine HV.out.mono ?_
    rintro e w0 ⟨rfl, b0⟩
    go_wp2_with fail
    go_loopw [13] (fun s wr => ∃ k : Nat, k ≤ p ∧ s = .int .i64 k ∧ (∀ i, i < k → Agree zs i (2 ^ p - 1) zs.length) ∧ Below w.heap.size w wr) (fun i _ => p - (intOf i).toNat)
    case atStart => exact ⟨0, Nat.zero_le _, rfl, fun i hi => absurd hi (Nat.not_lt_zero _), b0⟩
    case round =>
      obtain ⟨k, hk, rfl, hag, hb⟩ := hrel
      have HG := Lib.hid hag
      clear hag
      have hr := h.below hb (Nat.le_refl _)
      by_cases hkp : k < p
      · have hkp' : (k : Int) < (p : Int) := by omega
        have HX := Lib.hid (values_ok ao n c zs k (2 ^ p - 1) (by omega) (by omega) hz wr hr)
        clear hz hlt
        go_wp2_with fail
        rw [HTop.out]
        refine HX.out.mono ?_
        rintro e w1 ⟨⟨ha, rfl, -⟩ | ⟨ha, rfl⟩, b1⟩
        all_goals
          rw [← HLen.out] at ha
          have HA := Lib.hid ha
          clear ha
          go_wp2
        · go_roundw
          case rel => exact ⟨k + 1, by omega, by go_num, fun i hi => by
              by_cases e : i = k
              · subst e; exact HA.out
              · exact HG.out i (by omega), hb.trans (b1.mono hb.size)⟩
          case measure => simp [intOf]; omega
        · go_ret
          exact ⟨retb (by rw [poss_no hkp HA.out]), hb.trans (b1.mono hb.size)⟩
      · have HY := Lib.hid (poss_yes H.out (fun i hi => HG.out i (by omega)))
        go_wp2
        go_ret
        exact ⟨retb (by rw [HY.out]), hb⟩

end Go.Proofs.Ytacohlojhccfkaa
