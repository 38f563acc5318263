/- Walks: IsPossible; the laws on Explains and IsPossible. -/
import Derived.Test.YtdjmammknlpplaaA7
namespace Go.Proofs.Ytdjmammknlpplaa
open Go.RowKit Go.Maps

noncomputable def possV (zs : List (Int × Int)) (m : Int) : Bool := seenB zs m && (List.range m.toNat).all fun i => agreeB zs i (2 ^ m.toNat - 1) zs.length

theorem poss_yes {zs : List (Int × Int)} {m : Nat} (hs : seenB zs m = true) (h : ∀ i, i < m → Agree zs i (2 ^ m - 1) zs.length) : possV zs m = true := by
  rw [possV, hs, Bool.true_and, List.all_eq_true]
  intro i hi
  rw [Int.toNat_natCast] at hi ⊢
  exact agreeB_true (h i (List.mem_range.1 hi))
theorem poss_no {zs : List (Int × Int)} {m k : Nat} (hk : k < m) (h : ¬ Agree zs k (2 ^ m - 1) zs.length) : possV zs m = false := by
  rw [possV, Bool.and_eq_false_iff]
  right
  rw [List.all_eq_false, Int.toNat_natCast]
  exact ⟨k, List.mem_range.2 hk, by rw [agreeB_false h]; simp⟩

set_option maxHeartbeats 1000000 in
theorem posS_ok (ao : Option Addr) (n c : Nat) (zs : List (Int × Int)) (m : Int) (w : World) (h : RowS w ao n c zs) :
    Calls Try.prog 35 #[.slice ao n c, .int .i64 m] w fun e w' => e = .returned (.bool (possV zs m)) ∧ Below w.heap.size w w' := by
  cases hs : seenB zs m with
  | false =>
    have H := Lib.hid hs
    by_cases h0 : 0 < m
    · go_enter Try.func35, Try.ntmps35
      go_wp2
      refine wp_loop_rounds 1 ?_
      rw [rounds_succ]
      go_wp2_with (go_at_call 25; refine (svS_ok _ _ _ zs _ _ h).mono ?_; rintro e w' ⟨rfl, rfl⟩)
      go_ret
      exact ⟨retb (by rw [possV, H.out]; rfl), Below.refl _ _⟩
    · go_enter Try.func35, Try.ntmps35
      go_wp2
      refine wp_loop_rounds 1 ?_
      rw [rounds_succ]
      go_wp2_with (go_at_call 25; refine (svS_ok _ _ _ zs _ _ h).mono ?_; rintro e w' ⟨rfl, rfl⟩)
      go_ret
      exact ⟨retb (by rw [possV, H.out]; rfl), Below.refl _ _⟩
  | true =>
    have H := Lib.hid hs
    obtain ⟨hm, hl, hz, hlt⟩ := seen_parts hs
    have HT := Lib.hid (wrap_top hm)
    obtain ⟨p, rfl⟩ := Int.eq_ofNat_of_zero_le (show 0 ≤ m by omega)
    have hp : (2 ^ p : Nat) ≤ 32 := Nat.pow_le_pow_right (n := 2) (by decide) (show p ≤ 5 by omega)
    have HTop : Hid (wrap64 (wrap64 (2 ^ p) - 1) = ((2 ^ p - 1 : Nat) : Int)) := HT.out
    have HLen := Lib.hid h.len
    go_enter Try.func35, Try.ntmps35
    go_wp2
    go_loopw [5] (fun s wr => ∃ k : Nat, k ≤ p ∧ s = .int .i64 k ∧ (∀ i, i < k → Agree zs i (2 ^ p - 1) zs.length) ∧ Below w.heap.size w wr) (fun i _ => p - (intOf i).toNat)
    case atStart => exact ⟨0, Nat.zero_le _, rfl, fun i hi => absurd hi (Nat.not_lt_zero _), Below.refl _ _⟩
    case round =>
      obtain ⟨k, hk, rfl, hag, hb⟩ := hrel
      have HG := Lib.hid hag
      clear hag
      have hr := h.below hb (Nat.le_refl _)
      by_cases hkp : k < p
      · have hkp' : (k : Int) < (p : Int) := by omega
        have HX := Lib.hid (l12Explains_ok ao n c zs k (2 ^ p - 1) (by omega) (by omega) hz wr hr)
        clear hz hlt
        go_wp2_with (go_at_call 25; refine (svS_ok _ _ _ zs _ _ hr).mono ?_; rintro e w' ⟨rfl, rfl⟩)
        rw [HTop.out]
        refine HX.out.mono ?_
        rintro e w1 ⟨⟨ha, rfl⟩ | ⟨ha, rfl⟩, b1⟩
        all_goals
          rw [← HLen.out] at ha
          have HA := Lib.hid ha
          clear ha
          go_wp2
        · go_roundw
          case rel => exact ⟨k + 1, by omega, by go_num, fun i hi => by
              by_cases e : i = k
              · subst e; exact HA.out
              · exact HG.out i (by omega), hb.trans (b1.mono hb.size)⟩
          case measure => simp [intOf]; omega
        · go_ret
          exact ⟨retb (by rw [poss_no hkp HA.out]), hb.trans (b1.mono hb.size)⟩
      · have HY := Lib.hid (poss_yes H.out (fun i hi => HG.out i (by omega)))
        go_wp2_with (go_at_call 25; refine (svS_ok _ _ _ zs _ _ hr).mono ?_; rintro e w' ⟨rfl, rfl⟩)
        go_ret
        exact ⟨retb (by rw [HY.out]), hb⟩

set_option maxHeartbeats 1000000 in
theorem posI_ok (ao : Option Addr) (n c : Nat) (zs : List (Int × Int)) (m : Int) (w : World) (h : RowS w ao n c zs) :
    Calls Try.prog 36 #[.slice ao n c, .int .i64 m] w fun e w' => e = .returned (.bool (possV zs m)) ∧ Below w.heap.size w w' := by
  have HV := Lib.hid (svI_ok ao n c zs m w h)
  cases hs : seenB zs m with
  | false =>
    have H := Lib.hid hs
    go_enter Try.func36, Try.ntmps36
    go_wp2_with fail
    refine HV.out.mono ?_
    rintro e w1 ⟨rfl, b1⟩
    go_wp2
    go_ret
    exact ⟨retb (by rw [possV, H.out]; rfl), b1⟩
  | true =>
    have H := Lib.hid hs
    obtain ⟨hm, hl, hz, hlt⟩ := seen_parts hs
    have HT := Lib.hid (wrap_top hm)
    obtain ⟨p, rfl⟩ := Int.eq_ofNat_of_zero_le (show 0 ≤ m by omega)
    have hp : (2 ^ p : Nat) ≤ 32 := Nat.pow_le_pow_right (n := 2) (by decide) (show p ≤ 5 by omega)
    have HTop : Hid (wrap64 (wrap64 (2 ^ p) - 1) = ((2 ^ p - 1 : Nat) : Int)) := HT.out
    have HLen := Lib.hid h.len
    go_enter Try.func36, Try.ntmps36
    go_wp2_with fail
    refine HV.out.mono ?_
    rintro e w0 ⟨rfl, b0⟩
    go_wp2_with fail
    go_loopw [13] (fun s wr => ∃ k : Nat, k ≤ p ∧ s = .int .i64 k ∧ (∀ i, i < k → Agree zs i (2 ^ p - 1) zs.length) ∧ Below w.heap.size w wr) (fun i _ => p - (intOf i).toNat)
    case atStart => exact ⟨0, Nat.zero_le _, rfl, fun i hi => absurd hi (Nat.not_lt_zero _), b0⟩
    case round =>
      obtain ⟨k, hk, rfl, hag, hb⟩ := hrel
      have HG := Lib.hid hag
      clear hag
      have hr := h.below hb (Nat.le_refl _)
      by_cases hkp : k < p
      · have hkp' : (k : Int) < (p : Int) := by omega
        have HX := Lib.hid (values_ok ao n c zs k (2 ^ p - 1) (by omega) (by omega) hz wr hr)
        clear hz hlt
        go_wp2_with fail
        rw [HTop.out]
        refine HX.out.mono ?_
        rintro e w1 ⟨⟨ha, rfl, -⟩ | ⟨ha, rfl⟩, b1⟩
        all_goals
          rw [← HLen.out] at ha
          have HA := Lib.hid ha
          clear ha
          go_wp2
        · go_roundw
          case rel => exact ⟨k + 1, by omega, by go_num, fun i hi => by
              by_cases e : i = k
              · subst e; exact HA.out
              · exact HG.out i (by omega), hb.trans (b1.mono hb.size)⟩
          case measure => simp [intOf]; omega
        · go_ret
          exact ⟨retb (by rw [poss_no hkp HA.out]), hb.trans (b1.mono hb.size)⟩
      · have HY := Lib.hid (poss_yes H.out (fun i hi => HG.out i (by omega)))
        go_wp2
        go_ret
        exact ⟨retb (by rw [HY.out]), hb⟩

set_option maxHeartbeats 1000000 in
theorem FnExactIsPossible_ok (ao : Option Addr) (n c : Nat) (zs : List (Int × Int)) (m : Int) (w : World) (h : RowS w ao n c zs) :
    Calls Try.prog 8 #[.slice ao n c, .int .i64 m] w fun e w' => e = .returned (.bool true) ∧ Below w.heap.size w w' := by
  have hml := h.cap
  have hml' := h.le
  by_cases hbig : n ≤ 1048576
  rotate_left
  · go_enter Try.func8, Try.ntmps8
    go_wp2_with fail
    refine (szSeenS_ok ao n c w (by omega)).mono ?_
    rintro e w1 ⟨rfl, rfl⟩
    rw [if_neg hbig]
    go_wp2_with fail
    go_ret
    exact ⟨rfl, Below.refl _ _⟩
  · have hn : n * 16 ≤ 281474976710656 := by omega
    have h2 : ¬ (1048576 - (n : Int) < 0) := by omega
    go_enter Try.func8, Try.ntmps8
    go_wp2_with fail
    refine (szSeenS_ok ao n c w (by omega)).mono ?_
    rintro e w0 ⟨rfl, rfl⟩
    rw [if_pos hbig]
    go_wp2_with fail
    refine (toSeenS_ok _ _ _ zs _ h hn).mono ?_
    rintro e w1 ⟨g1, hg1, rfl, k1, b1⟩
    go_wp2_with fail
    refine (posS_ok _ _ _ zs _ _ (RowS.of_blk k1 h.len (by omega))).mono ?_
    rintro e w2 ⟨rfl, b2⟩
    have c2 : Below w.heap.size w w2 := b1.trans (b2.mono b1.size)
    go_wp2_with fail
    refine (toSeenS_ok _ _ _ zs _ (h.below c2 (Nat.le_refl _)) hn).mono ?_
    rintro e w3 ⟨g3, hg3, rfl, k3, b3⟩
    have c3 : Below w.heap.size w w3 := c2.trans (b3.mono c2.size)
    go_wp2_with fail
    refine (posI_ok _ _ _ zs _ _ (RowS.of_blk k3 h.len (by omega))).mono ?_
    rintro e w4 ⟨rfl, b4⟩
    have c4 : Below w.heap.size w w4 := c3.trans (b4.mono c3.size)
    have k4 := k3.below b4 k3.lt
    go_wp2_with fail
    refine (toSeenS_ok _ _ _ zs _ (h.below c4 (Nat.le_refl _)) hn).mono ?_
    rintro e w5 ⟨g5, hg5, rfl, k5, b5⟩
    have c5 : Below w.heap.size w w5 := c4.trans (b5.mono c4.size)
    go_wp2_with fail
    refine (eqSeenS_ok _ _ _ _ _ _ zs zs _ (RowS.of_blk (k4.below b5 k4.lt) h.len (by omega)) (RowS.of_blk k5 h.len (by omega))).mono ?_
    rintro e w6 ⟨rfl, b6⟩
    have c6 : Below w.heap.size w w6 := c5.trans (b6.mono c5.size)
    simp only [decide_true]
    go_wp2_with fail
    go_ret
    exact ⟨rfl, c6⟩

set_option maxHeartbeats 1000000 in
theorem FnExactExplains_ok (ao : Option Addr) (n c : Nat) (zs : List (Int × Int)) (m i q : Int) (w : World) (h : RowS w ao n c zs) :
    Calls Try.prog 7 #[.slice ao n c, .int .i64 m, .int .i64 i, .int .i64 q] w fun e w' => e = .returned (.bool true) ∧ Below w.heap.size w w' := by
  have hml := h.cap
  have hml' := h.le
  by_cases hbig : n ≤ 1048576
  rotate_left
  · go_enter Try.func7, Try.ntmps7
    go_wp2_with fail
    refine (szSeenS_ok ao n c w (by omega)).mono ?_
    rintro e w1 ⟨rfl, rfl⟩
    rw [if_neg hbig]
    go_wp2_with fail
    go_ret
    exact ⟨rfl, Below.refl _ _⟩
  · have hn : n * 16 ≤ 281474976710656 := by omega
    have h2 : ¬ (1048576 - (n : Int) < 0) := by omega
    go_enter Try.func7, Try.ntmps7
    go_wp2_with fail
    refine (szSeenS_ok ao n c w (by omega)).mono ?_
    rintro e w0 ⟨rfl, rfl⟩
    rw [if_pos hbig]
    go_wp2_with fail
    refine (toSeenS_ok _ _ _ zs _ h hn).mono ?_
    rintro e w1 ⟨g1, hg1, rfl, k1, b1⟩
    go_wp2_with fail
    refine (exS_ok _ _ _ zs _ _ _ _ (RowS.of_blk k1 h.len (by omega))).mono ?_
    rintro e w2 ⟨rfl, b2⟩
    have c2 : Below w.heap.size w w2 := b1.trans (b2.mono b1.size)
    go_wp2_with fail
    refine (toSeenS_ok _ _ _ zs _ (h.below c2 (Nat.le_refl _)) hn).mono ?_
    rintro e w3 ⟨g3, hg3, rfl, k3, b3⟩
    have c3 : Below w.heap.size w w3 := c2.trans (b3.mono c2.size)
    go_wp2_with fail
    refine (exI_ok _ _ _ zs _ _ _ _ (RowS.of_blk k3 h.len (by omega))).mono ?_
    rintro e w4 ⟨rfl, b4⟩
    have c4 : Below w.heap.size w w4 := c3.trans (b4.mono c3.size)
    have k4 := k3.below b4 k3.lt
    go_wp2_with fail
    refine (toSeenS_ok _ _ _ zs _ (h.below c4 (Nat.le_refl _)) hn).mono ?_
    rintro e w5 ⟨g5, hg5, rfl, k5, b5⟩
    have c5 : Below w.heap.size w w5 := c4.trans (b5.mono c4.size)
    go_wp2_with fail
    refine (eqSeenS_ok _ _ _ _ _ _ zs zs _ (RowS.of_blk (k4.below b5 k4.lt) h.len (by omega)) (RowS.of_blk k5 h.len (by omega))).mono ?_
    rintro e w6 ⟨rfl, b6⟩
    have c6 : Below w.heap.size w w6 := c5.trans (b6.mono c5.size)
    simp only [decide_true]
    go_wp2_with fail
    go_ret
    exact ⟨rfl, c6⟩

end Go.Proofs.Ytdjmammknlpplaa
