/- Walks: LearnNetwork; the law on it. -/
import Derived.Test.YtacohlojhccfkaaE3
import Derived.Test.YtacohlojhccfkaaS1
namespace Go.Proofs.Ytacohlojhccfkaa
open Go.RowKit Go.Maps

noncomputable def lnF (zs : List (Int × Int)) (m : Int) (i : Nat) : ByteArray := lrT zs m i
noncomputable def lnT (zs : List (Int × Int)) (m : Int) : ByteArray := if possV zs m = true then joinF (lnF zs m) ⟨#[44]⟩ m.toNat else ⟨#[]⟩
noncomputable def lnL (zs : List (Int × Int)) (m : Int) (k : Nat) : List ByteArray := (List.range k).map (lnF zs m)
theorem lnL_next (zs : List (Int × Int)) (m : Int) (k : Nat) : lnL zs m (k + 1) = lnL zs m k ++ [lnF zs m k] := by simp [lnL, List.range_succ]
theorem lnL_len (zs : List (Int × Int)) (m : Int) (k : Nat) : (lnL zs m k).length = k := by simp [lnL]
theorem lnL_get (zs : List (Int × Int)) (m : Int) (k i : Nat) (h : i < k) : gT (lnL zs m k) i = lnF zs m i := by simp [gT, lnL, List.getD, h]
theorem lnT_no {zs : List (Int × Int)} {m : Int} (h : possV zs m = false) : lnT zs m = ⟨#[]⟩ := by simp [lnT, h]
theorem lnT_yes {zs : List (Int × Int)} {m : Nat} (h : possV zs m = true) : lnT zs m = joinF (lnF zs m) ⟨#[44]⟩ m := by simp [lnT, h]
theorem lnF_size (zs : List (Int × Int)) (m : Int) (hm : m ≤ 5) (i : Nat) : (lnF zs m i).size ≤ 1048576 := by
  have hp : (2 ^ m.toNat : Nat) ≤ 32 := Nat.pow_le_pow_right (n := 2) (by decide) (show m.toNat ≤ 5 by omega)
  unfold lnF lrT
  split
  · decide
  · rw [digT_size, ruleL_len]; omega
/-- Where all inputs explain each switch, each has fewest inputs. -/
theorem poss_rule {zs : List (Int × Int)} {m : Nat} (h : possV zs m = true) (i : Nat) (hi : i < m) : lrB zs m i = true := by
  simp only [possV, Bool.and_eq_true, List.all_eq_true, Int.toNat_natCast] at h
  obtain ⟨hs, ha⟩ := h
  have hE : Exp zs i (2 ^ m - 1) := agreeB_iff.1 (ha i (List.mem_range.2 hi))
  have hsw : swB zs m i = true := swB_yes hs (by omega)
  obtain ⟨b, hb⟩ := Best.exists (Exp zs i) (2 ^ m)
  have e := hb.eq_least
  have hp0 : 0 < (2 ^ m : Nat) := Nat.two_pow_pos _
  have hl : leastI zs m i = b := by rw [leastI_yes hsw, e, Int.toNat_natCast, Int.toNat_natCast]
  rcases hb with ⟨_, h1⟩ | ⟨s, h1, _⟩
  · exact absurd hE (h1 _ (Nat.zero_le _) (by omega))
  · simp only [lrB, hl, h1, decide_eq_true_iff]; omega
theorem poss_seen {zs : List (Int × Int)} {m : Int} (h : possV zs m = true) : 1 ≤ m ∧ m ≤ 5 := by
  simp only [possV, Bool.and_eq_true] at h
  exact (seen_parts h.1).1

set_option maxHeartbeats 2000000 in
theorem lnS_ok (ao : Option Addr) (n c : Nat) (zs : List (Int × Int)) (m : Int) (w : World) (h : RowS w ao n c zs) :
    Calls Try.prog 27 #[.slice ao n c, .int .i64 m] w fun e w' => e = .returned (.tuple #[.string (lnT zs m), .bool (possV zs m)]) ∧ Below w.heap.size w w' := by
  have hb0 := (Below.refl w.heap.size w).alloc (Nat.le_refl _) (.cells (strs []).toArray 9)
  have HP := Lib.hid (posS_ok ao n c zs m _ (h.below hb0 (Nat.le_refl _)))
  cases hs : possV zs m with
  | false =>
    have H := Lib.hid (lnT_no hs)
    rw [hs] at HP
    clear hs
    go_enter Try.func27, Try.ntmps27
    go_wp2_with fail
    refine HP.out.mono ?_
    rintro e w1 ⟨rfl, b1⟩
    go_wp2
    go_ret2
    exact ⟨ret2 H.out.symm rfl, hb0.trans (b1.mono hb0.size)⟩
  | true =>
    rw [hs] at HP
    have hm := poss_seen hs
    obtain ⟨p, rfl⟩ := Int.eq_ofNat_of_zero_le (show 0 ≤ m by omega)
    have H := Lib.hid (lnT_yes hs)
    have HO := Lib.hid (OwnT.lit w w.heap.size [] (Nat.le_refl _) (by decide))
    have HSz := Lib.hid (lnF_size zs p (by omega))
    clear hs
    go_enter Try.func27, Try.ntmps27
    go_wp2_with fail
    refine HP.out.mono ?_
    rintro e w1 ⟨rfl, b1⟩
    have c1 := hb0.trans (b1.mono hb0.size)
    have o1 := HO.out.below b1 (Nat.le_refl _)
    clear b1 hb0
    go_wp2_with fail
    go_loopw [6, 7] (fun v s wr => ∃ k : Nat, k ≤ p ∧ s = .int .i64 k ∧ OwnT wr w.heap.size v (lnL zs p k) ∧ Below w.heap.size w wr) (fun _ s _ => p - (intOf s).toNat)
    case atStart => exact ⟨0, Nat.zero_le _, rfl, o1, c1⟩
    case round =>
      obtain ⟨k, hk, rfl, ho, hb⟩ := hrel
      have HOw := Lib.hid ho
      have hlen := lnL_len zs p k
      have HB := Lib.hid hb
      clear o1 c1
      by_cases hkp : k < p
      · have hkw : (k : Int) < (p : Int) := by omega
        have HL := Lib.hid (lrS_ok ao n c zs p k wr (h.below hb (Nat.le_refl _)))
        have HN := Lib.hid (lnL_next zs p k)
        clear ho hb
        go_wp2_with fail
        refine HL.out.mono ?_
        rintro e w2 ⟨rfl, b2⟩
        have HB2 := Lib.hid (HB.out.trans (b2.mono HB.out.size))
        have HO2 := Lib.hid (HOw.out.below b2 (Nat.le_refl _))
        have hcell : (w2.alloc (.cells #[.string (lrT zs p k)] 9)).cell? ⟨w2.heap.size, 0, none⟩ = some (.string (lrT zs p k)) := (Blk.new w2 9 [.string (lrT zs p k)]).cell (i := 0) rfl
        have HCe := Lib.hid hcell
        clear hcell b2
        go_wp2_with (at_builtin; go_must (refine wpList_appT (OwnT.alloc HO2.out _) HCe.out rfl _ _ rfl rfl rfl (by omega) (by have := HB2.out.size; simp; omega) ?_); intro v3 w3 o3 g3)
        go_roundw
        case rel => exact ⟨k + 1, by omega, by go_num, by rw [HN.out]; exact o3, (HB2.out.alloc HB2.out.size _).grown g3 (by have := HB2.out.size; simp; omega) (fun j hj => (World.ownsRow.lt HO2.out j hj).1)⟩
        case measure => simp [intOf] <;> omega
      · obtain rfl : k = p := by omega
        obtain ⟨a, cp, rfl, q⟩ := ho.row
        rw [hlen] at q
        have HT := Lib.hid (l3Text_ok a k cp _ (lnF zs k) wr q (fun i hi => lnL_get zs k k i hi) HSz.out (by omega))
        clear q ho
        go_wp2_with fail
        refine HT.out.mono ?_
        rintro e w2 ⟨rfl, rfl⟩
        go_wp2_with fail
        go_ret2
        exact ⟨ret2 H.out.symm rfl, hb⟩

set_option maxHeartbeats 2000000 in
theorem lnI_ok (ao : Option Addr) (n c : Nat) (zs : List (Int × Int)) (m : Int) (w : World) (h : RowS w ao n c zs) :
    Calls Try.prog 28 #[.slice ao n c, .int .i64 m] w fun e w' => e = .returned (.tuple #[.string (lnT zs m), .bool (possV zs m)]) ∧ Below w.heap.size w w' := by
  have HP := Lib.hid (posI_ok ao n c zs m w h)
  cases hs : possV zs m with
  | false =>
    have H := Lib.hid (lnT_no hs)
    rw [hs] at HP
    clear hs
    go_enter Try.func28, Try.ntmps28
    go_wp2_with fail
    refine HP.out.mono ?_
    rintro e w1 ⟨rfl, b1⟩
    go_wp2
    go_ret2
    exact ⟨ret2 H.out.symm rfl, b1⟩
  | true =>
    rw [hs] at HP
    have hm := poss_seen hs
    obtain ⟨p, rfl⟩ := Int.eq_ofNat_of_zero_le (show 0 ≤ m by omega)
    have H := Lib.hid (lnT_yes hs)
    have HSz := Lib.hid (lnF_size zs p (by omega))
    have HY := Lib.hid (fun i hi => poss_rule hs i hi)
    clear hs
    go_enter Try.func28, Try.ntmps28
    go_wp2_with fail
    refine HP.out.mono ?_
    rintro e w1 ⟨rfl, b1⟩
    go_wp2_with fail
    go_loopw [6, 15] (fun v s wr => ∃ k : Nat, k ≤ p ∧ s = .int .i64 k ∧ v = .string (joinF (lnF zs p) ⟨#[44]⟩ k) ∧ Below w.heap.size w wr) (fun _ s _ => p - (intOf s).toNat)
    case atStart => exact ⟨0, Nat.zero_le _, rfl, rfl, b1⟩
    case round =>
      obtain ⟨k, hk, rfl, rfl, hb⟩ := hrel
      clear b1
      by_cases hkp : k < p
      · have hkw : (k : Int) < (p : Int) := by omega
        have HL := Lib.hid (lrI_ok ao n c zs p k wr (h.below hb (Nat.le_refl _)))
        have hz := joinF_size (lnF zs p) ⟨#[44]⟩ 1048576 (by decide) HSz.out k
        have hz2 : (joinF (lnF zs p) ⟨#[44]⟩ k).size ≤ 1099512676352 := by
          have : k * (1048576 + 1) ≤ 1048576 * (1048576 + 1) := Nat.mul_le_mul_right _ (by omega)
          omega
        have hz3 : (lrT zs p k).size ≤ 1048576 := HSz.out k
        have HN := Lib.hid (joinF_next (lnF zs p) ⟨#[44]⟩ k)
        have HN1 : Hid (joinF (lnF zs p) ⟨#[44]⟩ 1 = joinF (lnF zs p) ⟨#[44]⟩ 0 ++ lnF zs p 0) := rfl
        have HFe : Hid (∀ k : Nat, lnF zs p k = lrT zs p k) := fun _ => rfl
        rw [HY.out k hkp] at HL
        clear hz
        by_cases h0 : 0 < k
        · generalize joinF (lnF zs p) ⟨#[44]⟩ k = t at hz2 HN
          go_wp2_with fail
          refine HL.out.mono ?_
          rintro e w2 ⟨rfl, b2⟩
          go_wp2_with fail
          go_roundw
          case rel => exact ⟨k + 1, by omega, by go_num, by rw [HN.out h0, HFe.out], hb.trans (b2.mono hb.size)⟩
          case measure => simp [intOf]; omega
        · obtain rfl : k = 0 := by omega
          have hz4 : (lrT zs p 0).size ≤ 1048576 := hz3
          generalize joinF (lnF zs p) ⟨#[44]⟩ 0 = t at hz2 HN1
          go_wp2_with fail
          refine HL.out.mono ?_
          rintro e w2 ⟨rfl, b2⟩
          go_wp2_with fail
          go_roundw
          case rel => exact ⟨1, by omega, rfl, by rw [HN1.out, HFe.out]; rfl, hb.trans (b2.mono hb.size)⟩
          case measure => simp [intOf]; omega
      · obtain rfl : k = p := by omega
        go_wp2_with fail
        go_ret2
        exact ⟨ret2 H.out.symm rfl, hb⟩

set_option maxHeartbeats 1000000 in
theorem FnExactLearnNetwork_ok (ao : Option Addr) (n c : Nat) (zs : List (Int × Int)) (m : Int) (w : World) (h : RowS w ao n c zs) :
    Calls Try.prog 8 #[.slice ao n c, .int .i64 m] w fun e w' => e = .returned (.bool true) ∧ Below w.heap.size w w' := by
  have hml := h.cap
  have hml' := h.le
  by_cases hbig : n ≤ 1048576
  rotate_left
  · go_enter Try.func8, Try.ntmps8
    go_wp2_with fail
    refine (szSeenS_ok ao n c w (by omega)).mono ?_
    rintro e w1 ⟨rfl, rfl⟩
    rw [if_neg hbig]
    go_wp2_with fail
    go_ret
    exact ⟨rfl, Below.refl _ _⟩
  · have hn : n * 16 ≤ 281474976710656 := by omega
    have h2 : ¬ (1048576 - (n : Int) < 0) := by omega
    go_enter Try.func8, Try.ntmps8
    go_wp2_with fail
    refine (szSeenS_ok ao n c w (by omega)).mono ?_
    rintro e w0 ⟨rfl, rfl⟩
    rw [if_pos hbig]
    go_wp2_with fail
    refine (toSeenS_ok _ _ _ zs _ h hn).mono ?_
    rintro e w1 ⟨g1, hg1, rfl, k1, b1⟩
    go_wp2_with fail
    refine (lnS_ok _ _ _ zs _ _ (RowS.of_blk k1 h.len (by omega))).mono ?_
    rintro e w2 ⟨rfl, b2⟩
    have c2 : Below w.heap.size w w2 := b1.trans (b2.mono b1.size)
    go_wp2_with fail
    refine (toSeenS_ok _ _ _ zs _ (h.below c2 (Nat.le_refl _)) hn).mono ?_
    rintro e w3 ⟨g3, hg3, rfl, k3, b3⟩
    have c3 : Below w.heap.size w w3 := c2.trans (b3.mono c2.size)
    go_wp2_with fail
    refine (lnI_ok _ _ _ zs _ _ (RowS.of_blk k3 h.len (by omega))).mono ?_
    rintro e w4 ⟨rfl, b4⟩
    have c4 : Below w.heap.size w w4 := c3.trans (b4.mono c3.size)
    have k4 := k3.below b4 k3.lt
    go_wp2_with fail
    refine (toSeenS_ok _ _ _ zs _ (h.below c4 (Nat.le_refl _)) hn).mono ?_
    rintro e w5 ⟨g5, hg5, rfl, k5, b5⟩
    have c5 : Below w.heap.size w w5 := c4.trans (b5.mono c4.size)
    go_wp2_with fail
    refine (eqSeenS_ok _ _ _ _ _ _ zs zs _ (RowS.of_blk (k4.below b5 k4.lt) h.len (by omega)) (RowS.of_blk k5 h.len (by omega))).mono ?_
    rintro e w6 ⟨rfl, b6⟩
    have c6 : Below w.heap.size w w6 := c5.trans (b6.mono c5.size)
    simp only [decide_true]
    go_wp2_with fail
    go_ret
    exact ⟨rfl, c6⟩


end Go.Proofs.Ytacohlojhccfkaa
