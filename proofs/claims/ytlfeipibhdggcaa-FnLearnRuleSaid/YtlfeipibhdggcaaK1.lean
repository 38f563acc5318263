/- The law FnExplains. -/
import Derived.Test.YtlfeipibhdggcaaR8
import Derived.Test.YtlfeipibhdggcaaD4
import Derived.Test.YtlfeipibhdggcaaA8
namespace Go.Proofs.Ytlfeipibhdggcaa
open Go.RowKit Go.Maps

theorem RowS.takeN {w : World} {ao : Option Addr} {n c : Nat} {zs : List (Int × Int)} (h : RowS w ao n c zs) (k : Nat) (hk : k ≤ n) : RowS w ao k c (zs.take k) :=
  ⟨by rw [List.length_take, h.len]; omega, Nat.le_trans hk h.le, h.cap, fun h0 => h.some (by omega), fun b o e i hi => by
    rw [h.before b o e i (by omega)]
    have : gS (zs.take k) i = gS zs i := by simp [gS, List.getD, hi]
    rw [this], fun b o e i hi => by
    rw [h.after b o e i (by omega)]
    have : gS (zs.take k) i = gS zs i := by simp [gS, List.getD, hi]
    rw [this]⟩
theorem gS_take {zs : List (Int × Int)} {k i : Nat} (h : i < k) : gS (zs.take k) i = gS zs i := by simp [gS, List.getD, h]
theorem keyN_mono {q r : Nat} (h : q &&& r = q) {p p' : Int × Int} (e : keyN r p = keyN r p') : keyN q p = keyN q p' := by
  have h2 : ∀ x : Nat, x &&& q = (x &&& r) &&& q := fun x => by
    rw [Nat.and_assoc, Nat.and_comm r q, h]
  unfold keyN at e ⊢
  rw [h2 p.1.toNat, h2 p'.1.toNat, e]
theorem Agree.mono {zs : List (Int × Int)} {i q r n : Nat} (h : q &&& r = q) (ha : Agree zs i q n) : Agree zs i r n := fun k hk j hj e => ha k hk j hj (keyN_mono h e)
theorem Agree.take {zs : List (Int × Int)} {i q n k : Nat} (hk : k ≤ n) (ha : Agree zs i q n) : Agree (zs.take k) i q k := fun a h1 b h2 e => by
  rw [gS_take h1, gS_take (by omega)] at e ⊢
  exact ha a (by omega) b h2 e
theorem sub_or (q j : Nat) : q &&& (q ||| 2 ^ j) = q := by
  apply Nat.eq_of_testBit_eq
  intro i
  rw [Nat.testBit_and, Nat.testBit_or]
  cases q.testBit i <;> simp
theorem sub_full {q m : Nat} (h : q < 2 ^ m) : q &&& (2 ^ m - 1) = q := by
  rw [Nat.and_two_pow_sub_one_eq_mod, Nat.mod_eq_of_lt h]

theorem explV_iff {zs : List (Int × Int)} {m i q : Int} : explV zs m i q = true ↔ swB zs m i = true ∧ (0 ≤ q ∧ q ≤ 2 ^ m.toNat - 1) ∧ Agree zs i.toNat q.toNat zs.length := by
  simp [explV, swB, agreeB, inB, and_assoc]
theorem swB_get {zs : List (Int × Int)} {m i : Int} (h : swB zs m i = true) : seenB zs m = true ∧ (1 ≤ m ∧ m ≤ 5) ∧ 0 ≤ i ∧ i < m := by
  rw [swB, Bool.and_eq_true, inB_iff] at h
  have h1 := h.1
  rw [seenB] at h1
  simp only [Bool.and_eq_true, decide_eq_true_iff] at h1
  exact ⟨h.1, h1.1.1, by omega, by omega⟩
theorem seenB_take {zs : List (Int × Int)} {m : Int} (h : seenB zs m = true) (k : Nat) : seenB (zs.take k) m = true := by
  rw [seenB] at h ⊢
  simp only [Bool.and_eq_true, decide_eq_true_iff, List.all_eq_true] at h ⊢
  exact ⟨⟨h.1.1, by rw [List.length_take]; omega⟩, fun x hx => h.2 x (List.mem_of_mem_take hx)⟩
theorem swB_take {zs : List (Int × Int)} {m i : Int} (h : swB zs m i = true) (k : Nat) : swB (zs.take k) m i = true := by
  rw [swB, Bool.and_eq_true] at h ⊢
  exact ⟨seenB_take h.1 k, h.2⟩
theorem expl_or {zs : List (Int × Int)} {m i : Int} {q j : Nat} (h : explV zs m i q = true) (hj : (j : Int) < m) : explV zs m i ((q ||| 2 ^ j : Nat) : Int) = true := by
  obtain ⟨h1, ⟨h2, h3⟩, h4⟩ := explV_iff.1 h
  obtain ⟨_, ⟨hm1, hm5⟩, _⟩ := swB_get h1
  obtain ⟨p, rfl⟩ := Int.eq_ofNat_of_zero_le (show 0 ≤ m by omega)
  have hc : ((2 ^ p : Nat) : Int) = 2 ^ p := by simp
  rw [Int.toNat_natCast] at h3 h4
  have hq : q < 2 ^ p := by have := Nat.two_pow_pos p; omega
  have := or_lt_pow' hq (show j < p by omega)
  refine explV_iff.2 ⟨h1, ⟨by omega, ?_⟩, ?_⟩
  · rw [Int.toNat_natCast]; omega
  · rw [Int.toNat_natCast]; exact Agree.mono (sub_or q j) h4
where or_lt_pow' {k i n : Nat} (hk : k < 2 ^ n) (hi : i < n) : k ||| 2 ^ i < 2 ^ n := Nat.or_lt_two_pow hk (Nat.pow_lt_pow_right (by decide) hi)
theorem expl_take {zs : List (Int × Int)} {m i q : Int} (h : explV zs m i q = true) (k : Nat) (hk : k ≤ zs.length) : explV (zs.take k) m i q = true := by
  obtain ⟨h1, h2, h4⟩ := explV_iff.1 h
  refine explV_iff.2 ⟨swB_take h1 k, h2, ?_⟩
  have e : (zs.take k).length = k := by rw [List.length_take]; omega
  rw [e]
  exact Agree.take hk h4
theorem expl_all {zs : List (Int × Int)} {m i q : Int} (h : explV zs m i q = true) : allV zs m i = ((2 ^ (unV zs m).length : Nat) : Int) := by
  obtain ⟨h1, ⟨h2, h3⟩, h4⟩ := explV_iff.1 h
  obtain ⟨_, ⟨hm1, hm5⟩, hi, _⟩ := swB_get h1
  obtain ⟨p, rfl⟩ := Int.eq_ofNat_of_zero_le (show 0 ≤ m by omega)
  obtain ⟨x, rfl⟩ := Int.eq_ofNat_of_zero_le hi
  obtain ⟨y, rfl⟩ := Int.eq_ofNat_of_zero_le h2
  have hc : ((2 ^ p : Nat) : Int) = 2 ^ p := by simp
  simp only [Int.toNat_natCast] at h3 h4
  have hq : y < 2 ^ p := by have := Nat.two_pow_pos p; omega
  rw [allV_yes h1 (Agree.mono (sub_full hq) h4), wrap_pow_nat _ (Nat.le_trans (unV_len zs p) (by decide))]
theorem un_take {zs : List (Int × Int)} {m : Int} (h : seenB zs m = true) (k : Nat) : (unV zs m).length ≤ (unV (zs.take k) m).length := by
  have h' := seenB_take h k
  rw [unV, unV, if_pos h, if_pos h', unTo, unTo, List.length_map, List.length_map]
  rw [← List.countP_eq_length_filter, ← List.countP_eq_length_filter]
  refine List.countP_mono_left fun t _ h2 => ?_
  simp only [Bool.not_eq_true', hasB] at h2 ⊢
  rw [List.any_eq_false] at h2 ⊢
  intro x hx
  exact h2 x (List.mem_of_mem_take hx)

set_option maxRecDepth 100000 in
set_option maxHeartbeats 4000000 in
theorem FnExplains_ok (ao : Option Addr) (l c : Nat) (cs : List Int) (w : World) (h : RowU w ao l c cs) :
    Calls Try.prog 3 #[.slice ao l c] w fun e w' => e = .returned (.bool true) ∧ Below w.heap.size w w' := by
  go_enter Try.func3, Try.ntmps3
  by_cases hbig : 1048576 < l
  · have hbig' : (1048576 : Int) < (l : Int) := by omega
    go_wp2_with fail
    go_ret
    exact ⟨rfl, Below.refl _ _⟩
  · have hbig' : ¬ (1048576 : Int) < (l : Int) := by omega
    have HD := Lib.hid (drawExplains_ok ao l c cs w h (by omega))
    clear h
    go_wp2_with fail
    refine HD.out.mono ?_
    rintro e w1 ⟨v, zs, n, i, q, rfl, hz, o1, b1⟩
    obtain ⟨so, sc, rfl, hr, _⟩ := o1.out
    have HR := Lib.hid hr
    have HB1 := Lib.hid b1
    clear o1 b1 HD
    have hcap := hr.cap
    have hle := hr.le
    unfold maxLen at hcap
    have HI := Lib.hid (fun W (hW : Below w1.heap.size w1 W) q => exI_ok so zs.length sc zs n i q W (hr.below hW (Nat.le_refl _)))
    have HS := Lib.hid (fun W (hW : Below w1.heap.size w1 W) q => exS_ok so zs.length sc zs n i q W (hr.below hW (Nat.le_refl _)))
    have HA := Lib.hid (fun W (hW : Below w1.heap.size w1 W) => alI_ok so zs.length sc zs n i W (hr.below hW (Nat.le_refl _)))
    have HIh := Lib.hid (fun W (hW : Below w1.heap.size w1 W) => exI_ok so (zs.length / 2) sc (zs.take (zs.length / 2)) n i q W ((hr.below hW (Nat.le_refl _)).takeN _ (Nat.div_le_self _ _)))
    have HAh := Lib.hid (fun W (hW : Below w1.heap.size w1 W) => alI_ok so (zs.length / 2) sc (zs.take (zs.length / 2)) n i W ((hr.below hW (Nat.le_refl _)).takeN _ (Nat.div_le_self _ _)))
    clear hr
    cases he : explV zs n i q with
    | false =>
      have HE := Lib.hid he
      clear he
      go_wp2_with fail
      refine (HI.out _ (Below.refl _ _) q).mono ?_
      rintro e w2 ⟨rfl, b2⟩
      rw [HE.out]
      go_wp2_with fail
      refine (HS.out _ b2 q).mono ?_
      rintro e w3 ⟨rfl, b3⟩
      rw [HE.out]
      have c3 : Below w1.heap.size w1 w3 := b2.trans (b3.mono b2.size)
      go_wp2_with fail
      refine (HS.out _ c3 q).mono ?_
      rintro e w4 ⟨rfl, b4⟩
      rw [HE.out]
      go_wp2_with fail
      go_ret
      exact ⟨rfl, HB1.out.trans ((c3.trans (b4.mono c3.size)).mono HB1.out.size)⟩
    | true =>
      have HE := Lib.hid he
      have HAll := Lib.hid (expl_all he)
      have hsw := (explV_iff.1 he).1
      obtain ⟨hsn, ⟨hn1, hn5⟩, _⟩ := swB_get hsw
      have hq0 := (explV_iff.1 he).2.1
      have HEh := Lib.hid (expl_take he (zs.length / 2) (Nat.div_le_self _ _))
      have HAllh := Lib.hid (expl_all HEh.out)
      have hul := unV_len zs n
      have hulh := unV_len (zs.take (zs.length / 2)) n
      have hut := un_take hsn (zs.length / 2)
      have hpw : (2 : Nat) ^ (unV zs n).length ≤ 2 ^ (unV (zs.take (zs.length / 2)) n).length := Nat.pow_le_pow_right (by decide) hut
      have hp0 := Nat.two_pow_pos (unV zs n).length
      obtain ⟨p, rfl⟩ := Int.eq_ofNat_of_zero_le (show 0 ≤ n by omega)
      obtain ⟨y, rfl⟩ := Int.eq_ofNat_of_zero_le hq0.1
      have hy : y < 32 := by
        have h1 := hq0.2
        rw [Int.toNat_natCast] at h1
        have h2 : (2 ^ p : Nat) ≤ 2 ^ 5 := Nat.pow_le_pow_right (by decide) (by omega)
        have h3 : ((2 ^ p : Nat) : Int) = 2 ^ p := by simp
        omega
      clear he hsw hsn hq0 hut hul hulh
      generalize (2 : Nat) ^ (unV zs p).length = A at HAll hpw hp0
      generalize (2 : Nat) ^ (unV (zs.take (zs.length / 2)) p).length = Ah at HAllh hpw
      go_wp2_with fail
      refine (HI.out _ (Below.refl _ _) y).mono ?_
      rintro e w2 ⟨rfl, b2⟩
      rw [HE.out]
      go_wp2_with fail
      refine (HS.out _ b2 y).mono ?_
      rintro e w3 ⟨rfl, b3⟩
      rw [HE.out]
      have c3 : Below w1.heap.size w1 w3 := b2.trans (b3.mono b2.size)
      have C3 := Lib.hid c3
      clear b2 b3 c3
      go_wp2_with fail
      go_loopw [8] (fun j wr => ∃ k : Nat, k ≤ p ∧ j = .int .i64 k ∧ Below w1.heap.size w1 wr) (fun j _ => p - (intOf j).toNat)
      case atStart => exact ⟨0, Nat.zero_le _, rfl, C3.out⟩
      case round =>
        obtain ⟨k, hk, rfl, hb⟩ := hrel
        have HB := Lib.hid hb
        clear hb
        by_cases hkp : k < p
        · have hkw : (k : Int) < (p : Int) := by omega
          have hor := or_shl y k (by omega) (by omega)
          have HEk := Lib.hid (expl_or HE.out hkw)
          have HIk := Lib.hid (HI.out _ HB.out ((y ||| 2 ^ k : Nat) : Int))
          rw [HEk.out] at HIk
          generalize (y ||| 2 ^ k : Nat) = r at hor HIk HEk
          go_wp2_with fail
          refine HIk.out.mono ?_
          rintro e w4 ⟨rfl, b4⟩
          have C4 := Lib.hid (HB.out.trans (b4.mono HB.out.size))
          clear b4
          go_wp2_with fail
          go_roundw
          case rel => exact ⟨k + 1, by omega, by go_num, C4.out⟩
          case measure => simp [intOf]; omega
        · have hkw : ¬ (k : Int) < (p : Int) := by omega
          have hdiv : (zs.length : Int) / 2 = ((zs.length / 2 : Nat) : Int) := rfl
          have hh1 : zs.length / 2 ≤ sc := by omega
          have hh2 : ((zs.length / 2 : Nat) : Int) ≤ (sc : Int) := by omega
          have HIh1 := Lib.hid (HIh.out _ HB.out)
          rw [HEh.out] at HIh1
          generalize zs.length / 2 = hf at hdiv hh1 hh2 HIh1 HAh HAllh
          go_wp2_with fail
          refine HIh1.out.mono ?_
          rintro e w4 ⟨rfl, b4⟩
          have C4 := Lib.hid (HB.out.trans (b4.mono HB.out.size))
          clear b4
          go_wp2_with fail
          refine (HA.out _ C4.out).mono ?_
          rintro e w5 ⟨rfl, b5⟩
          rw [HAll.out]
          have C5 := Lib.hid (C4.out.trans (b5.mono C4.out.size))
          clear b5
          have hA0 : (0 : Int) < (A : Int) := by omega
          go_wp2_with fail
          refine (HAh.out _ C5.out).mono ?_
          rintro e w6 ⟨rfl, b6⟩
          rw [HAllh.out]
          have C6 := Lib.hid (C5.out.trans (b6.mono C5.out.size))
          clear b6
          go_wp2_with fail
          refine (HA.out _ C6.out).mono ?_
          rintro e w7 ⟨rfl, b7⟩
          rw [HAll.out]
          have C7 := Lib.hid (C6.out.trans (b7.mono C6.out.size))
          clear b7
          have hAA : (A : Int) ≤ (Ah : Int) := by omega
          go_wp2_with fail
          go_ret
          exact ⟨rfl, HB1.out.trans (C7.out.mono HB1.out.size)⟩

end Go.Proofs.Ytlfeipibhdggcaa
