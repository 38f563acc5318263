/- Walks: the sign of an input, on both sides. -/
import Derived.Test.YtfopimahnmpciaaDoorP1
import Derived.Test.YtfopimahnmpciaaDoorM5
namespace Go.Proofs.YtfopimahnmpciaaDoor
open Go.RowKit

/-- What a table's values are. -/
def TabIs (bs : List Int) (f : Nat → Nat) (n : Nat) : Prop := bs.length = 32 ∧ ∀ s, s < 2 ^ n → gI bs s = ((f s : Nat) : Int) ∧ f s < 2
theorem bit_case {k i : Nat} : (k.testBit i = true → (((bN k i : Nat) : Int) == 1) = true) ∧ (k.testBit i = false → (((bN k i : Nat) : Int) == 1) = false) := by
  constructor
  · intro h
    have : bN k i = 1 := by rw [bN, bit_test, h]; rfl
    rw [this]; rfl
  · intro h
    have : bN k i = 0 := by rw [bN, bit_test, h]; rfl
    rw [this]; rfl
theorem or_lt_pow {k i n : Nat} (hk : k < 2 ^ n) (hi : i < n) : k ||| 2 ^ i < 2 ^ n := Nat.or_lt_two_pow hk (Nat.pow_lt_pow_right (by decide) hi)

set_option maxHeartbeats 4000000 in
theorem sign_ok (n i : Nat) (bs : List Int) (f : Nat → Nat) (w : World) (hn : n ≤ 5) (hi : i < n) (h : TabIs bs f n) :
    Calls Tryd.prog 29 #[tabV n bs, .int .i64 i] w fun e w' => e = .returned (.string (sgT (upB f i n) (dnB f i n))) ∧ Below w.heap.size w w' := by
  have hp : (2 ^ n : Nat) ≤ 32 := Nat.pow_le_pow_right (n := 2) (by decide) hn
  have HB0 := Lib.hid (Blk.new w 50 (tabC n bs))
  have HT := Lib.hid h
  have HW := Lib.hid (fun W => width_ok n bs (by omega) W)
  have HU := Lib.hid (low_up f i n (by omega) hn)
  have HD := Lib.hid (low_dn f i n (by omega) hn)
  have HO := Lib.hid (fun k (hk : k < 2 ^ n) => or_lt_pow hk hi)
  have HL := Lib.hid h.1
  have HG := Lib.hid h.2
  clear h HT
  generalize (2 ^ n : Nat) = N at HW HU HD HO HG hp
  generalize hv : tabV n bs = v at HW ⊢
  go_enter Tryd.func29, Tryd.ntmps29
  go_wp2_with (first | (refine wpList_tabBox rfl _ rfl n bs hv.symm ?_) | (refine wpList_tabLoad rfl _ rfl _ n bs rfl HL.out _ HB0.out ?_))
  refine (HW.out _).mono ?_
  rintro e w1 ⟨rfl, b1⟩
  have HB1 := Lib.hid (HB0.out.below b1 HB0.out.lt)
  have HW1 : Hid (Below w.heap.size w w1) := ((Below.refl _ _).alloc (Nat.le_refl _) _).trans (b1.mono (by simp))
  clear HW HB0 hv
  go_wp2_with fail
  go_loopw [5, 6, 12] (fun u d q wr => ∃ k : Nat, k ≤ N ∧ q = .int .i64 k ∧ u = .bool (anyTo (lowU f i) k) ∧ d = .bool (anyTo (lowD f i) k) ∧ Below w1.heap.size w1 wr) (fun _ _ q _ => N - (intOf q).toNat)
  case atStart => exact ⟨0, Nat.zero_le _, rfl, rfl, rfl, Below.refl _ _⟩
  case round =>
    obtain ⟨k, hk, rfl, rfl, rfl, hb⟩ := hrel
    have HBe := Lib.hid hb
    by_cases hkN : k < N
    · have hkw : (k : Int) < (N : Int) := by omega
      have hB := HB1.out.below hb HB1.out.lt
      have hg := (HG.out k hkN)
      have hc := hB.cell (tabC_get n bs k (by rw [HL.out]; omega))
      rw [hg.1] at hc
      have ev : bits .and .i64 ((k : Int) / 2 ^ i) 1 = ((bN k i : Nat) : Int) := bit_int (k : Int) i (by omega) (by omega)
      have hbl := bN_lt k i
      cases hq : k.testBit i with
      | true =>
        have h1 := bit_case.1 hq
        have HU1 := Lib.hid (anyTo_miss (p := lowU f i) (N := k) (by simp [lowU, hq]))
        have HD1 := Lib.hid (anyTo_miss (p := lowD f i) (N := k) (by simp [lowD, hq]))
        clear hB hg hc hq hb
        generalize bN k i = u at ev hbl h1
        go_wp2_with fail
        go_roundw
        case rel => exact ⟨k + 1, by omega, by go_num, by rw [HU1.out], by rw [HD1.out], HBe.out⟩
        case measure => simp [intOf]; omega
      | false =>
        have h1 := bit_case.2 hq
        have hm := HO.out k hkN
        have eo := or_shl k i (by omega) (by omega)
        have hz0 := setN_zero (show k < 32 by omega) (show i < 5 by omega) hq
        have hz1 := setN_one (show k < 32 by omega) (show i < 5 by omega) hq
        have hgm := HG.out _ hm
        have hcm := hB.cell (tabC_get n bs (k ||| 2 ^ i) (by rw [HL.out]; omega))
        rw [hgm.1] at hcm
        have hU : lowU f i k = decide (f k < f (k ||| 2 ^ i)) := by rw [lowU, bitU, hz0, hz1, hq]; rfl
        have hD : lowD f i k = decide (f (k ||| 2 ^ i) < f k) := by rw [lowD, bitD, hz0, hz1, hq]; rfl
        have hx := hg.2
        have hy := hgm.2
        clear hB hg hgm hq hb hz0 hz1
        generalize k ||| 2 ^ i = m at eo hm hcm hU hD hy
        generalize f k = x at hc hU hD hx
        generalize f m = y at hcm hU hD hy
        generalize bN k i = u at ev hbl h1
        have hmw : (m : Int) < 32 := by omega
        rcases Nat.lt_trichotomy x y with hxy | hxy | hxy
        · have hxy' : (x : Int) < (y : Int) := by omega
          have hn1 : ¬ (y : Int) < (x : Int) := by omega
          have hn2 : ¬ y < x := by omega
          have HU1 := Lib.hid (anyTo_hit (p := lowU f i) (N := k) (by rw [hU]; simpa using hxy))
          have HD1 := Lib.hid (anyTo_miss (p := lowD f i) (N := k) (by rw [hD]; simpa using hn2))
          clear hU hD
          go_wp2_with fail
          go_quiet (fail)
          go_wp2_with fail
          go_roundw
          case rel => exact ⟨k + 1, by omega, by go_num, by rw [HU1.out], by rw [HD1.out], HBe.out.trans ⟨rfl, rfl, rfl, Nat.le_refl _, fun _ _ => rfl⟩⟩
          case measure => simp [intOf]; omega
        · subst hxy
          have hn1 : ¬ (x : Int) < (x : Int) := by omega
          have HU1 := Lib.hid (anyTo_miss (p := lowU f i) (N := k) (by rw [hU]; simp))
          have HD1 := Lib.hid (anyTo_miss (p := lowD f i) (N := k) (by rw [hD]; simp))
          clear hU hD
          go_wp2_with fail
          go_quiet (fail)
          go_wp2_with fail
          go_roundw
          case rel => exact ⟨k + 1, by omega, by go_num, by rw [HU1.out], by rw [HD1.out], HBe.out.trans ⟨rfl, rfl, rfl, Nat.le_refl _, fun _ _ => rfl⟩⟩
          case measure => simp [intOf]; omega
        · have hxy' : (y : Int) < (x : Int) := by omega
          have hn1 : ¬ (x : Int) < (y : Int) := by omega
          have hn2 : ¬ x < y := by omega
          have HU1 := Lib.hid (anyTo_miss (p := lowU f i) (N := k) (by rw [hU]; simpa using hn2))
          have HD1 := Lib.hid (anyTo_hit (p := lowD f i) (N := k) (by rw [hD]; simpa using hxy))
          clear hU hD
          go_wp2_with fail
          go_quiet (fail)
          go_wp2_with fail
          go_roundw
          case rel => exact ⟨k + 1, by omega, by go_num, by rw [HU1.out], by rw [HD1.out], HBe.out.trans ⟨rfl, rfl, rfl, Nat.le_refl _, fun _ _ => rfl⟩⟩
          case measure => simp [intOf]; omega
    · obtain rfl : k = N := by omega
      have HE := Lib.hid (HW1.out.trans (hb.mono HW1.out.size))
      clear hb
      cases hu : upB f i n <;> cases hd : dnB f i n
      all_goals
        simp only [HU.out, HD.out, hu, hd]
        have HU1 := Lib.hid hu
        have HD1 := Lib.hid hd
        clear hu hd
        go_wp2_with fail
        go_ret
        exact ⟨by rw [HU1.out, HD1.out]; rfl, HE.out⟩

theorem sg_or1 (a b : Bool) : bits .or .i64 ((sgV a b : Nat) : Int) 1 = ((sgV true b : Nat) : Int) := by cases a <;> cases b <;> decide +kernel
theorem sg_or2 (a b : Bool) : bits .or .i64 ((sgV a b : Nat) : Int) 2 = ((sgV a true : Nat) : Int) := by cases a <;> cases b <;> decide +kernel

set_option maxHeartbeats 4000000 in
theorem l1Sign_ok (t : ByteArray) (n i : Nat) (f : Nat → Nat) (w : World) (hn : n ≤ 5) (hi : i < n) (hz : t.size = 2 ^ n) (hf : ∀ s, s < 2 ^ n → byD t s = ((f s : Nat) : Int) ∧ f s < 2) :
    Calls Tryd.prog 23 #[.string t, .int .i64 i] w fun e w' => e = .returned (.int .i64 ((sgV (upB f i n) (dnB f i n) : Nat) : Int)) ∧ w = w' := by
  have hp : (2 ^ n : Nat) ≤ 32 := Nat.pow_le_pow_right (n := 2) (by decide) hn
  have HS := Lib.hid (fun s v (hs : s < 2 ^ n) (hv : v < 2) W => l1Set_ok s i v W (by omega) (by omega) hv)
  have HAt := Lib.hid (fun s (hs : s < 2 ^ n) W => l1At_ok t s W (by rw [hz]; exact hs))
  have HR : Hid (∀ s v, s < 2 ^ n → v < 2 → setN s i v < 2 ^ n) := fun s v hs hv => by
    have hpi : (2 : Nat) ^ i < 2 ^ n := Nat.pow_lt_pow_right (by decide) hi
    refine Nat.or_lt_two_pow (Nat.lt_of_le_of_lt Nat.and_le_left hs) ?_
    rcases (show v = 0 ∨ v = 1 by omega) with rfl | rfl
    · simpa using Nat.two_pow_pos n
    · simpa using hpi
  have HG := Lib.hid hf
  have HU : Hid (upB f i n = anyTo (bitU f i) (2 ^ n)) := rfl
  have HD : Hid (dnB f i n = anyTo (bitD f i) (2 ^ n)) := rfl
  clear hf
  generalize (2 ^ n : Nat) = N at HS HAt HR HG HU HD hz hp
  subst hz
  go_enter Tryd.func23, Tryd.ntmps23
  go_wp2_with fail
  go_loop [5, 6] (fun o q => ∃ k : Nat, k ≤ t.size ∧ q = .int .i64 k ∧ o = .int .i64 ((sgV (anyTo (bitU f i) k) (anyTo (bitD f i) k) : Nat) : Int)) (fun _ q => t.size - (intOf q).toNat)
  case atStart => exact ⟨0, Nat.zero_le _, rfl, rfl⟩
  case round =>
    obtain ⟨k, hk, rfl, rfl⟩ := hrel
    by_cases hkN : k < t.size
    · have hkw : (k : Int) < (t.size : Int) := by omega
      have hl := sgV_lt (anyTo (bitU f i) k) (anyTo (bitD f i) k)
      have S0 := Lib.hid (HS.out k 0 hkN (by decide))
      have S1 := Lib.hid (HS.out k 1 hkN (by decide))
      have A0 := Lib.hid (HAt.out _ (HR.out k 0 hkN (by decide)))
      have A1 := Lib.hid (HAt.out _ (HR.out k 1 hkN (by decide)))
      rw [(HG.out _ (HR.out k 0 hkN (by decide))).1] at A0
      rw [(HG.out _ (HR.out k 1 hkN (by decide))).1] at A1
      have hx := (HG.out _ (HR.out k 0 hkN (by decide))).2
      have hy := (HG.out _ (HR.out k 1 hkN (by decide))).2
      have hU : bitU f i k = decide (f (setN k i 0) < f (setN k i 1)) := rfl
      have hD : bitD f i k = decide (f (setN k i 1) < f (setN k i 0)) := rfl
      generalize f (setN k i 0) = x at A0 hx hU hD
      generalize f (setN k i 1) = y at A1 hy hU hD
      generalize setN k i 0 = s0 at S0 A0
      generalize setN k i 1 = s1 at S1 A1
      have o1 := sg_or1 (anyTo (bitU f i) k) (anyTo (bitD f i) k)
      have o2 := sg_or2 (anyTo (bitU f i) k) (anyTo (bitD f i) k)
      rcases Nat.lt_trichotomy x y with hxy | hxy | hxy
      · have hxy' : (x : Int) < (y : Int) := by omega
        have hn1 : ¬ (y : Int) < (x : Int) := by omega
        have hn2 : ¬ y < x := by omega
        have HU1 := Lib.hid (anyTo_hit (p := bitU f i) (N := k) (by rw [hU]; simpa using hxy))
        have HD1 := Lib.hid (anyTo_miss (p := bitD f i) (N := k) (by rw [hD]; simpa using hn2))
        clear hU hD o2
        go_wp2_with fail
        refine (S0.out _).mono ?_
        rintro e w2 ⟨rfl, rfl⟩
        go_wp2_with fail
        refine (A0.out _).mono ?_
        rintro e w2 ⟨rfl, rfl⟩
        go_wp2_with fail
        refine (S1.out _).mono ?_
        rintro e w2 ⟨rfl, rfl⟩
        go_wp2_with fail
        refine (A1.out _).mono ?_
        rintro e w2 ⟨rfl, rfl⟩
        go_wp2_with fail
        go_round
        case rel => exact ⟨k + 1, by omega, by go_num, by rw [HU1.out, HD1.out]⟩
        case measure => simp [intOf]; omega
      · subst hxy
        have hn1 : ¬ (x : Int) < (x : Int) := by omega
        have HU1 := Lib.hid (anyTo_miss (p := bitU f i) (N := k) (by rw [hU]; simp))
        have HD1 := Lib.hid (anyTo_miss (p := bitD f i) (N := k) (by rw [hD]; simp))
        clear hU hD o1 o2
        go_wp2_with fail
        refine (S0.out _).mono ?_
        rintro e w2 ⟨rfl, rfl⟩
        go_wp2_with fail
        refine (A0.out _).mono ?_
        rintro e w2 ⟨rfl, rfl⟩
        go_wp2_with fail
        refine (S1.out _).mono ?_
        rintro e w2 ⟨rfl, rfl⟩
        go_wp2_with fail
        refine (A1.out _).mono ?_
        rintro e w2 ⟨rfl, rfl⟩
        go_wp2_with fail
        go_round
        case rel => exact ⟨k + 1, by omega, by go_num, by rw [HU1.out, HD1.out]⟩
        case measure => simp [intOf]; omega
      · have hxy' : (y : Int) < (x : Int) := by omega
        have hn1 : ¬ (x : Int) < (y : Int) := by omega
        have hn2 : ¬ x < y := by omega
        have HU1 := Lib.hid (anyTo_miss (p := bitU f i) (N := k) (by rw [hU]; simpa using hn2))
        have HD1 := Lib.hid (anyTo_hit (p := bitD f i) (N := k) (by rw [hD]; simpa using hxy))
        clear hU hD o1
        go_wp2_with fail
        refine (S0.out _).mono ?_
        rintro e w2 ⟨rfl, rfl⟩
        go_wp2_with fail
        refine (A0.out _).mono ?_
        rintro e w2 ⟨rfl, rfl⟩
        go_wp2_with fail
        refine (S1.out _).mono ?_
        rintro e w2 ⟨rfl, rfl⟩
        go_wp2_with fail
        refine (A1.out _).mono ?_
        rintro e w2 ⟨rfl, rfl⟩
        go_wp2_with fail
        go_round
        case rel => exact ⟨k + 1, by omega, by go_num, by rw [HU1.out, HD1.out]⟩
        case measure => simp [intOf]; omega
    · obtain rfl : k = t.size := by omega
      go_wp2_with fail
      go_ret
      exact ⟨reti (by rw [HU.out, HD.out]), rfl⟩

end Go.Proofs.YtfopimahnmpciaaDoor
