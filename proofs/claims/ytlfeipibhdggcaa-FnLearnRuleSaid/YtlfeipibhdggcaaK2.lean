/- The law FnLeastInputs. -/
import Derived.Test.YtlfeipibhdggcaaK1
import Derived.Test.YtlfeipibhdggcaaC3
import Derived.Test.YtlfeipibhdggcaaE2
namespace Go.Proofs.Ytlfeipibhdggcaa
open Go.RowKit Go.Maps

/-- Steps, a number of switches and a switch are drawn. -/
def SeenIP (g P : Nat) (w : World) (e : Ending) (w' : World) : Prop := ∃ v zs, ∃ n i : Int, e = .returned (.tuple #[v, .int .i64 n, .int .i64 i]) ∧ zs.length ≤ 70 ∧ OwnS w' w.heap.size v zs ∧ Rd w' g P ∧ DrB g w.heap.size w w'

set_option maxHeartbeats 1000000 in
theorem l12With_ok (g P : Nat) (w : World) (h : Rd w g P) (hP : P ≤ 300000) :
    Calls Try.prog 31 #[.pointer (some ⟨g, 0, none⟩)] w (SeenIP g (P + 600) w) := by
  have hgw := h.lt
  have HD := Lib.hid (l12Draw_ok g P w h (by omega))
  clear h
  go_enter Try.func31, Try.ntmps31
  go_wp2_with fail
  refine HD.out.mono ?_
  rintro e w2 ⟨v, zs, n, rfl, hz, o2, r2, d2⟩
  have R2 := Lib.hid r2
  have O2 := Lib.hid o2
  have D2 := Lib.hid d2
  clear r2 o2 d2 HD
  go_wp2_with fail
  refine (l1Switch_ok g _ _ R2.out (by omega)).mono ?_
  rintro e w3 ⟨i, rfl, r3, d3⟩
  have R3 := Lib.hid r3
  have O3 := Lib.hid (O2.out.dr d3 (Nat.le_refl _) hgw)
  have D3 := Lib.hid (D2.out.trans (d3.mono D2.out.size))
  clear r3 d3
  go_wp2_with fail
  refine bodyPost_ret (v := .tuple #[v, .int .i64 n, .int .i64 i]) (by simp [results, Try.results31, go_sem]) rfl ⟨_, zs, n, i, rfl, hz, O3.out, R3.out.more (by omega), D3.out⟩

def DrawL (w : World) (e : Ending) (w' : World) : Prop := ∃ v zs, ∃ n i : Int, e = .returned (.tuple #[v, .int .i64 n, .int .i64 i]) ∧ zs.length ≤ 70 ∧ OwnS w' w.heap.size v zs ∧ Below w.heap.size w w'

set_option maxHeartbeats 1000000 in
theorem drawLeast_ok (ao : Option Addr) (l c : Nat) (cs : List Int) (w : World) (h : RowU w ao l c cs) (hl : l ≤ 1048576) :
    Calls Try.prog 10 #[.slice ao l c] w (DrawL w) := by
  have HO := Lib.hid (l14Open_ok ao l c cs w h hl)
  clear h
  go_enter Try.func10, Try.ntmps10
  go_wp2_with fail
  refine HO.out.mono ?_
  rintro e w1 ⟨g, rfl, hg, r1, b1⟩
  have R1 := Lib.hid r1
  have B1 := Lib.hid b1
  clear r1 b1 HO
  go_wp2_with fail
  refine (l12With_ok g 0 _ R1.out (by omega)).mono ?_
  rintro e w2 ⟨v, zs, n, i, rfl, hz, o2, r2, d2⟩
  have O2 := Lib.hid (o2.base B1.out.size)
  have D2 := Lib.hid ((DrB.ofB (g := g) B1.out).trans (d2.mono B1.out.size))
  clear r2 o2 d2
  go_wp2_with fail
  refine bodyPost_ret (v := .tuple #[v, .int .i64 n, .int .i64 i]) (by simp [results, Try.results10, go_sem]) rfl ⟨_, zs, n, i, rfl, hz, O2.out, D2.out.below hg⟩

theorem pop_fin : ∀ (n : Fin 6) (r : Fin 32), r.val < 2 ^ n.val → popTo r.val n.val = popN r.val := by decide +kernel
theorem pop_all {n r : Nat} (hn : n ≤ 5) (hr : r < 2 ^ n) : popTo r n = popN r := by
  have hp : (2 ^ n : Nat) ≤ 32 := Nat.pow_le_pow_right (n := 2) (by decide) hn
  exact pop_fin ⟨n, by omega⟩ ⟨r, by omega⟩ hr
theorem leastI_best {zs : List (Int × Int)} {m i : Int} (h : swB zs m i = true) : Best (Exp zs i.toNat) 0 (2 ^ m.toNat) (leastI zs m i) := by
  rw [leastI, if_pos h]
  obtain ⟨b, hb⟩ := Best.exists (Exp zs i.toNat) (2 ^ m.toNat)
  rw [← hb.eq_least]
  exact hb
theorem leastI_cases (zs : List (Int × Int)) (m i : Int) : (swB zs m i = false ∧ leastI zs m i = -2) ∨ (swB zs m i = true ∧ leastI zs m i = -1 ∧ ∀ t : Nat, t < 2 ^ m.toNat → explV zs m i t = false) ∨
    ∃ r : Nat, swB zs m i = true ∧ leastI zs m i = r ∧ r < 2 ^ m.toNat ∧ explV zs m i r = true ∧ (r = 0 ∨ 1 < zs.length) ∧ ∀ t : Nat, t < 2 ^ m.toNat → explV zs m i t = true → popN r < popN t ∨ (popN r = popN t ∧ r ≤ t) := by
  cases h : swB zs m i with
  | false => exact .inl ⟨rfl, by simp [leastI, h]⟩
  | true =>
    refine .inr ?_
    obtain ⟨_, ⟨hm1, hm5⟩, hi0, _⟩ := swB_get h
    have key : ∀ t : Nat, t < 2 ^ m.toNat → (explV zs m i t = true ↔ Exp zs i.toNat t) := fun t ht => by
      rw [explV_iff, h, Int.toNat_natCast, Exp]
      have hc : ((2 ^ m.toNat : Nat) : Int) = 2 ^ m.toNat := by simp
      constructor
      · rintro ⟨_, _, h3⟩; exact h3
      · exact fun h3 => ⟨rfl, ⟨by omega, by omega⟩, h3⟩
    rcases leastI_best h with ⟨h1, h2⟩ | ⟨s, h1, _, h2, h3, h4⟩
    · refine .inl ⟨rfl, h1, fun t ht => ?_⟩
      rw [Bool.eq_false_iff, Ne, key t ht]
      exact h2 t (Nat.zero_le _) ht
    · refine .inr ⟨s, rfl, h1, h2, (key s h2).2 h3, ?_, fun t ht he => h4 t (Nat.zero_le _) ht ((key t ht).1 he)⟩
      by_cases hl : 1 < zs.length
      · exact .inr hl
      · refine .inl ?_
        have h0 : Exp zs i.toNat 0 := fun k hk j hj => by omega
        rcases h4 0 (Nat.zero_le _) (Nat.two_pow_pos _) h0 with h5 | h5
        · have : popN 0 = 0 := rfl
          omega
        · omega

set_option maxRecDepth 100000 in
set_option maxHeartbeats 8000000 in
theorem FnLeastInputs_ok (ao : Option Addr) (l c : Nat) (cs : List Int) (w : World) (h : RowU w ao l c cs) :
    Calls Try.prog 4 #[.slice ao l c] w fun e w' => e = .returned (.bool true) ∧ Below w.heap.size w w' := by
  go_enter Try.func4, Try.ntmps4
  by_cases hbig : 1048576 < l
  · have hbig' : (1048576 : Int) < (l : Int) := by omega
    go_wp2_with fail
    go_ret
    exact ⟨rfl, Below.refl _ _⟩
  · have hbig' : ¬ (1048576 : Int) < (l : Int) := by omega
    have HD := Lib.hid (drawLeast_ok ao l c cs w h (by omega))
    clear h
    go_wp2_with fail
    refine HD.out.mono ?_
    rintro e w1 ⟨v, zs, n, i, rfl, hz, o1, b1⟩
    obtain ⟨so, sc, rfl, hr, _⟩ := o1.out
    have HB1 := Lib.hid b1
    clear o1 b1 HD
    have HI := Lib.hid (fun W (hW : Below w1.heap.size w1 W) q => exI_ok so zs.length sc zs n i q W (hr.below hW (Nat.le_refl _)))
    have HLI := Lib.hid (fun W (hW : Below w1.heap.size w1 W) => leI_ok so zs.length sc zs n i W (hr.below hW (Nat.le_refl _)))
    have HLS := Lib.hid (fun W (hW : Below w1.heap.size w1 W) => leS_ok so zs.length sc zs n i W (hr.below hW (Nat.le_refl _)))
    clear hr
    rcases leastI_cases zs n i with ⟨_, h2⟩ | ⟨h1, h2, h3⟩ | ⟨r, h1, h2, h3, h4, h5, h6⟩
    · rw [h2] at HLI HLS
      clear h2
      go_wp2_with fail
      refine (HLI.out _ (Below.refl _ _)).mono ?_
      rintro e w2 ⟨rfl, b2⟩
      go_wp2_with fail
      refine (HLS.out _ b2).mono ?_
      rintro e w3 ⟨rfl, b3⟩
      have c3 : Below w1.heap.size w1 w3 := b2.trans (b3.mono b2.size)
      go_wp2_with fail
      refine (HLS.out _ c3).mono ?_
      rintro e w4 ⟨rfl, b4⟩
      go_wp2_with fail
      go_ret
      exact ⟨rfl, HB1.out.trans ((c3.trans (b4.mono c3.size)).mono HB1.out.size)⟩
    · obtain ⟨_, ⟨hn1, hn5⟩, _⟩ := swB_get h1
      obtain ⟨p, rfl⟩ := Int.eq_ofNat_of_zero_le (show 0 ≤ n by omega)
      rw [Int.toNat_natCast] at h3
      have hpw : wrap64 (2 ^ p) = ((2 ^ p : Nat) : Int) := wrap_pow_nat p (by omega)
      have hp : (2 ^ p : Nat) ≤ 32 := Nat.pow_le_pow_right (n := 2) (by decide) (show p ≤ 5 by omega)
      have H3 := Lib.hid h3
      rw [h2] at HLI HLS
      clear h1 h2 h3
      generalize (2 ^ p : Nat) = N at hpw hp H3
      have hp0 : (0 : Int) < (p : Int) := by omega
      go_wp2_with fail
      refine (HLI.out _ (Below.refl _ _)).mono ?_
      rintro e w2 ⟨rfl, b2⟩
      go_wp2_with fail
      refine (HLS.out _ b2).mono ?_
      rintro e w3 ⟨rfl, b3⟩
      have C3 := Lib.hid (b2.trans (b3.mono b2.size))
      clear b2 b3
      go_wp2_with fail
      go_loop [7, 8] (fun a j => a = .int .i64 0 ∧ j = .int .i64 0) (fun _ _ => 0)
      case atStart => exact ⟨rfl, rfl⟩
      case round =>
        obtain ⟨rfl, rfl⟩ := hrel
        go_wp2_with fail
        go_loopw [9] (fun a wr => ∃ s : Nat, s ≤ N ∧ a = .int .i64 s ∧ Below w1.heap.size w1 wr) (fun a _ => N - (intOf a).toNat)
        case atStart => exact ⟨0, Nat.zero_le _, rfl, C3.out⟩
        case round =>
          obtain ⟨s, hs, rfl, hb⟩ := hrel
          have HB := Lib.hid hb
          clear hb
          by_cases hsN : s < N
          · have hsw : (s : Int) < (N : Int) := by omega
            have HE := Lib.hid (H3.out s hsN)
            have HIs := Lib.hid (HI.out _ HB.out (s : Int))
            rw [HE.out] at HIs
            go_wp2_with fail
            go_loop [10, 11] (fun a b => ∃ j : Nat, j ≤ p ∧ b = .int .i64 j ∧ a = .int .i64 (popTo s j : Nat)) (fun _ b => p - (intOf b).toNat)
            case atStart => exact ⟨0, Nat.zero_le _, rfl, rfl⟩
            case round =>
              obtain ⟨j, hj, rfl, rfl⟩ := hrel
              by_cases hjp : j < p
              · have hjw : (j : Int) < (p : Int) := by omega
                have ev : bits .and .i64 ((s : Int) / 2 ^ j) 1 = ((bN s j : Nat) : Int) := bit_int (s : Int) j (by omega) (by omega)
                have hbl := bN_lt s j
                have hpl := popTo_le s j
                have HN := Lib.hid (popTo_succ s j)
                generalize bN s j = u at ev hbl HN
                go_wp2_with fail
                go_round
                case rel => exact ⟨j + 1, by omega, by go_num, by rw [HN.out]; go_num⟩
                case measure => simp [intOf]; omega
              · have hjw : ¬ (j : Int) < (p : Int) := by omega
                go_wp2_with fail
                refine HIs.out.mono ?_
                rintro e w4 ⟨rfl, b4⟩
                have C4 := Lib.hid (HB.out.trans (b4.mono HB.out.size))
                clear b4
                go_wp2_with fail
                go_roundw
                case rel => exact ⟨s + 1, by omega, by go_num, C4.out⟩
                case measure => simp [intOf]; omega
          · have hsw : ¬ (s : Int) < (N : Int) := by omega
            go_wp2_with fail
            go_ret
            exact ⟨rfl, HB1.out.trans (HB.out.mono HB1.out.size)⟩
    · obtain ⟨_, ⟨hn1, hn5⟩, _⟩ := swB_get h1
      obtain ⟨p, rfl⟩ := Int.eq_ofNat_of_zero_le (show 0 ≤ n by omega)
      rw [Int.toNat_natCast] at h3 h6
      have hpw : wrap64 (2 ^ p) = ((2 ^ p : Nat) : Int) := wrap_pow_nat p (by omega)
      have hp : (2 ^ p : Nat) ≤ 32 := Nat.pow_le_pow_right (n := 2) (by decide) (show p ≤ 5 by omega)
      have HPop := Lib.hid (fun s (hs : s < 2 ^ p) => pop_all (show p ≤ 5 by omega) hs)
      have H6 := Lib.hid h6
      have H4 := Lib.hid h4
      have H5 := Lib.hid h5
      have HPr := Lib.hid (HPop.out r h3)
      have hr32 : r < 32 := by omega
      rw [h2] at HLI HLS
      clear h1 h2 h6 h4 h5
      generalize (2 ^ p : Nat) = N at hpw hp H6 h3 HPop
      have hr0 : (0 : Int) ≤ (r : Int) := by omega
      have hrn : ¬ (r : Int) < 0 := by omega
      have hr2 : ((r : Int) == -2) = false := by rw [beq_eq_false_iff_ne]; omega
      go_wp2_with fail
      refine (HLI.out _ (Below.refl _ _)).mono ?_
      rintro e w2 ⟨rfl, b2⟩
      go_wp2_with fail
      refine (HLS.out _ b2).mono ?_
      rintro e w3 ⟨rfl, b3⟩
      have C3 := Lib.hid (b2.trans (b3.mono b2.size))
      clear b2 b3
      go_wp2_with fail
      go_loop [7, 8] (fun a b => ∃ j : Nat, j ≤ p ∧ b = .int .i64 j ∧ a = .int .i64 (popTo r j : Nat)) (fun _ b => p - (intOf b).toNat)
      case atStart => exact ⟨0, Nat.zero_le _, rfl, rfl⟩
      case round =>
        obtain ⟨j, hj, rfl, rfl⟩ := hrel
        by_cases hjp : j < p
        · have hjw : (j : Int) < (p : Int) := by omega
          have ev : bits .and .i64 ((r : Int) / 2 ^ j) 1 = ((bN r j : Nat) : Int) := bit_int (r : Int) j (by omega) (by omega)
          have hbl := bN_lt r j
          have hpl := popTo_le r j
          have HN := Lib.hid (popTo_succ r j)
          generalize bN r j = u at ev hbl HN
          go_wp2_with fail
          go_round
          case rel => exact ⟨j + 1, by omega, by go_num, by rw [HN.out]; go_num⟩
          case measure => simp [intOf]; omega
        · obtain rfl : j = p := by omega
          have hpl := popN_le r
          rw [HPr.out]
          generalize popN r = pr at HPr H6 hpl ⊢
          go_wp2_with fail
          go_loopw [9] (fun a wr => ∃ s : Nat, s ≤ N ∧ a = .int .i64 s ∧ Below w1.heap.size w1 wr) (fun a _ => N - (intOf a).toNat)
          case atStart => exact ⟨0, Nat.zero_le _, rfl, C3.out⟩
          case round =>
            obtain ⟨s, hs, rfl, hb⟩ := hrel
            have HB := Lib.hid hb
            clear hb
            by_cases hsN : s < N
            · have hsw : (s : Int) < (N : Int) := by omega
              have HIs := Lib.hid (HI.out _ HB.out (s : Int))
              have HPs := Lib.hid (HPop.out s hsN)
              have H6s := Lib.hid (H6.out s hsN)
              have hpls := popN_le s
              go_wp2_with fail
              go_loop [10, 11] (fun a b => ∃ x : Nat, x ≤ j ∧ b = .int .i64 x ∧ a = .int .i64 (popTo s x : Nat)) (fun _ b => j - (intOf b).toNat)
              case atStart => exact ⟨0, Nat.zero_le _, rfl, rfl⟩
              case round =>
                obtain ⟨x, hx, rfl, rfl⟩ := hrel
                by_cases hxp : x < j
                · have hxw : (x : Int) < (j : Int) := by omega
                  have ev : bits .and .i64 ((s : Int) / 2 ^ x) 1 = ((bN s x : Nat) : Int) := bit_int (s : Int) x (by omega) (by omega)
                  have hbl := bN_lt s x
                  have hpl2 := popTo_le s x
                  have HN := Lib.hid (popTo_succ s x)
                  generalize bN s x = u at ev hbl HN
                  go_wp2_with fail
                  go_round
                  case rel => exact ⟨x + 1, by omega, by go_num, by rw [HN.out]; go_num⟩
                  case measure => simp [intOf]; omega
                · obtain rfl : x = j := by omega
                  rw [HPs.out]
                  cases he : explV zs x i s with
                  | false =>
                    have HE := Lib.hid he
                    rw [he] at HIs
                    clear he
                    go_wp2_with fail
                    refine HIs.out.mono ?_
                    rintro e w4 ⟨rfl, b4⟩
                    have C4 := Lib.hid (HB.out.trans (b4.mono HB.out.size))
                    clear b4
                    go_wp2_with fail
                    go_roundw
                    case rel => exact ⟨s + 1, by omega, by go_num, C4.out⟩
                    case measure => simp [intOf]; omega
                  | true =>
                    have hcmp := H6s.out he
                    rw [he] at HIs
                    clear he
                    have hnl : ¬ ((popN s : Nat) : Int) < ((pr : Nat) : Int) := by omega
                    by_cases heq : popN s = pr
                    · have heq1 : (((popN s : Nat) : Int) == ((pr : Nat) : Int)) = true := by rw [heq]; simp
                      have hsr : ¬ (s : Int) < (r : Int) := by omega
                      clear heq hcmp
                      generalize popN s = ps at hnl heq1 hpls
                      go_wp2_with fail
                      refine HIs.out.mono ?_
                      rintro e w4 ⟨rfl, b4⟩
                      have C4 := Lib.hid (HB.out.trans (b4.mono HB.out.size))
                      clear b4
                      go_wp2_with fail
                      go_roundw
                      case rel => exact ⟨s + 1, by omega, by go_num, C4.out⟩
                      case measure => simp [intOf]; omega
                    · have heq1 : (((popN s : Nat) : Int) == ((pr : Nat) : Int)) = false := by rw [beq_eq_false_iff_ne]; omega
                      clear heq hcmp
                      generalize popN s = ps at hnl heq1 hpls
                      go_wp2_with fail
                      refine HIs.out.mono ?_
                      rintro e w4 ⟨rfl, b4⟩
                      have C4 := Lib.hid (HB.out.trans (b4.mono HB.out.size))
                      clear b4
                      go_wp2_with fail
                      go_roundw
                      case rel => exact ⟨s + 1, by omega, by go_num, C4.out⟩
                      case measure => simp [intOf]; omega
            · have hsw : ¬ (s : Int) < (N : Int) := by omega
              have HIr := Lib.hid (HI.out _ HB.out (r : Int))
              rw [H4.out] at HIr
              by_cases hre : r = 0
              · have hr00 : ((r : Int) == 0) = true := by rw [hre]; rfl
                clear hre
                go_wp2_with fail
                refine HIr.out.mono ?_
                rintro e w4 ⟨rfl, b4⟩
                have C4 := Lib.hid (HB.out.trans (b4.mono HB.out.size))
                clear b4
                go_wp2_with fail
                go_ret
                exact ⟨rfl, HB1.out.trans (C4.out.mono HB1.out.size)⟩
              · have hr00 : ((r : Int) == 0) = false := by rw [beq_eq_false_iff_ne]; omega
                have hzl : (1 : Int) < (zs.length : Int) := by have := H5.out; omega
                clear hre
                go_wp2_with fail
                refine HIr.out.mono ?_
                rintro e w4 ⟨rfl, b4⟩
                have C4 := Lib.hid (HB.out.trans (b4.mono HB.out.size))
                clear b4
                go_wp2_with fail
                go_ret
                exact ⟨rfl, HB1.out.trans (C4.out.mono HB1.out.size)⟩

end Go.Proofs.Ytlfeipibhdggcaa
