/- Walks: networks in which few switches act, drawn. -/
import Derived.Test.YtlfeipibhdggcaaR5
namespace Go.Proofs.Ytlfeipibhdggcaa
open Go.RowKit

theorem DT.small {n : Nat} {t : ByteArray} (h : DT n t) (hn : n ≤ 5) : t.size ≤ 32 := by rw [h.2]; exact Nat.pow_le_pow_right (n := 2) (by decide) hn

set_option maxHeartbeats 8000000 in
theorem l7Chain_ok (g P : Nat) (w : World) (h : Rd w g P) (hP : P ≤ 600000) :
    Calls Try.prog 58 #[.pointer (some ⟨g, 0, none⟩)] w (TextP g (P + 300) (Wt 165) w) := by
  have hgw := h.lt
  have b0 : Below w.heap.size w (w.alloc (.cells (ints [3, 2, 3, 4, 1]).toArray 3)) := (Below.refl _ _).alloc (Nat.le_refl _) _
  have HX := Lib.hid (num_lit g P 5 [3, 2, 3, 4, 1] _ _ (h.below b0 (Nat.le_refl _)) (Blk.new w 3 (ints [3, 2, 3, 4, 1])) (by omega) rfl (by omega) (by omega) (by omega))
  have D0 := Lib.hid (DrB.ofB (g := g) b0)
  have hs := b0.size
  have HK := Lib.hid (fun Q m W (h : Rd W g Q) (hQ : Q ≤ 1000000) (hm : m ≤ 1048576) => pick_ok g Q m W h hQ hm)
  clear h b0
  go_enter Try.func58, Try.ntmps58
  go_wp2_with fail
  refine HX.out.mono ?_
  rintro e w1 ⟨x, hx, rfl, r1, g1⟩
  have hn : ∃ n : Nat, gI [3, 2, 3, 4, 1] x = n ∧ 1 ≤ n ∧ n ≤ 4 := by
    have : x = 0 ∨ x = 1 ∨ x = 2 ∨ x = 3 ∨ x = 4 := by simp at hx; omega
    rcases this with rfl | rfl | rfl | rfl | rfl
    · exact ⟨3, rfl, by omega, by omega⟩
    · exact ⟨2, rfl, by omega, by omega⟩
    · exact ⟨3, rfl, by omega, by omega⟩
    · exact ⟨4, rfl, by omega, by omega⟩
    · exact ⟨1, rfl, by omega, by omega⟩
  obtain ⟨n, hnv, hn1, hn4⟩ := hn
  rw [hnv]
  have R1 := Lib.hid r1
  have D1 := Lib.hid (D0.out.trans ((DrB.ofG g1).mono (by omega)))
  clear r1 g1 hx hnv hs HX
  have b2 : Below w1.heap.size w1 (w1.alloc (.cells #[] 9)) := (Below.refl _ _).alloc (Nat.le_refl _) _
  have R2 := Lib.hid (R1.out.below b2 (Nat.le_refl _))
  have D2 := Lib.hid (D1.out.trans ((DrB.ofB (g := g) b2).mono D1.out.size))
  have O2 := Lib.hid (OwnT.lit w1 w.heap.size [] D1.out.size (by decide))
  clear b2
  go_wp2_with fail
  go_loopw [4, 5] (fun v q wr => ∃ (k : Nat) (ts : List ByteArray), k ≤ n ∧ q = .int .i64 k ∧ ts.length = k ∧ OwnT wr w.heap.size v ts ∧ allDT n ts ∧ Rd wr g (P + 1 + 50 * k) ∧ DrB g w.heap.size w wr) (fun _ q _ => n - (intOf q).toNat)
  case atStart => exact ⟨0, [], Nat.zero_le _, rfl, rfl, O2.out, allDT.nil n, R2.out, D2.out⟩
  case round =>
    obtain ⟨k, ts, hk, rfl, hl, ho, hbl, hr, hd⟩ := hrel
    have HO := Lib.hid ho
    have HBl := Lib.hid hbl
    have HR := Lib.hid hr
    have HDr := Lib.hid hd
    have HL := Lib.hid hl
    clear ho hbl hr hd hl
    by_cases hkN : k < n
    · have hkw : (k : Int) < (n : Int) := by omega
      have hm0 : (0 : Int) < (n : Int) := by omega
      have hn0 : ¬ (n : Int) = 0 := by omega
      have hmod : ((k : Int) + 1) % (n : Int) = (((k + 1) % n : Nat) : Int) := rfl
      have hml : (k + 1) % n < n := Nat.mod_lt _ (by omega)
      generalize (k + 1) % n = km at hmod hml
      go_wp2_with fail
      refine (HK.out _ 3 _ HR.out (by omega) (by omega)).mono ?_
      rintro e w3 ⟨y, rfl, hy, r3, g3⟩
      have R3 := Lib.hid r3
      have D3 := Lib.hid (HDr.out.trans ((DrB.ofG g3).mono HDr.out.size))
      have O3 := Lib.hid (HO.out.dr (DrB.ofG g3) (Nat.le_refl _) hgw)
      clear r3 g3
      by_cases y0 : y = 0
      · have ty : ((y : Int) == 0) = true := by rw [y0]; rfl
        clear y0 hy
        go_wp2_with fail
        refine (HK.out _ n _ R3.out (by omega) (by omega)).mono ?_
        rintro e w4 ⟨z, rfl, hz, r4, g4⟩
        have hzn : z < n := by omega
        have R4 := Lib.hid r4
        have D4 := Lib.hid (D3.out.trans ((DrB.ofG g4).mono D3.out.size))
        have O4 := Lib.hid (O3.out.dr (DrB.ofG g4) (Nat.le_refl _) hgw)
        clear r4 g4 hz
        go_wp2_with fail
        refine (inTab_ok n z _ (by omega) hzn).mono ?_
        rintro e w5 ⟨t, rfl, ht, b5⟩
        have HT5 := Lib.hid ht
        have hts : t.size ≤ 32 := ht.small (by omega)
        have R5 := Lib.hid (R4.out.below b5 (Nat.le_refl _))
        have D5 := Lib.hid (D4.out.trans ((DrB.ofB b5).mono D4.out.size))
        have O5 := Lib.hid (O4.out.below b5 (Nat.le_refl _))
        clear b5 ht
        go_wp2_with fail
        refine (HK.out _ 5 _ R5.out (by omega) (by omega)).mono ?_
        rintro e w6 ⟨m, rfl, hm, r6, g6⟩
        have R6 := Lib.hid r6
        have D6 := Lib.hid (D5.out.trans ((DrB.ofG g6).mono D5.out.size))
        have O6 := Lib.hid (O5.out.dr (DrB.ofG g6) (Nat.le_refl _) hgw)
        clear r6 g6
        by_cases m0 : m = 0
        · have t0 : ((m : Int) == 0) = true := by rw [m0]; rfl
          clear hm m0
          go_wp2_with fail
          refine (l1Not_ok n t _ (by omega) HT5.out).mono ?_
          rintro e w7 ⟨t7, rfl, ht7, b7⟩
          have HT7 := Lib.hid ht7
          have hts7 : t7.size ≤ 32 := ht7.small (by omega)
          have R7 := Lib.hid (R6.out.below b7 (Nat.le_refl _))
          have D7 := Lib.hid (D6.out.trans ((DrB.ofB b7).mono D6.out.size))
          have O7 := Lib.hid (O6.out.below b7 (Nat.le_refl _))
          clear b7 ht7
          have HCe := Lib.hid (fun (W : World) => (Blk.new W 9 [.string t7]).cell (i := 0) rfl)
          go_wp2_with (at_builtin; refine wpList_appT (OwnT.alloc O7.out _) (HCe.out _) rfl _ _ rfl rfl rfl (by have := HL.out; omega) (by have := D7.out.size; simp; omega) ?_; intro vz wz oz gz)
          go_roundw
          case rel => exact ⟨k + 1, _, by omega, by go_num, by simp [HL.out], oz, HBl.out.snoc HT7.out, (O7.out.oneApp hgw R7.out gz).more (by omega), (D7.out.alloc D7.out.size _).grown gz (by have := D7.out.size; simp; omega) (fun j hj => (World.ownsRow.lt O7.out j hj).1)⟩
          case measure => simp [intOf] <;> omega
        · have t0 : ((m : Int) == 0) = false := by rw [beq_eq_false_iff_ne]; omega
          by_cases m1 : m = 1
          · have t1 : ((m : Int) == 1) = true := by rw [m1]; rfl
            clear hm m0 m1
            go_wp2_with fail
            refine (l1Not_ok n t _ (by omega) HT5.out).mono ?_
            rintro e w7 ⟨t7, rfl, ht7, b7⟩
            have HT7 := Lib.hid ht7
            have hts7 : t7.size ≤ 32 := ht7.small (by omega)
            have R7 := Lib.hid (R6.out.below b7 (Nat.le_refl _))
            have D7 := Lib.hid (D6.out.trans ((DrB.ofB b7).mono D6.out.size))
            have O7 := Lib.hid (O6.out.below b7 (Nat.le_refl _))
            clear b7 ht7
            have HCe := Lib.hid (fun (W : World) => (Blk.new W 9 [.string t7]).cell (i := 0) rfl)
            go_wp2_with (at_builtin; refine wpList_appT (OwnT.alloc O7.out _) (HCe.out _) rfl _ _ rfl rfl rfl (by have := HL.out; omega) (by have := D7.out.size; simp; omega) ?_; intro vz wz oz gz)
            go_roundw
            case rel => exact ⟨k + 1, _, by omega, by go_num, by simp [HL.out], oz, HBl.out.snoc HT7.out, (O7.out.oneApp hgw R7.out gz).more (by omega), (D7.out.alloc D7.out.size _).grown gz (by have := D7.out.size; simp; omega) (fun j hj => (World.ownsRow.lt O7.out j hj).1)⟩
            case measure => simp [intOf] <;> omega
          · have t1 : ((m : Int) == 1) = false := by rw [beq_eq_false_iff_ne]; omega
            by_cases m2 : m = 2
            · have t2 : ((m : Int) == 2) = true := by rw [m2]; rfl
              clear hm m0 m1 m2
              go_wp2_with fail
              refine (l1Draw_ok g _ n _ R6.out (by omega) (by omega)).mono ?_
              rintro e w7 ⟨t7, rfl, ht7, r7, d7⟩
              have HT7 := Lib.hid ht7
              have R7 := Lib.hid r7
              have D7 := Lib.hid (D6.out.trans (d7.mono D6.out.size))
              have O7 := Lib.hid (O6.out.dr d7 (Nat.le_refl _) hgw)
              clear r7 d7 ht7
              go_wp2_with fail
              refine (andTab_ok n t t7 _ (by omega) HT5.out HT7.out).mono ?_
              rintro e w8 ⟨t8, rfl, ht8, b8⟩
              have HT8 := Lib.hid ht8
              have hts8 : t8.size ≤ 32 := ht8.small (by omega)
              have R8 := Lib.hid (R7.out.below b8 (Nat.le_refl _))
              have D8 := Lib.hid (D7.out.trans ((DrB.ofB b8).mono D7.out.size))
              have O8 := Lib.hid (O7.out.below b8 (Nat.le_refl _))
              clear b8 ht8
              have HCe := Lib.hid (fun (W : World) => (Blk.new W 9 [.string t8]).cell (i := 0) rfl)
              go_wp2_with (at_builtin; refine wpList_appT (OwnT.alloc O8.out _) (HCe.out _) rfl _ _ rfl rfl rfl (by have := HL.out; omega) (by have := D8.out.size; simp; omega) ?_; intro vz wz oz gz)
              go_roundw
              case rel => exact ⟨k + 1, _, by omega, by go_num, by simp [HL.out], oz, HBl.out.snoc HT8.out, (O8.out.oneApp hgw R8.out gz).more (by omega), (D8.out.alloc D8.out.size _).grown gz (by have := D8.out.size; simp; omega) (fun j hj => (World.ownsRow.lt O8.out j hj).1)⟩
              case measure => simp [intOf] <;> omega
            · have t2 : ((m : Int) == 2) = false := by rw [beq_eq_false_iff_ne]; omega
              clear hm m0 m1 m2
              have HCe := Lib.hid (fun (W : World) => (Blk.new W 9 [.string t]).cell (i := 0) rfl)
              go_wp2_with (at_builtin; refine wpList_appT (OwnT.alloc O6.out _) (HCe.out _) rfl _ _ rfl rfl rfl (by have := HL.out; omega) (by have := D6.out.size; simp; omega) ?_; intro vz wz oz gz)
              go_roundw
              case rel => exact ⟨k + 1, _, by omega, by go_num, by simp [HL.out], oz, HBl.out.snoc HT5.out, (O6.out.oneApp hgw R6.out gz).more (by omega), (D6.out.alloc D6.out.size _).grown gz (by have := D6.out.size; simp; omega) (fun j hj => (World.ownsRow.lt O6.out j hj).1)⟩
              case measure => simp [intOf] <;> omega
      · have ty : ((y : Int) == 0) = false := by rw [beq_eq_false_iff_ne]; omega
        clear y0 hy
        go_wp2_with fail
        refine (inTab_ok n km _ (by omega) hml).mono ?_
        rintro e w5 ⟨t, rfl, ht, b5⟩
        have HT5 := Lib.hid ht
        have hts : t.size ≤ 32 := ht.small (by omega)
        have R5 := Lib.hid (R3.out.below b5 (Nat.le_refl _))
        have D5 := Lib.hid (D3.out.trans ((DrB.ofB b5).mono D3.out.size))
        have O5 := Lib.hid (O3.out.below b5 (Nat.le_refl _))
        clear b5 ht
        go_wp2_with fail
        refine (HK.out _ 5 _ R5.out (by omega) (by omega)).mono ?_
        rintro e w6 ⟨m, rfl, hm, r6, g6⟩
        have R6 := Lib.hid r6
        have D6 := Lib.hid (D5.out.trans ((DrB.ofG g6).mono D5.out.size))
        have O6 := Lib.hid (O5.out.dr (DrB.ofG g6) (Nat.le_refl _) hgw)
        clear r6 g6
        by_cases m0 : m = 0
        · have t0 : ((m : Int) == 0) = true := by rw [m0]; rfl
          clear hm m0
          go_wp2_with fail
          refine (l1Not_ok n t _ (by omega) HT5.out).mono ?_
          rintro e w7 ⟨t7, rfl, ht7, b7⟩
          have HT7 := Lib.hid ht7
          have hts7 : t7.size ≤ 32 := ht7.small (by omega)
          have R7 := Lib.hid (R6.out.below b7 (Nat.le_refl _))
          have D7 := Lib.hid (D6.out.trans ((DrB.ofB b7).mono D6.out.size))
          have O7 := Lib.hid (O6.out.below b7 (Nat.le_refl _))
          clear b7 ht7
          have HCe := Lib.hid (fun (W : World) => (Blk.new W 9 [.string t7]).cell (i := 0) rfl)
          go_wp2_with (at_builtin; refine wpList_appT (OwnT.alloc O7.out _) (HCe.out _) rfl _ _ rfl rfl rfl (by have := HL.out; omega) (by have := D7.out.size; simp; omega) ?_; intro vz wz oz gz)
          go_roundw
          case rel => exact ⟨k + 1, _, by omega, by go_num, by simp [HL.out], oz, HBl.out.snoc HT7.out, (O7.out.oneApp hgw R7.out gz).more (by omega), (D7.out.alloc D7.out.size _).grown gz (by have := D7.out.size; simp; omega) (fun j hj => (World.ownsRow.lt O7.out j hj).1)⟩
          case measure => simp [intOf] <;> omega
        · have t0 : ((m : Int) == 0) = false := by rw [beq_eq_false_iff_ne]; omega
          by_cases m1 : m = 1
          · have t1 : ((m : Int) == 1) = true := by rw [m1]; rfl
            clear hm m0 m1
            go_wp2_with fail
            refine (l1Not_ok n t _ (by omega) HT5.out).mono ?_
            rintro e w7 ⟨t7, rfl, ht7, b7⟩
            have HT7 := Lib.hid ht7
            have hts7 : t7.size ≤ 32 := ht7.small (by omega)
            have R7 := Lib.hid (R6.out.below b7 (Nat.le_refl _))
            have D7 := Lib.hid (D6.out.trans ((DrB.ofB b7).mono D6.out.size))
            have O7 := Lib.hid (O6.out.below b7 (Nat.le_refl _))
            clear b7 ht7
            have HCe := Lib.hid (fun (W : World) => (Blk.new W 9 [.string t7]).cell (i := 0) rfl)
            go_wp2_with (at_builtin; refine wpList_appT (OwnT.alloc O7.out _) (HCe.out _) rfl _ _ rfl rfl rfl (by have := HL.out; omega) (by have := D7.out.size; simp; omega) ?_; intro vz wz oz gz)
            go_roundw
            case rel => exact ⟨k + 1, _, by omega, by go_num, by simp [HL.out], oz, HBl.out.snoc HT7.out, (O7.out.oneApp hgw R7.out gz).more (by omega), (D7.out.alloc D7.out.size _).grown gz (by have := D7.out.size; simp; omega) (fun j hj => (World.ownsRow.lt O7.out j hj).1)⟩
            case measure => simp [intOf] <;> omega
          · have t1 : ((m : Int) == 1) = false := by rw [beq_eq_false_iff_ne]; omega
            by_cases m2 : m = 2
            · have t2 : ((m : Int) == 2) = true := by rw [m2]; rfl
              clear hm m0 m1 m2
              go_wp2_with fail
              refine (l1Draw_ok g _ n _ R6.out (by omega) (by omega)).mono ?_
              rintro e w7 ⟨t7, rfl, ht7, r7, d7⟩
              have HT7 := Lib.hid ht7
              have R7 := Lib.hid r7
              have D7 := Lib.hid (D6.out.trans (d7.mono D6.out.size))
              have O7 := Lib.hid (O6.out.dr d7 (Nat.le_refl _) hgw)
              clear r7 d7 ht7
              go_wp2_with fail
              refine (andTab_ok n t t7 _ (by omega) HT5.out HT7.out).mono ?_
              rintro e w8 ⟨t8, rfl, ht8, b8⟩
              have HT8 := Lib.hid ht8
              have hts8 : t8.size ≤ 32 := ht8.small (by omega)
              have R8 := Lib.hid (R7.out.below b8 (Nat.le_refl _))
              have D8 := Lib.hid (D7.out.trans ((DrB.ofB b8).mono D7.out.size))
              have O8 := Lib.hid (O7.out.below b8 (Nat.le_refl _))
              clear b8 ht8
              have HCe := Lib.hid (fun (W : World) => (Blk.new W 9 [.string t8]).cell (i := 0) rfl)
              go_wp2_with (at_builtin; refine wpList_appT (OwnT.alloc O8.out _) (HCe.out _) rfl _ _ rfl rfl rfl (by have := HL.out; omega) (by have := D8.out.size; simp; omega) ?_; intro vz wz oz gz)
              go_roundw
              case rel => exact ⟨k + 1, _, by omega, by go_num, by simp [HL.out], oz, HBl.out.snoc HT8.out, (O8.out.oneApp hgw R8.out gz).more (by omega), (D8.out.alloc D8.out.size _).grown gz (by have := D8.out.size; simp; omega) (fun j hj => (World.ownsRow.lt O8.out j hj).1)⟩
              case measure => simp [intOf] <;> omega
            · have t2 : ((m : Int) == 2) = false := by rw [beq_eq_false_iff_ne]; omega
              clear hm m0 m1 m2
              have HCe := Lib.hid (fun (W : World) => (Blk.new W 9 [.string t]).cell (i := 0) rfl)
              go_wp2_with (at_builtin; refine wpList_appT (OwnT.alloc O6.out _) (HCe.out _) rfl _ _ rfl rfl rfl (by have := HL.out; omega) (by have := D6.out.size; simp; omega) ?_; intro vz wz oz gz)
              go_roundw
              case rel => exact ⟨k + 1, _, by omega, by go_num, by simp [HL.out], oz, HBl.out.snoc HT5.out, (O6.out.oneApp hgw R6.out gz).more (by omega), (D6.out.alloc D6.out.size _).grown gz (by have := D6.out.size; simp; omega) (fun j hj => (World.ownsRow.lt O6.out j hj).1)⟩
              case measure => simp [intOf] <;> omega
    · obtain rfl : k = n := by omega
      obtain ⟨ao, c, rfl, q⟩ := HO.out.row
      have hlk := HL.out
      have HT := Lib.hid (l3Text_ok ao _ c ts (gT ts) wr q (fun _ _ => rfl) (fun i => Nat.le_trans (HBl.out.size (by omega) i) (by decide)) (by omega))
      have HW := Lib.hid (join_wt HBl.out (by omega) (by omega) (by omega))
      rw [hlk] at HT HW ⊢
      clear q hlk
      go_wp2_with fail
      refine HT.out.mono ?_
      rintro e w5 ⟨rfl, rfl⟩
      go_wp2_with fail
      go_ret
      exact ⟨_, rfl, HW.out, HR.out.more (by omega), HDr.out⟩

set_option maxHeartbeats 2000000 in
theorem l7Open_ok (g P : Nat) (w : World) (h : Rd w g P) (hP : P ≤ 500000) :
    Calls Try.prog 45 #[.pointer (some ⟨g, 0, none⟩)] w (TextP g (P + 400) (Short 200) w) := by
  have HK := Lib.hid (pick_ok g P 3 w h (by omega) (by omega))
  clear h
  go_enter Try.func45, Try.ntmps45
  go_wp2_with fail
  refine HK.out.mono ?_
  rintro e w1 ⟨y, rfl, hy, r1, g1⟩
  have R1 := Lib.hid r1
  have D1 := Lib.hid (DrB.ofG g1)
  clear r1 g1 HK
  by_cases y0 : y = 0
  · have ty : ((y : Int) == 0) = true := by rw [y0]; rfl
    clear y0 hy
    go_wp2_with fail
    refine (l5Small_ok g _ _ R1.out (by omega)).mono ?_
    rintro e w2 ⟨t, s, rfl, ht, r2, d2⟩
    have R2 := Lib.hid r2
    have HT := Lib.hid ht
    have D2 := Lib.hid (D1.out.trans (d2.mono D1.out.size))
    clear r2 d2 ht
    go_wp2_with fail
    go_ret
    exact ⟨_, rfl, HT.out, R2.out.more (by omega), D2.out⟩
  · have ty : ((y : Int) == 0) = false := by rw [beq_eq_false_iff_ne]; omega
    clear y0 hy
    go_wp2_with fail
    refine (l7Chain_ok g _ _ R1.out (by omega)).mono ?_
    rintro e w2 ⟨t, rfl, ht, r2, d2⟩
    have R2 := Lib.hid r2
    have HT := Lib.hid ht
    have D2 := Lib.hid (D1.out.trans (d2.mono D1.out.size))
    clear r2 d2 ht
    go_wp2_with fail
    refine (l3Bad_ok g _ _ _ R2.out HT.out (by omega)).mono ?_
    rintro e w3 ⟨u, rfl, hu, r3, d3⟩
    have R3 := Lib.hid r3
    have HU := Lib.hid hu
    have D3 := Lib.hid (D2.out.trans (d3.mono D2.out.size))
    clear r3 d3 hu
    go_wp2_with fail
    go_ret
    exact ⟨_, rfl, HU.out, R3.out.more (by omega), D3.out⟩

end Go.Proofs.Ytlfeipibhdggcaa
