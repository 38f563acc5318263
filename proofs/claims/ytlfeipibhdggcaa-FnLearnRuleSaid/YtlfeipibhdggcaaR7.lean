/- Walks: steps that were seen, drawn. -/
import Derived.Test.YtlfeipibhdggcaaR6
import Derived.Test.YtlfeipibhdggcaaQ1
namespace Go.Proofs.Ytlfeipibhdggcaa
open Go.RowKit

theorem OwnS.dr {w w' : World} {B g C : Nat} {v : Value} {zs : List (Int × Int)} (h : OwnS w B v zs) (hb : DrB g C w w') (hC : w.heap.size ≤ C) (hg : g < B) : OwnS w' B v zs := by
  obtain ⟨h0, h1 | ⟨q, cap, cur, e, hq, hh, h2⟩⟩ := h
  · exact ⟨h0, .inl h1⟩
  · exact ⟨h0, .inr ⟨q, cap, cur, e, hq, by rw [hb.block q (by have := lt_of_block hh; omega) (by omega)]; exact hh, h2⟩⟩
theorem OwnI.below' {w w' : World} {B B' : Nat} {v : Value} {zs : List Int} (h : OwnI w B v zs) (hb : Below B' w w') (hB : w.heap.size ≤ B') : OwnI w' B v zs := by
  obtain ⟨h0, h1 | ⟨g, cap, cur, e, hg, hh, h2⟩⟩ := h
  · exact ⟨h0, .inl h1⟩
  · exact ⟨h0, .inr ⟨g, cap, cur, e, hg, by rw [hb.block g (by have := lt_of_block hh; omega)]; exact hh, h2⟩⟩
theorem OwnS.oneApp {w w' : World} {B g P : Nat} {v : Value} {zs : List (Int × Int)} {o : Obj} (h : OwnS w B v zs) (hg : g < B) (hr : Rd w g P) (g5 : (w.alloc o).grownBy w' v.ownBlock) : Rd w' g P :=
  (hr.below ((Below.refl _ _).alloc (Nat.le_refl _) _) (Nat.le_refl _)).grown g5 (fun j hj => by have := (World.ownsRow.lt h j hj).1; omega)

/-- Steps and a number of switches are drawn. -/
def SeenP (g P : Nat) (w : World) (e : Ending) (w' : World) : Prop := ∃ v zs, ∃ n : Int, e = .returned (.tuple #[v, .int .i64 n]) ∧ zs.length ≤ 70 ∧ OwnS w' w.heap.size v zs ∧ Rd w' g P ∧ DrB g w.heap.size w w'

set_option maxRecDepth 100000 in
set_option maxHeartbeats 8000000 in
theorem l12Draw_ok (g P : Nat) (w : World) (h : Rd w g P) (hP : P ≤ 400000) :
    Calls Try.prog 22 #[.pointer (some ⟨g, 0, none⟩)] w (SeenP g (P + 500) w) := by
  have hgw := h.lt
  have HK := Lib.hid (fun Q m W (h : Rd W g Q) (hQ : Q ≤ 1000000) (hm : m ≤ 1048576) => pick_ok g Q m W h hQ hm)
  have HO := Lib.hid (l7Open_ok g P w h (by omega))
  clear h
  go_enter Try.func22, Try.ntmps22
  go_wp2_with fail
  refine HO.out.mono ?_
  rintro e w1 ⟨u, rfl, hu, r1, d1⟩
  have R1 := Lib.hid r1
  have D1 := Lib.hid d1
  have HU := Lib.hid hu
  clear r1 d1 hu HO
  go_wp2_with fail
  refine (sizeOf_ok u _ (Nat.le_trans HU.out (by decide))).mono ?_
  rintro e w2 ⟨rfl, b2⟩
  have R2 := Lib.hid (R1.out.below b2 (Nat.le_refl _))
  have D2 := Lib.hid (D1.out.trans ((DrB.ofB b2).mono D1.out.size))
  clear b2
  rcases szV_range u with hz | ⟨m, hz, hm1, hm5, _⟩
  · rw [hz]
    clear hz
    have b3 : Below w2.heap.size w2 ((w2.alloc (.cells (cellsS [(1, 0)]).toArray 39)).alloc (.cells (ints [1, 2, 0, 6, -1]).toArray 3)) := ((Below.refl _ _).alloc (Nat.le_refl _) _).alloc (by simp) _
    have HY := Lib.hid (num_lit g (P + 400) 5 [1, 2, 0, 6, -1] _ _ (R2.out.below b3 (Nat.le_refl _)) (Blk.new (w2.alloc (.cells (cellsS [(1, 0)]).toArray 39)) 3 (ints [1, 2, 0, 6, -1])) (by have := R2.out.lt; simp; omega) rfl (by omega) (by omega) (by omega))
    have O3 := Lib.hid ((OwnS.lit w2 w.heap.size [(1, 0)] D2.out.size (by decide)).alloc (.cells (ints [1, 2, 0, 6, -1]).toArray 3))
    have D3 := Lib.hid (D2.out.trans (DrB.ofB (g := g) (b3.mono D2.out.size)))
    have hs3 := b3.size
    have hs4 : (w2.alloc (.cells (cellsS [(1, 0)]).toArray 39)).heap.size = w2.heap.size + 1 := by simp
    rw [hs4] at HY
    clear b3
    go_wp2_with fail
    refine HY.out.mono ?_
    rintro e w6 ⟨x, hx, rfl, r6, g6⟩
    generalize gI [1, 2, 0, 6, -1] x = y
    have R6 := Lib.hid r6
    have D6 := Lib.hid (D3.out.trans ((DrB.ofG g6).mono D3.out.size))
    have O6 := Lib.hid (O3.out.dr (DrB.ofG g6) (Nat.le_refl _) hgw)
    clear r6 g6 hx
    go_wp2_with fail
    go_ret2
    exact ⟨_, [(1, 0)], y, rfl, by decide, O6.out, R6.out.more (by omega), D6.out⟩
  · rw [hz]
    clear hz
    have hm0 : ¬ (m : Int) < 0 := by omega
    have hpw : wrap64 (2 ^ m) = ((2 ^ m : Nat) : Int) := wrap_pow_nat m (by omega)
    have hp : (2 ^ m : Nat) ≤ 32 := Nat.pow_le_pow_right (n := 2) (by decide) hm5
    generalize (2 ^ m : Nat) = N at hpw hp
    have b3 : Below w2.heap.size w2 (w2.alloc (.cells #[] 3)) := (Below.refl _ _).alloc (Nat.le_refl _) _
    have R3 := Lib.hid (R2.out.below b3 (Nat.le_refl _))
    have D3 := Lib.hid (D2.out.trans (DrB.ofB (g := g) (b3.mono D2.out.size)))
    have O3 := Lib.hid (OwnI.lit w2 w.heap.size [] D2.out.size (by decide))
    clear b3
    go_wp2_with fail
    refine (HK.out _ 7 _ R3.out (by omega) (by omega)).mono ?_
    rintro e w4 ⟨y, rfl, hy, r4, g4⟩
    have hy7 : y < 7 := by omega
    have R4 := Lib.hid r4
    have D4 := Lib.hid (D3.out.trans ((DrB.ofG g4).mono D3.out.size))
    have O4 := Lib.hid (O3.out.dr (DrB.ofG g4) (Nat.le_refl _) hgw)
    clear r4 g4 hy
    go_wp2_with fail
    go_loopw [6, 7] (fun v q wr => ∃ (k : Nat) (zs : List Int), k + zs.length ≤ 7 ∧ q = .int .i64 k ∧ OwnI wr w.heap.size v zs ∧ Rd wr g (P + 401 + zs.length) ∧ DrB g w.heap.size w wr) (fun _ q _ => (intOf q).toNat)
    case atStart => exact ⟨y, [], by simp; omega, rfl, O4.out, R4.out.more (by simp), D4.out⟩
    case round =>
      obtain ⟨k, zs, hk, rfl, ho, hr, hd⟩ := hrel
      have HOw := Lib.hid ho
      have HR := Lib.hid hr
      have HDr := Lib.hid hd
      clear ho hr hd
      by_cases hk0 : 0 < k
      · have hkw : (0 : Int) < (k : Int) := by omega
        go_wp2_with fail
        refine (HK.out _ N _ HR.out (by omega) (by omega)).mono ?_
        rintro e w5 ⟨x, rfl, hx, r5, g5⟩
        have R5 := Lib.hid r5
        have D5 := Lib.hid (HDr.out.trans ((DrB.ofG g5).mono HDr.out.size))
        have O5 := Lib.hid (HOw.out.dr (DrB.ofG g5) (Nat.le_refl _) hgw)
        clear r5 g5 hx
        go_wp2_with (at_builtin; refine wpList_appI (OwnI.alloc O5.out _) (RowI.one _ _) rfl _ _ rfl rfl rfl (by omega) (by have := D5.out.size; simp; omega) ?_; intro v6 w6 o6 g6)
        go_roundw
        case rel => exact ⟨k - 1, _, by simp; omega, by rw [show ((k : Int) - 1) = ((k - 1 : Nat) : Int) by omega], o6, (O5.out.oneApp hgw R5.out g6).more (by simp; omega), (D5.out.alloc D5.out.size _).grown g6 (by have := D5.out.size; simp; omega) (fun j hj => (World.ownsRow.lt O5.out j hj).1)⟩
        case measure => simp [intOf] <;> omega
      · have hkw : ¬ (0 : Int) < (k : Int) := by omega
        have hzl : zs.length ≤ 7 := by omega
        clear hk hk0
        go_wp2_with fail
        refine (HK.out _ 6 _ HR.out (by omega) (by omega)).mono ?_
        rintro e w5 ⟨x, rfl, hx, r5, g5⟩
        have R5 := Lib.hid (r5.more (show _ ≤ P + 410 by omega))
        have D5 := Lib.hid (HDr.out.trans ((DrB.ofG g5).mono HDr.out.size))
        have O5 := Lib.hid (HOw.out.dr (DrB.ofG g5) (Nat.le_refl _) hgw)
        clear r5 g5
        by_cases x0 : x = 0
        · have tx : ((x : Int) == 0) = true := by rw [x0]; rfl
          clear x0 hx
          have b6 : Below w5.heap.size w5 (w5.alloc (.cells #[] 3)) := (Below.refl _ _).alloc (Nat.le_refl _) _
          have R6 := Lib.hid (R5.out.below b6 (Nat.le_refl _))
          have D6 := Lib.hid (D5.out.trans (DrB.ofB (g := g) (b6.mono D5.out.size)))
          have O6 := Lib.hid (OwnI.lit w5 w.heap.size [] D5.out.size (by decide))
          clear b6
          go_wp2_with fail
          go_loopw [6, 8] (fun v q wr => ∃ (s : Nat) (ys : List Int), s ≤ N ∧ q = .int .i64 s ∧ ys.length = s ∧ OwnI wr w.heap.size v ys ∧ Rd wr g (P + 410) ∧ DrB g w.heap.size w wr) (fun _ q _ => N - (intOf q).toNat)
          case atStart => exact ⟨0, [], Nat.zero_le _, rfl, rfl, O6.out, R6.out, D6.out⟩
          case round =>
            obtain ⟨s, ys, hs, rfl, hl, ho, hr, hd⟩ := hrel
            have HOy := Lib.hid ho
            have HRy := Lib.hid hr
            have HDy := Lib.hid hd
            have HLy := Lib.hid hl
            clear ho hr hd hl
            by_cases hsN : s < N
            · have hsw : (s : Int) < (N : Int) := by omega
              go_wp2_with (at_builtin; refine wpList_appI (OwnI.alloc HOy.out _) (RowI.one _ _) rfl _ _ rfl rfl rfl (by have := HLy.out; omega) (by have := HDy.out.size; simp; omega) ?_; intro v6 w6 o6 g6)
              go_roundw
              case rel => exact ⟨s + 1, _, by omega, by go_num, by simp [HLy.out], o6, HOy.out.oneApp hgw HRy.out g6, (HDy.out.alloc HDy.out.size _).grown g6 (by have := HDy.out.size; simp; omega) (fun j hj => (World.ownsRow.lt HOy.out j hj).1)⟩
              case measure => simp [intOf] <;> omega
            · obtain rfl : s = N := by omega
              have hys : ys.length ≤ 32 := by have := HLy.out; omega
              clear HLy
              obtain ⟨ao, c, rfl, q⟩ := HOy.out.out
              have HSee := Lib.hid (fun W (hW : Below wr.heap.size wr W) => seeS_ok u ao _ c ys W (Nat.le_trans HU.out (by decide)) (q.rowI.below hW (Nat.le_refl _)) (by omega))
              clear q
              have hsl := seeV_len (cutsP 44 u) ys
              go_wp2_with fail
              refine (HSee.out _ (Below.refl _ _)).mono ?_
              rintro e w7 ⟨v7, rfl, o7, b7⟩
              have R7 := Lib.hid (HRy.out.below b7 (Nat.le_refl _))
              have D7 := Lib.hid (HDy.out.trans ((DrB.ofB b7).mono HDy.out.size))
              have O7 := Lib.hid (o7.base HDy.out.size)
              clear o7 b7 HSee
              generalize seeB (cutsP 44 u) ys = okb
              generalize seeV (cutsP 44 u) ys = sl at hsl O7
              go_wp2_with fail
              refine (HK.out _ 16 _ R7.out (by omega) (by omega)).mono ?_
              rintro e w8 ⟨z, rfl, hz, r8, g8⟩
              have R8 := Lib.hid r8
              have D8 := Lib.hid (D7.out.trans ((DrB.ofG g8).mono D7.out.size))
              have O8 := Lib.hid (O7.out.dr (DrB.ofG g8) (Nat.le_refl _) hgw)
              clear r8 g8
              by_cases z0 : z = 0
              · have t0 : ((z : Int) == 0) = true := by rw [z0]; rfl
                clear z0 hz
                have b9 : Below w8.heap.size w8 (w8.alloc (.cells (ints [0, 1, -1, 32]).toArray 3)) := (Below.refl _ _).alloc (Nat.le_refl _) _
                have HY := Lib.hid (num_lit g (P + 411) 4 [0, 1, -1, 32] _ _ (R8.out.below b9 (Nat.le_refl _)) (Blk.new w8 3 (ints [0, 1, -1, 32])) (by have := R8.out.lt; omega) rfl (by omega) (by omega) (by omega))
                have D9 := Lib.hid (D8.out.trans (DrB.ofB (g := g) (b9.mono D8.out.size)))
                have O9 := Lib.hid (O8.out.alloc (.cells (ints [0, 1, -1, 32]).toArray 3))
                clear b9
                go_wp2_with fail
                refine HY.out.mono ?_
                rintro e w10 ⟨x1, hx1, rfl, r10, g10⟩
                generalize gI [0, 1, -1, 32] x1 = n1
                have R10 := Lib.hid r10
                have D10 := Lib.hid (D9.out.trans ((DrB.ofG g10).mono D9.out.size))
                have O10 := Lib.hid (O9.out.dr (DrB.ofG g10) (Nat.le_refl _) hgw)
                clear r10 g10 hx1
                have b11 : Below w10.heap.size w10 (w10.alloc (.cells (ints [0, 1, 2, 32]).toArray 3)) := (Below.refl _ _).alloc (Nat.le_refl _) _
                have HZ := Lib.hid (num_lit g (P + 412) 4 [0, 1, 2, 32] _ _ (R10.out.below b11 (Nat.le_refl _)) (Blk.new w10 3 (ints [0, 1, 2, 32])) (by have := R10.out.lt; omega) rfl (by omega) (by omega) (by omega))
                have D11 := Lib.hid (D10.out.trans (DrB.ofB (g := g) (b11.mono D10.out.size)))
                have O11 := Lib.hid (O10.out.alloc (.cells (ints [0, 1, 2, 32]).toArray 3))
                clear b11
                go_wp2_with fail
                refine HZ.out.mono ?_
                rintro e w12 ⟨x2, hx2, rfl, r12, g12⟩
                generalize gI [0, 1, 2, 32] x2 = n2
                have R12 := Lib.hid r12
                have D12 := Lib.hid (D11.out.trans ((DrB.ofG g12).mono D11.out.size))
                have O12 := Lib.hid (O11.out.dr (DrB.ofG g12) (Nat.le_refl _) hgw)
                clear r12 g12 hx2
                go_wp2_with (at_builtin; refine wpList_appS (p := (n1, n2)) (OwnS.alloc O12.out _) (Blk.new _ _ _) rfl _ _ rfl rfl rfl (by omega) (by have := D12.out.size; simp; omega) ?_; intro v13 w13 o13 g13)
                go_ret2
                exact ⟨_, _, _, rfl, by simp; omega, o13, (O12.out.oneApp hgw R12.out g13).more (by omega), (D12.out.alloc D12.out.size _).grown g13 (by have := D12.out.size; simp; omega) (fun j hj => (World.ownsRow.lt O12.out j hj).1)⟩
              · have t0 : ((z : Int) == 0) = false := by rw [beq_eq_false_iff_ne]; omega
                by_cases z1 : z = 1
                · have t1 : ((z : Int) == 1) = true := by rw [z1]; rfl
                  clear z0 z1 hz
                  by_cases hsl0 : sl.length = 0
                  · obtain ⟨so, sc, rfl, _, _⟩ := O8.out.out
                    rw [hsl0]
                    have OE := Lib.hid O8.out
                    rw [hsl0] at OE
                    clear O7 O8
                    go_wp2_with fail
                    go_loopw [9, 11] (fun v q wr => v = .slice so 0 sc ∧ q = .int .i64 0 ∧ OwnS wr w.heap.size (.slice so 0 sc) sl ∧ Rd wr g (P + 420) ∧ DrB g w.heap.size w wr) (fun _ _ _ => 0)
                    case atStart => exact ⟨rfl, rfl, OE.out, R8.out.more (by omega), D8.out⟩
                    case round =>
                      obtain ⟨rfl, rfl, ho, hr, hd⟩ := hrel
                      have HO9 := Lib.hid ho
                      have HR9 := Lib.hid hr
                      have HD9 := Lib.hid hd
                      clear ho hr hd
                      go_wp2_with fail
                      go_ret2
                      exact ⟨_, _, _, rfl, by omega, HO9.out, HR9.out.more (by omega), HD9.out⟩
                  · go_wp2_with fail
                    go_loopw [9, 11] (fun v q wr => ∃ (k : Nat) (zz : List (Int × Int)), k ≤ 33 ∧ q = .int .i64 k ∧ zz.length = sl.length + k ∧ OwnS wr w.heap.size v zz ∧ Rd wr g (P + 420) ∧ DrB g w.heap.size w wr) (fun _ q _ => 33 - (intOf q).toNat)
                    case atStart => exact ⟨0, sl, Nat.zero_le _, rfl, rfl, O8.out, R8.out.more (by omega), D8.out⟩
                    case round =>
                      obtain ⟨k, zz, hk, rfl, hl, ho, hr, hd⟩ := hrel
                      have HO9 := Lib.hid ho
                      have HR9 := Lib.hid hr
                      have HD9 := Lib.hid hd
                      clear hr hd
                      obtain ⟨so, sc, rfl, rs, _⟩ := ho.out
                      have hzl : (0 : Int) < (zz.length : Int) := by omega
                      have hzb : zz.length ≤ 70 := by omega
                      have HLz := Lib.hid hl
                      clear ho hl
                      by_cases hk33 : k < 33
                      · have hkw : (k : Int) < 33 := by omega
                        obtain ⟨b, o, rfl, _⟩ := rs.some (by omega)
                        have hc1 : wr.cell? ⟨b, o, none⟩ = some (.int .i64 (gS zz 0).1) := by simpa using rs.before b o rfl 0 (by omega)
                        have hc2 : wr.cell? ⟨b, o + 1, none⟩ = some (.int .i64 (gS zz 0).2) := by simpa using rs.after b o rfl 0 (by omega)
                        clear rs
                        go_wp2_with (at_builtin; refine wpList_appS (p := gS zz 0) (OwnS.alloc HO9.out _) (Blk.new _ _ _) rfl _ _ rfl rfl rfl (by omega) (by have := HD9.out.size; simp; omega) ?_; intro v13 w13 o13 g13)
                        go_roundw
                        case rel => exact ⟨k + 1, _, by omega, by go_num, by simp [HLz.out]; omega, o13, HO9.out.oneApp hgw HR9.out g13, (HD9.out.alloc HD9.out.size _).grown g13 (by have := HD9.out.size; simp; omega) (fun j hj => (World.ownsRow.lt HO9.out j hj).1)⟩
                        case measure => simp [intOf] <;> omega
                      · have hkw : ¬ (k : Int) < 33 := by omega
                        clear rs
                        go_wp2_with fail
                        go_ret2
                        exact ⟨_, zz, _, rfl, by omega, HO9.out, HR9.out.more (by omega), HD9.out⟩
                · have t1 : ((z : Int) == 1) = false := by rw [beq_eq_false_iff_ne]; omega
                  clear z0 z1 hz
                  go_wp2_with fail
                  go_ret2
                  exact ⟨_, _, _, rfl, by omega, O8.out, R8.out.more (by omega), D8.out⟩
        · have tx : ((x : Int) == 0) = false := by rw [beq_eq_false_iff_ne]; omega
          clear x0 hx
          have hys : zs.length ≤ 32 := by omega
          obtain ⟨ao, c, rfl, q⟩ := O5.out.out
          have HSee := Lib.hid (fun W (hW : Below w5.heap.size w5 W) => seeS_ok u ao _ c zs W (Nat.le_trans HU.out (by decide)) (q.rowI.below hW (Nat.le_refl _)) (by omega))
          clear q
          have hsl := seeV_len (cutsP 44 u) zs
          go_wp2_with fail
          refine (HSee.out _ (Below.refl _ _)).mono ?_
          rintro e w7 ⟨v7, rfl, o7, b7⟩
          have R7 := Lib.hid (R5.out.below b7 (Nat.le_refl _))
          have D7 := Lib.hid (D5.out.trans ((DrB.ofB b7).mono D5.out.size))
          have O7 := Lib.hid (o7.base D5.out.size)
          clear o7 b7 HSee
          generalize seeB (cutsP 44 u) zs = okb
          generalize seeV (cutsP 44 u) zs = sl at hsl O7
          go_wp2_with fail
          refine (HK.out _ 16 _ R7.out (by omega) (by omega)).mono ?_
          rintro e w8 ⟨z, rfl, hz, r8, g8⟩
          have R8 := Lib.hid r8
          have D8 := Lib.hid (D7.out.trans ((DrB.ofG g8).mono D7.out.size))
          have O8 := Lib.hid (O7.out.dr (DrB.ofG g8) (Nat.le_refl _) hgw)
          clear r8 g8
          by_cases z0 : z = 0
          · have t0 : ((z : Int) == 0) = true := by rw [z0]; rfl
            clear z0 hz
            have b9 : Below w8.heap.size w8 (w8.alloc (.cells (ints [0, 1, -1, 32]).toArray 3)) := (Below.refl _ _).alloc (Nat.le_refl _) _
            have HY := Lib.hid (num_lit g (P + 411) 4 [0, 1, -1, 32] _ _ (R8.out.below b9 (Nat.le_refl _)) (Blk.new w8 3 (ints [0, 1, -1, 32])) (by have := R8.out.lt; omega) rfl (by omega) (by omega) (by omega))
            have D9 := Lib.hid (D8.out.trans (DrB.ofB (g := g) (b9.mono D8.out.size)))
            have O9 := Lib.hid (O8.out.alloc (.cells (ints [0, 1, -1, 32]).toArray 3))
            clear b9
            go_wp2_with fail
            refine HY.out.mono ?_
            rintro e w10 ⟨x1, hx1, rfl, r10, g10⟩
            generalize gI [0, 1, -1, 32] x1 = n1
            have R10 := Lib.hid r10
            have D10 := Lib.hid (D9.out.trans ((DrB.ofG g10).mono D9.out.size))
            have O10 := Lib.hid (O9.out.dr (DrB.ofG g10) (Nat.le_refl _) hgw)
            clear r10 g10 hx1
            have b11 : Below w10.heap.size w10 (w10.alloc (.cells (ints [0, 1, 2, 32]).toArray 3)) := (Below.refl _ _).alloc (Nat.le_refl _) _
            have HZ := Lib.hid (num_lit g (P + 412) 4 [0, 1, 2, 32] _ _ (R10.out.below b11 (Nat.le_refl _)) (Blk.new w10 3 (ints [0, 1, 2, 32])) (by have := R10.out.lt; omega) rfl (by omega) (by omega) (by omega))
            have D11 := Lib.hid (D10.out.trans (DrB.ofB (g := g) (b11.mono D10.out.size)))
            have O11 := Lib.hid (O10.out.alloc (.cells (ints [0, 1, 2, 32]).toArray 3))
            clear b11
            go_wp2_with fail
            refine HZ.out.mono ?_
            rintro e w12 ⟨x2, hx2, rfl, r12, g12⟩
            generalize gI [0, 1, 2, 32] x2 = n2
            have R12 := Lib.hid r12
            have D12 := Lib.hid (D11.out.trans ((DrB.ofG g12).mono D11.out.size))
            have O12 := Lib.hid (O11.out.dr (DrB.ofG g12) (Nat.le_refl _) hgw)
            clear r12 g12 hx2
            go_wp2_with (at_builtin; refine wpList_appS (p := (n1, n2)) (OwnS.alloc O12.out _) (Blk.new _ _ _) rfl _ _ rfl rfl rfl (by omega) (by have := D12.out.size; simp; omega) ?_; intro v13 w13 o13 g13)
            go_ret2
            exact ⟨_, _, _, rfl, by simp; omega, o13, (O12.out.oneApp hgw R12.out g13).more (by omega), (D12.out.alloc D12.out.size _).grown g13 (by have := D12.out.size; simp; omega) (fun j hj => (World.ownsRow.lt O12.out j hj).1)⟩
          · have t0 : ((z : Int) == 0) = false := by rw [beq_eq_false_iff_ne]; omega
            by_cases z1 : z = 1
            · have t1 : ((z : Int) == 1) = true := by rw [z1]; rfl
              clear z0 z1 hz
              by_cases hsl0 : sl.length = 0
              · obtain ⟨so, sc, rfl, _, _⟩ := O8.out.out
                rw [hsl0]
                have OE := Lib.hid O8.out
                rw [hsl0] at OE
                clear O7 O8
                go_wp2_with fail
                go_loopw [9, 11] (fun v q wr => v = .slice so 0 sc ∧ q = .int .i64 0 ∧ OwnS wr w.heap.size (.slice so 0 sc) sl ∧ Rd wr g (P + 420) ∧ DrB g w.heap.size w wr) (fun _ _ _ => 0)
                case atStart => exact ⟨rfl, rfl, OE.out, R8.out.more (by omega), D8.out⟩
                case round =>
                  obtain ⟨rfl, rfl, ho, hr, hd⟩ := hrel
                  have HO9 := Lib.hid ho
                  have HR9 := Lib.hid hr
                  have HD9 := Lib.hid hd
                  clear ho hr hd
                  go_wp2_with fail
                  go_ret2
                  exact ⟨_, _, _, rfl, by omega, HO9.out, HR9.out.more (by omega), HD9.out⟩
              · go_wp2_with fail
                go_loopw [9, 11] (fun v q wr => ∃ (k : Nat) (zz : List (Int × Int)), k ≤ 33 ∧ q = .int .i64 k ∧ zz.length = sl.length + k ∧ OwnS wr w.heap.size v zz ∧ Rd wr g (P + 420) ∧ DrB g w.heap.size w wr) (fun _ q _ => 33 - (intOf q).toNat)
                case atStart => exact ⟨0, sl, Nat.zero_le _, rfl, rfl, O8.out, R8.out.more (by omega), D8.out⟩
                case round =>
                  obtain ⟨k, zz, hk, rfl, hl, ho, hr, hd⟩ := hrel
                  have HO9 := Lib.hid ho
                  have HR9 := Lib.hid hr
                  have HD9 := Lib.hid hd
                  clear hr hd
                  obtain ⟨so, sc, rfl, rs, _⟩ := ho.out
                  have hzl : (0 : Int) < (zz.length : Int) := by omega
                  have hzb : zz.length ≤ 70 := by omega
                  have HLz := Lib.hid hl
                  clear ho hl
                  by_cases hk33 : k < 33
                  · have hkw : (k : Int) < 33 := by omega
                    obtain ⟨b, o, rfl, _⟩ := rs.some (by omega)
                    have hc1 : wr.cell? ⟨b, o, none⟩ = some (.int .i64 (gS zz 0).1) := by simpa using rs.before b o rfl 0 (by omega)
                    have hc2 : wr.cell? ⟨b, o + 1, none⟩ = some (.int .i64 (gS zz 0).2) := by simpa using rs.after b o rfl 0 (by omega)
                    clear rs
                    go_wp2_with (at_builtin; refine wpList_appS (p := gS zz 0) (OwnS.alloc HO9.out _) (Blk.new _ _ _) rfl _ _ rfl rfl rfl (by omega) (by have := HD9.out.size; simp; omega) ?_; intro v13 w13 o13 g13)
                    go_roundw
                    case rel => exact ⟨k + 1, _, by omega, by go_num, by simp [HLz.out]; omega, o13, HO9.out.oneApp hgw HR9.out g13, (HD9.out.alloc HD9.out.size _).grown g13 (by have := HD9.out.size; simp; omega) (fun j hj => (World.ownsRow.lt HO9.out j hj).1)⟩
                    case measure => simp [intOf] <;> omega
                  · have hkw : ¬ (k : Int) < 33 := by omega
                    clear rs
                    go_wp2_with fail
                    go_ret2
                    exact ⟨_, zz, _, rfl, by omega, HO9.out, HR9.out.more (by omega), HD9.out⟩
            · have t1 : ((z : Int) == 1) = false := by rw [beq_eq_false_iff_ne]; omega
              clear z0 z1 hz
              go_wp2_with fail
              go_ret2
              exact ⟨_, _, _, rfl, by omega, O8.out, R8.out.more (by omega), D8.out⟩

end Go.Proofs.Ytlfeipibhdggcaa
