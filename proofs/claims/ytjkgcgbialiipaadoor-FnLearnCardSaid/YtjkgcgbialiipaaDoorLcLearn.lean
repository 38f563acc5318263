/- Walks and plain facts of one law: several of my texts in one. -/
import Derived.Test.YtjkgcgbialiipaaDoorGrC
import Derived.Test.YtjkgcgbialiipaaDoorGrD
import Derived.Test.YtjkgcgbialiipaaDoorGrB
import Derived.Test.YtjkgcgbialiipaaDoorGrE
import Derived.Deep.RegionHeld3
/- Walks: steps that were seen, drawn. -/
namespace Go.Proofs.YtjkgcgbialiipaaDoor
open Go.RowKit

theorem OwnS.dr {w w' : World} {B g C : Nat} {v : Value} {zs : List (Int × Int)} (h : OwnS w B v zs) (hb : DrB g C w w') (hC : w.heap.size ≤ C) (hg : g < B) : OwnS w' B v zs := by
  obtain ⟨h0, h1 | ⟨q, cap, cur, e, hq, hh, h2⟩⟩ := h
  · exact ⟨h0, .inl h1⟩
  · exact ⟨h0, .inr ⟨q, cap, cur, e, hq, by rw [hb.block q (by have := lt_of_block hh; omega) (by omega)]; exact hh, h2⟩⟩
theorem OwnI.below' {w w' : World} {B B' : Nat} {v : Value} {zs : List Int} (h : OwnI w B v zs) (hb : Below B' w w') (hB : w.heap.size ≤ B') : OwnI w' B v zs := by
  obtain ⟨h0, h1 | ⟨g, cap, cur, e, hg, hh, h2⟩⟩ := h
  · exact ⟨h0, .inl h1⟩
  · exact ⟨h0, .inr ⟨g, cap, cur, e, hg, by rw [hb.block g (by have := lt_of_block hh; omega)]; exact hh, h2⟩⟩
theorem OwnS.oneApp {w w' : World} {B g P : Nat} {v : Value} {zs : List (Int × Int)} {o : Obj} (h : OwnS w B v zs) (hg : g < B) (hr : Rd w g P) (g5 : (w.alloc o).grownBy w' v.ownBlock) : Rd w' g P :=
  (hr.below ((Below.refl _ _).alloc (Nat.le_refl _) _) (Nat.le_refl _)).grown g5 (fun j hj => by have := (World.ownsRow.lt h j hj).1; omega)

/-- Steps and a number of switches are drawn. -/
def SeenP (g P : Nat) (w : World) (e : Ending) (w' : World) : Prop := ∃ v zs, ∃ n : Int, e = .returned (.tuple #[v, .int .i64 n]) ∧ zs.length ≤ 70 ∧ OwnS w' w.heap.size v zs ∧ Rd w' g P ∧ DrB g w.heap.size w w'

set_option maxRecDepth 100000 in
set_option maxHeartbeats 8000000 in
theorem l12Draw_ok (g P : Nat) (w : World) (h : Rd w g P) (hP : P ≤ 400000) :
    Calls Tryd.prog 129 #[.pointer (some ⟨g, 0, none⟩)] w (SeenP g (P + 500) w) := by
  have hgw := h.lt
  have HK := Lib.hid (fun Q m W (h : Rd W g Q) (hQ : Q ≤ 1000000) (hm : m ≤ 1048576) => pick_ok g Q m W h hQ hm)
  have HO := Lib.hid (l7Open_ok g P w h (by omega))
  clear h
  go_enter Tryd.func129, Tryd.ntmps129
  go_wp2_with fail
  refine HO.out.mono ?_
  rintro e w1 ⟨u, rfl, hu, r1, d1⟩
  have R1 := Lib.hid r1
  have D1 := Lib.hid d1
  have HU := Lib.hid hu
  clear r1 d1 hu HO
  go_wp2_with fail
  refine (sizeOf_ok u _ (Nat.le_trans HU.out (by decide))).mono ?_
  rintro e w2 ⟨rfl, b2⟩
  have R2 := Lib.hid (R1.out.below b2 (Nat.le_refl _))
  have D2 := Lib.hid (D1.out.trans ((DrB.ofB b2).mono D1.out.size))
  clear b2
  rcases szV_range u with hz | ⟨m, hz, hm1, hm5, _⟩
  · rw [hz]
    clear hz
    have b3 : Below w2.heap.size w2 ((w2.alloc (.cells (cellsS [(1, 0)]).toArray 39)).alloc (.cells (ints [1, 2, 0, 6, -1]).toArray 3)) := ((Below.refl _ _).alloc (Nat.le_refl _) _).alloc (by simp) _
    have HY := Lib.hid (num_lit g (P + 400) 5 [1, 2, 0, 6, -1] _ _ (R2.out.below b3 (Nat.le_refl _)) (Blk.new (w2.alloc (.cells (cellsS [(1, 0)]).toArray 39)) 3 (ints [1, 2, 0, 6, -1])) (by have := R2.out.lt; simp; omega) rfl (by omega) (by omega) (by omega))
    have O3 := Lib.hid ((OwnS.lit w2 w.heap.size [(1, 0)] D2.out.size (by decide)).alloc (.cells (ints [1, 2, 0, 6, -1]).toArray 3))
    have D3 := Lib.hid (D2.out.trans (DrB.ofB (g := g) (b3.mono D2.out.size)))
    have hs3 := b3.size
    have hs4 : (w2.alloc (.cells (cellsS [(1, 0)]).toArray 39)).heap.size = w2.heap.size + 1 := by simp
    rw [hs4] at HY
    clear b3
    go_wp2_with fail
    refine HY.out.mono ?_
    rintro e w6 ⟨x, hx, rfl, r6, g6⟩
    generalize gI [1, 2, 0, 6, -1] x = y
    have R6 := Lib.hid r6
    have D6 := Lib.hid (D3.out.trans ((DrB.ofG g6).mono D3.out.size))
    have O6 := Lib.hid (O3.out.dr (DrB.ofG g6) (Nat.le_refl _) hgw)
    clear r6 g6 hx
    go_wp2_with fail
    go_ret2
    exact ⟨_, [(1, 0)], y, rfl, by decide, O6.out, R6.out.more (by omega), D6.out⟩
  · rw [hz]
    clear hz
    have hm0 : ¬ (m : Int) < 0 := by omega
    have hpw : wrap64 (2 ^ m) = ((2 ^ m : Nat) : Int) := wrap_pow_nat m (by omega)
    have hp : (2 ^ m : Nat) ≤ 32 := Nat.pow_le_pow_right (n := 2) (by decide) hm5
    generalize (2 ^ m : Nat) = N at hpw hp
    have b3 : Below w2.heap.size w2 (w2.alloc (.cells #[] 3)) := (Below.refl _ _).alloc (Nat.le_refl _) _
    have R3 := Lib.hid (R2.out.below b3 (Nat.le_refl _))
    have D3 := Lib.hid (D2.out.trans (DrB.ofB (g := g) (b3.mono D2.out.size)))
    have O3 := Lib.hid (OwnI.lit w2 w.heap.size [] D2.out.size (by decide))
    clear b3
    go_wp2_with fail
    refine (HK.out _ 7 _ R3.out (by omega) (by omega)).mono ?_
    rintro e w4 ⟨y, rfl, hy, r4, g4⟩
    have hy7 : y < 7 := by omega
    have R4 := Lib.hid r4
    have D4 := Lib.hid (D3.out.trans ((DrB.ofG g4).mono D3.out.size))
    have O4 := Lib.hid (O3.out.dr (DrB.ofG g4) (Nat.le_refl _) hgw)
    clear r4 g4 hy
    go_wp2_with fail
    go_loopw [6, 7] (fun v q wr => ∃ (k : Nat) (zs : List Int), k + zs.length ≤ 7 ∧ q = .int .i64 k ∧ OwnI wr w.heap.size v zs ∧ Rd wr g (P + 401 + zs.length) ∧ DrB g w.heap.size w wr) (fun _ q _ => (intOf q).toNat)
    case atStart => exact ⟨y, [], by simp; omega, rfl, O4.out, R4.out.more (by simp), D4.out⟩
    case round =>
      obtain ⟨k, zs, hk, rfl, ho, hr, hd⟩ := hrel
      have HOw := Lib.hid ho
      have HR := Lib.hid hr
      have HDr := Lib.hid hd
      clear ho hr hd
      by_cases hk0 : 0 < k
      · have hkw : (0 : Int) < (k : Int) := by omega
        go_wp2_with fail
        refine (HK.out _ N _ HR.out (by omega) (by omega)).mono ?_
        rintro e w5 ⟨x, rfl, hx, r5, g5⟩
        have R5 := Lib.hid r5
        have D5 := Lib.hid (HDr.out.trans ((DrB.ofG g5).mono HDr.out.size))
        have O5 := Lib.hid (HOw.out.dr (DrB.ofG g5) (Nat.le_refl _) hgw)
        clear r5 g5 hx
        go_wp2_with (at_builtin; refine wpList_appI (OwnI.alloc O5.out _) (RowI.one _ _) rfl _ _ rfl rfl rfl (by omega) (by have := D5.out.size; simp; omega) ?_; intro v6 w6 o6 g6)
        go_roundw
        case rel => exact ⟨k - 1, _, by simp; omega, by rw [show ((k : Int) - 1) = ((k - 1 : Nat) : Int) by omega], o6, (O5.out.oneApp hgw R5.out g6).more (by simp; omega), (D5.out.alloc D5.out.size _).grown g6 (by have := D5.out.size; simp; omega) (fun j hj => (World.ownsRow.lt O5.out j hj).1)⟩
        case measure => simp [intOf] <;> omega
      · have hkw : ¬ (0 : Int) < (k : Int) := by omega
        have hzl : zs.length ≤ 7 := by omega
        clear hk hk0
        go_wp2_with fail
        refine (HK.out _ 6 _ HR.out (by omega) (by omega)).mono ?_
        rintro e w5 ⟨x, rfl, hx, r5, g5⟩
        have R5 := Lib.hid (r5.more (show _ ≤ P + 410 by omega))
        have D5 := Lib.hid (HDr.out.trans ((DrB.ofG g5).mono HDr.out.size))
        have O5 := Lib.hid (HOw.out.dr (DrB.ofG g5) (Nat.le_refl _) hgw)
        clear r5 g5
        by_cases x0 : x = 0
        · have tx : ((x : Int) == 0) = true := by rw [x0]; rfl
          clear x0 hx
          have b6 : Below w5.heap.size w5 (w5.alloc (.cells #[] 3)) := (Below.refl _ _).alloc (Nat.le_refl _) _
          have R6 := Lib.hid (R5.out.below b6 (Nat.le_refl _))
          have D6 := Lib.hid (D5.out.trans (DrB.ofB (g := g) (b6.mono D5.out.size)))
          have O6 := Lib.hid (OwnI.lit w5 w.heap.size [] D5.out.size (by decide))
          clear b6
          go_wp2_with fail
          go_loopw [6, 8] (fun v q wr => ∃ (s : Nat) (ys : List Int), s ≤ N ∧ q = .int .i64 s ∧ ys.length = s ∧ OwnI wr w.heap.size v ys ∧ Rd wr g (P + 410) ∧ DrB g w.heap.size w wr) (fun _ q _ => N - (intOf q).toNat)
          case atStart => exact ⟨0, [], Nat.zero_le _, rfl, rfl, O6.out, R6.out, D6.out⟩
          case round =>
            obtain ⟨s, ys, hs, rfl, hl, ho, hr, hd⟩ := hrel
            have HOy := Lib.hid ho
            have HRy := Lib.hid hr
            have HDy := Lib.hid hd
            have HLy := Lib.hid hl
            clear ho hr hd hl
            by_cases hsN : s < N
            · have hsw : (s : Int) < (N : Int) := by omega
              go_wp2_with (at_builtin; refine wpList_appI (OwnI.alloc HOy.out _) (RowI.one _ _) rfl _ _ rfl rfl rfl (by have := HLy.out; omega) (by have := HDy.out.size; simp; omega) ?_; intro v6 w6 o6 g6)
              go_roundw
              case rel => exact ⟨s + 1, _, by omega, by go_num, by simp [HLy.out], o6, HOy.out.oneApp hgw HRy.out g6, (HDy.out.alloc HDy.out.size _).grown g6 (by have := HDy.out.size; simp; omega) (fun j hj => (World.ownsRow.lt HOy.out j hj).1)⟩
              case measure => simp [intOf] <;> omega
            · obtain rfl : s = N := by omega
              have hys : ys.length ≤ 32 := by have := HLy.out; omega
              clear HLy
              obtain ⟨ao, c, rfl, q⟩ := HOy.out.out
              have HSee := Lib.hid (fun W (hW : Below wr.heap.size wr W) => seeS_ok u ao _ c ys W (Nat.le_trans HU.out (by decide)) (q.rowI.below hW (Nat.le_refl _)) (by omega))
              clear q
              have hsl := seeV_len (cutsP 44 u) ys
              go_wp2_with fail
              refine (HSee.out _ (Below.refl _ _)).mono ?_
              rintro e w7 ⟨v7, rfl, o7, b7⟩
              have R7 := Lib.hid (HRy.out.below b7 (Nat.le_refl _))
              have D7 := Lib.hid (HDy.out.trans ((DrB.ofB b7).mono HDy.out.size))
              have O7 := Lib.hid (o7.base HDy.out.size)
              clear o7 b7 HSee
              generalize seeB (cutsP 44 u) ys = okb
              generalize seeV (cutsP 44 u) ys = sl at hsl O7
              go_wp2_with fail
              refine (HK.out _ 16 _ R7.out (by omega) (by omega)).mono ?_
              rintro e w8 ⟨z, rfl, hz, r8, g8⟩
              have R8 := Lib.hid r8
              have D8 := Lib.hid (D7.out.trans ((DrB.ofG g8).mono D7.out.size))
              have O8 := Lib.hid (O7.out.dr (DrB.ofG g8) (Nat.le_refl _) hgw)
              clear r8 g8
              by_cases z0 : z = 0
              · have t0 : ((z : Int) == 0) = true := by rw [z0]; rfl
                clear z0 hz
                have b9 : Below w8.heap.size w8 (w8.alloc (.cells (ints [0, 1, -1, 32]).toArray 3)) := (Below.refl _ _).alloc (Nat.le_refl _) _
                have HY := Lib.hid (num_lit g (P + 411) 4 [0, 1, -1, 32] _ _ (R8.out.below b9 (Nat.le_refl _)) (Blk.new w8 3 (ints [0, 1, -1, 32])) (by have := R8.out.lt; omega) rfl (by omega) (by omega) (by omega))
                have D9 := Lib.hid (D8.out.trans (DrB.ofB (g := g) (b9.mono D8.out.size)))
                have O9 := Lib.hid (O8.out.alloc (.cells (ints [0, 1, -1, 32]).toArray 3))
                clear b9
                go_wp2_with fail
                refine HY.out.mono ?_
                rintro e w10 ⟨x1, hx1, rfl, r10, g10⟩
                generalize gI [0, 1, -1, 32] x1 = n1
                have R10 := Lib.hid r10
                have D10 := Lib.hid (D9.out.trans ((DrB.ofG g10).mono D9.out.size))
                have O10 := Lib.hid (O9.out.dr (DrB.ofG g10) (Nat.le_refl _) hgw)
                clear r10 g10 hx1
                have b11 : Below w10.heap.size w10 (w10.alloc (.cells (ints [0, 1, 2, 32]).toArray 3)) := (Below.refl _ _).alloc (Nat.le_refl _) _
                have HZ := Lib.hid (num_lit g (P + 412) 4 [0, 1, 2, 32] _ _ (R10.out.below b11 (Nat.le_refl _)) (Blk.new w10 3 (ints [0, 1, 2, 32])) (by have := R10.out.lt; omega) rfl (by omega) (by omega) (by omega))
                have D11 := Lib.hid (D10.out.trans (DrB.ofB (g := g) (b11.mono D10.out.size)))
                have O11 := Lib.hid (O10.out.alloc (.cells (ints [0, 1, 2, 32]).toArray 3))
                clear b11
                go_wp2_with fail
                refine HZ.out.mono ?_
                rintro e w12 ⟨x2, hx2, rfl, r12, g12⟩
                generalize gI [0, 1, 2, 32] x2 = n2
                have R12 := Lib.hid r12
                have D12 := Lib.hid (D11.out.trans ((DrB.ofG g12).mono D11.out.size))
                have O12 := Lib.hid (O11.out.dr (DrB.ofG g12) (Nat.le_refl _) hgw)
                clear r12 g12 hx2
                go_wp2_with (at_builtin; refine wpList_appS (p := (n1, n2)) (OwnS.alloc O12.out _) (Blk.new _ _ _) rfl _ _ rfl rfl rfl (by omega) (by have := D12.out.size; simp; omega) ?_; intro v13 w13 o13 g13)
                go_ret2
                exact ⟨_, _, _, rfl, by simp; omega, o13, (O12.out.oneApp hgw R12.out g13).more (by omega), (D12.out.alloc D12.out.size _).grown g13 (by have := D12.out.size; simp; omega) (fun j hj => (World.ownsRow.lt O12.out j hj).1)⟩
              · have t0 : ((z : Int) == 0) = false := by rw [beq_eq_false_iff_ne]; omega
                by_cases z1 : z = 1
                · have t1 : ((z : Int) == 1) = true := by rw [z1]; rfl
                  clear z0 z1 hz
                  by_cases hsl0 : sl.length = 0
                  · obtain ⟨so, sc, rfl, _, _⟩ := O8.out.out
                    rw [hsl0]
                    have OE := Lib.hid O8.out
                    rw [hsl0] at OE
                    clear O7 O8
                    go_wp2_with fail
                    go_loopw [9, 11] (fun v q wr => v = .slice so 0 sc ∧ q = .int .i64 0 ∧ OwnS wr w.heap.size (.slice so 0 sc) sl ∧ Rd wr g (P + 420) ∧ DrB g w.heap.size w wr) (fun _ _ _ => 0)
                    case atStart => exact ⟨rfl, rfl, OE.out, R8.out.more (by omega), D8.out⟩
                    case round =>
                      obtain ⟨rfl, rfl, ho, hr, hd⟩ := hrel
                      have HO9 := Lib.hid ho
                      have HR9 := Lib.hid hr
                      have HD9 := Lib.hid hd
                      clear ho hr hd
                      go_wp2_with fail
                      go_ret2
                      exact ⟨_, _, _, rfl, by omega, HO9.out, HR9.out.more (by omega), HD9.out⟩
                  · go_wp2_with fail
                    go_loopw [9, 11] (fun v q wr => ∃ (k : Nat) (zz : List (Int × Int)), k ≤ 33 ∧ q = .int .i64 k ∧ zz.length = sl.length + k ∧ OwnS wr w.heap.size v zz ∧ Rd wr g (P + 420) ∧ DrB g w.heap.size w wr) (fun _ q _ => 33 - (intOf q).toNat)
                    case atStart => exact ⟨0, sl, Nat.zero_le _, rfl, rfl, O8.out, R8.out.more (by omega), D8.out⟩
                    case round =>
                      obtain ⟨k, zz, hk, rfl, hl, ho, hr, hd⟩ := hrel
                      have HO9 := Lib.hid ho
                      have HR9 := Lib.hid hr
                      have HD9 := Lib.hid hd
                      clear hr hd
                      obtain ⟨so, sc, rfl, rs, _⟩ := ho.out
                      have hzl : (0 : Int) < (zz.length : Int) := by omega
                      have hzb : zz.length ≤ 70 := by omega
                      have HLz := Lib.hid hl
                      clear ho hl
                      by_cases hk33 : k < 33
                      · have hkw : (k : Int) < 33 := by omega
                        obtain ⟨b, o, rfl, _⟩ := rs.some (by omega)
                        have hc1 : wr.cell? ⟨b, o, none⟩ = some (.int .i64 (gS zz 0).1) := by simpa using rs.before b o rfl 0 (by omega)
                        have hc2 : wr.cell? ⟨b, o + 1, none⟩ = some (.int .i64 (gS zz 0).2) := by simpa using rs.after b o rfl 0 (by omega)
                        clear rs
                        go_wp2_with (at_builtin; refine wpList_appS (p := gS zz 0) (OwnS.alloc HO9.out _) (Blk.new _ _ _) rfl _ _ rfl rfl rfl (by omega) (by have := HD9.out.size; simp; omega) ?_; intro v13 w13 o13 g13)
                        go_roundw
                        case rel => exact ⟨k + 1, _, by omega, by go_num, by simp [HLz.out]; omega, o13, HO9.out.oneApp hgw HR9.out g13, (HD9.out.alloc HD9.out.size _).grown g13 (by have := HD9.out.size; simp; omega) (fun j hj => (World.ownsRow.lt HO9.out j hj).1)⟩
                        case measure => simp [intOf] <;> omega
                      · have hkw : ¬ (k : Int) < 33 := by omega
                        clear rs
                        go_wp2_with fail
                        go_ret2
                        exact ⟨_, zz, _, rfl, by omega, HO9.out, HR9.out.more (by omega), HD9.out⟩
                · have t1 : ((z : Int) == 1) = false := by rw [beq_eq_false_iff_ne]; omega
                  clear z0 z1 hz
                  go_wp2_with fail
                  go_ret2
                  exact ⟨_, _, _, rfl, by omega, O8.out, R8.out.more (by omega), D8.out⟩
        · have tx : ((x : Int) == 0) = false := by rw [beq_eq_false_iff_ne]; omega
          clear x0 hx
          have hys : zs.length ≤ 32 := by omega
          obtain ⟨ao, c, rfl, q⟩ := O5.out.out
          have HSee := Lib.hid (fun W (hW : Below w5.heap.size w5 W) => seeS_ok u ao _ c zs W (Nat.le_trans HU.out (by decide)) (q.rowI.below hW (Nat.le_refl _)) (by omega))
          clear q
          have hsl := seeV_len (cutsP 44 u) zs
          go_wp2_with fail
          refine (HSee.out _ (Below.refl _ _)).mono ?_
          rintro e w7 ⟨v7, rfl, o7, b7⟩
          have R7 := Lib.hid (R5.out.below b7 (Nat.le_refl _))
          have D7 := Lib.hid (D5.out.trans ((DrB.ofB b7).mono D5.out.size))
          have O7 := Lib.hid (o7.base D5.out.size)
          clear o7 b7 HSee
          generalize seeB (cutsP 44 u) zs = okb
          generalize seeV (cutsP 44 u) zs = sl at hsl O7
          go_wp2_with fail
          refine (HK.out _ 16 _ R7.out (by omega) (by omega)).mono ?_
          rintro e w8 ⟨z, rfl, hz, r8, g8⟩
          have R8 := Lib.hid r8
          have D8 := Lib.hid (D7.out.trans ((DrB.ofG g8).mono D7.out.size))
          have O8 := Lib.hid (O7.out.dr (DrB.ofG g8) (Nat.le_refl _) hgw)
          clear r8 g8
          by_cases z0 : z = 0
          · have t0 : ((z : Int) == 0) = true := by rw [z0]; rfl
            clear z0 hz
            have b9 : Below w8.heap.size w8 (w8.alloc (.cells (ints [0, 1, -1, 32]).toArray 3)) := (Below.refl _ _).alloc (Nat.le_refl _) _
            have HY := Lib.hid (num_lit g (P + 411) 4 [0, 1, -1, 32] _ _ (R8.out.below b9 (Nat.le_refl _)) (Blk.new w8 3 (ints [0, 1, -1, 32])) (by have := R8.out.lt; omega) rfl (by omega) (by omega) (by omega))
            have D9 := Lib.hid (D8.out.trans (DrB.ofB (g := g) (b9.mono D8.out.size)))
            have O9 := Lib.hid (O8.out.alloc (.cells (ints [0, 1, -1, 32]).toArray 3))
            clear b9
            go_wp2_with fail
            refine HY.out.mono ?_
            rintro e w10 ⟨x1, hx1, rfl, r10, g10⟩
            generalize gI [0, 1, -1, 32] x1 = n1
            have R10 := Lib.hid r10
            have D10 := Lib.hid (D9.out.trans ((DrB.ofG g10).mono D9.out.size))
            have O10 := Lib.hid (O9.out.dr (DrB.ofG g10) (Nat.le_refl _) hgw)
            clear r10 g10 hx1
            have b11 : Below w10.heap.size w10 (w10.alloc (.cells (ints [0, 1, 2, 32]).toArray 3)) := (Below.refl _ _).alloc (Nat.le_refl _) _
            have HZ := Lib.hid (num_lit g (P + 412) 4 [0, 1, 2, 32] _ _ (R10.out.below b11 (Nat.le_refl _)) (Blk.new w10 3 (ints [0, 1, 2, 32])) (by have := R10.out.lt; omega) rfl (by omega) (by omega) (by omega))
            have D11 := Lib.hid (D10.out.trans (DrB.ofB (g := g) (b11.mono D10.out.size)))
            have O11 := Lib.hid (O10.out.alloc (.cells (ints [0, 1, 2, 32]).toArray 3))
            clear b11
            go_wp2_with fail
            refine HZ.out.mono ?_
            rintro e w12 ⟨x2, hx2, rfl, r12, g12⟩
            generalize gI [0, 1, 2, 32] x2 = n2
            have R12 := Lib.hid r12
            have D12 := Lib.hid (D11.out.trans ((DrB.ofG g12).mono D11.out.size))
            have O12 := Lib.hid (O11.out.dr (DrB.ofG g12) (Nat.le_refl _) hgw)
            clear r12 g12 hx2
            go_wp2_with (at_builtin; refine wpList_appS (p := (n1, n2)) (OwnS.alloc O12.out _) (Blk.new _ _ _) rfl _ _ rfl rfl rfl (by omega) (by have := D12.out.size; simp; omega) ?_; intro v13 w13 o13 g13)
            go_ret2
            exact ⟨_, _, _, rfl, by simp; omega, o13, (O12.out.oneApp hgw R12.out g13).more (by omega), (D12.out.alloc D12.out.size _).grown g13 (by have := D12.out.size; simp; omega) (fun j hj => (World.ownsRow.lt O12.out j hj).1)⟩
          · have t0 : ((z : Int) == 0) = false := by rw [beq_eq_false_iff_ne]; omega
            by_cases z1 : z = 1
            · have t1 : ((z : Int) == 1) = true := by rw [z1]; rfl
              clear z0 z1 hz
              by_cases hsl0 : sl.length = 0
              · obtain ⟨so, sc, rfl, _, _⟩ := O8.out.out
                rw [hsl0]
                have OE := Lib.hid O8.out
                rw [hsl0] at OE
                clear O7 O8
                go_wp2_with fail
                go_loopw [9, 11] (fun v q wr => v = .slice so 0 sc ∧ q = .int .i64 0 ∧ OwnS wr w.heap.size (.slice so 0 sc) sl ∧ Rd wr g (P + 420) ∧ DrB g w.heap.size w wr) (fun _ _ _ => 0)
                case atStart => exact ⟨rfl, rfl, OE.out, R8.out.more (by omega), D8.out⟩
                case round =>
                  obtain ⟨rfl, rfl, ho, hr, hd⟩ := hrel
                  have HO9 := Lib.hid ho
                  have HR9 := Lib.hid hr
                  have HD9 := Lib.hid hd
                  clear ho hr hd
                  go_wp2_with fail
                  go_ret2
                  exact ⟨_, _, _, rfl, by omega, HO9.out, HR9.out.more (by omega), HD9.out⟩
              · go_wp2_with fail
                go_loopw [9, 11] (fun v q wr => ∃ (k : Nat) (zz : List (Int × Int)), k ≤ 33 ∧ q = .int .i64 k ∧ zz.length = sl.length + k ∧ OwnS wr w.heap.size v zz ∧ Rd wr g (P + 420) ∧ DrB g w.heap.size w wr) (fun _ q _ => 33 - (intOf q).toNat)
                case atStart => exact ⟨0, sl, Nat.zero_le _, rfl, rfl, O8.out, R8.out.more (by omega), D8.out⟩
                case round =>
                  obtain ⟨k, zz, hk, rfl, hl, ho, hr, hd⟩ := hrel
                  have HO9 := Lib.hid ho
                  have HR9 := Lib.hid hr
                  have HD9 := Lib.hid hd
                  clear hr hd
                  obtain ⟨so, sc, rfl, rs, _⟩ := ho.out
                  have hzl : (0 : Int) < (zz.length : Int) := by omega
                  have hzb : zz.length ≤ 70 := by omega
                  have HLz := Lib.hid hl
                  clear ho hl
                  by_cases hk33 : k < 33
                  · have hkw : (k : Int) < 33 := by omega
                    obtain ⟨b, o, rfl, _⟩ := rs.some (by omega)
                    have hc1 : wr.cell? ⟨b, o, none⟩ = some (.int .i64 (gS zz 0).1) := by simpa using rs.before b o rfl 0 (by omega)
                    have hc2 : wr.cell? ⟨b, o + 1, none⟩ = some (.int .i64 (gS zz 0).2) := by simpa using rs.after b o rfl 0 (by omega)
                    clear rs
                    go_wp2_with (at_builtin; refine wpList_appS (p := gS zz 0) (OwnS.alloc HO9.out _) (Blk.new _ _ _) rfl _ _ rfl rfl rfl (by omega) (by have := HD9.out.size; simp; omega) ?_; intro v13 w13 o13 g13)
                    go_roundw
                    case rel => exact ⟨k + 1, _, by omega, by go_num, by simp [HLz.out]; omega, o13, HO9.out.oneApp hgw HR9.out g13, (HD9.out.alloc HD9.out.size _).grown g13 (by have := HD9.out.size; simp; omega) (fun j hj => (World.ownsRow.lt HO9.out j hj).1)⟩
                    case measure => simp [intOf] <;> omega
                  · have hkw : ¬ (k : Int) < 33 := by omega
                    clear rs
                    go_wp2_with fail
                    go_ret2
                    exact ⟨_, zz, _, rfl, by omega, HO9.out, HR9.out.more (by omega), HD9.out⟩
            · have t1 : ((z : Int) == 1) = false := by rw [beq_eq_false_iff_ne]; omega
              clear z0 z1 hz
              go_wp2_with fail
              go_ret2
              exact ⟨_, _, _, rfl, by omega, O8.out, R8.out.more (by omega), D8.out⟩

end Go.Proofs.YtjkgcgbialiipaaDoor
/- The law FnLearn. -/
namespace Go.Proofs.YtjkgcgbialiipaaDoor
open Go.RowKit Go.Maps

/-- What the reference draws for LearnNetwork. -/
def DrawLN (w : World) (e : Ending) (w' : World) : Prop := ∃ v zs, ∃ n : Int, e = .returned (.tuple #[v, .int .i64 n]) ∧ zs.length ≤ 70 ∧ OwnS w' w.heap.size v zs ∧ Below w.heap.size w w'
set_option maxHeartbeats 1000000 in
theorem drawLN_ok (ao : Option Addr) (l c : Nat) (cs : List Int) (w : World) (h : RowU w ao l c cs) (hl : l ≤ 1048576) :
    Calls Tryd.prog 55 #[.slice ao l c] w (DrawLN w) := by
  have HO := Lib.hid (l14Open_ok ao l c cs w h hl)
  clear h
  go_enter Tryd.func55, Tryd.ntmps55
  go_wp2_with fail
  refine HO.out.mono ?_
  rintro e w1 ⟨g, rfl, hg, r1, b1⟩
  have R1 := Lib.hid r1
  have B1 := Lib.hid b1
  clear r1 b1 HO
  go_wp2_with fail
  refine (l12Draw_ok g 0 _ R1.out (by omega)).mono ?_
  rintro e w2 ⟨v, zs, n, rfl, hz, o2, r2, d2⟩
  have O2 := Lib.hid (o2.base B1.out.size)
  have D2 := Lib.hid ((DrB.ofB (g := g) B1.out).trans (d2.mono B1.out.size))
  clear r2 o2 d2
  go_wp2_with fail
  refine bodyPost_ret (v := .tuple #[v, .int .i64 n]) (by simp [results, Tryd.results55, go_sem]) rfl ⟨_, zs, n, rfl, hz, O2.out, D2.out.below hg⟩

theorem ln_size {zs : List (Int × Int)} {m : Nat} (h : possV zs m = true) : (lnT zs m).size ≤ 1048576 := by
  have hm := poss_seen h
  have hp := pow_32 (show m ≤ 5 by omega)
  have hM : ∀ i, (lnF zs m i).size ≤ 32 := fun i => by
    unfold lnF lrT
    split
    · decide
    · rw [digT_size, ruleL_len, Int.toNat_natCast]; exact hp
  rw [lnT_yes h]
  have := joinF_size (lnF zs m) ⟨#[44]⟩ 32 (by decide) hM m
  have h2 : m * (32 + 1) ≤ 5 * (32 + 1) := Nat.mul_le_mul_right _ (by omega)
  omega
theorem ln_sa {zs : List (Int × Int)} {m k : Nat} (h : possV zs m = true) (hk : k < zs.length) : saV (listF (lnF zs m) m) (gS zs k).1 = (gS zs k).2 := by
  have hm := poss_seen h
  have hs := h
  simp only [possV, Bool.and_eq_true] at hs
  obtain ⟨_, _, hsm, hlt⟩ := seen_parts hs.1
  have hsk := hsm k hk
  have hlk := hlt k hk
  rw [Int.toNat_natCast] at hlk
  have hc : ((2 ^ m : Nat) : Int) = 2 ^ m := by simp
  have hl : (listF (lnF zs m) m).length = m := listF_len _ _
  obtain ⟨a, ha⟩ := Int.eq_ofNat_of_zero_le hsk.1
  have hst : stB' (listF (lnF zs m) m) (a : Int) = true := by
    rw [stB'_in (ln_net h), hl, stOk_iff]; omega
  have h1 := ln_step h hk
  rw [ha, Int.toNat_natCast] at h1
  rw [ha, saV_all (by rw [hl]; omega) hst, hl, h1]
  omega
theorem held2d {wr W w5 : World} {q o : Nat} {v1 v2 : Value} (h : Below wr.heap.size wr W ∧ W.cell? ⟨q, o, none⟩ = some v1 ∧ W.cell? ⟨q, o + 1, none⟩ = some v2) (b : Below W.heap.size W w5) (h1 : q < wr.heap.size) :
    Below wr.heap.size wr w5 ∧ w5.cell? ⟨q, o, none⟩ = some v1 ∧ w5.cell? ⟨q, o + 1, none⟩ = some v2 :=
  ⟨h.1.trans (b.mono h.1.size), (b.cell (p := ⟨q, o, none⟩) (Nat.lt_of_lt_of_le h1 h.1.size)).trans h.2.1, (b.cell (p := ⟨q, o + 1, none⟩) (Nat.lt_of_lt_of_le h1 h.1.size)).trans h.2.2⟩

set_option maxRecDepth 100000 in
set_option maxHeartbeats 8000000 in
theorem FnLearn_ok (ao : Option Addr) (l c : Nat) (cs : List Int) (w : World) (h : RowU w ao l c cs) (hm : MaxLenIs w) :
    Calls Tryd.prog 10 #[.slice ao l c] w fun e w' => e = .returned (.bool true) ∧ Below w.heap.size w w' := by
  go_enter Tryd.func10, Tryd.ntmps10
  by_cases hbig : 1048576 < l
  · have hbig' : (1048576 : Int) < (l : Int) := by omega
    go_wp2_with fail
    go_ret
    exact ⟨rfl, Below.refl _ _⟩
  · have hbig' : ¬ (1048576 : Int) < (l : Int) := by omega
    have HD := Lib.hid (drawLN_ok ao l c cs w h (by omega))
    have HM := Lib.hid (fun W (hW : Below w.heap.size w W) => hm.below hW (Nat.le_refl _))
    clear h hm
    go_wp2_with fail
    refine HD.out.mono ?_
    rintro e w1 ⟨v, zs, n, rfl, hz, o1, b1⟩
    obtain ⟨so, sc, rfl, hr, _⟩ := o1.out
    have B1 := Lib.hid b1
    have HLI := Lib.hid (fun W (hW : Below w1.heap.size w1 W) => lnI_ok so zs.length sc zs n W (hr.below hW (Nat.le_refl _)))
    have HLS := Lib.hid (fun W (hW : Below w1.heap.size w1 W) => lnS_ok so zs.length sc zs n W (hr.below hW (Nat.le_refl _)))
    have HPI := Lib.hid (fun W (hW : Below w1.heap.size w1 W) => posI_ok so zs.length sc zs n W (hr.below hW (Nat.le_refl _)))
    have HPS := Lib.hid (fun W (hW : Below w1.heap.size w1 W) => posS_ok so zs.length sc zs n W (hr.below hW (Nat.le_refl _)))
    have HVI := Lib.hid (fun W (hW : Below w1.heap.size w1 W) => svI_ok so zs.length sc zs n W (hr.below hW (Nat.le_refl _)))
    have HVS := Lib.hid (fun W (hW : Below w1.heap.size w1 W) => svS_ok so zs.length sc zs n W (hr.below hW (Nat.le_refl _)))
    have HLe := Lib.hid (fun W i (hW : Below w1.heap.size w1 W) => leI_ok so zs.length sc zs n i W (hr.below hW (Nat.le_refl _)))
    have HR := Lib.hid hr
    have hcap := hr.cap
    have hle := hr.le
    unfold maxLen at hcap
    clear o1 b1 hr HD
    cases hp : possV zs n with
    | false =>
      have HP := Lib.hid hp
      clear hp
      generalize seenB zs n = sb at HVI HVS
      generalize lnT zs n = u at HLI HLS
      rw [HP.out] at HLI HLS HPI HPS
      go_wp2_with fail
      refine (HLI.out _ (Below.refl _ _)).mono ?_
      rintro e w2 ⟨rfl, b2⟩
      go_wp2_with fail
      refine (HLS.out _ b2).mono ?_
      rintro e w3 ⟨rfl, b3⟩
      have c3 : Below w1.heap.size w1 w3 := b2.trans (b3.mono b2.size)
      go_wp2_with fail
      refine (HPI.out _ c3).mono ?_
      rintro e w4 ⟨rfl, b4⟩
      have c4 : Below w1.heap.size w1 w4 := c3.trans (b4.mono c3.size)
      go_wp2_with fail
      refine (HPS.out _ c4).mono ?_
      rintro e w5 ⟨rfl, b5⟩
      have c5 : Below w1.heap.size w1 w5 := c4.trans (b5.mono c4.size)
      go_wp2_with fail
      refine (HVI.out _ c5).mono ?_
      rintro e w6 ⟨rfl, b6⟩
      have c6 : Below w1.heap.size w1 w6 := c5.trans (b6.mono c5.size)
      go_wp2_with fail
      refine (HVS.out _ c6).mono ?_
      rintro e w7 ⟨rfl, rfl⟩
      have c7 := c6
      go_wp2_with fail
      refine (HPS.out _ c7).mono ?_
      rintro e w8 ⟨rfl, b8⟩
      have c8 : Below w1.heap.size w1 w8 := c7.trans (b8.mono c7.size)
      go_wp2_with fail
      refine (HVI.out _ c8).mono ?_
      rintro e w9 ⟨rfl, b9⟩
      have c9 : Below w1.heap.size w1 w9 := c8.trans (b9.mono c8.size)
      go_wp2_with fail
      refine (HVS.out _ c9).mono ?_
      rintro e wa ⟨rfl, rfl⟩
      have ca := c9
      go_wp2_with fail
      go_ret
      exact ⟨rfl, B1.out.trans (ca.mono B1.out.size)⟩
    | true =>
      have HP := Lib.hid hp
      have hmm := poss_seen hp
      obtain ⟨m, rfl⟩ := Int.eq_ofNat_of_zero_le (show 0 ≤ n by omega)
      have ht := ln_size hp
      have hcut := ln_cuts hp
      have hlq : (listF (lnF zs m) m).length = m := listF_len _ _
      have hnq := ln_net hp
      have HSz := Lib.hid (fun W (hW : Below w1.heap.size w1 W) => sizeI_ok (lnT zs m) W ht (HM.out W (B1.out.trans (hW.mono B1.out.size))))
      have HSA := Lib.hid (fun W s (hW : Below w1.heap.size w1 W) => stepAllI_ok (lnT zs m) s W ht (HM.out W (B1.out.trans (hW.mono B1.out.size))))
      have HRule := Lib.hid (fun W i (hW : Below w1.heap.size w1 W) hi => ruleOfI_ok (lnT zs m) i W ht (HM.out W (B1.out.trans (hW.mono B1.out.size))) (by rw [hcut]; exact hnq) (by rw [hcut, hlq]; exact hi))
      rw [hcut] at HSz HSA HRule
      have HSm := Lib.hid (show sizV (listF (lnF zs m) m) = (m : Int) by rw [sizV_yes hnq, hlq])
      rw [HSm.out] at HSz
      have HSt := Lib.hid (fun k (hk : k < zs.length) => ln_sa hp hk)
      have HMt := Lib.hid (fun i W (hi : i < m) => mattersI_ok (gT (listF (lnF zs m) m) i) m (bitN (listF (lnF zs m) m) i) W ⟨by omega, by omega⟩ (by have := net_size hnq i (by rw [hlq]; exact hi); rw [hlq] at this; exact this) (netB_get hnq i (by rw [hlq]; exact hi)).1 (fun s => ⟨bitN_eq (netB_get hnq i (by rw [hlq]; exact hi)).1 s, bitN_lt (netB_get hnq i (by rw [hlq]; exact hi)).1 s⟩))
      have HBits := Lib.hid (fun i (hi : i < m) => show ∃ r : Nat, leastI zs m i = r ∧ r < 32 ∧ ∀ j, j < (mtL (fun j => upB (bitN (listF (lnF zs m) m) i) j m || dnB (bitN (listF (lnF zs m) m) i) j m) m).length → ∃ x : Nat, gI (mtL (fun j => upB (bitN (listF (lnF zs m) m) i) j m || dnB (bitN (listF (lnF zs m) m) i) j m) m) j = x ∧ x < m ∧ r.testBit x = true by
        obtain ⟨r, hr, _, hr2, _⟩ := lr_least hp hi
        have hp32 := pow_32 (show m ≤ 5 by omega)
        refine ⟨r, hr, by omega, fun j hj => ?_⟩
        obtain ⟨x, hx, hxm, hxa⟩ := mtL_get hj
        refine ⟨x, hx, hxm, ln_matter hp hi hxm hr ?_⟩
        rw [actB, hlq]; exact hxa)
      have HMl := Lib.hid (fun i => mtL_len (fun j => upB (bitN (listF (lnF zs m) m) i) j m || dnB (bitN (listF (lnF zs m) m) i) j m) m)
      clear hp hnq hcut hlq ht
      generalize seenB zs m = sb at HVI HVS
      generalize lnT zs m = u at HLI HLS HSz HSA HRule
      generalize listF (lnF zs m) m = qs at HSA HRule HSt HMt HBits HMl HSm
      rw [HP.out] at HLI HLS HPI HPS
      go_wp2_with fail
      refine (HLI.out _ (Below.refl _ _)).mono ?_
      rintro e w2 ⟨rfl, b2⟩
      go_wp2_with fail
      refine (HLS.out _ b2).mono ?_
      rintro e w3 ⟨rfl, b3⟩
      have c3 : Below w1.heap.size w1 w3 := b2.trans (b3.mono b2.size)
      go_wp2_with fail
      refine (HPI.out _ c3).mono ?_
      rintro e w4 ⟨rfl, b4⟩
      have c4 : Below w1.heap.size w1 w4 := c3.trans (b4.mono c3.size)
      go_wp2_with fail
      refine (HPS.out _ c4).mono ?_
      rintro e w5 ⟨rfl, b5⟩
      have c5 : Below w1.heap.size w1 w5 := c4.trans (b5.mono c4.size)
      go_wp2_with fail
      refine (HVI.out _ c5).mono ?_
      rintro e w6 ⟨rfl, b6⟩
      have c6 : Below w1.heap.size w1 w6 := c5.trans (b6.mono c5.size)
      go_wp2_with fail
      refine (HVS.out _ c6).mono ?_
      rintro e w7 ⟨rfl, rfl⟩
      have C7 := Lib.hid c6
      clear b2 b3 c3 b4 c4 b5 c5 b6 c6 HLI HLS HPI HPS HVI HVS
      go_wp2_with fail
      go_loopw [10] (fun q wr => ∃ k : Nat, k ≤ zs.length ∧ q = .int .i64 k ∧ Below w1.heap.size w1 wr) (fun q _ => zs.length - (intOf q).toNat)
      case atStart => exact ⟨0, Nat.zero_le _, rfl, C7.out⟩
      case round =>
        obtain ⟨k, hk, rfl, hb⟩ := hrel
        have HB := Lib.hid hb
        clear hb
        by_cases hkn : k < zs.length
        · have hkw : (k : Int) < (zs.length : Int) := by omega
          have hrow := HR.out.below HB.out (Nat.le_refl _)
          obtain ⟨bq, o, rfl, hb0⟩ := hrow.some (by omega)
          have hc1 := hrow.before bq o rfl k hkn
          have hc2 := hrow.after bq o rfl k hkn
          have HVk := Lib.hid (fun W (hW : Below wr.heap.size wr W) => HSA.out W (gS zs k).1 (HB.out.trans (hW.mono HB.out.size)))
          rw [HSt.out k hkn] at HVk
          generalize (gS zs k).1 = y1 at hc1 HVk
          generalize (gS zs k).2 = y2 at hc2 HVk
          clear hrow hk
          go_wp2_with fail
          go_region_held3 (fun w' => Below wr.heap.size wr w' ∧ w'.cell? ⟨bq, o + k * 2, none⟩ = some (.int .i64 y1) ∧ w'.cell? ⟨bq, o + k * 2 + 1, none⟩ = some (.int .i64 y2))
            (first | exact ⟨⟨rfl, rfl, rfl, Nat.le_refl _, fun _ _ => rfl⟩, hc1, hc2⟩ | exact held2d (by assumption) b5 hb0)
            ((go_at_call 20; refine (HVk.out _ ?_).mono ?_; (exact (by assumption : _ ∧ _ ∧ _).1); rintro e w5 ⟨rfl, b5⟩))
          have HB5 : Hid (Below wr.heap.size wr w5) := (by assumption : Below wr.heap.size wr w5 ∧ _ ∧ _).1
          go_wp2_with fail
          go_roundw
          case rel => exact ⟨k + 1, by omega, by go_num, HB.out.trans (HB5.out.mono HB.out.size)⟩
          case measure => simp [intOf] <;> omega
        · obtain rfl : k = zs.length := by omega
          have hkw : ¬ (zs.length : Int) < (zs.length : Int) := by omega
          go_wp2_with fail
          obtain ⟨wo, hwo⟩ : ∃ wo : World, wo = wr := ⟨_, rfl⟩
          subst hwo
          go_loopw [11] (fun q wr => ∃ i : Nat, i ≤ m ∧ q = .int .i64 i ∧ Below w1.heap.size w1 wr) (fun q _ => m - (intOf q).toNat)
          case atStart => exact ⟨0, Nat.zero_le _, rfl, HB.out⟩
          case round =>
            obtain ⟨i, hi, rfl, hb⟩ := hrel
            have HBi := Lib.hid hb
            clear hb
            by_cases hin : i < m
            · have hiw : (i : Int) < (m : Int) := by omega
              have HRi := Lib.hid (HRule.out wr i HBi.out hin)
              have HMi := Lib.hid (fun W => HMt.out i W hin)
              obtain ⟨r, hr1, hr2, hrb⟩ := HBits.out i hin
              have HRb := Lib.hid hrb
              have hml := HMl.out i
              have HLei := Lib.hid (fun W hW => HLe.out W (i : Int) hW)
              rw [hr1] at HLei
              clear hrb hr1
              generalize mtL (fun j => upB (bitN qs i) j m || dnB (bitN qs i) j m) m = ml at HMi HRb hml
              generalize gT qs i = gt at HRi HMi
              go_wp2_with fail
              refine HRi.out.mono ?_
              rintro e w6 ⟨rfl, b6⟩
              have C6 := Lib.hid (HBi.out.trans (b6.mono HBi.out.size))
              clear b6
              go_wp2_with fail
              refine (HMi.out _).mono ?_
              rintro e w7 ⟨v7, rfl, o7, b7⟩
              have C7' := Lib.hid (C6.out.trans (b7.mono C6.out.size))
              obtain ⟨ma, mc, rfl, q7⟩ := o7.out
              have q7r := q7.rowI
              clear o7 b7
              go_wp2_with fail
              refine (HLei.out _ C7'.out).mono ?_
              rintro e w8 ⟨rfl, b8⟩
              have C8 := Lib.hid (C7'.out.trans (b8.mono C7'.out.size))
              have Q8 := Lib.hid (q7r.below b8 (Nat.le_refl _))
              clear q7 q7r b8
              go_wp2_with fail
              obtain ⟨wi, hwi⟩ : ∃ wi : World, wi = w8 := ⟨_, rfl⟩
              subst hwi
              go_loop [14] (fun q => ∃ j : Nat, j ≤ ml.length ∧ q = .int .i64 j) (fun q => ml.length - (intOf q).toNat)
              case atStart => exact ⟨0, Nat.zero_le _, rfl⟩
              case round =>
                obtain ⟨j, hj, rfl⟩ := hrel
                by_cases hjn : j < ml.length
                · have hjw : (j : Int) < (ml.length : Int) := by omega
                  obtain ⟨x, hx, hxn, hxb⟩ := HRb.out j hjn
                  obtain ⟨bq, oq, rfl, _⟩ := Q8.out.2.some (by omega)
                  have hcx := Q8.out.2.cell bq oq rfl j hjn
                  rw [hx] at hcx
                  have ev : bits .and .i64 ((r : Int) / 2 ^ x) 1 = ((bN r x : Nat) : Int) := bit_int (r : Int) x (by omega) (by omega)
                  have e1 : bN r x = 1 := bN_one.2 hxb
                  rw [e1] at ev
                  clear hxb e1
                  go_wp2_with fail
                  go_round
                  case rel => exact ⟨j + 1, by omega, by go_num⟩
                  case measure => simp [intOf]; omega
                · obtain rfl : j = ml.length := by omega
                  go_wp2_with fail
                  go_roundw
                  case rel => exact ⟨i + 1, by omega, by go_num, C8.out⟩
                  case measure => simp [intOf]; omega
            · obtain rfl : i = m := by omega
              go_wp2_with fail
              refine (HSz.out _ HBi.out).mono ?_
              rintro e w8 ⟨rfl, b8⟩
              have C8 := Lib.hid (HBi.out.trans (b8.mono HBi.out.size))
              go_wp2_with fail
              go_ret
              exact ⟨rfl, B1.out.trans (C8.out.mono B1.out.size)⟩

end Go.Proofs.YtjkgcgbialiipaaDoor
