/- Walks and plain facts of one law: several of my texts in one. -/
import Derived.Test.YtjkgcgbialiipaaDoorGrJ
import Derived.Test.YtjkgcgbialiipaaDoorGrG
/- The law FnHoldSwitches. -/
namespace Go.Proofs.YtjkgcgbialiipaaDoor
open Go.RowKit

/-- The held network, told anew: what the law asks of it. -/
theorem hold_all {t : ByteArray} {ps : List ByteArray} {l : List UInt8} (hps : cutsP 44 t = ps) (h0 : 0 < ps.length) (h : htB ps l = true) :
    ps.length ≤ 5 ∧ netB ps = true ∧ l.length = ps.length ∧ termB l ps.length = true ∧
    ∃ (Y Z : Nat → Nat) (set : Nat), heldV l = (set : Int) ∧ (set = 0 → hsT ps l = t) ∧ ∀ s : Nat, s < 2 ^ ps.length → Y s < 2 ^ ps.length ∧ saV (hsP ps l) (s : Int) = (Y s : Nat) ∧ saV ps (s : Int) = (Z s : Nat) ∧ hasT l (Y s) = true ∧
      bits .xor .i64 ((Y s : Nat) : Int) ((Z s : Nat) : Int) = ((Y s ^^^ Z s : Nat) : Int) ∧ bits .andNot .i64 ((Y s ^^^ Z s : Nat) : Int) (set : Int) = 0 := by
  obtain ⟨hn, hz, hl⟩ := ht_len h
  have h5 := net_le hn h0
  have hp := pow_32 h5
  obtain ⟨hv, hlt⟩ := held_eq h
  have h' := h
  rw [htB, Bool.and_eq_true] at h'
  refine ⟨h5, hn, hz, h'.2, hsS ps l, fun s => allTo ps s ps.length, heldTo l l.length, hv, fun e => hs_self hps h0 h fun i hi => held_zero hl e (by omega), fun s hs => ?_⟩
  have h1 := hsS_lt hn hl h0 h5 s
  have h2 := allTo_lt hn h5 s
  have hst : stOk ps.length (s : Int) = true := by rw [stOk_iff]; omega
  have hq := hsP_net hn hl h0 h5
  have hlq := hsP_len ps l
  simp only
  refine ⟨h1, ?_, saV_all h5 (by rw [stB'_in hn]; exact hst), hsS_has h0 h5 h hs, xor_nat _ _ (by omega) (by omega), ?_⟩
  · rw [saV_all (by rw [hlq]; exact h5) (by rw [stB'_in hq, hlq]; exact hst), hlq]; rfl
  · have hx : hsS ps l s ^^^ allTo ps s ps.length < 2 ^ 5 := Nat.xor_lt_two_pow (by omega) (by omega)
    rw [andNot_32 _ _ (by omega) (by omega), hsS_held h0 h5 h hs]; rfl

set_option maxRecDepth 100000 in
set_option maxHeartbeats 8000000 in
theorem FnHoldSwitches_ok (ao : Option Addr) (l c : Nat) (cs : List Int) (w : World) (h : RowU w ao l c cs) (hm : MaxLenIs w) :
    Calls Tryd.prog 12 #[.slice ao l c] w fun e w' => e = .returned (.bool true) ∧ Below w.heap.size w w' := by
  go_enter Tryd.func12, Tryd.ntmps12
  by_cases hbig : 1048576 < l
  · have hbig' : (1048576 : Int) < (l : Int) := by omega
    go_wp2_with fail
    go_ret
    exact ⟨rfl, Below.refl _ _⟩
  · have hbig' : ¬ (1048576 : Int) < (l : Int) := by omega
    have HD := Lib.hid (drawHS_ok ao l c cs w h (by omega))
    have HM := Lib.hid (fun W (hW : Below w.heap.size w W) => hm.below hW (Nat.le_refl _))
    clear h hm
    go_wp2_with fail
    refine HD.out.mono ?_
    rintro e w1 ⟨u, t, rfl, hu, ht, b1⟩
    have B1 := Lib.hid b1
    have HM1 := Lib.hid (fun W (hW : Below w1.heap.size w1 W) => HM.out W (B1.out.trans (hW.mono B1.out.size)))
    have HHi := Lib.hid (fun W (hW : Below w1.heap.size w1 W) => hsI_ok u t W hu ht (HM1.out W hW))
    have HHs := Lib.hid (fun W => hsS_ok u t W hu ht)
    have HIi := Lib.hid (fun W => heldI_ok t W (by unfold maxLen; omega))
    have HIs := Lib.hid (fun W => heldS_ok t W (by unfold maxLen; omega))
    have HSz := Lib.hid (fun W (hW : Below w1.heap.size w1 W) => sizeI_ok u W hu (HM1.out W hW))
    have HSw := Lib.hid (fun W s (hW : Below w1.heap.size w1 W) => stepAllI_ok u s W hu (HM1.out W hW))
    have hp0 := cutsP_pos 44 u
    obtain ⟨ps, hps⟩ : ∃ ps, cutsP 44 u = ps := ⟨_, rfl⟩
    rw [hps] at HHi HHs HSz HSw hp0
    have HPs := Lib.hid hps
    clear b1 HD hps
    cases hb : htB ps t.data.toList with
    | false =>
      rw [hb] at HHi HHs
      generalize hsT ps t.data.toList = k at HHi HHs
      generalize heldV t.data.toList = hv at HIi HIs
      clear hb
      go_wp2_with fail
      refine (HHi.out _ (Below.refl _ _)).mono ?_
      rintro e w2 ⟨rfl, b2⟩
      have B2 := Lib.hid b2
      clear b2
      go_wp2_with fail
      refine (HHs.out _).mono ?_
      rintro e w3 ⟨rfl, b3⟩
      have B3 := Lib.hid (B2.out.trans (b3.mono B2.out.size))
      clear b3
      go_wp2_with fail
      refine (HIi.out _).mono ?_
      rintro e w4 ⟨rfl, rfl⟩
      go_wp2_with fail
      refine (HIs.out _).mono ?_
      rintro e w4 ⟨rfl, rfl⟩
      go_wp2_with fail
      refine (HIi.out _).mono ?_
      rintro e w4 ⟨rfl, rfl⟩
      go_wp2_with fail
      refine (HIs.out _).mono ?_
      rintro e w4 ⟨rfl, rfl⟩
      go_wp2_with fail
      go_ret
      exact ⟨rfl, B1.out.trans (B3.out.mono B1.out.size)⟩
    | true =>
      obtain ⟨h5, hn, hz, htm, Y, Z, set, hset, hself, hall⟩ := hold_all HPs.out hp0 hb
      have hks := hsT_size ps t.data.toList hp0
      have hcq := hs_cuts hp0 hb
      have hp := pow_32 h5
      have HSk := Lib.hid (fun W s (hW : Below w1.heap.size w1 W) => stepAllI_ok (hsT ps t.data.toList) s W hks (HM1.out W hW))
      rw [hcq] at HSk
      have HA := Lib.hid hall
      have HSelf := Lib.hid hself
      have htz : t.size = ps.length := hz
      have HII := Lib.hid (fun s W => isInsideI_ok (digS (bitL s ps.length)) t W (by rw [digS_size, bitL_len]; omega) ht)
      have HIv := Lib.hid (fun s => ii_has (s := s) htm)
      have HHu := Lib.hid (fun s W a c (hr : RowI W a 1 c [((s : Nat) : Int)]) (hs : s < 2 ^ ps.length) => hullOfI_ok a c s ps.length W hr hp0 h5 hs)
      have HTrap : Hid (∀ W, Below w1.heap.size w1 W → Calls Tryd.prog 71 #[.string (hsT ps t.data.toList), .string t] W fun e w' => e = .returned (.bool true) ∧ Below W.heap.size W w') := by
        intro W hW
        refine isTrapI_ok (hsT ps t.data.toList) t W hks ht (HM1.out W hW) ?_ ?_
        · rw [hcq, htB, hsP_net hn (ht_len hb).2.2 hp0 h5, hsP_len]; exact htm
        · intro x hx _
          rw [hcq, hsP_len] at hx ⊢
          exact hsS_has hp0 h5 hb hx
      rw [hb] at HHi HHs
      rw [hset] at HIi HIs
      rw [sizV_yes hn] at HSz
      have hpw := wrap_pow_nat ps.length (by omega)
      generalize hsT ps t.data.toList = k at HHi HHs HSk HTrap HSelf
      generalize hsP ps t.data.toList = qs at HSk HA
      clear hall hself hks hcq hb htm hset hn
      generalize (2 ^ ps.length : Nat) = N at hp hpw HA HHu
      go_wp2_with fail
      refine (HHi.out _ (Below.refl _ _)).mono ?_
      rintro e w2 ⟨rfl, b2⟩
      have B2 := Lib.hid b2
      clear b2
      go_wp2_with fail
      refine (HHs.out _).mono ?_
      rintro e w3 ⟨rfl, b3⟩
      have B3 := Lib.hid (B2.out.trans (b3.mono B2.out.size))
      clear b3
      go_wp2_with fail
      refine (HIi.out _).mono ?_
      rintro e w4 ⟨rfl, rfl⟩
      go_wp2_with fail
      refine (HIs.out _).mono ?_
      rintro e w4 ⟨rfl, rfl⟩
      go_wp2_with fail
      refine (HIi.out _).mono ?_
      rintro e w4 ⟨rfl, rfl⟩
      go_wp2_with fail
      go_loopw [10] (fun j wr => ∃ s : Nat, s ≤ N ∧ j = .int .i64 s ∧ Below w1.heap.size w1 wr) (fun j _ => N - (intOf j).toNat)
      case atStart => exact ⟨0, Nat.zero_le _, rfl, B3.out⟩
      case round =>
        obtain ⟨s, hs, rfl, hbl⟩ := hrel
        have HB := Lib.hid hbl
        clear hbl
        go_wp2_with fail
        refine (HSz.out _ HB.out).mono ?_
        rintro e w5 ⟨rfl, b5⟩
        have B5 := Lib.hid (HB.out.trans (b5.mono HB.out.size))
        clear b5
        by_cases hsN : s < N
        · have hsw : (s : Int) < (N : Int) := by omega
          obtain ⟨hy, hs1, hs2, hs3, hx1, hx2⟩ := HA.out s hsN
          have HK1 := Lib.hid (fun W hW => HSk.out W (s : Int) hW)
          have HW1 := Lib.hid (fun W hW => HSw.out W (s : Int) hW)
          rw [hs1] at HK1
          rw [hs2] at HW1
          have HII1 := Lib.hid (fun W => HII.out (Y s) W)
          rw [HIv.out (Y s), hs3] at HII1
          generalize Y s = y at *
          generalize Z s = z at *
          have HHu1 := Lib.hid (fun W a c (hr : RowI W a 1 c [((y : Nat) : Int)]) => HHu.out y W a c hr hy)
          generalize digS (bitL y ps.length) = hd at HII1 HHu1
          generalize ((y ^^^ z : Nat) : Int) = xz at hx1 hx2
          clear hs1 hs2 hs3
          go_wp2_with fail
          refine (HK1.out _ B5.out).mono ?_
          rintro e w6 ⟨rfl, b6⟩
          have B6 := Lib.hid (B5.out.trans (b6.mono B5.out.size))
          have b7 : Below w6.heap.size w6 (w6.alloc (.cells #[.int .i64 (y : Int)] 3)) := (Below.refl _ _).alloc (Nat.le_refl _) _
          have B7 := Lib.hid (B6.out.trans (b7.mono B6.out.size))
          have HH2 := Lib.hid (HHu1.out _ _ _ (RowI.one w6 (y : Int)))
          clear b6 b7
          go_wp2_with fail
          refine HH2.out.mono ?_
          rintro e w8 ⟨rfl, b8⟩
          have B8 := Lib.hid (B7.out.trans (b8.mono B7.out.size))
          clear b8
          go_wp2_with fail
          refine (HII1.out _).mono ?_
          rintro e w9 ⟨rfl, b9⟩
          have B9 := Lib.hid (B8.out.trans (b9.mono B8.out.size))
          clear b9
          go_wp2_with fail
          refine (HW1.out _ B9.out).mono ?_
          rintro e w10 ⟨rfl, b10⟩
          have B10 := Lib.hid (B9.out.trans (b10.mono B9.out.size))
          clear b10
          go_wp2_with fail
          go_roundw
          case rel => exact ⟨s + 1, by omega, by go_num, B10.out⟩
          case measure => simp [intOf] <;> omega
        · have hsw : ¬ (s : Int) < (N : Int) := by omega
          go_wp2_with fail
          refine (HTrap.out _ B5.out).mono ?_
          rintro e w6 ⟨rfl, b6⟩
          by_cases hs0 : set = 0
          · have hsp : ¬ (0 : Int) < (set : Int) := by omega
            obtain rfl := HSelf.out hs0
            clear hs0
            go_wp2_with fail
            go_ret
            exact ⟨rfl, B1.out.trans ((B5.out.trans (b6.mono B5.out.size)).mono B1.out.size)⟩
          · have hsp : (0 : Int) < (set : Int) := by omega
            clear hs0
            go_wp2_with fail
            go_ret
            exact ⟨rfl, B1.out.trans ((B5.out.trans (b6.mono B5.out.size)).mono B1.out.size)⟩

end Go.Proofs.YtjkgcgbialiipaaDoor
