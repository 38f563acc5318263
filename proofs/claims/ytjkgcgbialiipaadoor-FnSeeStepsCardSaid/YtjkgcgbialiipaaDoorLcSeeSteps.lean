/- Walks and plain facts of one law: several of my texts in one. -/
import Derived.Test.YtjkgcgbialiipaaDoorGrC
import Derived.Test.YtjkgcgbialiipaaDoorGrB
import Derived.Test.YtjkgcgbialiipaaDoorGrD
import Derived.Test.YtjkgcgbialiipaaDoorGrE
import Derived.Deep.RegionHeld3
/- Walks: the arguments of SeeSteps, drawn. -/
namespace Go.Proofs.YtjkgcgbialiipaaDoor
open Go.RowKit

/-- A network's text and states are drawn. -/
def DrawSS (w : World) (e : Ending) (w' : World) : Prop := ∃ t v zs, e = .returned (.tuple #[.string t, v]) ∧ t.size ≤ 1048576 ∧ zs.length ≤ 64 ∧ OwnI w' w.heap.size v zs ∧ Below w.heap.size w w'

theorem OwnI.baseW {w : World} {B B' : Nat} {v : Value} {zs : List Int} (h : OwnI w B v zs) (hB : B' ≤ B) : OwnI w B' v zs := by
  obtain ⟨h0, h1 | ⟨g, cap, cur, e, hg, h2⟩⟩ := h
  · exact ⟨h0, .inl h1⟩
  · exact ⟨h0, .inr ⟨g, cap, cur, e, Nat.le_trans hB hg, h2⟩⟩
theorem OwnI.made (w : World) (B n : Nat) (hB : B ≤ w.heap.size) (hn : n ≤ 1048576) : OwnI (w.alloc (.cells (ints (List.replicate n 0)).toArray 3)) B (.slice (some ⟨w.heap.size, 0, none⟩) n n) (List.replicate n 0) := by
  have := OwnI.lit w B (List.replicate n 0) hB (by rw [List.length_replicate]; unfold maxLen; omega)
  rw [List.length_replicate] at this
  exact this

set_option maxHeartbeats 4000000 in
theorem drawSS_ok (ao : Option Addr) (l c : Nat) (cs : List Int) (w : World) (h : RowU w ao l c cs) (hl : l ≤ 1048576) :
    Calls Tryd.prog 22 #[.slice ao l c] w (DrawSS w) := by
  have HO := Lib.hid (l14Open_ok ao l c cs w h hl)
  have HK := Lib.hid (fun g Q m W (h : Rd W g Q) (hQ : Q ≤ 1000000) (hm : m ≤ 1048576) => pick_ok g Q m W h hQ hm)
  clear h
  go_enter Tryd.func22, Tryd.ntmps22
  go_wp2_with fail
  refine HO.out.mono ?_
  rintro e w1 ⟨g, rfl, hg, r1, b1⟩
  have R1 := Lib.hid r1
  have B1 := Lib.hid b1
  have hgo : g < w1.heap.size := r1.lt
  clear r1 b1 HO
  go_wp2_with fail
  refine (l7Open_ok g 0 _ R1.out (by omega)).mono ?_
  rintro e w2 ⟨u, rfl, hu, r2, d2⟩
  have HU : Hid (u.size ≤ 1048576) := Nat.le_trans hu (by decide)
  have D2 := Lib.hid ((DrB.ofB (g := g) B1.out).trans (d2.mono B1.out.size))
  have hs2 := d2.size
  have b3 : Below w2.heap.size w2 (w2.alloc (.cells #[] 3)) := (Below.refl _ _).alloc (Nat.le_refl _) _
  have R3 := Lib.hid (r2.below b3 (Nat.le_refl _))
  have D3 := Lib.hid (D2.out.trans (DrB.ofB (g := g) (b3.mono D2.out.size)))
  have O3 := Lib.hid (OwnI.lit w2 w1.heap.size [] hs2 (by decide))
  have hs3 : (w2.alloc (.cells #[] 3)).heap.size = w2.heap.size + 1 := by simp
  have hw3 := D3.out.size
  clear r2 d2 b3 hu
  go_wp2_with fail
  refine (HK.out g _ 5 _ R3.out (by omega) (by omega)).mono ?_
  rintro e w4 ⟨y, rfl, hy, r4, g4⟩
  have hy5 : y < 5 := by omega
  have R4 := Lib.hid r4
  have D4 := Lib.hid (D3.out.trans ((DrB.ofG g4).mono D3.out.size))
  have O4 := Lib.hid (O3.out.dr (DrB.ofG g4) (Nat.le_refl _) hgo)
  have hs4 : w1.heap.size ≤ w4.heap.size := by have := g4.size; omega
  clear r4 g4 hy hs3 hw3
  go_wp2_with fail
  go_loopw [6, 7] (fun v q wr => ∃ (k : Nat) (zs : List Int), k + zs.length ≤ 5 ∧ q = .int .i64 k ∧ OwnI wr w1.heap.size v zs ∧ w1.heap.size ≤ wr.heap.size ∧ Rd wr g (401 + 3 * zs.length) ∧ DrB g w.heap.size w wr) (fun _ q _ => (intOf q).toNat)
  case atStart => exact ⟨y, [], by simp; omega, rfl, O4.out, hs4, R4.out.more (by simp), D4.out⟩
  case round =>
    obtain ⟨k, zs, hk, rfl, ho, hsz, hr, hd⟩ := hrel
    have HOw := Lib.hid ho
    have HR := Lib.hid hr
    have HDr := Lib.hid hd
    clear ho hr hd
    by_cases hk0 : 0 < k
    · have hkw : (0 : Int) < (k : Int) := by omega
      go_wp2_with fail
      refine (HK.out g _ 4 _ HR.out (by omega) (by omega)).mono ?_
      rintro e w5 ⟨x1, rfl, hx1, r5, g5⟩
      have R5 := Lib.hid r5
      have D5 := Lib.hid (HDr.out.trans ((DrB.ofG g5).mono HDr.out.size))
      have O5 := Lib.hid (HOw.out.dr (DrB.ofG g5) (Nat.le_refl _) hgo)
      have hs5 := g5.size
      clear r5 g5 hx1
      go_wp2_with fail
      refine (HK.out g _ 8 _ R5.out (by omega) (by omega)).mono ?_
      rintro e w6 ⟨x2, rfl, hx2, r6, g6⟩
      have R6 := Lib.hid r6
      have D6 := Lib.hid (D5.out.trans ((DrB.ofG g6).mono D5.out.size))
      have O6 := Lib.hid (O5.out.dr (DrB.ofG g6) (Nat.le_refl _) hgo)
      have hs6 := g6.size
      clear r6 g6 hx2
      have b7 : Below w6.heap.size w6 (w6.alloc (.cells (ints [(x1 : Int), (x2 : Int), 0, 1]).toArray 3)) := (Below.refl _ _).alloc (Nat.le_refl _) _
      have HX := Lib.hid (num_lit g _ 4 [(x1 : Int), (x2 : Int), 0, 1] _ _ (R6.out.below b7 (Nat.le_refl _)) (Blk.new w6 3 (ints [(x1 : Int), (x2 : Int), 0, 1])) (by have := R6.out.lt; omega) rfl (by omega) (by omega) (by omega))
      have D7 := Lib.hid (D6.out.trans (DrB.ofB (g := g) (b7.mono D6.out.size)))
      have O7 := Lib.hid (O6.out.alloc (.cells (ints [(x1 : Int), (x2 : Int), 0, 1]).toArray 3))
      have hs7 : (w6.alloc (.cells (ints [(x1 : Int), (x2 : Int), 0, 1]).toArray 3)).heap.size = w6.heap.size + 1 := by simp
      have hw7 := D7.out.size
      clear b7
      go_wp2_with fail
      refine HX.out.mono ?_
      rintro e w8 ⟨z, hz, rfl, r8, g8⟩
      generalize gI [(x1 : Int), (x2 : Int), 0, 1] z = q
      have R8 := Lib.hid r8
      have D8 := Lib.hid (D7.out.trans ((DrB.ofG g8).mono D7.out.size))
      have O8 := Lib.hid (O7.out.dr (DrB.ofG g8) (Nat.le_refl _) hgo)
      have hs8 := g8.size
      clear r8 g8 hz hw7
      go_wp2_with (at_builtin; refine wpList_appI (OwnI.alloc O8.out _) (RowI.one _ _) rfl _ _ rfl rfl rfl (by omega) (by simp; omega) ?_; intro v9 w9 o9 g9)
      go_roundw
      case rel => exact ⟨k - 1, _, by simp; omega, by rw [show ((k : Int) - 1) = ((k - 1 : Nat) : Int) by omega], o9, by have := g9.size; simp at this; omega, (O8.out.oneApp hgo R8.out g9).more (by simp; omega), (D8.out.alloc D8.out.size _).grown g9 (by have := D8.out.size; simp; omega) (fun j hj => by have := (World.ownsRow.lt O8.out j hj).1; have := B1.out.size; omega)⟩
      case measure => simp [intOf] <;> omega
    · have hkw : ¬ (0 : Int) < (k : Int) := by omega
      have hzl : zs.length ≤ 5 := by omega
      clear hk hk0
      go_wp2_with fail
      refine (HK.out g _ 24 _ HR.out (by omega) (by omega)).mono ?_
      rintro e w5 ⟨x, rfl, hx, r5, g5⟩
      have R5 := Lib.hid r5
      have D5 := Lib.hid (HDr.out.trans ((DrB.ofG g5).mono HDr.out.size))
      have O5 := Lib.hid (HOw.out.dr (DrB.ofG g5) (Nat.le_refl _) hgo)
      have hs5 := g5.size
      clear r5 g5
      by_cases x0 : x = 0
      · have tx : ((x : Int) == 0) = true := by rw [x0]; rfl
        clear x0 hx
        go_wp2_with fail
        refine (HK.out g _ 2 _ R5.out (by omega) (by omega)).mono ?_
        rintro e w6 ⟨x2, rfl, hx2, r6, g6⟩
        have hx2' : x2 < 2 := by omega
        have hmk := run_make_ints (32 + x2) (by omega) w6
        have hcast : ((32 + x2 : Nat) : Int) = 32 + (x2 : Int) := by omega
        rw [hcast] at hmk
        have D6 := Lib.hid (D5.out.trans ((DrB.ofG g6).mono D5.out.size))
        have O6 := Lib.hid (OwnI.made w6 w.heap.size (32 + x2) D6.out.size (by omega))
        clear r6 g6 hx2 hcast
        go_wp2_with fail
        refine bodyPost_ret (v := .tuple #[.string u, .slice (some ⟨w6.heap.size, 0, none⟩) (32 + x2) (32 + x2)]) (by simp [results, Tryd.results22, go_sem]) rfl ⟨u, _, _, rfl, HU.out, by rw [List.length_replicate]; omega, O6.out, (D6.out.alloc D6.out.size _).below hg⟩
      · have tx : ((x : Int) == 0) = false := by rw [beq_eq_false_iff_ne]; omega
        clear x0 hx
        obtain ⟨va, vc, rfl, _⟩ := O5.out.out
        go_wp2_with fail
        refine bodyPost_ret (v := .tuple #[.string u, .slice va zs.length vc]) (by simp [results, Tryd.results22, go_sem]) rfl ⟨u, _, zs, rfl, HU.out, by omega, OwnI.baseW O5.out B1.out.size, D5.out.below hg⟩

end Go.Proofs.YtjkgcgbialiipaaDoor
/- The law FnAllSeen. -/
namespace Go.Proofs.YtjkgcgbialiipaaDoor
open Go.RowKit Go.Maps

/-- The first numbers. -/
def idL (k : Nat) : List Int := (List.range k).map fun s : Nat => (s : Int)
theorem idL_next (k : Nat) : idL (k + 1) = idL k ++ [(k : Int)] := by simp [idL, List.range_succ]
theorem idL_len (k : Nat) : (idL k).length = k := by simp [idL]
theorem idL_get {k i : Nat} (h : i < k) : gI (idL k) i = i := by simp [gI, idL, List.getD, h]

theorem see_get {ps : List ByteArray} {zs : List Int} (h : seeB ps zs = true) : (seeV ps zs).length = zs.length ∧ zs.length ≤ 32 ∧ ∀ k, k < zs.length → stB' ps (gI zs k) = true ∧ gS (seeV ps zs) k = (gI zs k, saV ps (gI zs k)) := by
  have h' := h
  rw [seeB, Bool.and_eq_true, Bool.and_eq_true, decide_eq_true_iff, List.all_eq_true] at h'
  rw [seeV_yes h]
  refine ⟨seeL_len _ _ _, h'.2.1, fun k hk => ⟨h'.2.2 _ (List.mem_of_getElem? (gI_lt hk)), ?_⟩⟩
  simp [gS, seeL, List.getD, hk]
theorem see_steps {ps : List ByteArray} {zs : List Int} (h5 : ps.length ≤ 5) (h : seeB ps zs = true) : StepsOf ps (seeV ps zs) := by
  obtain ⟨h1, _, h3⟩ := see_get h
  refine ⟨fun k hk => ?_, fun k hk => ?_⟩
  · obtain ⟨h4, h6⟩ := h3 k (by omega)
    rw [h6]
    exact (stB'_get h4).2
  · obtain ⟨h4, h6⟩ := h3 k (by omega)
    rw [h6]
    obtain ⟨m, hm⟩ := Int.eq_ofNat_of_zero_le (stB'_get h4).2.1
    show saV ps (gI zs k) = _
    rw [hm] at h4 ⊢
    rw [Int.toNat_natCast, saV_all h5 h4]
theorem seeB_all {ps : List ByteArray} (hn : netB ps = true) (h5 : ps.length ≤ 5) : seeB ps (idL (2 ^ ps.length)) = true := by
  have hp := pow_32 h5
  refine seeB_yes hn (by rw [idL_len]; exact hp) fun k hk => ?_
  rw [idL_len] at hk
  rw [idL_get hk, stB'_in hn, stOk_iff]
  omega

set_option maxRecDepth 100000 in
set_option maxHeartbeats 8000000 in
theorem FnAllSeen_ok (ao : Option Addr) (l c : Nat) (cs : List Int) (w : World) (h : RowU w ao l c cs) (hm : MaxLenIs w) :
    Calls Tryd.prog 5 #[.slice ao l c] w fun e w' => e = .returned (.bool true) ∧ Below w.heap.size w w' := by
  go_enter Tryd.func5, Tryd.ntmps5
  by_cases hbig : 1048576 < l
  · have hbig' : (1048576 : Int) < (l : Int) := by omega
    go_wp2_with fail
    go_ret
    exact ⟨rfl, Below.refl _ _⟩
  · have hbig' : ¬ (1048576 : Int) < (l : Int) := by omega
    have HD := Lib.hid (drawSS_ok ao l c cs w h (by omega))
    have HM := Lib.hid (fun W (hW : Below w.heap.size w W) => hm.below hW (Nat.le_refl _))
    clear h hm
    go_wp2_with fail
    refine HD.out.mono ?_
    rintro e w1 ⟨t, v0, zs0, rfl, ht, _, _, b1⟩
    have B1 := Lib.hid b1
    have HSz := Lib.hid (fun W (hW : Below w1.heap.size w1 W) => sizeI_ok t W ht (HM.out W (B1.out.trans (hW.mono B1.out.size))))
    have HSee := Lib.hid (fun W a n c zs (hW : Below w1.heap.size w1 W) (hr : RowI W a n c zs) (hn : n ≤ 1048576) => seeI_ok t a n c zs W ht hr hn (HM.out W (B1.out.trans (hW.mono B1.out.size))))
    have HRule := Lib.hid (fun W i (hW : Below w1.heap.size w1 W) hn hi => ruleOfI_ok t i W ht (HM.out W (B1.out.trans (hW.mono B1.out.size))) hn hi)
    have hp0 := cutsP_pos 44 t
    obtain ⟨ps, hps⟩ : ∃ ps, cutsP 44 t = ps := ⟨_, rfl⟩
    rw [hps] at HSz HSee HRule hp0
    clear b1 HD
    cases hnb : netB ps with
    | false =>
      have HS1 := Lib.hid (sizV_no hnb)
      have HB := Lib.hid (seeB_net (zs := [0]) hnb)
      have HSz1 := Lib.hid (HSz.out w1 (Below.refl _ _))
      rw [HS1.out] at HSz1
      clear hnb hps
      go_wp2_with fail
      refine HSz1.out.mono ?_
      rintro e w2 ⟨rfl, b2⟩
      have b3 : Below w2.heap.size w2 (w2.alloc (.cells #[.int .i64 0] 3)) := (Below.refl _ _).alloc (Nat.le_refl _) _
      have B3 := Lib.hid (b2.trans (b3.mono b2.size))
      have HSee1 := Lib.hid (HSee.out _ _ _ _ _ B3.out (RowI.one w2 0) (by omega))
      rw [HB.out] at HSee1
      clear b2 b3
      go_wp2_with fail
      refine HSee1.out.mono ?_
      rintro e w4 ⟨a4, l4, rfl, o4, b4⟩
      have B4 := Lib.hid (B3.out.trans (b4.mono B3.out.size))
      clear o4 b4
      go_wp2_with fail
      go_ret
      exact ⟨rfl, B1.out.trans (B4.out.mono B1.out.size)⟩
    | true =>
      have h5 := net_le hnb hp0
      have hp : (2 ^ ps.length : Nat) ≤ 32 := Nat.pow_le_pow_right (n := 2) (by decide) h5
      have HS1 := Lib.hid (sizV_yes hnb)
      have HSz1 := Lib.hid (HSz.out w1 (Below.refl _ _))
      rw [HS1.out] at HSz1
      have hsee := seeB_all hnb h5
      obtain ⟨hL1, hL2, hL3⟩ := see_get hsee
      rw [idL_len] at hL1 hL3
      have hst := see_steps h5 hsee
      have hL : (seeV ps (idL (2 ^ ps.length))).length ≤ 32 := by omega
      have hall : ∀ s, s < 2 ^ ps.length → ∃ k, k < (seeV ps (idL (2 ^ ps.length))).length ∧ (gS (seeV ps (idL (2 ^ ps.length))) k).1 = (s : Nat) := fun s hs => ⟨s, by omega, by rw [(hL3 s hs).2, idL_get hs]⟩
      have HLe := Lib.hid (fun i (hi : i < ps.length) => all_least hnb hp0 h5 hst hL hall hi)
      have HAl := Lib.hid (fun i (hi : i < ps.length) => all_rules hnb hp0 h5 hst hL hall hi)
      have HUn := Lib.hid (all_unseen hnb hp0 h5 hst hL hall)
      have HLn := Lib.hid (all_learn hps hnb hp0 h5 hst hL hall)
      have HPo := Lib.hid (steps_poss hnb hp0 h5 hst hL)
      have HSb := Lib.hid hsee
      have HMt := Lib.hid (fun i W (hi : i < ps.length) => mattersI_ok (gT ps i) ps.length (bitN ps i) W ⟨hp0, h5⟩ (net_size hnb i hi) (netB_get hnb i hi).1 (fun s => ⟨bitN_eq (netB_get hnb i hi).1 s, bitN_lt (netB_get hnb i hi).1 s⟩))
      have HMo : Hid (∀ i, orTo (mtL (fun j => upB (bitN ps i) j ps.length || dnB (bitN ps i) j ps.length) ps.length) (mtL (fun j => upB (bitN ps i) j ps.length || dnB (bitN ps i) j ps.length) ps.length).length = mtN ps i) := fun i => mtL_or
      have HMg := Lib.hid (fun i k (hk : k < (mtL (fun j => upB (bitN ps i) j ps.length || dnB (bitN ps i) j ps.length) ps.length).length) => mtL_get hk)
      have HMl := Lib.hid (fun i => mtL_len (fun j => upB (bitN ps i) j ps.length || dnB (bitN ps i) j ps.length) ps.length)
      have HR2 := Lib.hid (fun W i (hW : Below w1.heap.size w1 W) hi => HRule.out W i hW hnb hi)
      clear HSz HRule hall hst hL3 hsee hps hnb
      have hpw := wrap_pow_nat ps.length (by omega)
      generalize (2 ^ ps.length : Nat) = N at hp hpw hL1 hL HLe HAl HUn HLn HPo HSb
      go_wp2_with fail
      refine HSz1.out.mono ?_
      rintro e w2 ⟨rfl, b2⟩
      have hneg : ¬ (ps.length : Int) < 0 := by omega
      have b3 : Below w2.heap.size w2 (w2.alloc (.cells #[] 3)) := (Below.refl _ _).alloc (Nat.le_refl _) _
      have B3 := Lib.hid (b2.trans (b3.mono b2.size))
      have O3 := Lib.hid (OwnI.lit w2 w1.heap.size [] b2.size (by decide))
      clear b2 b3
      go_wp2_with fail
      go_loopw [8, 9] (fun v q wr => ∃ k : Nat, k ≤ N ∧ q = .int .i64 k ∧ OwnI wr w1.heap.size v (idL k) ∧ Below w1.heap.size w1 wr) (fun _ q _ => N - (intOf q).toNat)
      case atStart => exact ⟨0, Nat.zero_le _, rfl, O3.out, B3.out⟩
      case round =>
        obtain ⟨k, hk, rfl, ho, hb⟩ := hrel
        have HO := Lib.hid ho
        have HB := Lib.hid hb
        have hil := idL_len k
        clear ho hb
        by_cases hkn : k < N
        · have hkw : (k : Int) < (N : Int) := by omega
          have HN := Lib.hid (idL_next k)
          go_wp2_with (at_builtin; refine wpList_appI (OwnI.alloc HO.out _) (RowI.one _ _) rfl _ _ rfl rfl rfl (by omega) (by have := HB.out.size; simp; omega) ?_; intro v6 w6 o6 g6)
          go_roundw
          case rel => exact ⟨k + 1, by omega, by go_num, by rw [HN.out]; exact o6, (HB.out.alloc HB.out.size _).grown g6 (by have := HB.out.size; simp; omega) (fun j hj => (World.ownsRow.lt HO.out j hj).1)⟩
          case measure => simp [intOf] <;> omega
        · obtain rfl : k = N := by omega
          have hkw : ¬ (k : Int) < (k : Int) := by omega
          obtain ⟨sa, sc, rfl, q1⟩ := HO.out.out
          rw [hil] at q1 ⊢
          have HSee1 := Lib.hid (HSee.out _ _ _ _ _ HB.out q1.rowI (by omega))
          rw [HSb.out] at HSee1
          clear q1
          go_wp2_with fail
          refine HSee1.out.mono ?_
          rintro e w4 ⟨a4, l4, rfl, o4, b4⟩
          have hl4 : (seeV ps (idL k)).length = l4 := o4.1
          have r4 := o4.row (by unfold maxLen; omega)
          have B4 := Lib.hid (HB.out.trans (b4.mono HB.out.size))
          generalize seeV ps (idL k) = L at hl4 r4 hL1 hL HLe HAl HUn HLn HPo
          obtain rfl : l4 = k := by omega
          clear hl4 hL1 hil hL hk
          have HLnI := Lib.hid (fun W (hW : Below w4.heap.size w4 W) => lnI_ok a4 l4 l4 L (ps.length : Int) W (r4.below hW (Nat.le_refl _)))
          have HLeI := Lib.hid (fun W i (hW : Below w4.heap.size w4 W) => leI_ok a4 l4 l4 L (ps.length : Int) i W (r4.below hW (Nat.le_refl _)))
          have HAlI := Lib.hid (fun W i (hW : Below w4.heap.size w4 W) => alI_ok a4 l4 l4 L (ps.length : Int) i W (r4.below hW (Nat.le_refl _)))
          have HUnI := Lib.hid (fun W (hW : Below w4.heap.size w4 W) => unI_ok a4 l4 l4 L (ps.length : Int) W (r4.below hW (Nat.le_refl _)))
          have HLn1 := Lib.hid (HLnI.out w4 (Below.refl _ _))
          rw [HLn.out, HPo.out] at HLn1
          clear o4 b4 r4 HSee HLnI HO
          go_wp2_with fail
          refine HLn1.out.mono ?_
          rintro e w5 ⟨rfl, b5⟩
          have C5 := Lib.hid b5
          clear b5
          go_wp2_with fail
          go_loopw [14] (fun q wr => ∃ i : Nat, i ≤ ps.length ∧ q = .int .i64 i ∧ Below w4.heap.size w4 wr) (fun q _ => ps.length - (intOf q).toNat)
          case atStart => exact ⟨0, Nat.zero_le _, rfl, C5.out⟩
          case round =>
            obtain ⟨i, hi, rfl, hb⟩ := hrel
            have HBi := Lib.hid hb
            clear hb
            by_cases hin : i < ps.length
            · have hiw : (i : Int) < (ps.length : Int) := by omega
              have HRi := Lib.hid (HR2.out wr i (B4.out.trans (HBi.out.mono B4.out.size)) hin)
              have HMi := Lib.hid (fun W => HMt.out i W hin)
              have HMoi := Lib.hid (HMo.out i)
              have HMgi := Lib.hid (HMg.out i)
              have hml := HMl.out i
              have HLei := Lib.hid (HLe.out i hin)
              have HAli := Lib.hid (HAl.out i hin)
              generalize mtL (fun j => upB (bitN ps i) j ps.length || dnB (bitN ps i) j ps.length) ps.length = ml at HMi HMoi HMgi hml
              generalize gT ps i = gt at HRi HMi
              go_wp2_with fail
              refine HRi.out.mono ?_
              rintro e w6 ⟨rfl, b6⟩
              have C6 := Lib.hid (HBi.out.trans (b6.mono HBi.out.size))
              clear b6
              go_wp2_with fail
              refine (HMi.out _).mono ?_
              rintro e w7 ⟨v7, rfl, o7, b7⟩
              have C7 := Lib.hid (C6.out.trans (b7.mono C6.out.size))
              obtain ⟨ma, mc, rfl, q7⟩ := o7.out
              have Q7 := Lib.hid q7.rowI
              clear o7 b7 q7
              go_wp2_with fail
              obtain ⟨wo, hwo⟩ : ∃ wo : World, wo = w7 := ⟨_, rfl⟩
              subst hwo
              go_loop [15, 17] (fun v q => ∃ j : Nat, j ≤ ml.length ∧ q = .int .i64 j ∧ v = .int .i64 (orTo ml j : Nat)) (fun _ q => ml.length - (intOf q).toNat)
              case atStart => exact ⟨0, Nat.zero_le _, rfl, rfl⟩
              case round =>
                obtain ⟨j, hj, rfl, rfl⟩ := hrel
                by_cases hjn : j < ml.length
                · have hjw : (j : Int) < (ml.length : Int) := by omega
                  obtain ⟨x, hx, hxn, _⟩ := HMgi.out j hjn
                  obtain ⟨bq, oq, rfl, _⟩ := Q7.out.2.some (by omega)
                  have hcx := Q7.out.2.cell bq oq rfl j hjn
                  rw [hx] at hcx
                  have hlt : orTo ml j < 2 ^ ps.length := orTo_lt (fun y hy => by obtain ⟨z, hz, hz2, _⟩ := HMgi.out y hy; rw [hz, Int.toNat_natCast]; exact hz2) j hj
                  have hp32 : (2 ^ ps.length : Nat) ≤ 2 ^ 5 := Nat.pow_le_pow_right (by decide) h5
                  have hor := or_shl (orTo ml j) x (by omega) (by omega)
                  have HNx : Hid (orTo ml (j + 1) = orTo ml j ||| 2 ^ x) := by unfold Hid; rw [orTo, hx, Int.toNat_natCast]
                  go_wp2_with fail
                  go_round
                  case rel => exact ⟨j + 1, by omega, by go_num, by rw [HNx.out]⟩
                  case measure => simp [intOf]; omega
                · obtain rfl : j = ml.length := by omega
                  rw [HMoi.out]
                  have HLe1 := Lib.hid (HLeI.out wo (i : Int) C7.out)
                  rw [HLei.out] at HLe1
                  generalize (mtN ps i : Nat) = mi at HLe1
                  go_wp2_with fail
                  refine HLe1.out.mono ?_
                  rintro e w8 ⟨rfl, b8⟩
                  have C8 := Lib.hid (C7.out.trans (b8.mono C7.out.size))
                  have HAl1 := Lib.hid (HAlI.out w8 (i : Int) C8.out)
                  rw [HAli.out] at HAl1
                  clear b8
                  go_wp2_with fail
                  refine HAl1.out.mono ?_
                  rintro e w9 ⟨rfl, b9⟩
                  have C9 := Lib.hid (C8.out.trans (b9.mono C8.out.size))
                  clear b9
                  go_wp2_with fail
                  go_roundw
                  case rel => exact ⟨i + 1, by omega, by go_num, C9.out⟩
                  case measure => simp [intOf]; omega
            · obtain rfl : i = ps.length := by omega
              have HUn1 := Lib.hid (HUnI.out wr HBi.out)
              rw [HUn.out] at HUn1
              go_wp2_with fail
              refine HUn1.out.mono ?_
              rintro e w8 ⟨a8, l8, rfl, o8, b8⟩
              have hl8 : l8 = 0 := o8.1.symm
              subst hl8
              have C8 := Lib.hid (HBi.out.trans (b8.mono HBi.out.size))
              clear o8 b8
              go_wp2_with fail
              go_ret
              exact ⟨rfl, B1.out.trans ((B4.out.trans (C8.out.mono B4.out.size)).mono B1.out.size)⟩

end Go.Proofs.YtjkgcgbialiipaaDoor
/- The law FnSeeSteps. -/
namespace Go.Proofs.YtjkgcgbialiipaaDoor
open Go.RowKit Go.Maps

theorem held5 {wr W w5 : World} {b1 o1 b2 o2 b3 o3 : Nat} {v1 v2 v3 v4 v5 : Value}
    (h : Below wr.heap.size wr W ∧ W.cell? ⟨b1, o1, none⟩ = some v1 ∧ W.cell? ⟨b1, o1 + 1, none⟩ = some v2 ∧ W.cell? ⟨b2, o2, none⟩ = some v3 ∧ W.cell? ⟨b2, o2 + 1, none⟩ = some v4 ∧ W.cell? ⟨b3, o3, none⟩ = some v5)
    (b : Below W.heap.size W w5) (h1 : b1 < wr.heap.size) (h2 : b2 < wr.heap.size) (h3 : b3 < wr.heap.size) :
    Below wr.heap.size wr w5 ∧ w5.cell? ⟨b1, o1, none⟩ = some v1 ∧ w5.cell? ⟨b1, o1 + 1, none⟩ = some v2 ∧ w5.cell? ⟨b2, o2, none⟩ = some v3 ∧ w5.cell? ⟨b2, o2 + 1, none⟩ = some v4 ∧ w5.cell? ⟨b3, o3, none⟩ = some v5 :=
  ⟨h.1.trans (b.mono h.1.size), (b.cell (p := ⟨b1, o1, none⟩) (Nat.lt_of_lt_of_le h1 h.1.size)).trans h.2.1, (b.cell (p := ⟨b1, o1 + 1, none⟩) (Nat.lt_of_lt_of_le h1 h.1.size)).trans h.2.2.1,
   (b.cell (p := ⟨b2, o2, none⟩) (Nat.lt_of_lt_of_le h2 h.1.size)).trans h.2.2.2.1, (b.cell (p := ⟨b2, o2 + 1, none⟩) (Nat.lt_of_lt_of_le h2 h.1.size)).trans h.2.2.2.2.1, (b.cell (p := ⟨b3, o3, none⟩) (Nat.lt_of_lt_of_le h3 h.1.size)).trans h.2.2.2.2.2⟩

set_option maxRecDepth 100000 in
set_option maxHeartbeats 8000000 in
theorem FnSeeSteps_ok (ao : Option Addr) (l c : Nat) (cs : List Int) (w : World) (h : RowU w ao l c cs) (hm : MaxLenIs w) :
    Calls Tryd.prog 4 #[.slice ao l c] w fun e w' => e = .returned (.bool true) ∧ Below w.heap.size w w' := by
  go_enter Tryd.func4, Tryd.ntmps4
  by_cases hbig : 1048576 < l
  · have hbig' : (1048576 : Int) < (l : Int) := by omega
    go_wp2_with fail
    go_ret
    exact ⟨rfl, Below.refl _ _⟩
  · have hbig' : ¬ (1048576 : Int) < (l : Int) := by omega
    have HD := Lib.hid (drawSS_ok ao l c cs w h (by omega))
    have HM := Lib.hid (fun W (hW : Below w.heap.size w W) => hm.below hW (Nat.le_refl _))
    clear h hm
    go_wp2_with fail
    refine HD.out.mono ?_
    rintro e w1 ⟨t, v0, zs, rfl, ht, hzl, o1, b1⟩
    obtain ⟨za, zc, rfl, q1⟩ := o1.out
    have Z1 := Lib.hid q1.rowI
    have B1 := Lib.hid b1
    have HSz := Lib.hid (fun W (hW : Below w1.heap.size w1 W) => sizeI_ok t W ht (HM.out W (B1.out.trans (hW.mono B1.out.size))))
    have HSeeI := Lib.hid (seeI_ok t za zs.length zc zs w1 ht q1.rowI (by omega) (HM.out w1 B1.out))
    have HSeeS := Lib.hid (fun W (hW : Below w1.heap.size w1 W) => seeS_ok t za zs.length zc zs W ht (Z1.out.below hW (Nat.le_refl _)) (by omega))
    have HRule := Lib.hid (fun W i (hW : Below w1.heap.size w1 W) hn hi => ruleOfI_ok t i W ht (HM.out W (B1.out.trans (hW.mono B1.out.size))) hn hi)
    have HSA := Lib.hid (fun W s (hW : Below w1.heap.size w1 W) => stepAllI_ok t s W ht (HM.out W (B1.out.trans (hW.mono B1.out.size))))
    have hp0 := cutsP_pos 44 t
    generalize cutsP 44 t = ps at HSz HSeeI HSeeS HRule HSA hp0
    clear b1 HD o1 q1
    cases hsb : seeB ps zs with
    | false =>
      have HV := Lib.hid (seeV_no hsb)
      rw [hsb] at HSeeI HSeeS
      clear hsb
      go_wp2_with fail
      refine HSeeI.out.mono ?_
      rintro e w2 ⟨a2, l2, rfl, o2, b2⟩
      have hl2 : (seeV ps zs).length = l2 := o2.1
      rw [HV.out] at hl2
      obtain rfl : l2 = 0 := hl2.symm
      have B2 := Lib.hid b2
      have HS2 := Lib.hid (HSeeS.out w2 b2)
      clear o2 b2 HSeeS
      go_wp2_with fail
      refine HS2.out.mono ?_
      rintro e w3 ⟨v3, rfl, o3, b3⟩
      obtain ⟨a3, c3, rfl, r3, _⟩ := o3.out
      rw [HV.out] at *
      have B3 := Lib.hid (B2.out.trans (b3.mono B2.out.size))
      clear o3 b3 r3
      go_wp2_with fail
      go_ret
      exact ⟨rfl, B1.out.trans (B3.out.mono B1.out.size)⟩
    | true =>
      have hnb : netB ps = true := by
        cases hnn : netB ps with
        | true => rfl
        | false => rw [seeB_net hnn] at hsb; cases hsb
      have h5 := net_le hnb hp0
      have hp : (2 ^ ps.length : Nat) ≤ 32 := Nat.pow_le_pow_right (n := 2) (by decide) h5
      have HS1 := Lib.hid (sizV_yes hnb)
      rw [HS1.out] at HSz
      obtain ⟨hL1, hL2, hL3⟩ := see_get hsb
      have hst := see_steps h5 hsb
      have hL : (seeV ps zs).length ≤ 32 := by omega
      have HEx := Lib.hid (fun i (hi : i < ps.length) => steps_expl hnb hp0 h5 hst hL hi)
      have HPo := Lib.hid (steps_poss hnb hp0 h5 hst hL)
      have HSn := Lib.hid (steps_seen hnb hp0 h5 hst hL)
      have HGet := Lib.hid (fun k (hk : k < zs.length) => (hL3 k hk).2)
      have HMt := Lib.hid (fun i W (hi : i < ps.length) => mattersI_ok (gT ps i) ps.length (bitN ps i) W ⟨hp0, h5⟩ (net_size hnb i hi) (netB_get hnb i hi).1 (fun s => ⟨bitN_eq (netB_get hnb i hi).1 s, bitN_lt (netB_get hnb i hi).1 s⟩))
      have HMo : Hid (∀ i, orTo (mtL (fun j => upB (bitN ps i) j ps.length || dnB (bitN ps i) j ps.length) ps.length) (mtL (fun j => upB (bitN ps i) j ps.length || dnB (bitN ps i) j ps.length) ps.length).length = mtN ps i) := fun i => mtL_or
      have HMg := Lib.hid (fun i k (hk : k < (mtL (fun j => upB (bitN ps i) j ps.length || dnB (bitN ps i) j ps.length) ps.length).length) => mtL_get hk)
      have HMl := Lib.hid (fun i => mtL_len (fun j => upB (bitN ps i) j ps.length || dnB (bitN ps i) j ps.length) ps.length)
      have HR2 := Lib.hid (fun W i (hW : Below w1.heap.size w1 W) hi => HRule.out W i hW hnb hi)
      rw [hsb] at HSeeI HSeeS
      have HL1 := Lib.hid hL1
      clear HRule hst hL3 hsb hnb hL hL1
      generalize seeV ps zs = L at HL1 HEx HPo HSn HGet HSeeI HSeeS
      go_wp2_with fail
      refine HSeeI.out.mono ?_
      rintro e w2 ⟨a2, l2, rfl, o2, b2⟩
      have hl2 : L.length = l2 := o2.1
      obtain rfl : l2 = zs.length := by have := HL1.out; omega
      have R2 := Lib.hid (o2.row (by unfold maxLen; omega))
      have B2 := Lib.hid b2
      have HS2 := Lib.hid (HSeeS.out w2 b2)
      clear o2 b2 HSeeS hl2
      go_wp2_with fail
      refine HS2.out.mono ?_
      rintro e w3 ⟨v3, rfl, o3, b3⟩
      obtain ⟨a3, c3, rfl, r3, _⟩ := o3.out
      rw [HL1.out] at r3 ⊢
      have B3 := Lib.hid (B2.out.trans (b3.mono B2.out.size))
      have R3 := Lib.hid r3
      have R2' := Lib.hid (R2.out.below b3 (Nat.le_refl _))
      have HSz3 := Lib.hid (HSz.out w3 B3.out)
      clear o3 b3 r3 HSz
      go_wp2_with fail
      refine HSz3.out.mono ?_
      rintro e w4 ⟨rfl, b4⟩
      have B4 := Lib.hid (B3.out.trans (b4.mono B3.out.size))
      have Q2 := Lib.hid (R2'.out.below b4 (Nat.le_refl _))
      have Q3 := Lib.hid (R3.out.below b4 (Nat.le_refl _))
      have HExI := Lib.hid (fun W i q (hW : Below w4.heap.size w4 W) => exI_ok a2 zs.length zs.length L (ps.length : Int) i q W (Q2.out.below hW (Nat.le_refl _)))
      have HPoI := Lib.hid (fun W (hW : Below w4.heap.size w4 W) => posI_ok a2 zs.length zs.length L (ps.length : Int) W (Q2.out.below hW (Nat.le_refl _)))
      have HSnI := Lib.hid (fun W (hW : Below w4.heap.size w4 W) => svI_ok a2 zs.length zs.length L (ps.length : Int) W (Q2.out.below hW (Nat.le_refl _)))
      rw [HPo.out] at HPoI
      rw [HSn.out] at HSnI
      clear b4 R2 R2' R3
      go_wp2_with fail
      go_loopw [10] (fun q wr => ∃ k : Nat, k ≤ zs.length ∧ q = .int .i64 k ∧ Below w4.heap.size w4 wr) (fun q _ => zs.length - (intOf q).toNat)
      case atStart => exact ⟨0, Nat.zero_le _, rfl, Below.refl _ _⟩
      case round =>
        obtain ⟨k, hk, rfl, hb⟩ := hrel
        have HB := Lib.hid hb
        clear hb
        by_cases hkn : k < zs.length
        · have hkw : (k : Int) < (zs.length : Int) := by omega
          have row2 := Q2.out.below HB.out (Nat.le_refl _)
          have row3 := Q3.out.below HB.out (Nat.le_refl _)
          have rowz := Z1.out.below (B4.out.trans (HB.out.mono B4.out.size)) (Nat.le_refl _)
          obtain ⟨b2, o2, rfl, hb2⟩ := row2.some (by omega)
          obtain ⟨b3, o3, rfl, hb3⟩ := row3.some (by omega)
          obtain ⟨b5, o5, rfl, hb5⟩ := rowz.2.some (by omega)
          have c1 := row2.before b2 o2 rfl k hkn
          have c2 := row2.after b2 o2 rfl k hkn
          have d1 := row3.before b3 o3 rfl k hkn
          have d2 := row3.after b3 o3 rfl k hkn
          have z1 := rowz.2.cell b5 o5 rfl k hkn
          rw [HGet.out k hkn] at c1 c2 d1 d2
          have HVk := Lib.hid (fun W (hW : Below wr.heap.size wr W) => HSA.out W (gI zs k) (B4.out.trans ((HB.out.trans (hW.mono HB.out.size)).mono B4.out.size)))
          simp only at c1 c2 d1 d2
          generalize saV ps (gI zs k) = y at c2 d2 HVk
          generalize gI zs k = x at c1 d1 z1 HVk
          clear row2 row3 rowz hk
          go_wp2_with fail
          go_region_held3 (fun w' => Below wr.heap.size wr w' ∧ w'.cell? ⟨b2, o2 + k * 2, none⟩ = some (.int .i64 x) ∧ w'.cell? ⟨b2, o2 + k * 2 + 1, none⟩ = some (.int .i64 y) ∧ w'.cell? ⟨b3, o3 + k * 2, none⟩ = some (.int .i64 x) ∧ w'.cell? ⟨b3, o3 + k * 2 + 1, none⟩ = some (.int .i64 y) ∧ w'.cell? ⟨b5, o5 + k, none⟩ = some (.int .i64 x))
            (first | exact ⟨⟨rfl, rfl, rfl, Nat.le_refl _, fun _ _ => rfl⟩, c1, c2, d1, d2, z1⟩ | exact held5 (by assumption) bb hb2 hb3 hb5)
            ((go_at_call 20; refine (HVk.out _ ?_).mono ?_; (exact (by assumption : _ ∧ _ ∧ _ ∧ _ ∧ _ ∧ _).1); rintro e ww ⟨rfl, bb⟩))
          have HB5 : Hid (Below wr.heap.size wr ww) := (by assumption : Below wr.heap.size wr ww ∧ _ ∧ _).1
          go_wp2_with fail
          go_roundw
          case rel => exact ⟨k + 1, by omega, by go_num, HB.out.trans (HB5.out.mono HB.out.size)⟩
          case measure => simp [intOf] <;> omega
        · obtain rfl : k = zs.length := by omega
          have hkw : ¬ (zs.length : Int) < (zs.length : Int) := by omega
          go_wp2_with fail
          obtain ⟨wo, hwo⟩ : ∃ wo : World, wo = wr := ⟨_, rfl⟩
          subst hwo
          go_loopw [11] (fun q wr => ∃ i : Nat, i ≤ ps.length ∧ q = .int .i64 i ∧ Below w4.heap.size w4 wr) (fun q _ => ps.length - (intOf q).toNat)
          case atStart => exact ⟨0, Nat.zero_le _, rfl, HB.out⟩
          case round =>
            obtain ⟨i, hi, rfl, hb⟩ := hrel
            have HBi := Lib.hid hb
            clear hb
            by_cases hin : i < ps.length
            · have hiw : (i : Int) < (ps.length : Int) := by omega
              have HRi := Lib.hid (HR2.out wr i (B4.out.trans (HBi.out.mono B4.out.size)) hin)
              have HMi := Lib.hid (fun W => HMt.out i W hin)
              have HMoi := Lib.hid (HMo.out i)
              have HMgi := Lib.hid (HMg.out i)
              have hml := HMl.out i
              have HExi := Lib.hid (HEx.out i hin)
              generalize mtL (fun j => upB (bitN ps i) j ps.length || dnB (bitN ps i) j ps.length) ps.length = ml at HMi HMoi HMgi hml
              generalize gT ps i = gt at HRi HMi
              go_wp2_with fail
              refine HRi.out.mono ?_
              rintro e w6 ⟨rfl, b6⟩
              have C6 := Lib.hid (HBi.out.trans (b6.mono HBi.out.size))
              clear b6
              go_wp2_with fail
              refine (HMi.out _).mono ?_
              rintro e w7 ⟨v7, rfl, o7, b7⟩
              have C7 := Lib.hid (C6.out.trans (b7.mono C6.out.size))
              obtain ⟨ma, mc, rfl, q7⟩ := o7.out
              have Q7 := Lib.hid q7.rowI
              clear o7 b7 q7
              go_wp2_with fail
              obtain ⟨wo, hwo⟩ : ∃ wo : World, wo = w7 := ⟨_, rfl⟩
              subst hwo
              go_loop [12, 14] (fun v q => ∃ j : Nat, j ≤ ml.length ∧ q = .int .i64 j ∧ v = .int .i64 (orTo ml j : Nat)) (fun _ q => ml.length - (intOf q).toNat)
              case atStart => exact ⟨0, Nat.zero_le _, rfl, rfl⟩
              case round =>
                obtain ⟨j, hj, rfl, rfl⟩ := hrel
                by_cases hjn : j < ml.length
                · have hjw : (j : Int) < (ml.length : Int) := by omega
                  obtain ⟨x, hx, hxn, _⟩ := HMgi.out j hjn
                  obtain ⟨bq, oq, rfl, _⟩ := Q7.out.2.some (by omega)
                  have hcx := Q7.out.2.cell bq oq rfl j hjn
                  rw [hx] at hcx
                  have hlt : orTo ml j < 2 ^ ps.length := orTo_lt (fun y hy => by obtain ⟨z, hz, hz2, _⟩ := HMgi.out y hy; rw [hz, Int.toNat_natCast]; exact hz2) j hj
                  have hp32 : (2 ^ ps.length : Nat) ≤ 2 ^ 5 := Nat.pow_le_pow_right (by decide) h5
                  have hor := or_shl (orTo ml j) x (by omega) (by omega)
                  have HNx : Hid (orTo ml (j + 1) = orTo ml j ||| 2 ^ x) := by unfold Hid; rw [orTo, hx, Int.toNat_natCast]
                  go_wp2_with fail
                  go_round
                  case rel => exact ⟨j + 1, by omega, by go_num, by rw [HNx.out]⟩
                  case measure => simp [intOf]; omega
                · obtain rfl : j = ml.length := by omega
                  rw [HMoi.out]
                  have HEx1 := Lib.hid (HExI.out wo (i : Int) ((mtN ps i : Nat) : Int) C7.out)
                  rw [HExi.out] at HEx1
                  generalize (mtN ps i : Nat) = mi at HEx1
                  go_wp2_with fail
                  refine HEx1.out.mono ?_
                  rintro e w8 ⟨rfl, b8⟩
                  have C8 := Lib.hid (C7.out.trans (b8.mono C7.out.size))
                  clear b8
                  go_wp2_with fail
                  go_roundw
                  case rel => exact ⟨i + 1, by omega, by go_num, C8.out⟩
                  case measure => simp [intOf]; omega
            · obtain rfl : i = ps.length := by omega
              go_wp2_with fail
              refine (HPoI.out _ HBi.out).mono ?_
              rintro e w8 ⟨rfl, b8⟩
              have C8 := Lib.hid (HBi.out.trans (b8.mono HBi.out.size))
              clear b8
              go_wp2_with fail
              refine (HSnI.out _ C8.out).mono ?_
              rintro e w9 ⟨rfl, b9⟩
              have C9 := Lib.hid (C8.out.trans (b9.mono C8.out.size))
              clear b9
              go_wp2_with fail
              go_ret
              exact ⟨rfl, B1.out.trans ((B4.out.trans (C9.out.mono B4.out.size)).mono B1.out.size)⟩

end Go.Proofs.YtjkgcgbialiipaaDoor
