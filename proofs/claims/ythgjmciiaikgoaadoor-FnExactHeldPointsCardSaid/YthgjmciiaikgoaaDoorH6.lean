/- Walks: HoldSwitches of the program. -/
import Derived.Test.YthgjmciiaikgoaaDoorH5
import Derived.Deep.RegionWith
namespace Go.Proofs.YthgjmciiaikgoaaDoor
open Go.RowKit

/-- The values while the first k switches are done. -/
def mxF (ps : List ByteArray) (l : List UInt8) (k i s : Nat) : Nat := if i < k then hsF ps l i s else bitN ps i s
theorem eachL_congr {f g : Nat → Int} {N : Nat} (h : ∀ s, s < N → f s = g s) : eachL f N = eachL g N := by
  unfold eachL
  apply List.map_congr_left
  intro j _
  by_cases hj : j < N
  · rw [if_pos hj, if_pos hj, h j hj]
  · rw [if_neg hj, if_neg hj]
theorem tabsL_congr {F G : Nat → Nat → Nat} {n m : Nat} (h : ∀ i s, i < m → F i s = G i s) : tabsL F n m = tabsL G n m := by
  unfold tabsL
  apply List.map_congr_left
  intro i hi
  exact eachL_congr fun s _ => by rw [h i s (by simpa using hi)]
theorem mx_zero {ps : List ByteArray} (l : List UInt8) (hn : netB ps = true) : bitsN ps ps.length = tabsL (mxF ps l 0) ps.length ps.length := by
  unfold tabsL bitsN
  apply List.map_congr_left
  intro i hi
  have hi' : i < ps.length := by simpa using hi
  rw [net_size hn i hi']
  exact eachL_congr fun s _ => by rw [bitN_eq (netB_get hn i hi').1]; simp [mxF]
theorem mx_last (ps : List ByteArray) (l : List UInt8) : tabsL (mxF ps l ps.length) ps.length ps.length = tabsL (hsF ps l) ps.length ps.length :=
  tabsL_congr fun i s hi => by simp [mxF, hi]
theorem mx_star {ps : List ByteArray} {l : List UInt8} {k : Nat} (h : ltr l k = 2) : tabsL (mxF ps l (k + 1)) ps.length ps.length = tabsL (mxF ps l k) ps.length ps.length :=
  tabsL_congr fun i s hi => by
    unfold mxF
    by_cases h1 : i < k
    · rw [if_pos h1, if_pos (by omega)]
    · rw [if_neg h1]
      by_cases h2 : i < k + 1
      · obtain rfl : i = k := by omega
        rw [if_pos h2, hsF, if_pos h]
      · rw [if_neg h2]
theorem mx_set {ps : List ByteArray} {l : List UInt8} {k : Nat} (hk : k < ps.length) (h : ltr l k < 2) : tabsL (mxF ps l (k + 1)) ps.length ps.length = (tabsL (mxF ps l k) ps.length ps.length).set k (eachL (fun _ => ((ltr l k : Nat) : Int)) (2 ^ ps.length)) := by
  apply List.ext_getElem?
  intro i
  by_cases hi : i < ps.length
  · rw [tabsL_get _ _ _ _ hi]
    by_cases e : i = k
    · subst e
      rw [List.getElem?_set_self (by rw [tabsL_len]; exact hi)]
      congr 1
      exact eachL_congr fun s _ => by simp [mxF, hsF, show ltr l i ≠ 2 by omega]
    · rw [List.getElem?_set_ne (fun e2 => e e2.symm), tabsL_get _ _ _ _ hi]
      congr 1
      exact eachL_congr fun s _ => by
        have : (i < k + 1) = (i < k) := by apply propext; omega
        simp only [mxF, this]
  · rw [List.getElem?_eq_none (by rw [tabsL_len]; omega), List.getElem?_eq_none (by simp [tabsL_len]; omega)]

theorem TabsAt.drew {w : World} {g n : Nat} {bss : List (List Int)} (h : TabsAt w g n bss) : TabsAt w.drew g n bss := ⟨h.len, h.wide, h.room, h.range, h.lt⟩
theorem below_drew1 {B : Nat} {a w : World} (h : Below B a w) : Below B a w.drew := ⟨h.os, h.tape, h.output, h.size, h.block⟩
theorem TabsAt.stores {w : World} {g n : Nat} {bss : List (List Int)} (h : TabsAt w g n bss) (k : Nat) (hk : k < n) (arr : Array Value) (hs : arr.size = 33) (h1 : arr.all (·.oneCell') = true) :
    (storeCells ⟨g, k * 33, none⟩ arr.toList).run Tryd.prog w = .ok () (w.setCells g (k * 33) arr.toList) := by
  have := run_storeCells_cells (P := Tryd.prog) g (k * 33) arr.toList 0 w (fun j hj => by
    have hj' : j < 33 := by simpa [hs] using hj
    have := h.room (k * 33 + j) (by omega)
    rw [Nat.zero_add] at this; exact this.1) (fun j hj => by
    have hj' : j < 33 := by simpa [hs] using hj
    have := h.room (k * 33 + j) (by omega)
    rw [Nat.zero_add] at this; exact this.2) (fun v hv => (Array.all_eq_true_iff_forall_mem.1 h1) v (by simpa using hv))
  simpa using this

set_option maxRecDepth 100000 in
set_option maxHeartbeats 4000000 in
theorem hsI_ok (s t : ByteArray) (w : World) (hs : s.size ≤ 1048576) (ht : t.size ≤ 1048576) (hm : MaxLenIs w) :
    Calls Tryd.prog 30 #[.string s, .string t] w fun e w' => e = .returned (.tuple #[.string (hsT (cutsP 44 s) t.data.toList), .bool (htB (cutsP 44 s) t.data.toList)]) ∧ Below w.heap.size w w' := by
  have b0 : Below w.heap.size w (w.alloc (.cells #[.string t] 9)) := (Below.refl _ _).alloc (Nat.le_refl _) _
  have HO := Lib.hid (termOf_ok s t (w.alloc (.cells #[.string t] 9)) hs ht (hm.below b0 (Nat.le_refl _)))
  have hp0 := cutsP_pos 44 s
  have c0 : (w.alloc (.cells #[.string t] 9)).cell? ⟨w.heap.size, 0, none⟩ = some (.string t) := (Blk.new w 9 [.string t]).cell (i := 0) rfl
  have s0 : (w.alloc (.cells #[.string t] 9)).heap.size = w.heap.size + 1 := by simp
  have B0 := Lib.hid b0
  have C0 := Lib.hid c0
  have S0 := Lib.hid s0
  clear b0 s0
  generalize cutsP 44 s = ps at HO hp0 ⊢
  cases hb : htB ps t.data.toList with
  | false =>
    have HV := Lib.hid (hsT_no hb)
    rw [hb] at HO
    clear hb
    go_enter Tryd.func30, Tryd.ntmps30
    go_wp2_with fail
    refine HO.out.mono ?_
    rintro e w1 ⟨v, rfl, o1, b1⟩
    clear o1
    go_wp2_with fail
    go_ret2
    exact ⟨ret2h HV.out.symm rfl, B0.out.trans (b1.mono B0.out.size)⟩
  | true =>
    rw [hb] at HO
    have HV := Lib.hid (hsT_yes hb)
    obtain ⟨hn, hz, hT⟩ := ht_get hb
    have h5 := net_le hn hp0
    have hp : (2 ^ ps.length : Nat) ≤ 32 := Nat.pow_le_pow_right (n := 2) (by decide) h5
    have HN := Lib.hid (netN_yes hn)
    have HMx := Lib.hid (mx_zero t.data.toList hn)
    have HLast := Lib.hid (mx_last ps t.data.toList)
    have HLen := Lib.hid (bitsN_len ps ps.length)
    have HW := Lib.hid (bitsN_wide ps ps.length)
    have HT := Lib.hid hT
    have HLt : Hid (t.data.toList.length = t.size) := rfl
    have HF : Hid (∀ k s, k < ps.length → s < 2 ^ ps.length → hsF ps t.data.toList k s < 2) := fun k s hk _ => by
      unfold hsF
      split
      · exact bitN_lt (netB_get hn k hk).1 s
      · have := ltr_lt hT k; omega
    clear hb hn hT
    go_enter Tryd.func30, Tryd.ntmps30
    go_wp2_with fail
    refine HO.out.mono ?_
    rintro e w1 ⟨v, rfl, o1, b1⟩
    rw [HN.out] at o1
    obtain ⟨g, c, rfl, hcl, hcm, hg, ht0⟩ := o1.tabsAt HW.out HLen.out hp0
    rw [HMx.out] at ht0
    have T0 := Lib.hid ht0
    have B1 := Lib.hid b1
    clear o1 b1 ht0
    go_wp2_with fail
    generalize hw0 : w.alloc (.cells #[.string t] 9) = w0 at B0 C0 S0 T0 B1 ⊢
    have hg0 : w0.heap.size ≤ g := by rw [← hw0]; exact hg
    clear hw0 hg
    go_loopw [19] (fun q wr => ∃ k : Nat, k ≤ ps.length ∧ q = .int .i64 k ∧ TabsAt wr g ps.length (tabsL (mxF ps t.data.toList k) ps.length ps.length) ∧ Below w0.heap.size w0 wr) (fun q _ => ps.length - (intOf q).toNat)
    case atStart => exact ⟨0, Nat.zero_le _, rfl, T0.out, B1.out⟩
    case round =>
      obtain ⟨k, hk, rfl, hTt, hb⟩ := hrel
      have HTt := Lib.hid hTt
      have HB := Lib.hid hb
      clear hTt hb
      by_cases hlt : k < ps.length
      · have hlt' : (k : Int) < (ps.length : Int) := by omega
        have hkt : k < t.size := by omega
        have hktw : (k : Int) < (t.size : Int) := by omega
        have hbyte := bytes_get t k hkt
        have e1 : Below w0.heap.size w0 (wr.alloc (.cells #[.int .i64 k] 3)) := HB.out.alloc HB.out.size _
        have d1 : (wr.alloc (.cells #[.int .i64 k] 3)).cell? ⟨wr.heap.size, 0, none⟩ = some (.int .i64 k) := (Blk.new wr 3 [.int .i64 k]).cell (i := 0) rfl
        have hbel : Below wr.heap.size wr (wr.alloc (.cells #[.int .i64 k] 3)) := (Below.refl _ _).alloc (Nat.le_refl _) _
        have T1 := Lib.hid (HTt.out.below hbel (Nat.le_refl _))
        have c3 : (wr.alloc (.cells #[.int .i64 k] 3)).cell? ⟨w.heap.size, 0, none⟩ = some (.string t) := (e1.cell (p := ⟨w.heap.size, 0, none⟩) (by show w.heap.size < w0.heap.size; rw [S0.out]; omega)).trans C0.out
        have E1 := Lib.hid e1
        have D1 := Lib.hid d1
        have C3 := Lib.hid c3
        clear hbel e1
        by_cases hst : t.data.toList.getD k 42 = 42
        · have hb1 : (((t[k].toNat : Nat) : Int) != 42) = false := by rw [hbyte, hst]; rfl
          have HS := Lib.hid (mx_star (ps := ps) (ltr_star hst))
          clear hst hbyte
          go_wp2_with fail
          go_roundw
          case rel => exact ⟨k + 1, by omega, by go_num, by rw [HS.out]; exact T1.out, E1.out⟩
          case measure => simp [intOf] <;> omega
        · obtain ⟨hd1, hd2⟩ := ltr_dig HT.out (by rw [HLt.out]; exact hkt) hst
          rw [← hbyte] at hd1
          have hb1 : (((t[k].toNat : Nat) : Int) != 42) = true := by rw [hd1]; simp; omega
          have HS := Lib.hid (mx_set (ps := ps) hlt hd2)
          have hdi : ((t[k].toNat : Nat) : Int) = 48 + (ltr t.data.toList k : Nat) := hd1
          have hl0 : k < ps.length := hlt
          have HL := Lib.hid (eachL_len (fun _ => ((ltr t.data.toList k : Nat) : Int)) (2 ^ ps.length))
          have HEk := Lib.hid (fun (W1 : World) (D1 : W1.cell? ⟨wr.heap.size, 0, none⟩ = some (.int .i64 k)) (C3 : W1.cell? ⟨w.heap.size, 0, none⟩ = some (.string t)) =>
            each_ok ps.length h5 71 #[.pointer (some ⟨w.heap.size, 0, none⟩), .pointer (some ⟨wr.heap.size, 0, none⟩)] (fun _ => ((ltr t.data.toList k : Nat) : Int)) W1 (fun _ _ => by kernel_rfl)
              (fun s hs W hW => hsClosure_ok s k w.heap.size wr.heap.size (ltr t.data.toList k) t W hkt hdi hd2
                ((hW.cell (p := ⟨w.heap.size, 0, none⟩) (World.block_lt_of_cell? W1 ⟨w.heap.size, 0, none⟩ C3)).trans C3) ((hW.cell (p := ⟨wr.heap.size, 0, none⟩) (World.block_lt_of_cell? W1 ⟨wr.heap.size, 0, none⟩ D1)).trans D1)))
          clear hst hbyte hd1 hdi
          generalize eachL (fun _ => ((ltr t.data.toList k : Nat) : Int)) (2 ^ ps.length) = bs at HS HL HEk
          obtain ⟨arr, hA⟩ : ∃ arr, arr = (tabC (ps.length : Int) bs).toArray := ⟨_, rfl⟩
          have hAV : tabV (ps.length : Int) bs = .agg arr := by rw [hA]; rfl
          have hAz : arr.size = 33 := by rw [hA]; simp [tabC_len, HL.out]
          have HSt := Lib.hid (fun (W : World) (T : TabsAt W g ps.length (tabsL (mxF ps t.data.toList k) ps.length ps.length)) => T.stores k hl0 arr hAz (by rw [hA]; exact tabC_one _ _))
          have HEnd := Lib.hid (fun (W : World) (T : TabsAt W g ps.length (tabsL (mxF ps t.data.toList k) ps.length ps.length)) => T.set k hl0 bs HL.out)
          have HA : Hid (arr.toList = tabC (ps.length : Int) bs) := by unfold Hid; rw [hA]
          rw [hAV] at HEk
          clear hAV hA
          go_wp2_with fail
          go_region_with (first | (go_at_call 70; refine (HEk.out _ ?_ ?_).mono ?_; (first | exact D1.out | (have := D1.out; simpa using this)); (first | exact C3.out | (have := C3.out; simpa using this)); rintro e w5 ⟨rfl, b5⟩; have HT5 := Lib.hid (T1.out.drew.below b5 (Nat.le_refl _)); have HB5 := Lib.hid ((below_drew1 E1.out).trans (b5.mono (below_drew1 E1.out).size)); have hst5 := HSt.out w5 HT5.out; have d5 := (b5.cell (p := ⟨wr.heap.size, 0, none⟩) (World.block_lt_of_cell? _ ⟨wr.heap.size, 0, none⟩ D1.out)).trans D1.out))
          all_goals
            go_wp2_with fail
            go_roundw
            case rel => exact ⟨k + 1, by omega, by go_num, by rw [HS.out, HA.out]; exact HEnd.out _ HT5.out, below_setCells g hg0 _ _ _ HB5.out⟩
            case measure => simp [intOf] <;> omega
      · obtain rfl : k = ps.length := by omega
        have hkw : ¬ (ps.length : Int) < (ps.length : Int) := by omega
        have HNt := Lib.hid (netText_ok (some ⟨g, 0, none⟩) ps.length c (hsF ps t.data.toList) wr (by
          have := HTt.out.rowN hcl hcm
          rw [HLast.out] at this; exact this) ⟨hp0, h5⟩ HF.out)
        go_wp2_with fail
        refine HNt.out.mono ?_
        rintro e w4 ⟨rfl, b4⟩
        go_wp2_with fail
        go_ret2
        exact ⟨ret2h HV.out.symm rfl, (B0.out.trans (HB.out.mono B0.out.size)).trans (b4.mono (by have := B0.out.size; have := HB.out.size; omega))⟩

end Go.Proofs.YthgjmciiaikgoaaDoor
