/- LeastHold of the program. -/
import Derived.Test.YthgjmciiaikgoaaDoorG7
import Derived.Test.YthgjmciiaikgoaaDoorSz
namespace Go.Proofs.YthgjmciiaikgoaaDoor
open Go.RowKit

theorem Best.exists (E : Nat → Prop) : ∀ N, ∃ b, Best E 0 N b
  | 0 => ⟨-1, Best.start E 0⟩
  | N + 1 => by
    obtain ⟨b, h⟩ := Best.exists E N
    by_cases hE : E N
    · by_cases hp : ∀ s : Nat, b = s → popN N < popN s
      · exact ⟨_, h.take (Nat.zero_le _) hE hp⟩
      · have ⟨s, hs⟩ : ∃ s : Nat, ¬ (b = s → popN N < popN s) := Classical.not_forall.1 hp
        have ⟨h1, h2⟩ : b = s ∧ ¬ popN N < popN s := Classical.not_imp.1 hs
        exact ⟨b, h.skip (.inr ⟨s, h1, by omega⟩)⟩
    · exact ⟨b, h.skip (.inl hE)⟩
theorem lhS_range (ps : List ByteArray) (s : Nat) : lhS ps s < 2 ^ ps.length := by
  obtain ⟨b, h⟩ := Best.exists (lhE ps s) (2 ^ ps.length)
  exact lhS_lt ps s b h
theorem all_bit {n i : Nat} (h : i < n) : bN (2 ^ n - 1) i = 1 := by
  have := Nat.testBit_two_pow_sub_one n i
  rw [Nat.testBit_eq_decide_div_mod_eq] at this
  simpa [h, bN] using this
theorem digS_hl (s n : Nat) : digS (bitL s n) = ⟨(hlT s (2 ^ n - 1) n).toArray⟩ := by
  apply ByteArray.ext
  apply Array.ext'
  show ((bitL s n).map (48 + ·)).map (fun n => UInt8.ofNat n.toNat) = hlT s (2 ^ n - 1) n
  unfold bitL hlT
  rw [List.map_map, List.map_map]
  apply List.map_congr_left
  intro i hi
  rw [hlC_held (all_bit (by simpa using hi))]
  show UInt8.ofNat (48 + ((bN s i : Nat) : Int)).toNat = _
  congr 1
/-- The letters while the first k are done. -/
def hmL (s set n k : Nat) : List Int := (List.range n).map fun j => (((if j < k then hlC s set j else UInt8.ofNat (48 + bN s j)).toNat : Nat) : Int)
theorem hmL_len (s set n k : Nat) : (hmL s set n k).length = n := by simp [hmL]
theorem hmL_zero (s set n : Nat) : byZ (digS (bitL s n)) = hmL s set n 0 := by
  rw [digS_hl]
  show (hlT s (2 ^ n - 1) n).map (fun b => ((b.toNat : Nat) : Int)) = _
  unfold hmL hlT
  rw [List.map_map]
  apply List.map_congr_left
  intro i hi
  simp [hlC_held (all_bit (by simpa using hi))]
theorem hmL_set {s set n k : Nat} (h : k < n) (h0 : bN set k = 0) : (hmL s set n k).set k 42 = hmL s set n (k + 1) := by
  apply List.ext_getElem?
  intro i
  by_cases hi : i < n
  · have h2 : (hmL s set n (k + 1))[i]? = some (((if i < k + 1 then hlC s set i else UInt8.ofNat (48 + bN s i)).toNat : Nat) : Int) := by simp only [hmL, List.getElem?_map, List.getElem?_range hi]; rfl
    rw [h2]
    by_cases e : i = k
    · subst e
      rw [List.getElem?_set_self (by rw [hmL_len]; exact hi), if_pos (by omega), hlC_free h0]
      rfl
    · have h1 : (hmL s set n k)[i]? = some (((if i < k then hlC s set i else UInt8.ofNat (48 + bN s i)).toNat : Nat) : Int) := by simp only [hmL, List.getElem?_map, List.getElem?_range hi]; rfl
      rw [List.getElem?_set_ne (fun e2 => e e2.symm), h1]
      have : (i < k + 1) = (i < k) := by apply propext; omega
      simp only [this]
  · rw [List.getElem?_eq_none (by simp [hmL_len]; omega), List.getElem?_eq_none (by rw [hmL_len]; omega)]
theorem hmL_same {s set n k : Nat} (h1 : bN set k = 1) : hmL s set n (k + 1) = hmL s set n k := by
  unfold hmL
  apply List.map_congr_left
  intro j _
  by_cases e : j = k
  · subst e
    rw [if_pos (by omega), if_neg (by omega), hlC_held h1]
  · have : (j < k + 1) = (j < k) := by apply propext; omega
    simp only [this]
theorem hmL_end (s set n : Nat) : strOfNums (hmL s set n n) = ⟨(hlT s set n).toArray⟩ := by
  apply ByteArray.ext
  apply Array.ext'
  show (hmL s set n n).map (fun n => UInt8.ofNat n.toNat) = hlT s set n
  unfold hmL hlT
  rw [List.map_map]
  apply List.map_congr_left
  intro j hj
  have hj' : j < n := by simpa using hj
  simp [hj']

set_option maxRecDepth 100000 in
set_option maxHeartbeats 4000000 in
theorem leastHold_ok (ao : Option Addr) (c : Nat) (ps : List ByteArray) (s : Nat) (w : World) (h : RowN w ao ps.length c ps.length (bitsN ps ps.length)) (hn : netB ps = true) (h5 : ps.length ≤ 5) (h0 : 0 < ps.length) (hs : s < 2 ^ ps.length) :
    Calls Tryd.prog 83 #[.slice ao ps.length c, .int .i64 s] w fun e w' => e = .returned (.string ⟨(hlT s (lhS ps s) ps.length).toArray⟩) ∧ Below w.heap.size w w' := by
  have hp : (2 ^ ps.length : Nat) ≤ 32 := Nat.pow_le_pow_right (n := 2) (by decide) h5
  have hp1 : 0 < (2 ^ ps.length : Nat) := Nat.two_pow_pos _
  have HSts := Lib.hid (fun W => states_ok ao ps.length c W (by omega))
  have HTo := Lib.hid (fun W => fmtI_ok s ps.length (by omega) h5 W)
  have HSp := Lib.hid (fun (m : Nat) W (hW : Below w.heap.size w W) => spread_ok ao c ps ⟨(hlT s m ps.length).toArray⟩ W (h.below hW (Nat.le_refl _)) hn (by simpa using hlT_isT s m ps.length) (by simp [ByteArray.size, hlT_len]) h5 h0)
  have HOc := Lib.hid (fun (m : Nat) W (hm : m < 32) => OnesCount_ok m W hm)
  have HHe := Lib.hid (fun (m : Nat) W (hm : m < 2 ^ ps.length) => by
    have hz : (⟨(hlT s m ps.length).toArray⟩ : ByteArray).size = ps.length := by simp [ByteArray.size, hlT_len]
    have := heldIn_ok ⟨(hlT s m ps.length).toArray⟩ W (by rw [hz]; omega)
    rw [hz, show (⟨(hlT s m ps.length).toArray⟩ : ByteArray).data.toList = hlT s m ps.length from rfl, heldTo_set hm] at this
    exact this)
  have HQ : Hid (∀ m, fsQ ps (hlT s m ps.length) s = ((⟨(spL ps (hlT s m ps.length)).toArray⟩ : ByteArray).toList == (digS (bitL s ps.length)).toList)) := fun m => rfl
  have HTk := Lib.hid (fun hi b (H : Best (lhE ps s) 0 hi b) => lh_up_take H)
  have HSk := Lib.hid (fun hi b (H : Best (lhE ps s) 0 hi b) => lh_up_skip H)
  have HEq := Lib.hid (fun b (H : Best (lhE ps s) 0 (2 ^ ps.length) b) => lhS_eq H)
  have HLt := Lib.hid (fun lo hi b (H : Best (lhE ps s) lo hi b) (hh : hi ≤ 2 ^ ps.length) => orAll_lt H hh)
  have HSt := Lib.hid (Best.start (lhE ps s) 0)
  have HZ0 := Lib.hid (hmL_zero s)
  have HW0 : Hid (digS (bitL s ps.length) = ⟨(hlT s (orAll ps.length (-1)) ps.length).toArray⟩) := by
    unfold Hid
    rw [orAll_no]; exact digS_hl s ps.length
  have hwz : (digS (bitL s ps.length)).size = ps.length := by rw [digS_size, bitL_len]
  clear hn h
  generalize (2 ^ ps.length : Nat) = N at hp hp1 HSts HHe HEq HLt hs
  have HZ0' := Lib.hid (fun set => HZ0.out set ps.length)
  generalize digS (bitL s ps.length) = wh at HTo HQ HW0 hwz HZ0'
  go_enter Tryd.func83, Tryd.ntmps83
  go_wp2_with fail
  refine (HTo.out _).mono ?_
  rintro e w1 ⟨rfl, b1⟩
  have B1 := Lib.hid b1
  clear b1 HTo HZ0
  go_wp2_with (go_at_call 51; refine (HSts.out _).mono ?_; rintro e w2 ⟨rfl, rfl⟩)
  go_loopw [6, 17] (fun v6 v17 wr => ∃ (hi : Nat) (b : Int), hi ≤ N ∧ v17 = .int .i64 hi ∧ v6 = .string ⟨(hlT s (orAll ps.length b) ps.length).toArray⟩ ∧ Best (lhE ps s) 0 hi b ∧ Below w.heap.size w wr) (fun _ v17 _ => N - (intOf v17).toNat)
  case atStart => exact ⟨0, -1, Nat.zero_le _, rfl, by rw [HW0.out], HSt.out, B1.out⟩
  case round =>
    obtain ⟨hi, b, hhi, rfl, rfl, hB, hb⟩ := hrel
    have HBs := Lib.hid hB
    have HB := Lib.hid hb
    have hol := HLt.out 0 hi b hB hhi
    clear hB
    by_cases hlt : hi < N
    · have hlt' : (hi : Int) < (N : Int) := by omega
      have hcv := run_bytes_of_string (P := Tryd.prog) wr 9 97 5 wh Tryd.underlying9 Tryd.underlying97 Tryd.underlying5
      have hcap := grownCap_ge wr wh.size 0 5
      generalize grownCap wr wh.size 0 5 = cap at hcv hcap
      have b1 : Below w.heap.size w (wr.drew.alloc (.cells (bytesRow wh cap) 5 ((bytesRow wh cap).size, (bytesRow wh cap).size + 1))) :=
        (show Below w.heap.size w wr.drew from ⟨hb.os, hb.tape, hb.output, hb.size, hb.block⟩).alloc hb.size _
      have Y1 := ByAt.conv wr.drew wh cap 5 hcap
      have hgw : w.heap.size ≤ wr.heap.size := hb.size
      rw [HZ0'.out hi] at Y1
      have HY1 := Lib.hid Y1
      have B1' := Lib.hid b1
      clear hb b1 Y1
      rw [hwz] at hcv
      generalize hw1 : wr.drew.alloc (.cells (bytesRow wh cap) 5 ((bytesRow wh cap).size, (bytesRow wh cap).size + 1)) = w1' at hcv HY1 B1'
      obtain ⟨wo, hwo⟩ : ∃ wo : World, wo = wr := ⟨_, rfl⟩
      go_wp2_with fail
      subst hwo
      clear hcv hw1
      go_loopw [24] (fun v24 wr => ∃ i : Nat, i ≤ ps.length ∧ v24 = .int .i64 i ∧ ByAt wr wo.heap.size (hmL s hi ps.length i) ∧ Below w.heap.size w wr) (fun v24 _ => ps.length - (intOf v24).toNat)
      case atStart => exact ⟨0, Nat.zero_le _, rfl, HY1.out, B1'.out⟩
      case round =>
        obtain ⟨i, hi2, rfl, hY, hb⟩ := hrel
        have HY := Lib.hid hY
        have HB2 := Lib.hid hb
        by_cases hil : i < ps.length
        · have hil' : (i : Int) < (ps.length : Int) := by omega
          have hil2 : i < (hmL s hi ps.length i).length := by rw [hmL_len]; exact hil
          have hcl := hY.cell i hil2
          have hfr := hY.free i hil2
          have HSet := Lib.hid (hY.set i hil2 42)
          have ev : bits .and .i64 ((hi : Int) / 2 ^ i) 1 = ((bN hi i : Nat) : Int) := bit_int (hi : Int) i (by omega) (by omega)
          have hbl := bN_lt hi i
          have hi0 : (0 : Int) ≤ (i : Int) := by omega
          clear hY hb hil2
          generalize gI (hmL s hi ps.length i) i = x at hcl
          by_cases hz : bN hi i = 0
          · have HNx := Lib.hid (hmL_set (s := s) hil hz)
            rw [hz] at ev
            clear hz hbl
            go_wp2_with fail
            go_roundw
            case rel => exact ⟨i + 1, by omega, by go_num, by rw [← HNx.out]; exact HSet.out, HB2.out.setCell hgw _⟩
            case measure => simp [intOf] <;> omega
          · have h1 : bN hi i = 1 := by omega
            have HNx := Lib.hid (hmL_same (s := s) (n := ps.length) h1)
            rw [h1] at ev
            clear hz hbl h1
            go_wp2_with fail
            go_roundw
            case rel => exact ⟨i + 1, by omega, by go_num, by rw [HNx.out]; exact HY.out, HB2.out⟩
            case measure => simp [intOf] <;> omega
        · obtain rfl : i = ps.length := by omega
          have hil' : ¬ (ps.length : Int) < (ps.length : Int) := by omega
          have hcv := fun (W : World) (hW : ByAt W wo.heap.size (hmL s hi ps.length ps.length)) => run_convert_bytes_arg (P := Tryd.prog) W 97 5 Tryd.underlying97 Tryd.underlying5 wo.heap.size 0 ps.length cap (hmL s hi ps.length ps.length) (hmL_len _ _ _ _) (fun i hi => by rw [Nat.zero_add]; exact hW.cell i (by rw [hmL_len]; exact hi)) 9 Tryd.underlying9
          rw [hmL_end] at hcv
          have HCv := Lib.hid hcv
          have hwr : IntKind.u64.wrap ((hi : Nat) : Int) = ((hi : Nat) : Int) := by rw [IntKind.wrap_u64]; omega
          have hwo : IntKind.u64.wrap ((orAll ps.length b : Nat) : Int) = ((orAll ps.length b : Nat) : Int) := by rw [IntKind.wrap_u64]; omega
          have HO1 := Lib.hid (fun W => HOc.out hi W (by omega))
          have HO2 := Lib.hid (fun W => HOc.out (orAll ps.length b) W (by omega))
          have HHb := Lib.hid (fun W => HHe.out (orAll ps.length b) W hol)
          have HTk1 := Lib.hid (HTk.out hi b HBs.out)
          have HSk1 := Lib.hid (HSk.out hi b HBs.out)
          clear hcv hY hb
          by_cases hpp : popN hi < popN (orAll ps.length b)
          · have hpi : ((popN hi : Nat) : Int) < ((popN (orAll ps.length b) : Nat) : Int) := by omega
            have HSp1 := Lib.hid (fun W hW => HSp.out hi W hW)
            have HQ1 := HQ.out hi
            have hc1 := HCv.out wr HY.out
            cases hq : fsQ ps (hlT s hi ps.length) s with
            | false =>
              have HN := Lib.hid (HSk1.out (.inr hq))
              rw [hq] at HQ1
              clear hq hpp hol
              generalize (⟨(spL ps (hlT s hi ps.length)).toArray⟩ : ByteArray) = tx at HSp1 HQ1
              generalize (⟨(hlT s hi ps.length).toArray⟩ : ByteArray) = ta at hc1 HCv HSp1
              have hbe := HQ1.symm
              clear HQ1
              go_wp2_with fail
              refine (HO1.out _).mono ?_
              rintro e w3 ⟨rfl, rfl⟩
              go_wp2_with fail
              refine (HHb.out _).mono ?_
              rintro e w3 ⟨rfl, rfl⟩
              go_wp2_with fail
              refine (HO2.out _).mono ?_
              rintro e w3 ⟨rfl, rfl⟩
              go_wp2_with fail
              refine (HSp1.out _ HB2.out).mono ?_
              rintro e w4 ⟨rfl, b4⟩
              have C4 := Lib.hid (HB2.out.trans (b4.mono HB2.out.size))
              clear b4 hc1
              go_wp2_with fail
              go_roundw
              case rel => exact ⟨hi + 1, b, by omega, by go_num, rfl, HN.out, C4.out⟩
              case measure => simp [intOf] <;> omega
            | true =>
              have HN := Lib.hid (HTk1.out hpp hq)
              rw [hq] at HQ1
              have HOy : Hid (orAll ps.length ((hi : Nat) : Int) = hi) := orAll_yes _ _
              clear hq hpp hol
              generalize (⟨(spL ps (hlT s hi ps.length)).toArray⟩ : ByteArray) = tx at HSp1 HQ1
              have hbe := HQ1.symm
              clear HQ1
              go_wp2_with fail
              refine (HO1.out _).mono ?_
              rintro e w3 ⟨rfl, rfl⟩
              go_wp2_with fail
              refine (HHb.out _).mono ?_
              rintro e w3 ⟨rfl, rfl⟩
              go_wp2_with fail
              refine (HO2.out _).mono ?_
              rintro e w3 ⟨rfl, rfl⟩
              go_wp2_with fail
              refine (HSp1.out _ HB2.out).mono ?_
              rintro e w4 ⟨rfl, b4⟩
              have hc4 := HCv.out w4 (HY.out.below b4 (Nat.le_refl _))
              have C4 := Lib.hid (HB2.out.trans (b4.mono HB2.out.size))
              clear b4 hc1
              go_wp2_with fail
              go_roundw
              case rel => exact ⟨hi + 1, (hi : Nat), by omega, by go_num, by rw [HOy.out], HN.out, C4.out⟩
              case measure => simp [intOf] <;> omega
          · have hpi : ¬ ((popN hi : Nat) : Int) < ((popN (orAll ps.length b) : Nat) : Int) := by omega
            have HN := Lib.hid (HSk1.out (.inl hpp))
            clear hpp hol
            go_wp2_with fail
            refine (HO1.out _).mono ?_
            rintro e w3 ⟨rfl, rfl⟩
            go_wp2_with fail
            refine (HHb.out _).mono ?_
            rintro e w3 ⟨rfl, rfl⟩
            go_wp2_with fail
            refine (HO2.out _).mono ?_
            rintro e w3 ⟨rfl, rfl⟩
            go_wp2_with fail
            go_roundw
            case rel => exact ⟨hi + 1, b, by omega, by go_num, rfl, HN.out, HB2.out⟩
            case measure => simp [intOf] <;> omega
    · obtain rfl : hi = N := by omega
      have hlt' : ¬ (hi : Int) < (hi : Int) := by omega
      have HV := Lib.hid (HEq.out b HBs.out)
      go_wp2_with fail
      go_ret
      exact ⟨congrArg (fun x => Ending.returned (.string ⟨(hlT s x ps.length).toArray⟩)) HV.out, hb⟩

end Go.Proofs.YthgjmciiaikgoaaDoor
