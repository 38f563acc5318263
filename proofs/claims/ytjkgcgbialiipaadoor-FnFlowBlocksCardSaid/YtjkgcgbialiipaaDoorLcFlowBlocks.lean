/- Walks and plain facts of one law: several of my texts in one. -/
import Derived.Test.YtjkgcgbialiipaaDoorGrG
import Derived.Test.YtjkgcgbialiipaaDoorGrD
import Derived.Test.YtjkgcgbialiipaaDoorGrJ
import Derived.Test.YtjkgcgbialiipaaDoorGrK
import Derived.Test.YtjkgcgbialiipaaDoorGrB
import Derived.Test.YtjkgcgbialiipaaDoorGrF
import Derived.Test.YtjkgcgbialiipaaDoorGrL
import Derived.Test.YtjkgcgbialiipaaDoorGrA
/- LeastHold of the program. -/
namespace Go.Proofs.YtjkgcgbialiipaaDoor
open Go.RowKit

theorem Best.some9 (E : Nat → Prop) : ∀ N, ∃ b, Best E 0 N b
  | 0 => ⟨-1, Best.start E 0⟩
  | N + 1 => by
    obtain ⟨b, h⟩ := Best.some9 E N
    by_cases hE : E N
    · by_cases hp : ∀ s : Nat, b = s → popN N < popN s
      · exact ⟨_, h.take (Nat.zero_le _) hE hp⟩
      · have ⟨s, hs⟩ : ∃ s : Nat, ¬ (b = s → popN N < popN s) := Classical.not_forall.1 hp
        have ⟨h1, h2⟩ : b = s ∧ ¬ popN N < popN s := Classical.not_imp.1 hs
        exact ⟨b, h.skip (.inr ⟨s, h1, by omega⟩)⟩
    · exact ⟨b, h.skip (.inl hE)⟩
theorem lhS_range (ps : List ByteArray) (s : Nat) : lhS ps s < 2 ^ ps.length := by
  obtain ⟨b, h⟩ := Best.some9 (lhE ps s) (2 ^ ps.length)
  exact lhS_lt ps s b h
theorem all_bit {n i : Nat} (h : i < n) : bN (2 ^ n - 1) i = 1 := by
  have := Nat.testBit_two_pow_sub_one n i
  rw [Nat.testBit_eq_decide_div_mod_eq] at this
  simpa [h, bN] using this
theorem digS_hl (s n : Nat) : digS (bitL s n) = ⟨(hlT s (2 ^ n - 1) n).toArray⟩ := by
  apply ByteArray.ext
  apply Array.ext'
  show ((bitL s n).map (48 + ·)).map (fun n => UInt8.ofNat n.toNat) = hlT s (2 ^ n - 1) n
  unfold bitL hlT
  rw [List.map_map, List.map_map]
  apply List.map_congr_left
  intro i hi
  rw [hlC_held (all_bit (by simpa using hi))]
  show UInt8.ofNat (48 + ((bN s i : Nat) : Int)).toNat = _
  congr 1
/-- The letters while the first k are done. -/
def hmL (s set n k : Nat) : List Int := (List.range n).map fun j => (((if j < k then hlC s set j else UInt8.ofNat (48 + bN s j)).toNat : Nat) : Int)
theorem hmL_len (s set n k : Nat) : (hmL s set n k).length = n := by simp [hmL]
theorem hmL_zero (s set n : Nat) : byZ (digS (bitL s n)) = hmL s set n 0 := by
  rw [digS_hl]
  show (hlT s (2 ^ n - 1) n).map (fun b => ((b.toNat : Nat) : Int)) = _
  unfold hmL hlT
  rw [List.map_map]
  apply List.map_congr_left
  intro i hi
  simp [hlC_held (all_bit (by simpa using hi))]
theorem hmL_set {s set n k : Nat} (h : k < n) (h0 : bN set k = 0) : (hmL s set n k).set k 42 = hmL s set n (k + 1) := by
  apply List.ext_getElem?
  intro i
  by_cases hi : i < n
  · have h2 : (hmL s set n (k + 1))[i]? = some (((if i < k + 1 then hlC s set i else UInt8.ofNat (48 + bN s i)).toNat : Nat) : Int) := by simp only [hmL, List.getElem?_map, List.getElem?_range hi]; rfl
    rw [h2]
    by_cases e : i = k
    · subst e
      rw [List.getElem?_set_self (by rw [hmL_len]; exact hi), if_pos (by omega), hlC_free h0]
      rfl
    · have h1 : (hmL s set n k)[i]? = some (((if i < k then hlC s set i else UInt8.ofNat (48 + bN s i)).toNat : Nat) : Int) := by simp only [hmL, List.getElem?_map, List.getElem?_range hi]; rfl
      rw [List.getElem?_set_ne (fun e2 => e e2.symm), h1]
      have : (i < k + 1) = (i < k) := by apply propext; omega
      simp only [this]
  · rw [List.getElem?_eq_none (by simp [hmL_len]; omega), List.getElem?_eq_none (by rw [hmL_len]; omega)]
theorem hmL_same {s set n k : Nat} (h1 : bN set k = 1) : hmL s set n (k + 1) = hmL s set n k := by
  unfold hmL
  apply List.map_congr_left
  intro j _
  by_cases e : j = k
  · subst e
    rw [if_pos (by omega), if_neg (by omega), hlC_held h1]
  · have : (j < k + 1) = (j < k) := by apply propext; omega
    simp only [this]
theorem hmL_end (s set n : Nat) : strOfNums (hmL s set n n) = ⟨(hlT s set n).toArray⟩ := by
  apply ByteArray.ext
  apply Array.ext'
  show (hmL s set n n).map (fun n => UInt8.ofNat n.toNat) = hlT s set n
  unfold hmL hlT
  rw [List.map_map]
  apply List.map_congr_left
  intro j hj
  have hj' : j < n := by simpa using hj
  simp [hj']

set_option maxRecDepth 100000 in
set_option maxHeartbeats 4000000 in
theorem leastHold_ok (ao : Option Addr) (c : Nat) (ps : List ByteArray) (s : Nat) (w : World) (h : RowN w ao ps.length c ps.length (bitsN ps ps.length)) (hn : netB ps = true) (h5 : ps.length ≤ 5) (h0 : 0 < ps.length) (hs : s < 2 ^ ps.length) :
    Calls Tryd.prog 145 #[.slice ao ps.length c, .int .i64 s] w fun e w' => e = .returned (.string ⟨(hlT s (lhS ps s) ps.length).toArray⟩) ∧ Below w.heap.size w w' := by
  have hp : (2 ^ ps.length : Nat) ≤ 32 := Nat.pow_le_pow_right (n := 2) (by decide) h5
  have hp1 : 0 < (2 ^ ps.length : Nat) := Nat.two_pow_pos _
  have HSts := Lib.hid (fun W => states_ok ao ps.length c W (by omega))
  have HTo := Lib.hid (fun W => fmtI_ok s ps.length (by omega) h5 W)
  have HSp := Lib.hid (fun (m : Nat) W (hW : Below w.heap.size w W) => spread_ok ao c ps ⟨(hlT s m ps.length).toArray⟩ W (h.below hW (Nat.le_refl _)) hn (by simpa using hlT_isT s m ps.length) (by simp [ByteArray.size, hlT_len]) h5 h0)
  have HOc := Lib.hid (fun (m : Nat) W (hm : m < 32) => OnesCount_ok m W hm)
  have HHe := Lib.hid (fun (m : Nat) W (hm : m < 2 ^ ps.length) => by
    have hz : (⟨(hlT s m ps.length).toArray⟩ : ByteArray).size = ps.length := by simp [ByteArray.size, hlT_len]
    have := heldIn_ok ⟨(hlT s m ps.length).toArray⟩ W (by rw [hz]; omega)
    rw [hz, show (⟨(hlT s m ps.length).toArray⟩ : ByteArray).data.toList = hlT s m ps.length from rfl, heldTo_set hm] at this
    exact this)
  have HQ : Hid (∀ m, fsQ ps (hlT s m ps.length) s = ((⟨(spL ps (hlT s m ps.length)).toArray⟩ : ByteArray).toList == (digS (bitL s ps.length)).toList)) := fun m => rfl
  have HTk := Lib.hid (fun hi b (H : Best (lhE ps s) 0 hi b) => lh_up_take H)
  have HSk := Lib.hid (fun hi b (H : Best (lhE ps s) 0 hi b) => lh_up_skip H)
  have HEq := Lib.hid (fun b (H : Best (lhE ps s) 0 (2 ^ ps.length) b) => lhS_eq H)
  have HLt := Lib.hid (fun lo hi b (H : Best (lhE ps s) lo hi b) (hh : hi ≤ 2 ^ ps.length) => orAll_lt H hh)
  have HSt := Lib.hid (Best.start (lhE ps s) 0)
  have HZ0 := Lib.hid (hmL_zero s)
  have HW0 : Hid (digS (bitL s ps.length) = ⟨(hlT s (orAll ps.length (-1)) ps.length).toArray⟩) := by
    unfold Hid
    rw [orAll_no]; exact digS_hl s ps.length
  have hwz : (digS (bitL s ps.length)).size = ps.length := by rw [digS_size, bitL_len]
  clear hn h
  generalize (2 ^ ps.length : Nat) = N at hp hp1 HSts HHe HEq HLt hs
  have HZ0' := Lib.hid (fun set => HZ0.out set ps.length)
  generalize digS (bitL s ps.length) = wh at HTo HQ HW0 hwz HZ0'
  go_enter Tryd.func145, Tryd.ntmps145
  go_wp2_with fail
  refine (HTo.out _).mono ?_
  rintro e w1 ⟨rfl, b1⟩
  have B1 := Lib.hid b1
  clear b1 HTo HZ0
  go_wp2_with (go_at_call 87; refine (HSts.out _).mono ?_; rintro e w2 ⟨rfl, rfl⟩)
  go_loopw [6, 17] (fun v6 v17 wr => ∃ (hi : Nat) (b : Int), hi ≤ N ∧ v17 = .int .i64 hi ∧ v6 = .string ⟨(hlT s (orAll ps.length b) ps.length).toArray⟩ ∧ Best (lhE ps s) 0 hi b ∧ Below w.heap.size w wr) (fun _ v17 _ => N - (intOf v17).toNat)
  case atStart => exact ⟨0, -1, Nat.zero_le _, rfl, by rw [HW0.out], HSt.out, B1.out⟩
  case round =>
    obtain ⟨hi, b, hhi, rfl, rfl, hB, hb⟩ := hrel
    have HBs := Lib.hid hB
    have HB := Lib.hid hb
    have hol := HLt.out 0 hi b hB hhi
    clear hB
    by_cases hlt : hi < N
    · have hlt' : (hi : Int) < (N : Int) := by omega
      have hcv := run_bytes_of_string (P := Tryd.prog) wr 9 22 5 wh Tryd.underlying9 Tryd.underlying22 Tryd.underlying5
      have hcap := grownCap_ge wr wh.size 0 5
      generalize grownCap wr wh.size 0 5 = cap at hcv hcap
      have b1 : Below w.heap.size w (wr.drew.alloc (.cells (bytesRow wh cap) 5 ((bytesRow wh cap).size, (bytesRow wh cap).size + 1))) :=
        (show Below w.heap.size w wr.drew from ⟨hb.os, hb.tape, hb.output, hb.size, hb.block⟩).alloc hb.size _
      have Y1 := ByAt.conv wr.drew wh cap 5 hcap
      have hgw : w.heap.size ≤ wr.heap.size := hb.size
      rw [HZ0'.out hi] at Y1
      have HY1 := Lib.hid Y1
      have B1' := Lib.hid b1
      clear hb b1 Y1
      rw [hwz] at hcv
      generalize hw1 : wr.drew.alloc (.cells (bytesRow wh cap) 5 ((bytesRow wh cap).size, (bytesRow wh cap).size + 1)) = w1' at hcv HY1 B1'
      obtain ⟨wo, hwo⟩ : ∃ wo : World, wo = wr := ⟨_, rfl⟩
      go_wp2_with fail
      subst hwo
      clear hcv hw1
      go_loopw [24] (fun v24 wr => ∃ i : Nat, i ≤ ps.length ∧ v24 = .int .i64 i ∧ ByAt wr wo.heap.size (hmL s hi ps.length i) ∧ Below w.heap.size w wr) (fun v24 _ => ps.length - (intOf v24).toNat)
      case atStart => exact ⟨0, Nat.zero_le _, rfl, HY1.out, B1'.out⟩
      case round =>
        obtain ⟨i, hi2, rfl, hY, hb⟩ := hrel
        have HY := Lib.hid hY
        have HB2 := Lib.hid hb
        by_cases hil : i < ps.length
        · have hil' : (i : Int) < (ps.length : Int) := by omega
          have hil2 : i < (hmL s hi ps.length i).length := by rw [hmL_len]; exact hil
          have hcl := hY.cell i hil2
          have hfr := hY.free i hil2
          have HSet := Lib.hid (hY.set i hil2 42)
          have ev : bits .and .i64 ((hi : Int) / 2 ^ i) 1 = ((bN hi i : Nat) : Int) := bit_int (hi : Int) i (by omega) (by omega)
          have hbl := bN_lt hi i
          have hi0 : (0 : Int) ≤ (i : Int) := by omega
          clear hY hb hil2
          generalize gI (hmL s hi ps.length i) i = x at hcl
          by_cases hz : bN hi i = 0
          · have HNx := Lib.hid (hmL_set (s := s) hil hz)
            rw [hz] at ev
            clear hz hbl
            go_wp2_with fail
            go_roundw
            case rel => exact ⟨i + 1, by omega, by go_num, by rw [← HNx.out]; exact HSet.out, HB2.out.setCell hgw _⟩
            case measure => simp [intOf] <;> omega
          · have h1 : bN hi i = 1 := by omega
            have HNx := Lib.hid (hmL_same (s := s) (n := ps.length) h1)
            rw [h1] at ev
            clear hz hbl h1
            go_wp2_with fail
            go_roundw
            case rel => exact ⟨i + 1, by omega, by go_num, by rw [HNx.out]; exact HY.out, HB2.out⟩
            case measure => simp [intOf] <;> omega
        · obtain rfl : i = ps.length := by omega
          have hil' : ¬ (ps.length : Int) < (ps.length : Int) := by omega
          have hcv := fun (W : World) (hW : ByAt W wo.heap.size (hmL s hi ps.length ps.length)) => run_convert_bytes_arg (P := Tryd.prog) W 22 5 Tryd.underlying22 Tryd.underlying5 wo.heap.size 0 ps.length cap (hmL s hi ps.length ps.length) (hmL_len _ _ _ _) (fun i hi => by rw [Nat.zero_add]; exact hW.cell i (by rw [hmL_len]; exact hi)) 9 Tryd.underlying9
          rw [hmL_end] at hcv
          have HCv := Lib.hid hcv
          have hwr : IntKind.u64.wrap ((hi : Nat) : Int) = ((hi : Nat) : Int) := by rw [IntKind.wrap_u64]; omega
          have hwo : IntKind.u64.wrap ((orAll ps.length b : Nat) : Int) = ((orAll ps.length b : Nat) : Int) := by rw [IntKind.wrap_u64]; omega
          have HO1 := Lib.hid (fun W => HOc.out hi W (by omega))
          have HO2 := Lib.hid (fun W => HOc.out (orAll ps.length b) W (by omega))
          have HHb := Lib.hid (fun W => HHe.out (orAll ps.length b) W hol)
          have HTk1 := Lib.hid (HTk.out hi b HBs.out)
          have HSk1 := Lib.hid (HSk.out hi b HBs.out)
          clear hcv hY hb
          by_cases hpp : popN hi < popN (orAll ps.length b)
          · have hpi : ((popN hi : Nat) : Int) < ((popN (orAll ps.length b) : Nat) : Int) := by omega
            have HSp1 := Lib.hid (fun W hW => HSp.out hi W hW)
            have HQ1 := HQ.out hi
            have hc1 := HCv.out wr HY.out
            cases hq : fsQ ps (hlT s hi ps.length) s with
            | false =>
              have HN := Lib.hid (HSk1.out (.inr hq))
              rw [hq] at HQ1
              clear hq hpp hol
              generalize (⟨(spL ps (hlT s hi ps.length)).toArray⟩ : ByteArray) = tx at HSp1 HQ1
              generalize (⟨(hlT s hi ps.length).toArray⟩ : ByteArray) = ta at hc1 HCv HSp1
              have hbe := HQ1.symm
              clear HQ1
              go_wp2_with fail
              refine (HO1.out _).mono ?_
              rintro e w3 ⟨rfl, rfl⟩
              go_wp2_with fail
              refine (HHb.out _).mono ?_
              rintro e w3 ⟨rfl, rfl⟩
              go_wp2_with fail
              refine (HO2.out _).mono ?_
              rintro e w3 ⟨rfl, rfl⟩
              go_wp2_with fail
              refine (HSp1.out _ HB2.out).mono ?_
              rintro e w4 ⟨rfl, b4⟩
              have C4 := Lib.hid (HB2.out.trans (b4.mono HB2.out.size))
              clear b4 hc1
              go_wp2_with fail
              go_roundw
              case rel => exact ⟨hi + 1, b, by omega, by go_num, rfl, HN.out, C4.out⟩
              case measure => simp [intOf] <;> omega
            | true =>
              have HN := Lib.hid (HTk1.out hpp hq)
              rw [hq] at HQ1
              have HOy : Hid (orAll ps.length ((hi : Nat) : Int) = hi) := orAll_yes _ _
              clear hq hpp hol
              generalize (⟨(spL ps (hlT s hi ps.length)).toArray⟩ : ByteArray) = tx at HSp1 HQ1
              have hbe := HQ1.symm
              clear HQ1
              go_wp2_with fail
              refine (HO1.out _).mono ?_
              rintro e w3 ⟨rfl, rfl⟩
              go_wp2_with fail
              refine (HHb.out _).mono ?_
              rintro e w3 ⟨rfl, rfl⟩
              go_wp2_with fail
              refine (HO2.out _).mono ?_
              rintro e w3 ⟨rfl, rfl⟩
              go_wp2_with fail
              refine (HSp1.out _ HB2.out).mono ?_
              rintro e w4 ⟨rfl, b4⟩
              have hc4 := HCv.out w4 (HY.out.below b4 (Nat.le_refl _))
              have C4 := Lib.hid (HB2.out.trans (b4.mono HB2.out.size))
              clear b4 hc1
              go_wp2_with fail
              go_roundw
              case rel => exact ⟨hi + 1, (hi : Nat), by omega, by go_num, by rw [HOy.out], HN.out, C4.out⟩
              case measure => simp [intOf] <;> omega
          · have hpi : ¬ ((popN hi : Nat) : Int) < ((popN (orAll ps.length b) : Nat) : Int) := by omega
            have HN := Lib.hid (HSk1.out (.inl hpp))
            clear hpp hol
            go_wp2_with fail
            refine (HO1.out _).mono ?_
            rintro e w3 ⟨rfl, rfl⟩
            go_wp2_with fail
            refine (HHb.out _).mono ?_
            rintro e w3 ⟨rfl, rfl⟩
            go_wp2_with fail
            refine (HO2.out _).mono ?_
            rintro e w3 ⟨rfl, rfl⟩
            go_wp2_with fail
            go_roundw
            case rel => exact ⟨hi + 1, b, by omega, by go_num, rfl, HN.out, HB2.out⟩
            case measure => simp [intOf] <;> omega
    · obtain rfl : hi = N := by omega
      have hlt' : ¬ (hi : Int) < (hi : Int) := by omega
      have HV := Lib.hid (HEq.out b HBs.out)
      go_wp2_with fail
      go_ret
      exact ⟨congrArg (fun x => Ending.returned (.string ⟨(hlT s x ps.length).toArray⟩)) HV.out, hb⟩

end Go.Proofs.YtjkgcgbialiipaaDoor
/- Plain: what a term spreads to, and what that forces. -/
namespace Go.Proofs.YtjkgcgbialiipaaDoor
open Go.RowKit

/-- The letter of a state's switch. -/
def letN (s i : Nat) : UInt8 := UInt8.ofNat (48 + bN s i)
theorem letN_cases (s i : Nat) : (bN s i = 0 ∧ letN s i = 48) ∨ (bN s i = 1 ∧ letN s i = 49) := by
  have := bN_lt s i
  unfold letN
  rcases (show bN s i = 0 ∨ bN s i = 1 by omega) with e | e <;> rw [e]
  · exact .inl ⟨rfl, rfl⟩
  · exact .inr ⟨rfl, rfl⟩
theorem letN_ne (s i : Nat) : letN s i ≠ 42 := by
  rcases letN_cases s i with ⟨_, e⟩ | ⟨_, e⟩ <;> rw [e] <;> decide
theorem letN_eq {s t i : Nat} (h : letN s i = letN t i) : bN s i = bN t i := by
  rcases letN_cases s i with ⟨a, e⟩ | ⟨a, e⟩ <;> rcases letN_cases t i with ⟨b, f⟩ | ⟨b, f⟩
  · omega
  · rw [e, f] at h; exact absurd h (by decide)
  · rw [e, f] at h; exact absurd h (by decide)
  · omega
theorem ltr_let {l : List UInt8} {s i : Nat} (h : l.getD i 42 = letN s i) : ltr l i = bN s i := by
  rw [ltr, if_neg (by rw [h]; exact letN_ne s i), h]
  rcases letN_cases s i with ⟨a, e⟩ | ⟨a, e⟩ <;> rw [e, a] <;> rfl
theorem getD_ext {l m : List UInt8} {n : Nat} (hl : l.length = n) (hm : m.length = n) (h : ∀ i, i < n → l.getD i 42 = m.getD i 42) : l = m := by
  apply List.ext_getElem?
  intro i
  by_cases hi : i < n
  · have := h i hi
    rw [List.getD_eq_getElem?_getD, List.getD_eq_getElem?_getD, List.getElem?_eq_getElem (by omega), List.getElem?_eq_getElem (by omega)] at this
    rw [List.getElem?_eq_getElem (by omega), List.getElem?_eq_getElem (by omega)]
    exact congrArg some this
  · rw [List.getElem?_eq_none (by omega), List.getElem?_eq_none (by omega)]
/-- When a term forces a state. -/
theorem fsQ_iff {ps : List ByteArray} {l : List UInt8} {s : Nat} (hz : l.length = ps.length) : fsQ ps l s = true ↔ ∀ i, i < ps.length → (spL ps l).getD i 42 = letN s i := by
  have hb : ∀ i, i < ps.length → (hlT s (2 ^ ps.length - 1) ps.length).getD i 42 = letN s i := fun i hi => by
    rw [hlT_get hi, hlC_held (all_bit hi)]; rfl
  rw [fsQ, beq_iff_eq, ByteArray.toList_eq, ByteArray.toList_eq, digS_hl]
  show spL ps l = hlT s (2 ^ ps.length - 1) ps.length ↔ _
  constructor
  · intro h i hi
    rw [h, hb i hi]
  · intro h
    exact getD_ext (by rw [spL_len, hz]) (hlT_len _ _ _) fun i hi => by rw [h i hi, hb i hi]

section
variable {ps : List ByteArray} {l : List UInt8}
theorem sp_keep {k i : Nat} (hi : i < l.length) (h : (spN ps l k).getD i 42 ≠ 42) : (spN ps l (k + 1)).getD i 42 = (spN ps l k).getD i 42 := by
  rw [spN, spR_get (by rw [spN_len]; exact hi), spC, if_neg h]
theorem sp_keeps {k i : Nat} (hi : i < l.length) (h : (spN ps l k).getD i 42 ≠ 42) : ∀ d, (spN ps l (k + d)).getD i 42 = (spN ps l k).getD i 42
  | 0 => rfl
  | d + 1 => by
    have ih := sp_keeps hi h d
    rw [show k + (d + 1) = (k + d) + 1 by omega, sp_keep hi (by rw [ih]; exact h), ih]
theorem sp_star {k i : Nat} (hi : i < l.length) (h : (spN ps l (k + 1)).getD i 42 = 42) : (spN ps l k).getD i 42 = 42 := by
  refine Classical.byContradiction fun hne => ?_
  rw [sp_keep hi hne] at h
  exact hne h
/-- A state of a later round's term is one of an earlier round's. -/
theorem sp_weak {k x : Nat} (h : hasT (spN ps l (k + 1)) x = true) : hasT (spN ps l k) x = true := by
  rw [hasT_iff] at h ⊢
  intro i hi
  rw [spN_len] at hi
  have h1 := h i (by rw [spN_len]; exact hi)
  by_cases hs : (spN ps l k).getD i 42 = 42
  · exact .inl (ltr_star hs)
  · have e := sp_keep (k := k) hi hs
    rw [ltr, e, ← ltr] at h1
    exact h1
theorem sp_weaks {k x : Nat} : ∀ d, hasT (spN ps l (k + d)) x = true → hasT (spN ps l k) x = true
  | 0, h => h
  | d + 1, h => sp_weaks d (sp_weak h)
/-- What a round lays down is what all states of the term lead to. -/
theorem sp_forced {k i : Nat} (hn : netB ps = true) (hz : l.length = ps.length) (hi : i < l.length) (h0 : (spN ps l k).getD i 42 = 42) (h1 : (spN ps l (k + 1)).getD i 42 ≠ 42) :
    ∀ x, x < 2 ^ ps.length → hasT (spN ps l k) x = true → (spN ps l (k + 1)).getD i 42 = UInt8.ofNat (48 + bitN ps i x) := by
  intro x hx hh
  have hb := bitN_lt (netB_get hn i (by omega)).1 x
  have hy := toB_yes (ps := ps) (l := spN ps l k) (i := i) (s := x) (by rw [spN_len, hz]; exact hx) hh rfl
  rw [spN, spR_get (by rw [spN_len]; exact hi), spC, if_pos h0] at h1 ⊢
  rcases (show bitN ps i x = 0 ∨ bitN ps i x = 1 by omega) with e | e
  · rw [e] at hy ⊢
    rw [if_neg (by rw [hy]; decide)] at h1 ⊢
    split at h1
    · rename_i h2; rw [if_pos h2]; rfl
    · exact absurd rfl h1
  · rw [e] at hy ⊢
    split at h1
    · rename_i h2; rw [if_pos h2]; rfl
    · split at h1
      · rename_i h2; rw [hy] at h2; cases h2
      · exact absurd rfl h1
/-- The round that lays a letter down. -/
theorem sp_when {i : Nat} (hi : i < l.length) (h0 : l.getD i 42 = 42) : ∀ k, (spN ps l k).getD i 42 ≠ 42 → ∃ j, j < k ∧ (spN ps l j).getD i 42 = 42 ∧ (spN ps l (j + 1)).getD i 42 ≠ 42
  | 0, h => absurd h0 h
  | k + 1, h => by
    by_cases hk : (spN ps l k).getD i 42 = 42
    · exact ⟨k, Nat.lt_succ_self _, hk, h⟩
    · obtain ⟨j, hj, h1, h2⟩ := sp_when hi h0 k hk
      exact ⟨j, by omega, h1, h2⟩
end
section
variable {ps : List ByteArray} {l : List UInt8} {s : Nat} (hn : netB ps = true) (hz : l.length = ps.length) (hs : s < 2 ^ ps.length) (hf : fsQ ps l s = true)
include hz hf
theorem frc_let {k i : Nat} (hk : k ≤ 5) (hi : i < l.length) (h : (spN ps l k).getD i 42 ≠ 42) : (spN ps l k).getD i 42 = letN s i := by
  have h1 := sp_keeps hi h (5 - k)
  rw [show k + (5 - k) = 5 by omega] at h1
  rw [← h1]
  exact (fsQ_iff hz).1 hf i (by omega)
/-- The state lies in the terms of all rounds. -/
theorem frc_has {k : Nat} (hk : k ≤ 5) : hasT (spN ps l k) s = true := by
  rw [hasT_iff]
  intro i hi
  rw [spN_len] at hi
  by_cases h : (spN ps l k).getD i 42 = 42
  · exact .inl (ltr_star h)
  · exact .inr (ltr_let (frc_let hz hf hk hi h))
theorem frc_held : hasT l s = true := frc_has (k := 0) hz hf (by omega)
include hn hs
/-- No free switch is restless in a state that is forced. -/
theorem frc_rest {i : Nat} (hi : i < ps.length) (h0 : l.getD i 42 = 42) : bitN ps i s = bN s i := by
  have h5 := (fsQ_iff hz).1 hf i hi
  obtain ⟨j, hj, h1, h2⟩ := sp_when (ps := ps) (l := l) (i := i) (by omega) h0 5 (by show (spL ps l).getD i 42 ≠ 42; rw [h5]; exact letN_ne s i)
  have h3 := sp_forced hn hz (by omega) h1 h2 s hs (frc_has hz hf (by omega))
  have h4 := frc_let hz hf (show j + 1 ≤ 5 by omega) (by omega) h2
  rw [h3] at h4
  have hb := bitN_lt (netB_get hn i hi).1 s
  rcases letN_cases s i with ⟨a, e⟩ | ⟨a, e⟩ <;> rcases (show bitN ps i s = 0 ∨ bitN ps i s = 1 by omega) with f | f
  · omega
  · rw [e, f] at h4; exact absurd h4 (by decide)
  · rw [e, f] at h4; exact absurd h4 (by decide)
  · omega
end
/-- A step of the held network goes a round further. -/
theorem sp_step {ps : List ByteArray} {l : List UInt8} (h0 : 0 < ps.length) (h5 : ps.length ≤ 5) (ht : htB ps l = true) {k x : Nat} (hx : x < 2 ^ ps.length) (h : hasT (spN ps l k) x = true) : hasT (spN ps l (k + 1)) (hsS ps l x) = true := by
  obtain ⟨hn, hz, hl⟩ := ht_len ht
  rw [hasT_iff]
  intro i hi
  rw [spN_len] at hi
  by_cases hs : (spN ps l (k + 1)).getD i 42 = 42
  · exact .inl (ltr_star hs)
  · refine .inr ?_
    by_cases hl0 : l.getD i 42 = 42
    · obtain ⟨j, hj, h1, h2⟩ := sp_when (ps := ps) hi hl0 (k + 1) hs
      have hxj : hasT (spN ps l j) x = true := sp_weaks (k := j) (k - j) (by rw [show j + (k - j) = k by omega]; exact h)
      have h3 := sp_forced hn hz hi h1 h2 x hx hxj
      have h4 := sp_keeps hi h2 (k - j)
      rw [show j + 1 + (k - j) = k + 1 by omega] at h4
      have hfr := hsS_free h0 h5 ht hx (show i < ps.length by omega) (ltr_star hl0)
      have hb := bN_bit_eq hn h5 (s := x) (show i < ps.length by omega)
      have hbit : bN (hsS ps l x) i = bitN ps i x := by rw [← hb]; exact bN_of hfr
      rw [hbit]
      rw [ltr, if_neg hs, h4, h3]
      have hlt := bitN_lt (netB_get hn i (by omega)).1 x
      rcases (show bitN ps i x = 0 ∨ bitN ps i x = 1 by omega) with f | f <;> rw [f] <;> rfl
    · have h4 := sp_keeps (ps := ps) (k := 0) hi hl0 (k + 1)
      rw [Nat.zero_add] at h4
      have h6 := hasT_iff.1 (hsS_has h0 h5 ht hx) i hi
      rcases h6 with h6 | h6
      · exact absurd ((ltr_two hl).1 h6) hl0
      · rw [ltr, h4, ← ltr]
        exact h6
where
  bN_of {a b i : Nat} (h : a.testBit i = b.testBit i) : bN a i = bN b i := by
    have e1 := bit_test a i
    have e2 := bit_test b i
    rw [show a / 2 ^ i % 2 = bN a i from rfl] at e1
    rw [show b / 2 ^ i % 2 = bN b i from rfl] at e2
    rw [e1, e2, h]
  bN_bit_eq {ps : List ByteArray} (hn : netB ps = true) (h5 : ps.length ≤ 5) {s i : Nat} (hi : i < ps.length) : bN (allTo ps s ps.length) i = bitN ps i s := by
    have hl := bitN_lt (netB_get hn i hi).1 s
    have e1 := bit_test (allTo ps s ps.length) i
    rw [show allTo ps s ps.length / 2 ^ i % 2 = bN (allTo ps s ps.length) i from rfl, allTo_bit hn h5 hi] at e1
    rw [e1]
    by_cases h : bitN ps i s = 1
    · simp [h]
    · simp [h]; omega

end Go.Proofs.YtjkgcgbialiipaaDoor
/- Plain: schedules: the same steps, the same fixed points, blocks joined. -/
namespace Go.Proofs.YtjkgcgbialiipaaDoor
open Go.RowKit

theorem bN_test (s i : Nat) : bN s i = if s.testBit i = true then 1 else 0 := bit_test s i
theorem bN_eq {s t i : Nat} (h : bN s i = bN t i) : s.testBit i = t.testBit i := by
  rw [bN_test, bN_test] at h
  cases h1 : s.testBit i <;> cases h2 : t.testBit i <;> simp_all
theorem list_beq (a b : ByteArray) : (a.toList == b.toList) = decide (a = b) := by
  rw [Bool.eq_iff_iff, beq_iff_eq, decide_eq_true_iff, ByteArray.toList_eq, ByteArray.toList_eq]
  constructor
  · intro h
    apply ByteArray.ext
    exact Array.toList_inj.1 h
  · intro h; rw [h]

/-- The network of a schedule, read again, makes the steps of the blocks. -/
theorem nb_cuts {ps : List ByteArray} {zs : List Int} (h0 : 0 < ps.length) (h : nbB ps zs = true) : cutsP 44 (nbT ps zs) = listF (digF (schF ps zs) ps.length) ps.length := by
  rw [nbT_yes h]
  exact cuts_net h0 fun k s _ _ => bN_lt _ _
theorem sch_bit {ps : List ByteArray} {zs : List Int} {k s : Nat} (hk : k < ps.length) (hs : s < 2 ^ ps.length) : bitN (listF (digF (schF ps zs) ps.length) ps.length) k s = bN (runL ps s zs) k := by
  rw [bitN_net (F := schF ps zs) hk hs (bN_lt _ _), schF, runTo_all]
theorem sch_net {ps : List ByteArray} {zs : List Int} (h0 : 0 < ps.length) (h5 : ps.length ≤ 5) : netB (listF (digF (schF ps zs) ps.length) ps.length) = true := netB_net ⟨h0, h5⟩ fun _ _ _ _ => bN_lt _ _
theorem sch_all {ps : List ByteArray} {zs : List Int} (hn : netB ps = true) (h0 : 0 < ps.length) (h5 : ps.length ≤ 5) {s : Nat} (hs : s < 2 ^ ps.length) :
    allTo (listF (digF (schF ps zs) ps.length) ps.length) s ps.length = runL ps s zs := by
  have hq := sch_net (zs := zs) h0 h5
  have hl : (listF (digF (schF ps zs) ps.length) ps.length).length = ps.length := listF_len _ _
  have h1 := allTo_lt hq (by rw [hl]; exact h5) s
  rw [hl] at h1
  refine eq_pow h1 (runL_lt hn h5 zs hs) fun j hj => ?_
  have h2 := allTo_bit hq (by rw [hl]; exact h5) (s := s) (j := j) (by rw [hl]; exact hj)
  rw [hl] at h2
  rw [h2, sch_bit hj hs, bN_test]
  cases (runL ps s zs).testBit j <;> rfl

/-- Two schedules are the same just if all states have the same steps. -/
theorem ss_iff {ps : List ByteArray} {xs ys : List Int} (hn : netB ps = true) (h0 : 0 < ps.length) (h5 : ps.length ≤ 5) (hx : nbB ps xs = true) (hy : nbB ps ys = true) :
    nbT ps xs = nbT ps ys ↔ ∀ s, s < 2 ^ ps.length → runL ps s xs = runL ps s ys := by
  constructor
  · intro h s hs
    have hc : listF (digF (schF ps xs) ps.length) ps.length = listF (digF (schF ps ys) ps.length) ps.length := by rw [← nb_cuts h0 hx, ← nb_cuts h0 hy, h]
    rw [← sch_all (zs := xs) hn h0 h5 hs, hc, sch_all (zs := ys) hn h0 h5 hs]
  · intro h
    rw [nbT_yes hx, nbT_yes hy, netT, netT]
    have hd : ∀ k, digF (schF ps xs) ps.length k = digF (schF ps ys) ps.length k := fun k => by
      rw [digF, digF]
      congr 1
      apply List.map_congr_left
      intro s hs
      rw [schF, schF, runTo_all, runTo_all, h s (by simpa using hs)]
    rw [show digF (schF ps xs) ps.length = digF (schF ps ys) ps.length from funext hd]

/-! What the first sets of blocks tell. -/
theorem addB_get {top : Int} {t u : Nat} {z : Int} (h : addB top t z = some u) : (1 ≤ z ∧ z < top ∧ t &&& z.toNat = 0) ∧ u = t ||| z.toNat := by
  unfold addB at h
  split at h
  · rename_i hc; exact ⟨hc, (Option.some.inj h).symm⟩
  · cases h
theorem fold_cons {top : Int} {t u : Nat} {z : Int} {zs : List Int} (h : (z :: zs).foldlM (addB top) t = some u) : (1 ≤ z ∧ z < top ∧ t &&& z.toNat = 0) ∧ zs.foldlM (addB top) (t ||| z.toNat) = some u := by
  rw [List.foldlM_cons] at h
  cases hx : addB top t z with
  | none => rw [hx] at h; cases h
  | some v =>
    rw [hx] at h
    obtain ⟨h1, rfl⟩ := addB_get hx
    exact ⟨h1, h⟩
theorem and_zero {a b j : Nat} (h : a &&& b = 0) (ha : a.testBit j = true) : b.testBit j = false := by
  have := congrArg (·.testBit j) h
  simp only [Nat.testBit_and, Nat.zero_testBit, ha, Bool.true_and] at this
  exact this
/-- What is in none of the blocks stays. -/
theorem run_keep {ps : List ByteArray} (hn : netB ps = true) (h5 : ps.length ≤ 5) {top : Int} : ∀ (zs : List Int) (t u s j : Nat), zs.foldlM (addB top) t = some u → s < 2 ^ ps.length → j < ps.length → t.testBit j = true → (runL ps s zs).testBit j = s.testBit j
  | [], _, _, _, _, _, _, _, _ => rfl
  | z :: zs, t, u, s, j, h, hs, hj, ht => by
    obtain ⟨h1, h2⟩ := fold_cons h
    rw [runL_cons, run_keep hn h5 zs _ u _ j h2 (stepTo_lt hn h5 _ hs) hj (by rw [Nat.testBit_or, ht]; rfl), stepTo_bit hn h5 hs hj, and_zero h1.2.2 ht]
    rfl
theorem run_fix {ps : List ByteArray} (hn : netB ps = true) (h5 : ps.length ≤ 5) {top : Int} : ∀ (zs : List Int) (t u s : Nat), zs.foldlM (addB top) t = some u → s < 2 ^ ps.length → runL ps s zs = s → ∀ z ∈ zs, stepTo ps s z.toNat ps.length = s
  | [], _, _, _, _, _, _, z, hz => by cases hz
  | y :: zs, t, u, s, h, hs, hr, z, hz => by
    obtain ⟨h1, h2⟩ := fold_cons h
    rw [runL_cons] at hr
    have h3 := stepTo_lt hn h5 y.toNat hs
    have he : stepTo ps s y.toNat ps.length = s := eq_pow h3 hs fun j hj => by
      cases hy : y.toNat.testBit j with
      | true =>
        have := run_keep hn h5 zs _ u (stepTo ps s y.toNat ps.length) j h2 h3 hj (by rw [Nat.testBit_or, hy]; simp)
        rw [hr] at this
        exact this.symm
      | false => rw [stepTo_bit hn h5 hs hj, hy]; rfl
    rcases List.mem_cons.1 hz with rfl | hz
    · exact he
    · rw [he] at hr
      exact run_fix hn h5 zs _ u s h2 hs hr z hz
theorem fold_cover {top : Int} : ∀ (zs : List Int) (t u j : Nat), zs.foldlM (addB top) t = some u → u.testBit j = true → t.testBit j = true ∨ ∃ z ∈ zs, z.toNat.testBit j = true
  | [], t, u, j, h, hu => by
    have : t = u := by simpa using h
    subst this; exact .inl hu
  | z :: zs, t, u, j, h, hu => by
    obtain ⟨_, h2⟩ := fold_cons h
    rcases fold_cover zs _ u j h2 hu with h3 | ⟨y, hy, h3⟩
    · rw [Nat.testBit_or, Bool.or_eq_true] at h3
      rcases h3 with h3 | h3
      · exact .inl h3
      · exact .inr ⟨z, by simp, h3⟩
    · exact .inr ⟨y, by simp [hy], h3⟩
theorem nb_fold {ps : List ByteArray} {zs : List Int} (h : nbB ps zs = true) : zs.foldlM (addB 32) 0 = some (2 ^ ps.length - 1) := by
  rw [nbB, Bool.and_eq_true, blocksV, Bool.and_eq_true, decide_eq_true_iff, decide_eq_true_iff, Int.toNat_natCast] at h
  exact h.2.2
theorem step_fix {ps : List ByteArray} (hn : netB ps = true) (h5 : ps.length ≤ 5) {s : Nat} (b : Nat) (hs : s < 2 ^ ps.length) (h : allTo ps s ps.length = s) : stepTo ps s b ps.length = s :=
  eq_pow (stepTo_lt hn h5 b hs) hs fun j hj => by
    have h2 := allTo_bit hn h5 (s := s) hj
    rw [h] at h2
    rw [stepTo_bit hn h5 hs hj, ← h2]
    simp
theorem run_stay {ps : List ByteArray} (hn : netB ps = true) (h5 : ps.length ≤ 5) {s : Nat} (hs : s < 2 ^ ps.length) (h : allTo ps s ps.length = s) : ∀ zs : List Int, runL ps s zs = s
  | [] => rfl
  | z :: zs => by rw [runL_cons, step_fix hn h5 _ hs h, run_stay hn h5 hs h zs]
/-- All schedules have the fixed points of the network. -/
theorem fix_iff {ps : List ByteArray} {zs : List Int} (h5 : ps.length ≤ 5) (hb : nbB ps zs = true) {s : Nat} (hs : s < 2 ^ ps.length) : runL ps s zs = s ↔ allTo ps s ps.length = s := by
  have hn := nb_net hb
  constructor
  · intro h
    have hf := nb_fold hb
    have hfix := run_fix hn h5 zs 0 _ s hf hs h
    refine eq_pow (allTo_lt hn h5 s) hs fun j hj => ?_
    rcases fold_cover zs 0 _ j hf (by rw [Nat.testBit_two_pow_sub_one]; simp [hj]) with h3 | ⟨z, hz, h3⟩
    · simp at h3
    · have := stepTo_bit hn h5 (b := z.toNat) hs hj
      rw [hfix z hz, h3] at this
      rw [allTo_bit hn h5 hj]
      simpa using this.symm
  · intro h
    exact run_stay hn h5 hs h zs

/-! Blocks joined. -/
theorem or_top (a b : Int) (ha : 1 ≤ a ∧ a < 32) (hb : 1 ≤ b ∧ b < 32) : bits .or .i64 a b = ((a.toNat ||| b.toNat : Nat) : Int) := or_int a b (by omega) (by omega) (by omega) (by omega)
theorem fold_join {top : Int} (zs : List Int) (a b : Int) (t u : Nat) (ht : top = 32) (h : (a :: b :: zs).foldlM (addB top) t = some u) : ((((a.toNat ||| b.toNat : Nat) : Int)) :: zs).foldlM (addB top) t = some u := by
  subst ht
  obtain ⟨h1, h2⟩ := fold_cons h
  obtain ⟨h3, h4⟩ := fold_cons h2
  have hlt : a.toNat ||| b.toNat < 32 := or_lt32 (by omega) (by omega)
  have hge : a.toNat ≤ a.toNat ||| b.toNat := Nat.left_le_or
  have hz : t &&& (a.toNat ||| b.toNat) = 0 := by
    apply Nat.eq_of_testBit_eq
    intro j
    rw [Nat.testBit_and, Nat.testBit_or, Nat.zero_testBit]
    cases htj : t.testBit j with
    | false => rfl
    | true =>
      rw [and_zero h1.2.2 htj, and_zero h3.2.2 (show (t ||| a.toNat).testBit j = true by rw [Nat.testBit_or, htj]; rfl)]
      rfl
  rw [List.foldlM_cons, addB, if_pos ⟨by omega, by omega, by rw [Int.toNat_natCast]; exact hz⟩, Int.toNat_natCast]
  show zs.foldlM (addB 32) (t ||| (a.toNat ||| b.toNat)) = some u
  rw [← Nat.or_assoc]; exact h4
theorem split_two {zs : List Int} {k : Nat} (hk : k + 1 < zs.length) : zs = zs.take k ++ (gI zs k :: gI zs (k + 1) :: zs.drop (k + 2)) := by
  conv => lhs; rw [← List.take_append_drop k zs]
  congr 1
  rw [List.drop_eq_getElem_cons (by omega), gI_eq (by omega), List.drop_eq_getElem_cons (by omega), gI_eq (by omega)]
theorem join_list {ps : List ByteArray} {zs : List Int} {k : Nat} (hb : nbB ps zs = true) (hk : k + 1 < zs.length) : (zs.take k ++ [bits .or .i64 (gI zs k) (gI zs (k + 1))] ++ zs.drop (k + 2)) = zs.take k ++ ((((gI zs k).toNat ||| (gI zs (k + 1)).toNat : Nat) : Int) :: zs.drop (k + 2)) := by
  have hf := fold_all zs 0 _ (nb_fold hb)
  rw [or_top _ _ (hf _ (List.mem_of_getElem? (gI_lt (by omega)))) (hf _ (List.mem_of_getElem? (gI_lt (by omega))))]
  simp
theorem nb_join {ps : List ByteArray} {zs : List Int} {k : Nat} (hb : nbB ps zs = true) (hk : k + 1 < zs.length) : nbB ps (zs.take k ++ [bits .or .i64 (gI zs k) (gI zs (k + 1))] ++ zs.drop (k + 2)) = true := by
  have hf := nb_fold hb
  rw [join_list hb hk]
  rw [nbB, Bool.and_eq_true, blocksV, Bool.and_eq_true] at hb ⊢
  refine ⟨hb.1, hb.2.1, ?_⟩
  rw [decide_eq_true_iff, Int.toNat_natCast, unionB]
  rw [split_two hk, List.foldlM_append] at hf
  rw [List.foldlM_append]
  cases ht : (zs.take k).foldlM (addB 32) 0 with
  | none => rw [ht] at hf; cases hf
  | some t =>
    rw [ht] at hf
    exact fold_join _ _ _ t _ rfl hf
theorem run_join {ps : List ByteArray} {zs : List Int} {k : Nat} (h5 : ps.length ≤ 5) (hb : nbB ps zs = true) (hk : k + 1 < zs.length)
    (h : ∀ i j, i < ps.length → j < ps.length → (gI zs k).toNat.testBit i = true → (gI zs (k + 1)).toNat.testBit j = true → actB ps i j = false) {s : Nat} (hs : s < 2 ^ ps.length) :
    runL ps s (zs.take k ++ [bits .or .i64 (gI zs k) (gI zs (k + 1))] ++ zs.drop (k + 2)) = runL ps s zs := by
  have hn := nb_net hb
  rw [join_list hb hk]
  conv => rhs; rw [split_two hk]
  rw [runL_app, runL_app, runL_cons, runL_cons, runL_cons, Int.toNat_natCast, step_join hn h5 (runL_lt hn h5 _ hs) h]

end Go.Proofs.YtjkgcgbialiipaaDoor
/- Plain: what the blocks of a network without circuits do. -/
namespace Go.Proofs.YtjkgcgbialiipaaDoor
open Go.RowKit

theorem src_done {ps : List ByteArray} {done k i : Nat} (h : (blkF ps done).testBit k = true) (hi : i < ps.length) (ha : actB ps i k = true) : done.testBit i = true := by
  rw [blkF_bit, Bool.and_eq_true, srcB, Bool.and_eq_true, List.all_eq_true] at h
  have := h.2.2 i (List.mem_range.2 hi)
  rw [ha] at this
  simpa using this
theorem src_open {ps : List ByteArray} {done k : Nat} (h : (blkF ps done).testBit k = true) : done.testBit k = false := by
  rw [blkF_bit, Bool.and_eq_true, srcB, Bool.and_eq_true] at h
  simpa using h.2.1
/-- States that agree on what is done come to the same. -/
theorem flow_same {ps : List ByteArray} (hn : netB ps = true) (h5 : ps.length ≤ 5) (hc : circB (actB ps) ps.length = false) : ∀ (f done s t : Nat), done < 2 ^ ps.length → opnN done ps.length ≤ f → s < 2 ^ ps.length → t < 2 ^ ps.length → (∀ i, i < ps.length → done.testBit i = true → s.testBit i = t.testBit i) → runL ps s (flF ps f done) = runL ps t (flF ps f done)
  | 0, done, s, t, hd, ho, hs, ht, h => by
    have e := opn_zero hd (by omega)
    subst e
    exact eq_pow hs ht fun i hi => h i hi (by rw [Nat.testBit_two_pow_sub_one]; simp [hi])
  | f + 1, done, s, t, hd, ho, hs, ht, h => by
    by_cases e : done = 2 ^ ps.length - 1
    · subst e
      rw [flF_end]
      exact eq_pow hs ht fun i hi => h i hi (by rw [Nat.testBit_two_pow_sub_one]; simp [hi])
    · have hst := blk_step h5 hc hd e
      rw [flF_next e, runL_cons, runL_cons, Int.toNat_natCast]
      refine flow_same hn h5 hc f _ _ _ (blk_or_lt hd) (by omega) (stepTo_lt hn h5 _ hs) (stepTo_lt hn h5 _ ht) fun i hi hb => ?_
      rw [stepTo_bit hn h5 hs hi, stepTo_bit hn h5 ht hi]
      cases hk : (blkF ps done).testBit i with
      | true => rw [bit_indep h5 hs ht fun j hj ha => h j hj (src_done hk hj ha)]; rfl
      | false =>
        rw [Nat.testBit_or, hk, Bool.or_false] at hb
        exact h i hi hb
/-- The only fixed point. -/
def flC (ps : List ByteArray) : Nat := runL ps 0 (flF ps 5 0)
section
variable {ps : List ByteArray} (hn : netB ps = true) (h5 : ps.length ≤ 5) (hc : circB (actB ps) ps.length = false)
include hn h5 hc
theorem flow_all {s : Nat} (hs : s < 2 ^ ps.length) : runL ps s (flF ps 5 0) = flC ps :=
  flow_same hn h5 hc 5 0 s 0 (Nat.two_pow_pos _) (Nat.le_trans (opn_le _ _) h5) hs (Nat.two_pow_pos _) fun i _ h => by simp at h
omit hc in
theorem flC_lt : flC ps < 2 ^ ps.length := runL_lt hn h5 _ (Nat.two_pow_pos _)
omit hn in
/-- They are blocks. -/
theorem flow_fold : ∀ (f done : Nat), done < 2 ^ ps.length → opnN done ps.length ≤ f → (flF ps f done).foldlM (addB 32) done = some (2 ^ ps.length - 1)
  | 0, done, hd, ho => by
    have e := opn_zero hd (by omega)
    subst e
    rfl
  | f + 1, done, hd, ho => by
    by_cases e : done = 2 ^ ps.length - 1
    · subst e
      rw [flF_end]; rfl
    · have hst := blk_step h5 hc hd e
      have hp := pow_32 h5
      have hb := blkF_lt ps done
      have hz : done &&& blkF ps done = 0 := by
        apply Nat.eq_of_testBit_eq
        intro i
        rw [Nat.testBit_and, Nat.zero_testBit]
        cases hk : (blkF ps done).testBit i with
        | true => rw [src_open hk]; rfl
        | false => simp
      have h1 : 1 ≤ blkF ps done := by
        refine Classical.byContradiction fun h0 => ?_
        have e0 : blkF ps done = 0 := by omega
        rw [e0, Nat.or_zero] at hst
        omega
      rw [flF_next e, List.foldlM_cons, addB, if_pos ⟨by omega, by omega, by rw [Int.toNat_natCast]; exact hz⟩, Int.toNat_natCast]
      exact flow_fold f _ (blk_or_lt hd) (by omega)
theorem flow_nb (h0 : 0 < ps.length) : nbB ps (flF ps 5 0) = true := by
  rw [nbB, hn, blocksV, unionB, Int.toNat_natCast, flow_fold h5 hc 5 0 (Nat.two_pow_pos _) (Nat.le_trans (opn_le _ _) h5)]
  simp; omega
theorem flC_fix (h0 : 0 < ps.length) : allTo ps (flC ps) ps.length = flC ps := (fix_iff h5 (flow_nb hn h5 hc h0) (flC_lt hn h5)).1 (flow_all hn h5 hc (flC_lt hn h5))
theorem flC_one {p : Nat} (hp : p < 2 ^ ps.length) (h : allTo ps p ps.length = p) : p = flC ps := by
  rw [← flow_all hn h5 hc hp, run_stay hn h5 hp h]
end
theorem itN_front (f : Nat → Nat) (x k : Nat) : itN f x (k + 1) = itN f (f x) k := by
  rw [show k + 1 = 1 + k by omega, itN_add]; rfl
/-- Steps of all switches go there in as many steps as there are blocks. -/
theorem flow_tail {ps : List ByteArray} (hn : netB ps = true) (h5 : ps.length ≤ 5) (hc : circB (actB ps) ps.length = false) {c : Nat} (hcl : c < 2 ^ ps.length) (hfix : allTo ps c ps.length = c) : ∀ (f done s : Nat), done < 2 ^ ps.length → opnN done ps.length ≤ f → s < 2 ^ ps.length → (∀ i, i < ps.length → done.testBit i = true → s.testBit i = c.testBit i) →
    (∀ k i, k < ps.length → i < ps.length → done.testBit k = true → actB ps i k = true → done.testBit i = true) → itN (fun s => allTo ps s ps.length) s (flF ps f done).length = c
  | 0, done, s, hd, ho, hs, h, _ => by
    have e := opn_zero hd (by omega)
    subst e
    exact eq_pow hs hcl fun i hi => h i hi (by rw [Nat.testBit_two_pow_sub_one]; simp [hi])
  | f + 1, done, s, hd, ho, hs, h, hcl2 => by
    by_cases e : done = 2 ^ ps.length - 1
    · subst e
      rw [flF_end]
      exact eq_pow hs hcl fun i hi => h i hi (by rw [Nat.testBit_two_pow_sub_one]; simp [hi])
    · have hst := blk_step h5 hc hd e
      rw [flF_next e, List.length_cons, itN_front]
      have key : ∀ k i, k < ps.length → i < ps.length → (done ||| blkF ps done).testBit k = true → actB ps i k = true → done.testBit i = true := fun k i hk hi hb ha => by
        rw [Nat.testBit_or, Bool.or_eq_true] at hb
        rcases hb with hb | hb
        · exact hcl2 k i hk hi hb ha
        · exact src_done hb hi ha
      refine flow_tail hn h5 hc hcl hfix f _ _ (blk_or_lt hd) (by omega) (allTo_lt hn h5 s) (fun k hk hb => ?_) (fun k i hk hi hb ha => by rw [Nat.testBit_or, key k i hk hi hb ha]; rfl)
      have h1 : bitN ps k s = bitN ps k c := bit_indep h5 hs hcl fun i hi ha => h i hi (key k i hk hi hb ha)
      have h2 := allTo_bit hn h5 (s := c) hk
      rw [hfix] at h2
      rw [allTo_bit hn h5 hk, h1, h2]
end Go.Proofs.YtjkgcgbialiipaaDoor
/- Plain: the fewest switches that force a state; without circuits none. -/
namespace Go.Proofs.YtjkgcgbialiipaaDoor
open Go.RowKit

theorem bN_all {ps : List ByteArray} (hn : netB ps = true) (h5 : ps.length ≤ 5) {s i : Nat} (hi : i < ps.length) : bN (allTo ps s ps.length) i = bitN ps i s := by
  have hl := bitN_lt (netB_get hn i hi).1 s
  have e1 := bit_test (allTo ps s ps.length) i
  rw [show allTo ps s ps.length / 2 ^ i % 2 = bN (allTo ps s ps.length) i from rfl, allTo_bit hn h5 hi] at e1
  rw [e1]
  by_cases h : bitN ps i s = 1
  · simp [h]
  · simp [h]; omega
theorem hlC_all {s set i : Nat} (h : bN set i = 1) : hlC s set i = letN s i := by rw [hlC_held h]; rfl
theorem all_forces {ps : List ByteArray} (s : Nat) : fsQ ps (hlT s (2 ^ ps.length - 1) ps.length) s = true := by
  rw [fsQ_iff (hlT_len _ _ _)]
  intro i hi
  have e : (hlT s (2 ^ ps.length - 1) ps.length).getD i 42 = letN s i := by rw [hlT_get hi, hlC_all (all_bit hi)]
  have := sp_keeps (ps := ps) (l := hlT s (2 ^ ps.length - 1) ps.length) (k := 0) (i := i) (by rw [hlT_len]; exact hi) (by show (hlT s (2 ^ ps.length - 1) ps.length).getD i 42 ≠ 42; rw [e]; exact letN_ne s i) 5
  rw [Nat.zero_add] at this
  show (spN ps _ 5).getD i 42 = _
  rw [this]; exact e
theorem lh_best (ps : List ByteArray) (s : Nat) : ∃ b, Best (lhE ps s) 0 (2 ^ ps.length) b ∧ lhS ps s = orAll ps.length b := by
  obtain ⟨b, hb⟩ := Best.some9 (lhE ps s) (2 ^ ps.length)
  exact ⟨b, hb, (lhS_eq hb).symm⟩
/-- The least term forces the state. -/
theorem lh_forces (ps : List ByteArray) (s : Nat) : fsQ ps (hlT s (lhS ps s) ps.length) s = true := by
  obtain ⟨b, hb, e⟩ := lh_best ps s
  rw [e]
  rcases hb with ⟨rfl, _⟩ | ⟨t, rfl, _, _, h3, _⟩
  · rw [orAll_no]; exact all_forces s
  · rw [orAll_yes]; exact h3.1
/-- None that forces it is less. -/
theorem lh_least {ps : List ByteArray} (h5 : ps.length ≤ 5) {s t : Nat} (ht : t < 2 ^ ps.length) (h : fsQ ps (hlT s t ps.length) s = true) : popN (lhS ps s) < popN t ∨ (popN (lhS ps s) = popN t ∧ lhS ps s ≤ t) := by
  obtain ⟨b, hb, e⟩ := lh_best ps s
  rw [e]
  rcases hb with ⟨rfl, hno⟩ | ⟨r, rfl, _, _, h3, h4⟩
  · rw [orAll_no]
    by_cases he : t = 2 ^ ps.length - 1
    · subst he; exact .inr ⟨rfl, Nat.le_refl _⟩
    · exact absurd ⟨h, pop_lt h5 (by omega)⟩ (hno t (Nat.zero_le _) ht)
  · rw [orAll_yes]
    by_cases hp : popN t < popN (2 ^ ps.length - 1)
    · exact h4 t (Nat.zero_le _) ht ⟨h, hp⟩
    · have := h3.2
      exact .inl (by omega)
/-- All that are restless in the state are held. -/
theorem lh_rest {ps : List ByteArray} (hn : netB ps = true) (h5 : ps.length ≤ 5) {s : Nat} (hs : s < 2 ^ ps.length) : (allTo ps s ps.length ^^^ s) &&& (31 - lhS ps s) = 0 := by
  have hp := pow_32 h5
  have hr := lhS_range ps s
  apply Nat.eq_of_testBit_eq
  intro i
  rw [Nat.testBit_and, Nat.testBit_xor, Nat.zero_testBit]
  by_cases hi : i < ps.length
  · cases hb : (lhS ps s).testBit i with
    | true =>
      have h2 := andNot_bit 31 (lhS ps s) i (by omega) (by omega)
      have h3 : (31 &&& (31 - lhS ps s)) = 31 - lhS ps s := by
        rw [Nat.and_comm, show (31 : Nat) = 2 ^ 5 - 1 from rfl, Nat.and_two_pow_sub_one_eq_mod, Nat.mod_eq_of_lt (by omega)]
      rw [h3, hb] at h2
      rw [h2]; simp
    | false =>
      have h0 : bN (lhS ps s) i = 0 := by
        have := bit_test (lhS ps s) i
        rw [show lhS ps s / 2 ^ i % 2 = bN (lhS ps s) i from rfl, hb] at this
        simpa using this
      have h1 := frc_rest hn (hlT_len s (lhS ps s) ps.length) hs (lh_forces ps s) hi (by rw [hlT_get hi, hlC_free h0])
      have h2 := allTo_bit hn h5 (s := s) hi
      have h3 := bit_test s i
      rw [show s / 2 ^ i % 2 = bN s i from rfl, ← h1] at h3
      have : (allTo ps s ps.length).testBit i = s.testBit i := by
        rw [h2, h3]
        cases s.testBit i <;> rfl
      rw [this]; simp
  · have h4 : (2 : Nat) ^ ps.length ≤ 2 ^ i := Nat.pow_le_pow_right (by decide) (by omega)
    rw [Nat.testBit_lt_two_pow (Nat.lt_of_lt_of_le (allTo_lt hn h5 s) h4), Nat.testBit_lt_two_pow (Nat.lt_of_lt_of_le hs h4)]
    rfl

/-- A fixed point lies in the terms of all rounds, if it lies in the first. -/
theorem fix_has {ps : List ByteArray} {l : List UInt8} (hn : netB ps = true) (h5 : ps.length ≤ 5) (hz : l.length = ps.length) {c : Nat} (hc : c < 2 ^ ps.length) (hfix : allTo ps c ps.length = c) (h : hasT l c = true) : ∀ k, hasT (spN ps l k) c = true
  | 0 => h
  | k + 1 => by
    have ih := fix_has hn h5 hz hc hfix h k
    rw [hasT_iff] at ih ⊢
    intro i hi
    rw [spN_len] at hi
    by_cases hs : (spN ps l (k + 1)).getD i 42 = 42
    · exact .inl (ltr_star hs)
    · by_cases hk : (spN ps l k).getD i 42 = 42
      · have h3 := sp_forced hn hz hi hk hs c hc (fix_has hn h5 hz hc hfix h k)
        have h4 := bN_all hn h5 (s := c) (show i < ps.length by omega)
        rw [hfix] at h4
        exact .inr (ltr_let (by rw [h3, ← h4]; rfl))
      · have h1 := ih i (by rw [spN_len]; exact hi)
        rw [ltr, sp_keep hi hk, ← ltr]
        exact h1
/-- Without circuits the term that holds nothing spreads to the fixed point. -/
theorem flow_spread {ps : List ByteArray} {l : List UInt8} (hn : netB ps = true) (h5 : ps.length ≤ 5) (hci : circB (actB ps) ps.length = false) (hz : l.length = ps.length) (hl : l.all isT = true) {c : Nat} (hc : c < 2 ^ ps.length) (hfix : allTo ps c ps.length = c) (h : hasT l c = true) :
    ∀ (f done k : Nat), done < 2 ^ ps.length → opnN done ps.length ≤ f → (∀ i, i < ps.length → done.testBit i = true → (spN ps l k).getD i 42 = letN c i) → ∀ i, i < ps.length → (spN ps l (k + f)).getD i 42 = letN c i
  | 0, done, k, hd, ho, hk, i, hi => by
    have e := opn_zero hd (by omega)
    subst e
    exact hk i hi (by rw [Nat.testBit_two_pow_sub_one]; simp [hi])
  | f + 1, done, k, hd, ho, hk, i, hi => by
    by_cases e : done = 2 ^ ps.length - 1
    · subst e
      have h1 := hk i hi (by rw [Nat.testBit_two_pow_sub_one]; simp [hi])
      rw [sp_keeps (by omega) (by rw [h1]; exact letN_ne c i) (f + 1), h1]
    · have hst := blk_step h5 hci hd e
      rw [show k + (f + 1) = (k + 1) + f by omega]
      refine flow_spread hn h5 hci hz hl hc hfix h f (done ||| blkF ps done) (k + 1) (blk_or_lt hd) (by omega) (fun j hj hb => ?_) i hi
      rw [Nat.testBit_or, Bool.or_eq_true] at hb
      by_cases hjk : (spN ps l k).getD j 42 = 42
      · -- open until now: all states of the term agree on what acts on it
        rcases hb with hb | hb
        · have := hk j hj hb
          rw [this] at hjk
          exact absurd hjk (letN_ne c j)
        · have hall : ∀ x, x < 2 ^ ps.length → hasT (spN ps l k) x = true → bitN ps j x = bitN ps j c := fun x hx hh => bit_indep h5 hx hc fun q hq ha => by
            have h1 := hk q hq (src_done hb hq ha)
            have h2 := hasT_iff.1 hh q (by rw [spN_len]; omega)
            have h3 := ltr_let h1
            rcases h2 with h2 | h2
            · rw [h3] at h2; have := bN_lt c q; omega
            · have e2 : bN x q = bN c q := by omega
              have e3 := bit_test x q
              have e4 := bit_test c q
              rw [show x / 2 ^ q % 2 = bN x q from rfl] at e3
              rw [show c / 2 ^ q % 2 = bN c q from rfl] at e4
              rw [e3, e4] at e2
              cases h6 : x.testBit q <;> cases h7 : c.testBit q <;> simp_all
          have hcc := fix_has hn h5 hz hc hfix h k
          have hb2 := bitN_lt (netB_get hn j hj).1 c
          have hno : ∀ v, v ≠ bitN ps j c → toB ps (spN ps l k) j v = false := fun v hv => by
            cases ht : toB ps (spN ps l k) j v with
            | false => rfl
            | true =>
              obtain ⟨x, h1, h2, h3⟩ := toB_get ht
              exact absurd (h3.symm.trans (hall x (by rw [spN_len, hz] at h1; exact h1) h2)) hv
          have hne : (spN ps l (k + 1)).getD j 42 ≠ 42 := by
            rw [spN, spR_get (by rw [spN_len]; omega), spC, if_pos hjk]
            by_cases h0 : bitN ps j c = 0
            · split
              · decide
              · rw [if_pos (hno 1 (by omega))]; decide
            · rw [if_pos (hno 0 (by omega))]; decide
          have h3 := sp_forced hn hz (by omega) hjk hne c hc hcc
          have h4 := bN_all hn h5 (s := c) hj
          rw [hfix] at h4
          rw [h3, ← h4]; rfl
      · rw [sp_keep (by omega) hjk]
        have hcc := hasT_iff.1 (fix_has hn h5 hz hc hfix h k) j (by rw [spN_len]; omega)
        have hT := ltr_dig (spN_isT hl k) (i := j) (by rw [spN_len]; omega) hjk
        rcases hcc with hcc | hcc
        · omega
        · apply UInt8.toNat_inj.1
          have h1 := hT.1
          rw [hcc] at h1
          rcases letN_cases c j with ⟨a, e⟩ | ⟨a, e⟩
          · rw [e]; rw [a] at h1; show _ = 48; omega
          · rw [e]; rw [a] at h1; show _ = 49; omega
/-- Without circuits nothing must be held. -/
theorem flow_free {ps : List ByteArray} (hn : netB ps = true) (h5 : ps.length ≤ 5) (hci : circB (actB ps) ps.length = false) {c : Nat} (hc : c < 2 ^ ps.length) (hfix : allTo ps c ps.length = c) : lhS ps c = 0 := by
  have hz := hlT_len c 0 ps.length
  have hstar : ∀ i, i < ps.length → (hlT c 0 ps.length).getD i 42 = 42 := fun i hi => by rw [hlT_get hi, hlC_free (by simp [bN])]
  have hhas : hasT (hlT c 0 ps.length) c = true := by
    rw [hasT_iff]
    intro i hi
    exact .inl (ltr_star (hstar i (by omega)))
  have hf : fsQ ps (hlT c 0 ps.length) c = true := by
    rw [fsQ_iff hz]
    have := flow_spread hn h5 hci hz (hlT_isT c 0 ps.length) hc hfix hhas 5 0 0 (Nat.two_pow_pos _) (Nat.le_trans (opn_le _ _) h5) (fun i _ h => by simp at h)
    rw [Nat.zero_add] at this
    exact this
  have h1 := lh_least h5 (Nat.two_pow_pos _) hf
  have h2 : popN 0 = 0 := rfl
  omega

end Go.Proofs.YtjkgcgbialiipaaDoor
/- LeastHold and HoldsNeeded on both sides, and the laws FnExactLeastHold, FnExactHoldsNeeded. -/
namespace Go.Proofs.YtjkgcgbialiipaaDoor
open Go.RowKit

/-- What LeastHold gives. -/
noncomputable def lhT (ps : List ByteArray) (s : Int) : ByteArray := if stB' ps s = true then ⟨(hlT s.toNat (lhS ps s.toNat) ps.length).toArray⟩ else ⟨#[]⟩
theorem lhT_no {ps : List ByteArray} {s : Int} (h : stB' ps s = false) : lhT ps s = ⟨#[]⟩ := by simp [lhT, h]
theorem lhT_yes {ps : List ByteArray} {s : Nat} (h : stB' ps (s : Int) = true) : lhT ps (s : Int) = ⟨(hlT s (lhS ps s) ps.length).toArray⟩ := by simp [lhT, h]

set_option maxHeartbeats 1000000 in
theorem lhS_ok (t : ByteArray) (s : Int) (w : World) (hs : t.size ≤ 1048576) :
    Calls Tryd.prog 74 #[.string t, .int .i64 s] w fun e w' => e = .returned (.tuple #[.string (lhT (cutsP 44 t) s), .bool (stB' (cutsP 44 t) s)]) ∧ Below w.heap.size w w' := by
  have HO := Lib.hid (l3State_ok t s w hs)
  have hp0 := cutsP_pos 44 t
  generalize cutsP 44 t = ps at HO hp0 ⊢
  cases hb : stB' ps s with
  | false =>
    have HV := Lib.hid (lhT_no hb)
    rw [hb] at HO
    clear hb
    go_enter Tryd.func74, Tryd.ntmps74
    go_wp2_with fail
    refine HO.out.mono ?_
    rintro e w1 ⟨v, rfl, o1, b1⟩
    clear o1
    go_wp2_with fail
    go_ret2
    exact ⟨ret2h HV.out.symm rfl, b1⟩
  | true =>
    obtain ⟨hn, hs0, hs1⟩ := stB'_get hb
    obtain ⟨m, rfl⟩ := Int.eq_ofNat_of_zero_le hs0
    have HV := Lib.hid (lhT_yes hb)
    have h5 := net_le hn hp0
    have HN := Lib.hid (netL_yes hn)
    have HL := Lib.hid (fun ao c W (h : RowT W ao ps.length c ps) => l10Least_ok ao ps.length c ps m W h hn h5 (by omega))
    rw [hb] at HO
    clear hb hn hs0 hs1
    go_enter Tryd.func74, Tryd.ntmps74
    go_wp2_with fail
    refine HO.out.mono ?_
    rintro e w1 ⟨v, rfl, o1, b1⟩
    rw [HN.out] at o1
    obtain ⟨a, c, rfl, r1⟩ := o1.row
    have HL1 := Lib.hid (HL.out _ _ _ r1)
    have B1 := Lib.hid b1
    clear o1 r1 b1
    go_wp2_with fail
    refine HL1.out.mono ?_
    rintro e w2 ⟨rfl, b2⟩
    go_wp2_with fail
    go_ret2
    exact ⟨ret2h HV.out.symm rfl, B1.out.trans (b2.mono B1.out.size)⟩

set_option maxHeartbeats 1000000 in
theorem lhI_ok (t : ByteArray) (s : Int) (w : World) (hs : t.size ≤ 1048576) (hm : MaxLenIs w) :
    Calls Tryd.prog 73 #[.string t, .int .i64 s] w fun e w' => e = .returned (.tuple #[.string (lhT (cutsP 44 t) s), .bool (stB' (cutsP 44 t) s)]) ∧ Below w.heap.size w w' := by
  have HO := Lib.hid (stateOf_ok t s w hs hm)
  have hp0 := cutsP_pos 44 t
  generalize cutsP 44 t = ps at HO hp0 ⊢
  cases hb : stB' ps s with
  | false =>
    have HV := Lib.hid (lhT_no hb)
    rw [hb] at HO
    clear hb
    go_enter Tryd.func73, Tryd.ntmps73
    go_wp2_with fail
    refine HO.out.mono ?_
    rintro e w1 ⟨v, rfl, o1, b1⟩
    clear o1
    go_wp2_with fail
    go_ret2
    exact ⟨ret2h HV.out.symm rfl, b1⟩
  | true =>
    obtain ⟨hn, hs0, hs1⟩ := stB'_get hb
    obtain ⟨m, rfl⟩ := Int.eq_ofNat_of_zero_le hs0
    have HV := Lib.hid (lhT_yes hb)
    have h5 := net_le hn hp0
    have HN := Lib.hid (netN_yes hn)
    have hlen := bitsN_len ps ps.length
    have HL := Lib.hid (fun ao c W (h : RowN W ao ps.length c ps.length (bitsN ps ps.length)) => leastHold_ok ao c ps m W h hn h5 hp0 (by omega))
    rw [hb] at HO
    clear hb hn hs0 hs1
    go_enter Tryd.func73, Tryd.ntmps73
    go_wp2_with fail
    refine HO.out.mono ?_
    rintro e w1 ⟨v, rfl, o1, b1⟩
    rw [HN.out] at o1
    obtain ⟨a, c, rfl, r1⟩ := o1.row (bitsN_wide ps ps.length)
    rw [hlen] at r1 ⊢
    have HL1 := Lib.hid (HL.out _ _ _ r1)
    have B1 := Lib.hid b1
    clear o1 r1 b1 hlen
    go_wp2_with fail
    refine HL1.out.mono ?_
    rintro e w2 ⟨rfl, b2⟩
    go_wp2_with fail
    go_ret2
    exact ⟨ret2h HV.out.symm rfl, B1.out.trans (b2.mono B1.out.size)⟩

end Go.Proofs.YtjkgcgbialiipaaDoor
/- HoldsNeeded on both sides, and the law FnExactHoldsNeeded. -/
namespace Go.Proofs.YtjkgcgbialiipaaDoor
open Go.RowKit

/-- What HoldsNeeded gives. -/
noncomputable def hnV (ps : List ByteArray) (s : Int) : Int := if stB' ps s = true then ((popN (lhS ps s.toNat) : Nat) : Int) else -1
theorem hnV_no {ps : List ByteArray} {s : Int} (h : stB' ps s = false) : hnV ps s = -1 := by simp [hnV, h]
theorem hnV_yes {ps : List ByteArray} {s : Nat} (h : stB' ps (s : Int) = true) : hnV ps (s : Int) = ((popN (lhS ps s) : Nat) : Int) := by simp [hnV, h]
theorem hl_size (s set n : Nat) : (⟨(hlT s set n).toArray⟩ : ByteArray).size = n := by simp [ByteArray.size, hlT_len]

set_option maxHeartbeats 1000000 in
theorem hnS_ok (t : ByteArray) (s : Int) (w : World) (hs : t.size ≤ 1048576) :
    Calls Tryd.prog 76 #[.string t, .int .i64 s] w fun e w' => e = .returned (.int .i64 (hnV (cutsP 44 t) s)) ∧ Below w.heap.size w w' := by
  have HO := Lib.hid (lhS_ok t s w hs)
  have hp0 := cutsP_pos 44 t
  generalize cutsP 44 t = ps at HO hp0 ⊢
  cases hb : stB' ps s with
  | false =>
    have HV := Lib.hid (hnV_no hb)
    rw [hb] at HO
    clear hb
    generalize lhT ps s = u at HO
    go_enter Tryd.func76, Tryd.ntmps76
    go_wp2_with fail
    refine HO.out.mono ?_
    rintro e w1 ⟨rfl, b1⟩
    go_wp2_with fail
    go_ret
    exact ⟨congrArg (fun x => Ending.returned (.int .i64 x)) HV.out.symm, b1⟩
  | true =>
    obtain ⟨hn, hs0, hs1⟩ := stB'_get hb
    obtain ⟨m, rfl⟩ := Int.eq_ofNat_of_zero_le hs0
    have HV := Lib.hid (hnV_yes hb)
    have h5 := net_le hn hp0
    have hp : (2 ^ ps.length : Nat) ≤ 32 := Nat.pow_le_pow_right (n := 2) (by decide) h5
    have hlr := lhS_range ps m
    have HHe := Lib.hid (fun W => by
      have := l10Held_ok ⟨(hlT m (lhS ps m) ps.length).toArray⟩ W (by rw [hl_size]; omega)
      rw [hl_size, show (⟨(hlT m (lhS ps m) ps.length).toArray⟩ : ByteArray).data.toList = hlT m (lhS ps m) ps.length from rfl, heldTo_set hlr] at this
      exact this)
    have HSz := Lib.hid (fun W => by
      have := l7Size_ok ((lhS ps m : Nat) : Int) W (by omega) (by omega)
      rw [Int.toNat_natCast] at this; exact this)
    rw [hb, lhT_yes hb] at HO
    clear hb hn hs0 hs1
    generalize (⟨(hlT m (lhS ps m) ps.length).toArray⟩ : ByteArray) = u at HO HHe
    go_enter Tryd.func76, Tryd.ntmps76
    go_wp2_with fail
    refine HO.out.mono ?_
    rintro e w1 ⟨rfl, b1⟩
    go_wp2_with fail
    refine (HHe.out _).mono ?_
    rintro e w2 ⟨rfl, rfl⟩
    go_wp2_with fail
    refine (HSz.out _).mono ?_
    rintro e w2 ⟨rfl, rfl⟩
    go_wp2_with fail
    go_ret
    exact ⟨congrArg (fun x => Ending.returned (.int .i64 x)) HV.out.symm, b1⟩

set_option maxHeartbeats 1000000 in
theorem hnI_ok (t : ByteArray) (s : Int) (w : World) (hs : t.size ≤ 1048576) (hm : MaxLenIs w) :
    Calls Tryd.prog 75 #[.string t, .int .i64 s] w fun e w' => e = .returned (.int .i64 (hnV (cutsP 44 t) s)) ∧ Below w.heap.size w w' := by
  have HO := Lib.hid (lhI_ok t s w hs hm)
  have hp0 := cutsP_pos 44 t
  generalize cutsP 44 t = ps at HO hp0 ⊢
  cases hb : stB' ps s with
  | false =>
    have HV := Lib.hid (hnV_no hb)
    rw [hb] at HO
    clear hb
    generalize lhT ps s = u at HO
    go_enter Tryd.func75, Tryd.ntmps75
    go_wp2_with fail
    refine HO.out.mono ?_
    rintro e w1 ⟨rfl, b1⟩
    go_wp2_with fail
    go_ret
    exact ⟨congrArg (fun x => Ending.returned (.int .i64 x)) HV.out.symm, b1⟩
  | true =>
    obtain ⟨hn, hs0, hs1⟩ := stB'_get hb
    obtain ⟨m, rfl⟩ := Int.eq_ofNat_of_zero_le hs0
    have HV := Lib.hid (hnV_yes hb)
    have h5 := net_le hn hp0
    have hp : (2 ^ ps.length : Nat) ≤ 32 := Nat.pow_le_pow_right (n := 2) (by decide) h5
    have hlr := lhS_range ps m
    have HHe := Lib.hid (fun W => by
      have := heldIn_ok ⟨(hlT m (lhS ps m) ps.length).toArray⟩ W (by rw [hl_size]; omega)
      rw [hl_size, show (⟨(hlT m (lhS ps m) ps.length).toArray⟩ : ByteArray).data.toList = hlT m (lhS ps m) ps.length from rfl, heldTo_set hlr] at this
      exact this)
    have HSz := Lib.hid (fun W => OnesCount_ok (lhS ps m) W (by omega))
    have hwr : IntKind.u64.wrap ((lhS ps m : Nat) : Int) = ((lhS ps m : Nat) : Int) := by rw [IntKind.wrap_u64]; omega
    rw [hb, lhT_yes hb] at HO
    clear hb hn hs0 hs1
    generalize (⟨(hlT m (lhS ps m) ps.length).toArray⟩ : ByteArray) = u at HO HHe
    go_enter Tryd.func75, Tryd.ntmps75
    go_wp2_with fail
    refine HO.out.mono ?_
    rintro e w1 ⟨rfl, b1⟩
    go_wp2_with fail
    refine (HHe.out _).mono ?_
    rintro e w2 ⟨rfl, rfl⟩
    go_wp2_with fail
    refine (HSz.out _).mono ?_
    rintro e w2 ⟨rfl, rfl⟩
    go_wp2_with fail
    go_ret
    exact ⟨congrArg (fun x => Ending.returned (.int .i64 x)) HV.out.symm, b1⟩

end Go.Proofs.YtjkgcgbialiipaaDoor
/- EasiestPoint on both sides, and the law FnExactEasiestPoint. -/
namespace Go.Proofs.YtjkgcgbialiipaaDoor
open Go.RowKit

/-- The best of the first k points. -/
def epTo (H : Int → Int) (zs : List Int) : Nat → Int
  | 0 => -1
  | k + 1 => if epTo H zs k < 0 ∨ H (gI zs k) < H (epTo H zs k) then gI zs k else epTo H zs k
theorem epTo_take {H : Int → Int} {zs : List Int} {k : Nat} (h : epTo H zs k < 0 ∨ H (gI zs k) < H (epTo H zs k)) : epTo H zs (k + 1) = gI zs k := by rw [epTo, if_pos h]
theorem epTo_keep {H : Int → Int} {zs : List Int} {k : Nat} (h : ¬ (epTo H zs k < 0 ∨ H (gI zs k) < H (epTo H zs k))) : epTo H zs (k + 1) = epTo H zs k := by rw [epTo, if_neg h]
/-- What EasiestPoint gives. -/
noncomputable def epV (ps : List ByteArray) : Int := epTo (hnV ps) (fpV ps) (fpV ps).length

set_option maxHeartbeats 1000000 in
theorem epS_ok (t : ByteArray) (w : World) (hs : t.size ≤ 1048576) :
    Calls Tryd.prog 81 #[.string t] w fun e w' => e = .returned (.int .i64 (epV (cutsP 44 t))) ∧ Below w.heap.size w w' := by
  have HF := Lib.hid (fpS_ok t w hs)
  have HH := Lib.hid (fun s W => hnS_ok t s W hs)
  have hlen := fpV_len (cutsP 44 t) (cutsP_pos 44 t)
  have HE : Hid (epV (cutsP 44 t) = epTo (hnV (cutsP 44 t)) (fpV (cutsP 44 t)) (fpV (cutsP 44 t)).length) := rfl
  generalize epV (cutsP 44 t) = E at HE ⊢
  generalize fpV (cutsP 44 t) = zs at HF hlen HE
  generalize hnV (cutsP 44 t) = H at HH HE
  go_enter Tryd.func81, Tryd.ntmps81
  go_wp2_with fail
  refine HF.out.mono ?_
  rintro e w1 ⟨v, rfl, o1, b1⟩
  obtain ⟨a, c, rfl, q1⟩ := o1.out
  have R1 := Lib.hid q1.rowI
  have B1 := Lib.hid b1
  clear o1 b1 q1
  go_wp2_with fail
  go_loopw [4, 5] (fun b i wr => ∃ k : Nat, k ≤ zs.length ∧ i = .int .i64 k ∧ b = .int .i64 (epTo H zs k) ∧ Below w1.heap.size w1 wr) (fun _ i _ => zs.length - (intOf i).toNat)
  case atStart => exact ⟨0, Nat.zero_le _, rfl, rfl, Below.refl _ _⟩
  case round =>
    obtain ⟨k, hk, rfl, rfl, hb⟩ := hrel
    have HB := Lib.hid hb
    by_cases hlt : k < zs.length
    · obtain ⟨q, o, rfl, hbo⟩ := R1.out.2.some (by omega)
      have hcx := (R1.out.below hb (Nat.le_refl _)).2.cell q o rfl k hlt
      have hlt' : (k : Int) < (zs.length : Int) := by omega
      clear hb
      by_cases h0 : epTo H zs k < 0
      · have HN := Lib.hid (epTo_take (.inl h0))
        generalize gI zs k = z at hcx HN
        generalize epTo H zs k = y at h0
        go_wp2_with fail
        go_roundw
        case rel => exact ⟨k + 1, by omega, by go_num, by rw [HN.out], HB.out⟩
        case measure => simp [intOf]; omega
      · by_cases h1 : H (gI zs k) < H (epTo H zs k)
        · have HN := Lib.hid (epTo_take (.inr h1))
          generalize gI zs k = z at hcx HN h1
          generalize epTo H zs k = y at h0 h1
          have HHz := Lib.hid (HH.out z)
          have HHy := Lib.hid (HH.out y)
          generalize H z = hz at h1 HHz
          generalize H y = hy at h1 HHy
          go_wp2_with fail
          refine (HHz.out _).mono ?_
          rintro e w2 ⟨rfl, b2⟩
          have C2 := Lib.hid (HB.out.trans (b2.mono HB.out.size))
          have hcx2 := (b2.cell (p := ⟨q, o + k, none⟩) (World.block_lt_of_cell? wr ⟨q, o + k, none⟩ hcx)).trans hcx
          clear b2
          go_wp2_with fail
          refine (HHy.out _).mono ?_
          rintro e w3 ⟨rfl, b3⟩
          have C3 := Lib.hid (C2.out.trans (b3.mono C2.out.size))
          have hcx3 := (b3.cell (p := ⟨q, o + k, none⟩) (World.block_lt_of_cell? w2 ⟨q, o + k, none⟩ hcx2)).trans hcx2
          clear b3 hcx hcx2
          go_wp2_with fail
          go_roundw
          case rel => exact ⟨k + 1, by omega, by go_num, by rw [HN.out], C3.out⟩
          case measure => simp [intOf]; omega
        · have HN := Lib.hid (epTo_keep (H := H) (zs := zs) (k := k) (fun h => h.elim h0 h1))
          generalize gI zs k = z at hcx h1
          generalize epTo H zs k = y at h0 h1 HN
          have HHz := Lib.hid (HH.out z)
          have HHy := Lib.hid (HH.out y)
          generalize H z = hz at h1 HHz
          generalize H y = hy at h1 HHy
          go_wp2_with fail
          refine (HHz.out _).mono ?_
          rintro e w2 ⟨rfl, b2⟩
          have C2 := Lib.hid (HB.out.trans (b2.mono HB.out.size))
          clear b2
          go_wp2_with fail
          refine (HHy.out _).mono ?_
          rintro e w3 ⟨rfl, b3⟩
          have C3 := Lib.hid (C2.out.trans (b3.mono C2.out.size))
          clear b3
          go_wp2_with fail
          go_roundw
          case rel => exact ⟨k + 1, by omega, by go_num, by rw [HN.out], C3.out⟩
          case measure => simp [intOf]; omega
    · obtain rfl : k = zs.length := by omega
      go_wp2_with fail
      go_ret
      exact ⟨reti HE.out.symm, B1.out.trans (HB.out.mono B1.out.size)⟩

set_option maxHeartbeats 1000000 in
theorem epI_ok (t : ByteArray) (w : World) (hs : t.size ≤ 1048576) (hm : MaxLenIs w) :
    Calls Tryd.prog 80 #[.string t] w fun e w' => e = .returned (.int .i64 (epV (cutsP 44 t))) ∧ Below w.heap.size w w' := by
  have HF := Lib.hid (fpI_ok t w hs hm)
  have HH := Lib.hid (fun s W (hW : Below w.heap.size w W) => hnI_ok t s W hs (hm.below hW (Nat.le_refl _)))
  have hlen := fpV_len (cutsP 44 t) (cutsP_pos 44 t)
  have HE : Hid (epV (cutsP 44 t) = epTo (hnV (cutsP 44 t)) (fpV (cutsP 44 t)) (fpV (cutsP 44 t)).length) := rfl
  clear hm
  generalize epV (cutsP 44 t) = E at HE ⊢
  generalize fpV (cutsP 44 t) = zs at HF hlen HE
  generalize hnV (cutsP 44 t) = H at HH HE
  go_enter Tryd.func80, Tryd.ntmps80
  go_wp2_with fail
  refine HF.out.mono ?_
  rintro e w1 ⟨v, rfl, o1, b1⟩
  obtain ⟨a, c, rfl, q1⟩ := o1.out
  have R1 := Lib.hid q1.rowI
  have B1 := Lib.hid b1
  clear o1 b1 q1
  go_wp2_with fail
  go_loopw [3, 9] (fun b i wr => ∃ k : Nat, k ≤ zs.length ∧ i = .int .i64 k ∧ b = .int .i64 (epTo H zs k) ∧ Below w1.heap.size w1 wr) (fun _ i _ => zs.length - (intOf i).toNat)
  case atStart => exact ⟨0, Nat.zero_le _, rfl, rfl, Below.refl _ _⟩
  case round =>
    obtain ⟨k, hk, rfl, rfl, hb⟩ := hrel
    have HB := Lib.hid hb
    by_cases hlt : k < zs.length
    · obtain ⟨q, o, rfl, hbo⟩ := R1.out.2.some (by omega)
      have hcx := (R1.out.below hb (Nat.le_refl _)).2.cell q o rfl k hlt
      have hlt' : (k : Int) < (zs.length : Int) := by omega
      clear hb
      by_cases h0 : epTo H zs k < 0
      · have HN := Lib.hid (epTo_take (.inl h0))
        generalize gI zs k = z at hcx HN
        generalize epTo H zs k = y at h0
        go_wp2_with fail
        go_roundw
        case rel => exact ⟨k + 1, by omega, by go_num, by rw [HN.out], HB.out⟩
        case measure => simp [intOf]; omega
      · by_cases h1 : H (gI zs k) < H (epTo H zs k)
        · have HN := Lib.hid (epTo_take (.inr h1))
          generalize gI zs k = z at hcx HN h1
          generalize epTo H zs k = y at h0 h1
          have HHz := Lib.hid (HH.out z)
          have HHy := Lib.hid (HH.out y)
          generalize H z = hz at h1 HHz
          generalize H y = hy at h1 HHy
          go_wp2_with fail
          refine (HHz.out _ (B1.out.trans (HB.out.mono B1.out.size))).mono ?_
          rintro e w2 ⟨rfl, b2⟩
          have C2 := Lib.hid (HB.out.trans (b2.mono HB.out.size))
          clear b2
          go_wp2_with fail
          refine (HHy.out _ (B1.out.trans (C2.out.mono B1.out.size))).mono ?_
          rintro e w3 ⟨rfl, b3⟩
          have C3 := Lib.hid (C2.out.trans (b3.mono C2.out.size))
          clear b3
          go_wp2_with fail
          go_roundw
          case rel => exact ⟨k + 1, by omega, by go_num, by rw [HN.out], C3.out⟩
          case measure => simp [intOf]; omega
        · have HN := Lib.hid (epTo_keep (H := H) (zs := zs) (k := k) (fun h => h.elim h0 h1))
          generalize gI zs k = z at hcx h1
          generalize epTo H zs k = y at h0 h1 HN
          have HHz := Lib.hid (HH.out z)
          have HHy := Lib.hid (HH.out y)
          generalize H z = hz at h1 HHz
          generalize H y = hy at h1 HHy
          go_wp2_with fail
          refine (HHz.out _ (B1.out.trans (HB.out.mono B1.out.size))).mono ?_
          rintro e w2 ⟨rfl, b2⟩
          have C2 := Lib.hid (HB.out.trans (b2.mono HB.out.size))
          clear b2
          go_wp2_with fail
          refine (HHy.out _ (B1.out.trans (C2.out.mono B1.out.size))).mono ?_
          rintro e w3 ⟨rfl, b3⟩
          have C3 := Lib.hid (C2.out.trans (b3.mono C2.out.size))
          clear b3
          go_wp2_with fail
          go_roundw
          case rel => exact ⟨k + 1, by omega, by go_num, by rw [HN.out], C3.out⟩
          case measure => simp [intOf]; omega
    · obtain rfl : k = zs.length := by omega
      go_wp2_with fail
      go_ret
      exact ⟨reti HE.out.symm, B1.out.trans (HB.out.mono B1.out.size)⟩

end Go.Proofs.YtjkgcgbialiipaaDoor
/- Walks: the orbit of a state; the longest tail. -/
namespace Go.Proofs.YtjkgcgbialiipaaDoor
open Go.RowKit

/-- Marks: which of the first states a state is, counted from 1. -/
def mkN (f : Nat → Nat) (s : Nat) : Nat → Nat → Nat
  | 0, _ => 0
  | L + 1, x => if itN f s L = x then L + 1 else mkN f s L x
theorem mkN_zero {f : Nat → Nat} {s x : Nat} : ∀ {L}, mkN f s L x = 0 → ∀ i, i < L → itN f s i ≠ x
  | 0, _, i, hi => absurd hi (Nat.not_lt_zero _)
  | L + 1, h, i, hi => by
    rw [mkN] at h
    split at h
    · cases h
    · rename_i hne
      by_cases e : i = L
      · rw [e]; exact hne
      · exact mkN_zero h i (by omega)
theorem mkN_pos {f : Nat → Nat} {s x : Nat} : ∀ {L t}, mkN f s L x = t + 1 → t < L ∧ itN f s t = x
  | 0, t, h => by cases h
  | L + 1, t, h => by
    rw [mkN] at h
    split at h
    · rename_i he
      have : t = L := by omega
      subst this
      exact ⟨Nat.lt_succ_self _, he⟩
    · have := mkN_pos h
      exact ⟨by omega, this.2⟩
theorem mkN_le (f : Nat → Nat) (s x : Nat) : ∀ L, mkN f s L x ≤ L
  | 0 => Nat.le_refl _
  | L + 1 => by
    rw [mkN]
    split
    · exact Nat.le_refl _
    · have := mkN_le f s x L; omega
def mkL (f : Nat → Nat) (s L : Nat) : List Int := (List.range 32).map fun x => ((mkN f s L x : Nat) : Int)
theorem mkL_len (f : Nat → Nat) (s L : Nat) : (mkL f s L).length = 32 := by simp [mkL]
theorem mkL_get {f : Nat → Nat} {s L x : Nat} (h : x < 32) : gI (mkL f s L) x = ((mkN f s L x : Nat) : Int) := by simp [mkL, gI, List.getD, h]
theorem mkL_zero (f : Nat → Nat) (s : Nat) : mkL f s 0 = List.replicate 32 0 := by simp [mkL, mkN, List.map_const']
theorem mkL_set {f : Nat → Nat} {s L x : Nat} (h : itN f s L = x) : (mkL f s L).set x ((L + 1 : Nat) : Int) = mkL f s (L + 1) := by
  apply List.ext_getElem?
  intro i
  by_cases hi : i < 32
  · rw [List.getElem?_set]
    by_cases e : x = i
    · subst e
      rw [if_pos rfl, if_pos (by rw [mkL_len]; exact hi)]
      simp [mkL, hi, mkN, h]
    · rw [if_neg e]
      have : ¬ itN f s L = i := fun h2 => e (h.symm.trans h2)
      simp [mkL, hi, mkN, this]
  · rw [List.getElem?_eq_none (by simp [mkL]; omega), List.getElem?_eq_none (by simp [mkL]; omega)]
def orL (f : Nat → Nat) (s L : Nat) : List Int := (List.range L).map fun i => ((itN f s i : Nat) : Int)
theorem orL_len (f : Nat → Nat) (s L : Nat) : (orL f s L).length = L := by simp [orL]
theorem orL_next (f : Nat → Nat) (s L : Nat) : orL f s (L + 1) = orL f s L ++ [((itN f s L : Nat) : Int)] := by simp [orL, List.range_succ]
theorem orL_get {f : Nat → Nat} {s L i : Nat} (h : i < L) : gI (orL f s L) i = ((itN f s i : Nat) : Int) := by simp [orL, gI, List.getD, h]
def lenV : Value → Nat | .slice _ n _ => n | _ => 0
/-- The states from one on, until one comes again: so many, and where it comes again. -/
def Orb (f : Nat → Nat) (s L t : Nat) : Prop := t < L ∧ itN f s L = itN f s t ∧ ∀ i j, i < j → j < L → itN f s i ≠ itN f s j
/-- So many different states. -/
def DisN (f : Nat → Nat) (s L : Nat) : Prop := ∀ i j, i < j → j < L → itN f s i ≠ itN f s j
theorem DisN.next {f : Nat → Nat} {s L : Nat} (h : DisN f s L) (h0 : mkN f s L (itN f s L) = 0) : DisN f s (L + 1) := fun i j hij hj => by
  by_cases e : j = L
  · subst e; exact mkN_zero h0 i hij
  · exact h i j hij (by omega)
theorem DisN.le {f : Nat → Nat} {n s L : Nat} (hf : ∀ k, k < n → f k < n) (hs : s < n) (h : DisN f s L) : L ≤ n := by
  have := nodup_le n ((List.range L).map (itN f s)) (map_nodup L fun i j hi hj => h i j hi hj) (fun x hx => by
    obtain ⟨i, _, rfl⟩ := List.mem_map.1 hx
    exact itN_lt hf hs i)
  simpa using this

theorem Blk.grownLow {w w1 : World} {g : Nat} {t : TypeId} {cs : List Value} {row : Option Nat} (h : Blk w g t cs) (hg : w.grownBy w1 row) (hne : some g ≠ row) : Blk w1 g t cs := by
  have := h.lt
  unfold Blk at h ⊢
  rw [hg.block g this hne]
  exact h
theorem OwnI.setLow {w : World} {B : Nat} {v : Value} {zs : List Int} {p : Addr} (h : OwnI w B v zs) (hp : p.block < B) (u : Value) : OwnI (w.setCell p u) B v zs := by
  obtain ⟨h0, h1 | ⟨g, cap, cur, e, hg, hh, h2⟩⟩ := h
  · exact ⟨h0, .inl h1⟩
  · exact ⟨h0, .inr ⟨g, cap, cur, e, hg, (Below.heap_setCell _ _ _ _ (by omega)).trans hh, h2⟩⟩
theorem outI_base {w : World} {B B' : Nat} {ao : Option Addr} {n c : Nat} {zs : List Int} (h : OutI w B ao n c zs) (hB : B' ≤ B) : OutI w B' ao n c zs := ⟨h.1, h.2.row, fun a e => Nat.le_trans hB (h.2.own a e), h.2.lt, h.2.free⟩
theorem outI_drewN {w : World} {B : Nat} {ao : Option Addr} {n c : Nat} {zs : List Int} (h : OutI w B ao n c zs) (k : Nat) : OutI (w.drewN k) B ao n c zs := ⟨h.1, ⟨h.2.row.le, h.2.row.cap, h.2.row.nil, h.2.row.some, h.2.row.cell⟩, h.2.own, h.2.lt, h.2.free⟩
theorem below_dn {B : Nat} {a w : World} (h : Below B a w) (n : Nat) : Below B a (w.drewN n) := ⟨h.os, h.tape, h.output, h.size, h.block⟩
theorem ints_set (zs : List Int) (i : Nat) (x : Int) : (ints zs).set i (.int .i64 x) = ints (zs.set i x) := by simp [ints, List.map_set]
set_option maxRecDepth 100000 in
set_option maxHeartbeats 4000000 in
theorem orbit_ok (ao : Option Addr) (c : Nat) (ps : List ByteArray) (s : Nat) (w : World) (h : RowN w ao ps.length c ps.length (bitsN ps ps.length)) (hn : netB ps = true) (h5 : ps.length ≤ 5) (hs : s < 2 ^ ps.length) :
    Calls Tryd.prog 128 #[.slice ao ps.length c, .int .i64 s] w fun e w' => ∃ a L t, e = .returned (.tuple #[.slice a L L, .int .i64 (t : Nat)]) ∧ Orb (fun s => allTo ps s ps.length) s L t ∧ L ≤ 2 ^ ps.length ∧ OutI w' w.heap.size a L L (orL (fun s => allTo ps s ps.length) s L) ∧ Below w.heap.size w w' := by
  have hp : (2 ^ ps.length : Nat) ≤ 32 := Nat.pow_le_pow_right (n := 2) (by decide) h5
  have HSt := Lib.hid (fun s W (hW : Below w.heap.size w W) (hs : s < 2 ^ ps.length) => step_ok ao c ps s W (h.below hW (Nat.le_refl _)) hn h5 hs)
  have HLt := Lib.hid (fun i => itN_lt (f := fun s => allTo ps s ps.length) (n := 2 ^ ps.length) (fun k _ => allTo_lt hn h5 k) hs i)
  have HDi := Lib.hid (fun L (hd : DisN (fun s => allTo ps s ps.length) s L) => hd.le (n := 2 ^ ps.length) (fun k _ => allTo_lt hn h5 k) hs)
  have HNx := Lib.hid (fun L => show allTo ps (itN (fun s => allTo ps s ps.length) s L) ps.length = itN (fun s => allTo ps s ps.length) s (L + 1) from rfl)
  clear h hn h5
  generalize (2 ^ ps.length : Nat) = N at hp HSt HLt HDi hs
  go_enter Tryd.func128, Tryd.ntmps128
  go_wp2_with fail
  go_loopw [1, 7] (fun x v wr => ∃ L : Nat, x = .int .i64 (itN (fun s => allTo ps s ps.length) s L : Nat) ∧ DisN (fun s => allTo ps s ps.length) s L ∧ lenV v = L ∧ OwnI wr (w.heap.size + 1) v (orL (fun s => allTo ps s ps.length) s L) ∧ Blk wr w.heap.size 161 (ints (mkL (fun s => allTo ps s ps.length) s L)) ∧ Below w.heap.size w wr) (fun _ v _ => 33 - lenV v)
  case atStart => exact ⟨0, rfl, fun i j _ hj => absurd hj (Nat.not_lt_zero _), rfl, OwnI.nil _ _, by rw [mkL_zero]; exact Blk.new w 161 (ints (List.replicate 32 0)), (Below.refl _ _).alloc (Nat.le_refl _) _⟩
  case round =>
    obtain ⟨L, rfl, hd, hv, ho, hk, hb⟩ := hrel
    have HD := Lib.hid hd
    have HB := Lib.hid hb
    have HK := Lib.hid hk
    have hLN := HDi.out L hd
    have hx := HLt.out L
    have hmk := mkN_le (fun s => allTo ps s ps.length) s (itN (fun s => allTo ps s ps.length) s L) L
    have HM0 := Lib.hid (fun h => hd.next h)
    have HMp := Lib.hid (fun t => mkN_pos (f := fun s => allTo ps s ps.length) (s := s) (x := itN (fun s => allTo ps s ps.length) s L) (L := L) (t := t))
    have hcx := hk.cell (i := itN (fun s => allTo ps s ps.length) s L) (ints_get _ _ (by rw [mkL_len]; omega))
    rw [mkL_get (by omega)] at hcx
    have HSet := Lib.hid (mkL_set (f := fun s => allTo ps s ps.length) (s := s) (L := L) rfl)
    have HNxL := Lib.hid (orL_next (fun s => allTo ps s ps.length) s L)
    have HSx := Lib.hid (fun W hW => HSt.out (itN (fun s => allTo ps s ps.length) s L) W hW hx)
    rw [HNx.out L] at HSx
    have hlw := HK.out.lt
    obtain ⟨oa, oc, e, q, hsp⟩ := ho.outC
    have hol := orL_len (fun s => allTo ps s ps.length) s L
    rw [hol] at e q
    subst e
    have HO := Lib.hid ho
    have HQ := Lib.hid q
    have HSp := Lib.hid hsp
    have hzw : (((orL (fun s => allTo ps s ps.length) s L).length + 1) * 8 : Nat) ≤ 140737488355328 := by rw [hol]; omega
    have HZw := Lib.hid hzw
    have hxl : itN (fun s => allTo ps s ps.length) s L < 32 := by omega
    clear hd ho hk hb hv q hsp hzw hol
    by_cases h0 : mkN (fun s => allTo ps s ps.length) s L (itN (fun s => allTo ps s ps.length) s L) = 0
    · rw [h0] at hcx
      have HD1 := Lib.hid (HM0.out h0)
      have hL1 := HDi.out (L + 1) HD1.out
      have HZl : Hid ((orL (fun s => allTo ps s ps.length) s L ++ [((itN (fun s => allTo ps s ps.length) s L : Nat) : Int)]).length = L + 1) := by unfold Hid; simp [orL_len]
      have HGx : Hid ((ints (mkL (fun s => allTo ps s ps.length) s L))[itN (fun s => allTo ps s ps.length) s L]? = some (.int .i64 (0 : Nat))) := by
        unfold Hid
        rw [ints_get _ _ (by rw [mkL_len]; exact hxl), mkL_get hxl, h0]
      clear hmk h0 HM0 HMp
      obtain ⟨y, hy⟩ : ∃ y, itN (fun s => allTo ps s ps.length) s (L + 1) = y := ⟨_, rfl⟩
      rw [hy] at HSx
      have HY := Lib.hid hy
      clear hy
      generalize itN (fun s => allTo ps s ps.length) s L = x at *
      have hxw : (x : Int) < 32 := by omega
      generalize orL (fun s => allTo ps s ps.length) s L = zs at *
      go_wp2_with (at_builtin; refine wpList_appI (OwnI.alloc HO.out _) (RowI.one _ _) rfl _ _ rfl rfl rfl HZw.out (by have := HB.out.size; simp; omega) ?_; intro v6 w6 o6 g6; obtain ⟨a6, c6, e6, q6, sp6⟩ := o6.outC; rw [HZl.out] at e6 q6; subst e6; have k6 := (HK.out.alloc (.cells #[.int .i64 (x : Int)] 3)).grownLow g6 (fun e2 => by have := (World.ownsRow.lt HO.out _ e2.symm).1; omega); have hc6 := k6.cell (i := x) (HGx.out); have hf6 := k6.free x; have C6 := Lib.hid ((HB.out.alloc HB.out.size (.cells #[.int .i64 (x : Int)] 3)).grown g6 (by have := HB.out.size; simp; omega) (fun j hj => by have := (World.ownsRow.lt HO.out j hj).1; omega)); have K6 := Lib.hid k6; have O6 := Lib.hid o6; clear k6 g6 o6 q6 sp6)
      have D6 := Lib.hid (C6.out.setCell (p := ⟨w.heap.size, x, none⟩) (Nat.le_refl _) (.int .i64 ((L : Int) + 1)))
      refine (HSx.out _ D6.out).mono ?_
      rintro e w7 ⟨rfl, b7⟩
      have K7 := Lib.hid ((K6.out.set x (.int .i64 ((L : Int) + 1))).below b7 (K6.out.set x _).lt)
      have O7 := Lib.hid ((O6.out.setLow (p := ⟨w.heap.size, x, none⟩) (Nat.lt_succ_self _) (.int .i64 ((L : Int) + 1))).belowD b7 (Nat.le_refl _))
      have B7 := Lib.hid (D6.out.trans (b7.mono D6.out.size))
      clear b7
      go_wp2_with fail
      go_roundw
      case rel => exact ⟨L + 1, by rw [HY.out], HD1.out, rfl, by rw [HNxL.out]; exact O7.out, by have := K7.out; rw [ints_set, show ((L : Int) + 1) = ((L + 1 : Nat) : Int) by omega, HSet.out] at this; exact this, B7.out⟩
      case measure => simp [lenV]; omega
    · have hp1 : 0 < mkN (fun s => allTo ps s ps.length) s L (itN (fun s => allTo ps s ps.length) s L) := by omega
      obtain ⟨t, ht⟩ : ∃ t, mkN (fun s => allTo ps s ps.length) s L (itN (fun s => allTo ps s ps.length) s L) = t + 1 := ⟨_, (Nat.succ_pred_eq_of_pos hp1).symm⟩
      have hm := HMp.out t ht
      have HOb : Hid (Orb (fun s => allTo ps s ps.length) s L t) := ⟨hm.1, hm.2.symm, HD.out⟩
      rw [ht] at hcx
      clear hmk h0 HM0 HMp hm ht hp1
      generalize itN (fun s => allTo ps s ps.length) s L = x at hcx hxl hx ⊢
      have hxw : (x : Int) < 32 := by omega
      have hne : (((t + 1 : Nat) : Int) == 0) = false := by rw [beq_eq_false_iff_ne]; omega
      have htl : t < L := HOb.out.1
      have hwt : IntKind.i64.wrap (t : Int) = (t : Int) := wraps_i64 _ (by omega) (by omega)
      have HClp := Lib.hid (fun W => ClipI_ok oa L oc W HQ.out.2.row.le HQ.out.2.row.cap HQ.out.2.row.nil HSp.out)
      go_wp2_with fail
      go_quiet ((go_at_call 111; exact Calls.quiet_of_same (sameW (HClp.out _))))
      go_wp2_with fail
      go_ret2
      exact ⟨oa, L, t, rfl, HOb.out, hLN, outI_drewN ((outI_base HQ.out (Nat.le_succ _)).clipC) _, below_dn HB.out _⟩

set_option maxHeartbeats 2000000 in
theorem ltI_ok (t : ByteArray) (w : World) (hs : t.size ≤ 1048576) (hm : MaxLenIs w) (hb : netB (cutsP 44 t) = true) :
    Calls Tryd.prog 54 #[.string t] w fun e w' => ∃ m : Nat, e = .returned (.int .i64 m) ∧ (∀ b, (∀ s L t', s < 2 ^ (cutsP 44 t).length → Orb (fun s => allTo (cutsP 44 t) s (cutsP 44 t).length) s L t' → t' ≤ b) → m ≤ b) ∧ Below w.heap.size w w' := by
  have HO := Lib.hid (readNetwork_ok t w hs hm)
  have hp0 := cutsP_pos 44 t
  generalize cutsP 44 t = ps at HO hp0 hb ⊢
  have HN := Lib.hid (netN_yes hb)
  have h5 := net_le hb hp0
  have hlen := bitsN_len ps ps.length
  have hp : (2 ^ ps.length : Nat) ≤ 32 := Nat.pow_le_pow_right (n := 2) (by decide) h5
  have HF := Lib.hid (fun ao c s W (h : RowN W ao ps.length c ps.length (bitsN ps ps.length)) (hs : s < 2 ^ ps.length) => orbit_ok ao c ps s W h hb h5 hs)
  have HSt := Lib.hid (fun ao c W => states_ok ao ps.length c W (by omega))
  rw [hb] at HO
  clear hb hm
  generalize (2 ^ ps.length : Nat) = N at hp HF HSt ⊢
  go_enter Tryd.func54, Tryd.ntmps54
  go_wp2_with fail
  refine HO.out.mono ?_
  rintro e w1 ⟨v, rfl, o1, b1⟩
  rw [HN.out] at o1
  obtain ⟨a, c, rfl, r1⟩ := o1.row (bitsN_wide ps ps.length)
  rw [hlen] at r1 ⊢
  have HF1 := Lib.hid (fun s W (hW : Below w1.heap.size w1 W) hs => HF.out a c s W (r1.below hW (Nat.le_refl _)) hs)
  have B1 := Lib.hid b1
  clear o1 r1 hlen b1
  go_wp2_with fail
  refine (HSt.out _ _ _).mono ?_
  rintro e w2 ⟨rfl, rfl⟩
  go_wp2_with fail
  go_loopw [5, 18] (fun m q wr => ∃ k a : Nat, k ≤ N ∧ q = .int .i64 k ∧ m = .int .i64 a ∧ a ≤ 32 ∧ (∀ b, (∀ s L t', s < N → Orb (fun s => allTo ps s ps.length) s L t' → t' ≤ b) → a ≤ b) ∧ Below w1.heap.size w1 wr) (fun _ q _ => N - (intOf q).toNat)
  case atStart => exact ⟨0, 0, Nat.zero_le _, rfl, rfl, Nat.zero_le _, fun _ _ => Nat.zero_le _, Below.refl _ _⟩
  case round =>
    obtain ⟨k, x, hk, rfl, rfl, hx, hxb, hbb⟩ := hrel
    have HB := Lib.hid hbb
    have HX := Lib.hid hxb
    clear hbb hxb
    by_cases hlt : k < N
    · have hlt' : (k : Int) < (N : Int) := by omega
      have HSk := Lib.hid (HF1.out k wr HB.out hlt)
      go_wp2_with fail
      refine HSk.out.mono ?_
      rintro e w3 ⟨za, L, t', rfl, ho, hL, _, b3⟩
      have C3 := Lib.hid (HB.out.trans (b3.mono HB.out.size))
      have HOb := Lib.hid ho
      have ht1 := ho.1
      clear b3 ho
      by_cases hxt : x ≤ t'
      · have hm1 : max (x : Int) (t' : Int) = (t' : Int) := by omega
        go_wp2_with fail
        go_roundw
        case rel => exact ⟨k + 1, t', by omega, by go_num, by first | rfl | (rw [hm1]), by omega, fun b h => h k L t' hlt HOb.out, C3.out⟩
        case measure => simp [intOf] <;> omega
      · have hm1 : max (x : Int) (t' : Int) = (x : Int) := by omega
        go_wp2_with fail
        go_roundw
        case rel => exact ⟨k + 1, x, by omega, by go_num, by first | rfl | (rw [hm1]), by omega, HX.out, C3.out⟩
        case measure => simp [intOf] <;> omega
    · obtain rfl : k = N := by omega
      go_wp2_with fail
      go_ret
      exact ⟨x, rfl, HX.out, B1.out.trans (HB.out.mono B1.out.size)⟩

end Go.Proofs.YtjkgcgbialiipaaDoor
/- Plain: the easiest fixed point; the blocks of a network without circuits; how long a way to a cycle is. -/
namespace Go.Proofs.YtjkgcgbialiipaaDoor
open Go.RowKit

theorem fpL_get' {ps : List ByteArray} {k i : Nat} (h : i < (fpL ps k).length) : gI (fpL ps k) i = (fpL ps k)[i] := by simp [gI, List.getD, h]
theorem fpL_mono {ps : List ByteArray} {k i j : Nat} (hij : i < j) (hj : j < (fpL ps k).length) : gI (fpL ps k) i < gI (fpL ps k) j := by
  have hp : (fpL ps k).Pairwise (· < ·) := by
    rw [fpL, List.pairwise_map]
    refine List.Pairwise.filter _ ?_
    refine List.Pairwise.imp (fun h => ?_) List.pairwise_lt_range
    omega
  rw [fpL_get' (by omega), fpL_get' hj]
  exact (List.pairwise_iff_getElem.1 hp) i j (by omega) hj hij

/-- The best of the first k points is one of them, and the first of the best. -/
theorem ep_inv {H : Int → Int} {zs : List Int} (h0 : ∀ i, i < zs.length → 0 ≤ gI zs i) : ∀ k, 0 < k → k ≤ zs.length → ∃ j, j < k ∧ epTo H zs k = gI zs j ∧ ∀ i, i < k → ¬ H (gI zs i) < H (gI zs j) ∧ (i < j → H (gI zs j) < H (gI zs i))
  | 0, h, _ => absurd h (Nat.lt_irrefl _)
  | 1, _, h => by
    refine ⟨0, by omega, epTo_take (.inl (by show (-1 : Int) < 0; decide)), fun i hi => ?_⟩
    have e : i = 0 := by omega
    subst e
    exact ⟨by omega, fun h => absurd h (Nat.lt_irrefl _)⟩
  | k + 2, _, h => by
    obtain ⟨j, hj, he, ha⟩ := ep_inv h0 (k + 1) (by omega) (by omega)
    by_cases hc : H (gI zs (k + 1)) < H (gI zs j)
    · refine ⟨k + 1, by omega, epTo_take (.inr (by rw [he]; exact hc)), fun i hi => ?_⟩
      by_cases e : i = k + 1
      · subst e
        exact ⟨by omega, fun h => absurd h (Nat.lt_irrefl _)⟩
      · have := (ha i (by omega)).1
        exact ⟨by omega, fun _ => by omega⟩
    · refine ⟨j, by omega, ?_, fun i hi => ?_⟩
      · rw [epTo_keep, he]
        rw [he]
        intro h1
        rcases h1 with h1 | h1
        · have := h0 j (by omega)
          omega
        · exact hc h1
      · by_cases e : i = k + 1
        · subst e
          exact ⟨hc, fun h => by omega⟩
        · exact ha i (by omega)

/-- What the law asks of the easiest point. -/
theorem easy_all {ps : List ByteArray} (h0 : 0 < ps.length) (hn : 0 < (fpV ps).length) :
    ∃ E : Nat, epV ps = (E : Int) ∧ (∃ i, i < (fpV ps).length ∧ gI (fpV ps) i = (E : Int)) ∧
      (∀ i, i < (fpV ps).length → ∃ x : Nat, gI (fpV ps) i = (x : Int) ∧ x < 32 ∧ ¬ hnV ps (x : Int) < hnV ps (E : Int) ∧ ¬ (x < E ∧ hnV ps (x : Int) = hnV ps (E : Int))) ∧ (flwB ps = true → hnV ps (E : Int) = 0) := by
  have hne : netB ps = true := by
    cases h : netB ps with
    | true => rfl
    | false => rw [fpV_no h] at hn; exact absurd hn (Nat.lt_irrefl _)
  have h5 := net_le hne h0
  have hp := pow_32 h5
  have hV := fpV_yes hne
  have hget : ∀ i, i < (fpV ps).length → ∃ x : Nat, gI (fpV ps) i = (x : Int) ∧ x < 2 ^ ps.length ∧ fpB ps x = true := fun i hi => by
    rw [hV] at hi ⊢
    exact fpL_get hi
  obtain ⟨j, hj, he, ha⟩ := ep_inv (H := hnV ps) (zs := fpV ps) (fun i hi => by
    obtain ⟨x, hx, _⟩ := hget i hi
    rw [hx]; omega) (fpV ps).length hn (Nat.le_refl _)
  obtain ⟨E, hE, hE2, hEf⟩ := hget j hj
  refine ⟨E, by rw [epV, he, hE], ⟨j, hj, hE⟩, fun i hi => ?_, fun hf => ?_⟩
  · obtain ⟨x, hx, hx2, _⟩ := hget i hi
    have h1 := ha i hi
    rw [hx, hE] at h1
    refine ⟨x, hx, by omega, h1.1, fun h2 => ?_⟩
    have hij : i < j := by
      refine Classical.byContradiction fun hnij => ?_
      by_cases e : i = j
      · subst e
        rw [hx] at hE
        have : x = E := by exact_mod_cast hE
        omega
      · have := fpL_mono (ps := ps) (k := 2 ^ ps.length) (i := j) (j := i) (by omega) (by rw [← hV]; exact hi)
        rw [← hV, hx, hE] at this
        omega
    have := h1.2 hij
    omega
  · obtain ⟨hn2, hc⟩ := flw_get hf
    rw [fpB, decide_eq_true_iff] at hEf
    rw [hnV_yes (by rw [stB'_in hne, stOk_iff]; omega), flow_free hn2 h5 hc hE2 hEf]
    rfl

theorem orb_tail {f : Nat → Nat} {s L t b : Nat} (h : Orb f s L t) (hf : f (itN f s b) = itN f s b) : t ≤ b := by
  have key : ∀ d, itN f s (b + d) = itN f s b := by
    intro d
    induction d with
    | zero => rfl
    | succ d ih =>
      show f (itN f s (b + d)) = _
      rw [ih, hf]
  refine Classical.byContradiction fun hb => ?_
  refine h.2.2 (t - 1) t (by omega) h.1 ?_
  rw [show t - 1 = b + (t - 1 - b) by omega, key, show t = b + (t - b) by omega, key]
theorem range_one {c N : Nat} (h : c < N) : (List.range N).filter (fun i => i == c) = [c] := by
  have key : ∀ N, (N ≤ c → (List.range N).filter (fun i => i == c) = []) ∧ (c < N → (List.range N).filter (fun i => i == c) = [c]) := by
    intro N
    induction N with
    | zero => exact ⟨fun _ => rfl, fun h => absurd h (Nat.not_lt_zero _)⟩
    | succ N ih =>
      rw [List.range_succ, List.filter_append]
      refine ⟨fun hN => ?_, fun hN => ?_⟩
      · rw [ih.1 (by omega)]
        have : ¬ N = c := by omega
        simp [this]
      · by_cases e : N = c
        · rw [ih.1 (by omega)]; simp [e]
        · rw [ih.2 (by omega)]; simp [e]
  exact (key N).2 h
/-- What the law asks of the blocks. -/
theorem flow_law {ps : List ByteArray} (h0 : 0 < ps.length) (h : flwB ps = true) :
    netB ps = true ∧ ps.length ≤ 5 ∧ nbB ps (fbV ps) = true ∧ ∃ c : Nat, fpV ps = [(c : Int)] ∧ (∀ s : Nat, s < 2 ^ ps.length → sbV ps (fbV ps) (s : Int) = (c : Int)) ∧
      ∀ s L t, s < 2 ^ ps.length → Orb (fun s => allTo ps s ps.length) s L t → t ≤ (fbV ps).length := by
  obtain ⟨hn, hc⟩ := flw_get h
  have h5 := net_le hn h0
  have hp := pow_32 h5
  have hb := flow_nb hn h5 hc h0
  have hfx := flC_fix hn h5 hc h0
  have hcl := flC_lt hn h5 (ps := ps)
  rw [fbV_yes h]
  refine ⟨hn, h5, hb, flC ps, ?_, fun s hs => ?_, fun s L t hs ho => ?_⟩
  · rw [fpV_yes hn, fpL]
    have : (List.range (2 ^ ps.length)).filter (fpB ps) = (List.range (2 ^ ps.length)).filter fun i => i == flC ps := by
      apply List.filter_congr
      intro s hs
      have hs' : s < 2 ^ ps.length := by simpa using hs
      rw [fpB]
      by_cases e : s = flC ps
      · subst e; simp [hfx]
      · have : ¬ allTo ps s ps.length = s := fun h2 => e (flC_one hn h5 hc hs' h2)
        simp [e, this]
    rw [this, range_one hcl]; rfl
  · rw [sb_yes hb (by rw [stOk_iff]; omega), runTo_all, flow_all hn h5 hc hs]
  · refine orb_tail ho ?_
    have := flow_tail hn h5 hc hcl hfx 5 0 s (Nat.two_pow_pos _) (Nat.le_trans (opn_le _ _) h5) hs (fun i _ hb => by simp at hb) (fun k i _ _ hb => by simp at hb)
    rw [this]
    exact hfx

end Go.Proofs.YtjkgcgbialiipaaDoor
/- Walks: networks without circuits, drawn. -/
namespace Go.Proofs.YtjkgcgbialiipaaDoor
open Go.RowKit

theorem setN_pw {s i v n : Nat} (hn : n ≤ 5) (hs : s < 2 ^ n) (hi : i < n) (hv : v < 2) : setN s i v < 2 ^ n := by
  have : ∀ (n : Fin 6) (s : Fin 32) (i : Fin 5) (v : Fin 2), s.val < 2 ^ n.val → i.val < n.val → setN s.val i.val v.val < 2 ^ n.val := by decide +kernel
  have h2 := Nat.pow_le_pow_right (n := 2) (by decide) hn
  exact this ⟨n, by omega⟩ ⟨s, by omega⟩ ⟨i, by omega⟩ ⟨v, hv⟩ hs hi

set_option maxHeartbeats 2000000 in
theorem l1Hold_ok (n : Nat) (t : ByteArray) (i v : Nat) (w : World) (hn : 1 ≤ n ∧ n ≤ 5) (h : DT n t) (hi : i < n) (hv : v < 2) :
    Calls Tryd.prog 170 #[.string t, .int .i64 i, .int .i64 v] w fun e w' => ∃ t', e = .returned (.string t') ∧ DT n t' ∧ Below w.heap.size w w' := by
  have hp : (2 ^ n : Nat) ≤ 32 := Nat.pow_le_pow_right (n := 2) (by decide) hn.2
  have HD : Hid (∀ zs, zs.length = t.size → bitsL zs → DT n (digT zs)) := fun zs h1 h2 => ⟨digT_dig h2, by rw [digT_size, h1, h.2]⟩
  have hz : t.size ≤ 32 := by rw [h.2]; exact hp
  have HBit := Lib.hid (fun s => byD_bit h.1 s)
  have HSt := Lib.hid (fun s (hs : s < t.size) => (show setN s i v < t.size by rw [h.2] at hs ⊢; exact setN_pw hn.2 hs hi hv))
  have HSe := Lib.hid (fun s W (hs : s < t.size) => l1Set_ok s i v W (by omega) (by omega) hv)
  clear h hp
  have O0 := Lib.hid (OwnI.lit w w.heap.size [] (Nat.le_refl _) (by decide))
  have B0 : Hid (Below w.heap.size w (w.alloc (.cells #[] 3))) := (Below.refl _ _).alloc (Nat.le_refl _) _
  go_enter Tryd.func170, Tryd.ntmps170
  go_wp2_with fail
  go_loopw [7, 8] (fun v q wr => ∃ (s : Nat) (zs : List Int), s ≤ t.size ∧ q = .int .i64 s ∧ zs.length = s ∧ OwnI wr w.heap.size v zs ∧ bitsL zs ∧ Below w.heap.size w wr) (fun _ q _ => t.size - (intOf q).toNat)
  case atStart => exact ⟨0, [], Nat.zero_le _, rfl, rfl, O0.out, bitsL.nil, B0.out⟩
  case round =>
    obtain ⟨s, zs, hs, rfl, hl, ho, hbl, hb⟩ := hrel
    have HO := Lib.hid ho
    have HBl := Lib.hid hbl
    have HB := Lib.hid hb
    have HL := Lib.hid hl
    clear ho hbl hb hl
    by_cases hkN : s < t.size
    · have hkw : (s : Int) < (t.size : Int) := by omega
      have HS1 := Lib.hid (fun W => HSe.out s W hkN)
      have hq := HSt.out s hkN
      generalize setN s i v = q at hq HS1
      have hx2 := HBit.out q
      have hAt := Lib.hid (fun W => l1At_ok t q W hq)
      generalize byD t q = x at hx2 hAt
      have hx0 : 0 ≤ x := by omega
      have hx1 : x ≤ 1 := by omega
      have HX := Lib.hid hx2
      clear hx2
      go_wp2_with fail
      refine (HS1.out _).mono ?_
      rintro e w5 ⟨rfl, rfl⟩
      go_wp2_with fail
      refine (hAt.out _).mono ?_
      rintro e w5 ⟨rfl, rfl⟩
      go_wp2_with (at_builtin; refine wpList_appI (OwnI.alloc HO.out _) (RowI.one _ _) rfl _ _ rfl rfl rfl (by have := HL.out; omega) (by have := HB.out.size; simp; omega) ?_; intro v6 w6 o6 g6)
      go_roundw
      case rel => exact ⟨s + 1, _, by omega, by go_num, by simp [HL.out], o6, HBl.out.snoc (by have := HX.out; omega), (HB.out.alloc HB.out.size _).grown g6 (by have := HB.out.size; simp; omega) (fun j hj => (World.ownsRow.lt HO.out j hj).1)⟩
      case measure => simp [intOf] <;> omega
    · obtain rfl : s = t.size := by omega
      obtain ⟨ao, c, rfl, q⟩ := HO.out.out
      have hlk := HL.out
      have HT := Lib.hid (l1Text_ok ao _ c zs wr q.rowI HBl.out (by omega))
      have HDT := Lib.hid (HD.out zs HL.out HBl.out)
      rw [hlk] at HT ⊢
      clear q hlk
      go_wp2_with fail
      refine HT.out.mono ?_
      rintro e w5 ⟨rfl, b5⟩
      go_wp2_with fail
      go_ret
      exact ⟨_, rfl, HDT.out, HB.out.trans (b5.mono HB.out.size)⟩

/-- A text is drawn. -/
def DrawT (w : World) (e : Ending) (w' : World) : Prop := ∃ u : ByteArray, e = .returned (.string u) ∧ u.size ≤ 1048576 ∧ Below w.heap.size w w'
set_option maxHeartbeats 2000000 in
theorem drawEP_ok (ao : Option Addr) (l c : Nat) (cs : List Int) (w : World) (h : RowU w ao l c cs) (hl : l ≤ 1048576) :
    Calls Tryd.prog 79 #[.slice ao l c] w (DrawT w) := by
  have HO := Lib.hid (l14Open_ok ao l c cs w h hl)
  clear h
  go_enter Tryd.func79, Tryd.ntmps79
  go_wp2_with fail
  refine HO.out.mono ?_
  rintro e w1 ⟨g, rfl, hg, r1, b1⟩
  have B1 := Lib.hid b1
  have R1 := Lib.hid r1
  clear r1 b1
  go_wp2_with fail
  refine (l7Open_ok g 0 _ R1.out (by omega)).mono ?_
  rintro e w2 ⟨u, rfl, hu, r2, d2⟩
  have D2 := Lib.hid ((DrB.ofB (g := g) B1.out).trans (d2.mono B1.out.size))
  have HU := Lib.hid hu
  clear r2 d2 hu
  go_wp2_with fail
  go_ret
  exact ⟨u, rfl, Nat.le_trans HU.out (by decide), D2.out.below hg⟩

set_option maxHeartbeats 8000000 in
theorem drawIF_ok (ao : Option Addr) (l c : Nat) (cs : List Int) (w : World) (h : RowU w ao l c cs) (hl : l ≤ 1048576) :
    Calls Tryd.prog 124 #[.slice ao l c] w (DrawT w) := by
  have HO := Lib.hid (l14Open_ok ao l c cs w h hl)
  clear h
  go_enter Tryd.func124, Tryd.ntmps124
  go_wp2_with fail
  refine HO.out.mono ?_
  rintro e w1 ⟨g, rfl, hg, r1, b1⟩
  have hgw := r1.lt
  have B1 := Lib.hid b1
  have R1 := Lib.hid r1
  have HK := Lib.hid (fun Q m W (h : Rd W g Q) (hQ : Q ≤ 1000000) (hm : m ≤ 1048576) => pick_ok g Q m W h hQ hm)
  clear r1 b1
  go_wp2_with fail
  refine (HK.out _ 2 _ R1.out (by omega) (by omega)).mono ?_
  rintro e w2 ⟨y, rfl, hy, r2, g2⟩
  have R2 := Lib.hid r2
  have D2 := Lib.hid ((DrB.ofB (g := g) B1.out).trans ((DrB.ofG g2).mono B1.out.size))
  have E2 := Lib.hid (g2.size)
  clear r2 g2
  by_cases y0 : y = 0
  · have ty : ((y : Int) == 0) = true := by rw [y0]; rfl
    clear y0 hy
    go_wp2_with fail
    refine (l7Open_ok g _ _ R2.out (by omega)).mono ?_
    rintro e w3 ⟨u, rfl, hu, r3, d3⟩
    have D3 := Lib.hid (D2.out.trans (d3.mono D2.out.size))
    have HU := Lib.hid hu
    clear r3 d3 hu
    go_wp2_with fail
    go_ret
    exact ⟨u, rfl, Nat.le_trans HU.out (by decide), D3.out.below hg⟩
  · have ty : ((y : Int) == 0) = false := by rw [beq_eq_false_iff_ne]; omega
    clear y0 hy
    go_wp2_with fail
    refine (HK.out _ 4 _ R2.out (by omega) (by omega)).mono ?_
    rintro e w3 ⟨n0, rfl, hn0, r3, g3⟩
    have R3 := Lib.hid r3
    have D3 := Lib.hid (D2.out.trans ((DrB.ofG g3).mono D2.out.size))
    have hgs : g < w3.heap.size := by have := E2.out; have := g3.size; omega
    clear r3 g3
    obtain ⟨n, hn⟩ : ∃ n, n = 1 + n0 := ⟨_, rfl⟩
    have hnw : (1 : Int) + (n0 : Int) = (n : Int) := by omega
    have hn4 : 1 ≤ n ∧ n ≤ 4 := by omega
    obtain ⟨hn1, hn4⟩ := hn4
    have hgB : w.heap.size ≤ g := hg
    have b4 : Below w3.heap.size w3 (w3.alloc (.cells #[] 9)) := (Below.refl _ _).alloc (Nat.le_refl _) _
    have R4 := Lib.hid (R3.out.below b4 (Nat.le_refl _))
    have D4 : Hid (DrB g w3.heap.size w3 (w3.alloc (.cells #[] 9))) := DrB.ofB (g := g) b4
    have O4 := Lib.hid (OwnT.lit w3 w3.heap.size [] (Nat.le_refl _) (by decide))
    clear b4 hn hn0
    go_wp2_with fail
    go_loopw [5, 6] (fun v q wr => ∃ (k : Nat) (ts : List ByteArray), k ≤ n ∧ q = .int .i64 k ∧ ts.length = k ∧ OwnT wr w3.heap.size v ts ∧ allDT n ts ∧ Rd wr g (2 + 100 * k) ∧ DrB g w3.heap.size w3 wr) (fun _ q _ => n - (intOf q).toNat)
    case atStart => exact ⟨0, [], Nat.zero_le _, rfl, rfl, O4.out, allDT.nil n, R4.out, D4.out⟩
    case round =>
      obtain ⟨k, ts, hk, rfl, hl, ho, hbl, hr, hd⟩ := hrel
      have HO := Lib.hid ho
      have HBl := Lib.hid hbl
      have HR := Lib.hid hr
      have HDr := Lib.hid hd
      have HL := Lib.hid hl
      clear ho hbl hr hd hl
      by_cases hkN : k < n
      · have hkw : (k : Int) < (n : Int) := by omega
        go_wp2_with fail
        refine (l1Draw_ok g _ n _ HR.out (by omega) (by omega)).mono ?_
        rintro e w7 ⟨t7, rfl, ht7, r7, d7⟩
        have HT7 := Lib.hid ht7
        have R7 := Lib.hid r7
        have D7 := Lib.hid (HDr.out.trans (d7.mono HDr.out.size))
        have O7 := Lib.hid (HO.out.dr d7 (Nat.le_refl _) hgs)
        clear r7 d7 ht7
        obtain ⟨ta, tc, rfl, _⟩ := O7.out.row
        go_wp2_with fail
        go_loopw [7, 8] (fun u q wi => ∃ (j : Nat) (t : ByteArray), j ≤ k + 1 ∧ q = .int .i64 j ∧ u = .string t ∧ DT n t ∧ OwnT wi w3.heap.size (.slice ta ts.length tc) ts ∧ Rd wi g (2 + 100 * k + 40 + j) ∧ DrB g w3.heap.size w3 wi) (fun _ q _ => k + 1 - (intOf q).toNat)
        case atStart => exact ⟨0, t7, Nat.zero_le _, rfl, rfl, HT7.out, O7.out, R7.out, D7.out⟩
        case round =>
          obtain ⟨j, t, hj, rfl, rfl, ht, ho, hr, hd⟩ := hrel
          have HT := Lib.hid ht
          have HOi := Lib.hid ho
          have HRi := Lib.hid hr
          have HDi := Lib.hid hd
          have hts : t.size ≤ 32 := ht.small (by omega)
          clear ht ho hr hd
          by_cases hjk : j ≤ k
          · have hjw : (j : Int) ≤ (k : Int) := by omega
            have hjn : j < n := by omega
            go_wp2_with fail
            refine (HK.out _ 2 _ HRi.out (by omega) (by omega)).mono ?_
            rintro e w8 ⟨z, rfl, hz, r8, g8⟩
            have hz2 : z < 2 := by omega
            have R8 := Lib.hid r8
            have D8 := Lib.hid (HDi.out.trans ((DrB.ofG g8).mono HDi.out.size))
            have O8 := Lib.hid (HOi.out.dr (DrB.ofG g8) (Nat.le_refl _) hgs)
            clear r8 g8 hz
            go_wp2_with fail
            refine (l1Hold_ok n t j z _ (by omega) HT.out hjn hz2).mono ?_
            rintro e w9 ⟨t9, rfl, ht9, b9⟩
            have HT9 := Lib.hid ht9
            have R9 := Lib.hid (R8.out.below b9 (Nat.le_refl _))
            have D9 := Lib.hid (D8.out.trans ((DrB.ofB b9).mono D8.out.size))
            have O9 := Lib.hid (O8.out.below b9 (Nat.le_refl _))
            clear b9 ht9
            go_wp2_with fail
            go_roundw
            case rel => exact ⟨j + 1, t9, by omega, by go_num, rfl, HT9.out, O9.out, R9.out.more (by omega), D9.out⟩
            case measure => simp [intOf] <;> omega
          · have hjw : ¬ (j : Int) ≤ (k : Int) := by omega
            obtain rfl : j = k + 1 := by omega
            have HCe := Lib.hid (fun (W : World) => (Blk.new W 9 [.string t]).cell (i := 0) rfl)
            go_wp2_with (at_builtin; refine wpList_appT (OwnT.alloc HOi.out _) (HCe.out _) rfl _ _ rfl rfl rfl (by have := HL.out; omega) (by have := HDi.out.size; simp; omega) ?_; intro vz wz oz gz)
            go_roundw
            case rel => exact ⟨k + 1, _, by omega, by go_num, by simp [HL.out], oz, HBl.out.snoc HT.out, (HOi.out.oneApp hgs HRi.out gz).more (by omega), (HDi.out.alloc HDi.out.size _).grown gz (by have := HDi.out.size; simp; omega) (fun j hj => (World.ownsRow.lt HOi.out j hj).1)⟩
            case measure => simp [intOf] <;> omega
      · obtain rfl : k = n := by omega
        obtain ⟨ao, c, rfl, q⟩ := HO.out.row
        have hlk := HL.out
        have HT := Lib.hid (l3Text_ok ao _ c ts (gT ts) wr q (fun _ _ => rfl) (fun i => Nat.le_trans (HBl.out.size (by omega) i) (by decide)) (by omega))
        have HW := Lib.hid (join_wt HBl.out (by omega) (by omega) (by omega))
        rw [hlk] at HT HW ⊢
        clear q hlk
        go_wp2_with fail
        refine HT.out.mono ?_
        rintro e w5 ⟨rfl, rfl⟩
        go_wp2_with fail
        go_ret
        exact ⟨_, rfl, Nat.le_trans HW.out.2 (by decide), (D3.out.trans (HDr.out.mono D3.out.size)).below hgB⟩

set_option maxHeartbeats 2000000 in
theorem drawFB_ok (ao : Option Addr) (l c : Nat) (cs : List Int) (w : World) (h : RowU w ao l c cs) (hl : l ≤ 1048576) :
    Calls Tryd.prog 50 #[.slice ao l c] w (DrawT w) := by
  have HO := Lib.hid (drawIF_ok ao l c cs w h hl)
  clear h
  go_enter Tryd.func50, Tryd.ntmps50
  go_wp2_with fail
  refine HO.out.mono ?_
  rintro e w1 ⟨u, rfl, hu, b1⟩
  go_wp2_with fail
  go_ret
  exact ⟨u, rfl, hu, b1⟩

end Go.Proofs.YtjkgcgbialiipaaDoor
/- Walks: FlowBlocks by the program. -/
namespace Go.Proofs.YtjkgcgbialiipaaDoor
open Go.RowKit

set_option maxHeartbeats 1000000 in
theorem ClipZ_ok (ao : Option Addr) (n c : Nat) (w : World) (hn : n ≤ c) (hc : c ≤ maxLen) (ha : ao = none → c = 0) (hs : ∀ a, ao = some a → ∃ b o, a = ⟨b, o, none⟩) :
    Calls Tryd.prog 111 #[.slice ao n c] w fun e w' => e = .returned (.slice ao n n) ∧ w = w' := by
  unfold maxLen at hc
  cases ao with
  | none =>
    obtain rfl := ha rfl
    obtain rfl : n = 0 := by omega
    go_enter Tryd.func111, Tryd.ntmps111
    go_wp2
    go_ret
    exact ⟨rfl, rfl⟩
  | some a =>
    obtain ⟨b, o, rfl⟩ := hs a rfl
    go_enter Tryd.func111, Tryd.ntmps111
    go_wp2
    go_ret
    exact ⟨rfl, rfl⟩
theorem OwnI.outZ {w : World} {B : Nat} {v : Value} {zs : List Int} (h : OwnI w B v zs) : ∃ ao c, v = .slice ao zs.length c ∧ OutI w B ao zs.length c zs ∧ (∀ a, ao = some a → ∃ b o, a = ⟨b, o, none⟩) := by
  have h0 := h
  obtain ⟨_, ⟨rfl, hn⟩ | ⟨g, cap, cur, rfl, hg, hh, hle, hm, hs, ht⟩⟩ := h
  · obtain ⟨ao, c, e, ho⟩ := h0.out
    injection e with e1 e2 e3
    exact ⟨ao, c, by rw [← e1, ← e2, ← e3], ho, fun a ha => by rw [← e1] at ha; cases ha⟩
  · obtain ⟨ao, c, e, ho⟩ := h0.out
    injection e with e1 e2 e3
    exact ⟨ao, c, by rw [← e1, ← e3], ho, fun a ha => by rw [← e1] at ha; cases ha; exact ⟨_, _, rfl⟩⟩
theorem OutI.clipZ {w : World} {B : Nat} {ao : Option Addr} {n c : Nat} {zs : List Int} (h : OutI w B ao n c zs) : OutI w B ao n n zs :=
  ⟨h.1, ⟨Nat.le_refl _, Nat.le_trans h.2.row.le h.2.row.cap, fun e => by have := h.2.row.nil e; have := h.2.row.le; omega, h.2.row.some, h.2.row.cell⟩, h.2.own, h.2.lt, h.2.free⟩

theorem outNil (w : World) (B : Nat) : OutI w B none 0 0 [] := ⟨rfl, ⟨⟨Nat.le_refl _, Nat.zero_le _, fun _ => rfl, fun h => absurd h (Nat.lt_irrefl _), fun b o e => by cases e⟩, fun a e => (by cases e), fun a e => (by cases e), fun b o e => by cases e⟩⟩
theorem OutI.baseZ {w : World} {B B' : Nat} {ao : Option Addr} {n c : Nat} {zs : List Int} (h : OutI w B ao n c zs) (hB : B' ≤ B) : OutI w B' ao n c zs := ⟨h.1, h.2.row, fun a e => Nat.le_trans hB (h.2.own a e), h.2.lt, h.2.free⟩
set_option maxRecDepth 100000 in
set_option maxHeartbeats 8000000 in
theorem fbI_ok (t : ByteArray) (w : World) (hs : t.size ≤ 1048576) (hm : MaxLenIs w) :
    Calls Tryd.prog 51 #[.string t] w fun e w' => ∃ a l, e = .returned (.tuple #[.slice a l l, .bool (flwB (cutsP 44 t))]) ∧ OutI w' w.heap.size a l l (fbV (cutsP 44 t)) ∧ Below w.heap.size w w' := by
  have HO := Lib.hid (readNetwork_ok t w hs hm)
  have hp0 := cutsP_pos 44 t
  generalize cutsP 44 t = ps at HO hp0 ⊢
  clear hm
  cases hb : netB ps with
  | false =>
    have hf : flwB ps = false := by rw [flwB, hb]; rfl
    have HV := Lib.hid (fbV_no hf)
    have HV2 := Lib.hid hf
    rw [hb] at HO
    clear hb hf
    go_enter Tryd.func51, Tryd.ntmps51
    go_wp2_with fail
    refine HO.out.mono ?_
    rintro e w1 ⟨v, rfl, o1, b1⟩
    clear o1
    go_wp2_with fail
    go_ret2
    exact ⟨none, 0, retv HV2.out.symm, by rw [HV.out]; exact outNil _ _, b1⟩
  | true =>
    have h5 := net_le hb hp0
    have HN := Lib.hid (netN_yes hb)
    have hlen := bitsN_len ps ps.length
    have HC := Lib.hid (fun ao c W h => circuits_ok ps hb h5 ao c W h)
    cases hc : cirB ps with
    | true =>
      have hf : flwB ps = false := by rw [flwB, hb, hc]; rfl
      have HV := Lib.hid (fbV_no hf)
      have HV2 := Lib.hid hf
      rw [hc] at HC
      rw [hb] at HO
      clear hb hf hc
      go_enter Tryd.func51, Tryd.ntmps51
      go_wp2_with fail
      refine HO.out.mono ?_
      rintro e w1 ⟨v, rfl, o1, b1⟩
      rw [HN.out] at o1
      obtain ⟨a, c, rfl, r1⟩ := o1.row (bitsN_wide ps ps.length)
      rw [hlen] at r1 ⊢
      have HC1 := Lib.hid (HC.out _ _ _ r1)
      have B1 := Lib.hid b1
      clear o1 r1 b1 HC hlen
      go_wp2_with fail
      refine HC1.out.mono ?_
      rintro e w2 ⟨za, zc, m, rfl, i2, l2, b2⟩
      have B2 := Lib.hid (B1.out.trans (b2.mono B1.out.size))
      have hm0 : (0 : Int) < (m : Int) := by have := i2.2 rfl; omega
      clear i2 b2
      go_wp2_with fail
      go_ret2
      exact ⟨none, 0, retv HV2.out.symm, by rw [HV.out]; exact outNil _ _, B2.out⟩
    | false =>
      have hf : flwB ps = true := by rw [flwB, hb, hc]; rfl
      obtain ⟨_, hcc⟩ := flw_get hf
      have HV := Lib.hid (fbV_yes hf)
      have HV2 := Lib.hid hf
      rw [hc] at HC
      rw [hb] at HO
      have hp : (2 ^ ps.length : Nat) ≤ 32 := Nat.pow_le_pow_right (n := 2) (by decide) h5
      have HStp := Lib.hid (fun done (hd : done < 2 ^ ps.length) (h : done ≠ 2 ^ ps.length - 1) => blk_step h5 hcc hd h)
      have HSts := Lib.hid (fun (ao : Option Addr) (c : Nat) W => states_ok ao ps.length c W (by omega))
      have HAc := Lib.hid (fun ao c i W (h : RowN W ao ps.length c ps.length (bitsN ps ps.length)) (hi : i < ps.length) => acts_ok ao c ps i W h hb h5 hi)
      have HNx := Lib.hid (fun f done (h : done ≠ 2 ^ ps.length - 1) => flF_next (ps := ps) (f := f) h)
      have HEn := Lib.hid (fun f => flF_end ps f)
      have HLt := Lib.hid (fun done (hd : done < 2 ^ ps.length) => blk_or_lt (ps := ps) hd)
      have HBl := Lib.hid (fun done => blkF_lt ps done)
      have HBt := Lib.hid (fun j k (hk : k < ps.length) => acts_bit (ps := ps) (i := j) hk)
      have hp1 : 0 < 2 ^ ps.length := Nat.two_pow_pos _
      have HAL := Lib.hid (fun j => acts_lt ps j h5)
      clear hb hf hc hcc
      generalize (2 ^ ps.length : Nat) = N at hp hp1 HStp HSts HNx HEn HLt HBl
      go_enter Tryd.func51, Tryd.ntmps51
      go_wp2_with fail
      refine HO.out.mono ?_
      rintro e w1 ⟨v, rfl, o1, b1⟩
      rw [HN.out] at o1
      obtain ⟨a, c, rfl, r1⟩ := o1.row (bitsN_wide ps ps.length)
      rw [hlen] at r1 ⊢
      have HR1 := Lib.hid r1
      have HC1 := Lib.hid (HC.out _ _ _ r1)
      have B1 := Lib.hid b1
      clear o1 r1 b1 HC hlen
      go_wp2_with fail
      refine HC1.out.mono ?_
      rintro e w2 ⟨za, zc, m, rfl, i2, l2, b2⟩
      have D2 := Lib.hid b2
      obtain rfl : m = 0 := by
        refine Classical.byContradiction fun h => ?_
        have := i2.1 (by omega)
        cases this
      clear i2 b2 l2
      have HAw := Lib.hid (fun i W (hW : Below w1.heap.size w1 W) hi => HAc.out a c i W (HR1.out.below hW (Nat.le_refl _)) hi)
      clear HAc
      go_wp2_with fail
      go_loopw [6, 7] (fun v d wr => ∃ (f done : Nat) (pre : List Int), pre ++ flF ps f done = flF ps 5 0 ∧ done < N ∧ opnN done ps.length ≤ f ∧ pre.length + f ≤ 5 ∧ d = .int .i64 done ∧ OwnI wr w1.heap.size v pre ∧ Below w1.heap.size w1 wr) (fun _ d _ => opnN (intOf d).toNat ps.length)
      case atStart => exact ⟨5, 0, [], rfl, hp1, Nat.le_trans (opn_le _ _) h5, by simp, rfl, OwnI.nil _ _, D2.out⟩
      case round =>
        obtain ⟨f, done, pre, hpre, hd, hop, hpl, rfl, ho, hb⟩ := hrel
        have HPre := Lib.hid hpre
        have HO := Lib.hid ho
        have HB := Lib.hid hb
        have HOp := Lib.hid hop
        clear hpre ho hb hop
        by_cases hlast : done = N - 1
        · have HE2 : Hid (pre = flF ps 5 0) := by
            have := HPre.out
            rw [hlast, HEn.out, List.append_nil] at this
            exact this
          have hne : ((done : Int) != ((N : Int) - 1)) = false := by rw [hlast]; simp; omega
          obtain ⟨oa, oc, rfl, q, hsp⟩ := HO.out.outZ
          have HClp := Lib.hid (fun W => ClipZ_ok oa pre.length oc W q.2.row.le q.2.row.cap q.2.row.nil hsp)
          have HQ := Lib.hid q
          clear q hsp hlast
          go_wp2_with (go_at_call 87; refine (HSts.out _ _ _).mono ?_; rintro e w4 ⟨rfl, rfl⟩)
          refine (HClp.out _).mono ?_
          rintro e w4 ⟨rfl, rfl⟩
          go_wp2_with fail
          go_ret2
          exact ⟨oa, _, retv HV2.out.symm, by rw [HV.out, ← HE2.out]; exact (HQ.out.baseZ B1.out.size).clipZ, B1.out.trans (HB.out.mono B1.out.size)⟩
        · have hne : ((done : Int) != ((N : Int) - 1)) = true := by rw [bne_iff_ne]; omega
          have HStk := Lib.hid (HStp.out done hd hlast)
          have hf0 : 0 < f := by
            have := HStk.out
            have := HOp.out
            omega
          obtain ⟨f', rfl⟩ : ∃ f', f = f' + 1 := ⟨f - 1, by omega⟩
          have HNk := Lib.hid (HNx.out f' done hlast)
          have HLk := Lib.hid (HLt.out done hd)
          have hbl := HBl.out done
          have HBe : Hid (blkF ps done = setTo (srcB (actB ps) ps.length done) ps.length) := rfl
          have hor : bits .or .i64 (done : Int) ((blkF ps done : Nat) : Int) = ((done ||| blkF ps done : Nat) : Int) := or_nat _ _ (by omega) (by omega)
          obtain ⟨oa, oc, rfl, _⟩ := HO.out.out
          clear hlast
          go_wp2_with (go_at_call 87; refine (HSts.out _ _ _).mono ?_; rintro e w4 ⟨rfl, rfl⟩)
          obtain ⟨wo, hwo⟩ : ∃ wo : World, wo = wr := ⟨_, rfl⟩
          subst hwo
          go_loopw [8, 32] (fun bl q wi => ∃ k : Nat, k ≤ ps.length ∧ q = .int .i64 k ∧ bl = .int .i64 (setTo (srcB (actB ps) ps.length done) k : Nat) ∧ OwnI wi w1.heap.size (.slice oa pre.length oc) pre ∧ Below w1.heap.size w1 wi) (fun _ q _ => ps.length - (intOf q).toNat)
          case atStart => exact ⟨0, Nat.zero_le _, rfl, rfl, HO.out, HB.out⟩
          case round =>
            obtain ⟨k, hk, rfl, rfl, ho2, hb2⟩ := hrel
            have HOk := Lib.hid ho2
            have HBk := Lib.hid hb2
            clear ho2 hb2
            by_cases hkn : k < ps.length
            · have hkw : (k : Int) < (ps.length : Int) := by omega
              have e1 : bits .and .i64 ((done : Int) / 2 ^ k) 1 = ((bN done k : Nat) : Int) := bit_int _ k (by omega) (by omega)
              have hbk := bN_tst done k
              have HSd : Hid (rdTo (actB ps) done k 0 = !done.testBit k) := rdTo_zero _ _ _
              have hor2 := or_shl (setTo (srcB (actB ps) ps.length done) k) k (setTo_lt63 _ _ (by omega)) (by omega)
              cases hdk : done.testBit k with
              | true =>
                rw [hdk, if_pos rfl] at hbk
                rw [hbk] at e1
                have hs : srcB (actB ps) ps.length done k = false := by rw [srcB, hdk]; rfl
                have HT := Lib.hid (setTo_miss hs)
                clear hbk hdk hs hor2
                go_wp2_with fail
                go_roundw
                case rel => exact ⟨k + 1, by omega, by go_num, by rw [HT.out], HOk.out, HBk.out⟩
                case measure => simp [intOf] <;> omega
              | false =>
                rw [hdk] at HSd hbk
                rw [if_neg (by decide)] at hbk
                rw [hbk] at e1
                clear hbk hdk
                go_wp2_with fail
                obtain ⟨wp, hwp⟩ : ∃ wp : World, wp = wr := ⟨_, rfl⟩
                subst hwp
                go_loopw [10, 42] (fun fr q wi => ∃ j : Nat, j ≤ ps.length ∧ q = .int .i64 j ∧ fr = .bool (rdTo (actB ps) done k j) ∧ OwnI wi w1.heap.size (.slice oa pre.length oc) pre ∧ Below w1.heap.size w1 wi) (fun _ q _ => ps.length - (intOf q).toNat)
                case atStart => exact ⟨0, Nat.zero_le _, rfl, by rw [HSd.out]; rfl, HOk.out, HBk.out⟩
                case round =>
                  obtain ⟨j, hj, rfl, rfl, ho3, hb3⟩ := hrel
                  have HOj := Lib.hid ho3
                  have HBj := Lib.hid hb3
                  clear ho3 hb3
                  by_cases hjn : j < ps.length
                  · have hjw : (j : Int) < (ps.length : Int) := by omega
                    have e2 : bits .and .i64 ((done : Int) / 2 ^ j) 1 = ((bN done j : Nat) : Int) := bit_int _ j (by omega) (by omega)
                    have hbj := bN_tst done j
                    have HRn := Lib.hid (rdTo_next (actB ps) done k j)
                    cases hr : rdTo (actB ps) done k j with
                    | false =>
                      have HR0 : Hid (rdTo (actB ps) done k (j + 1) = false) := by unfold Hid; rw [HRn.out, hr]; rfl
                      clear hr hbj
                      go_wp2_with fail
                      go_roundw
                      case rel => exact ⟨j + 1, by omega, by go_num, by rw [HR0.out], HOj.out, HBj.out⟩
                      case measure => simp [intOf] <;> omega
                    | true =>
                      cases hdj : done.testBit j with
                      | true =>
                        rw [hdj, if_pos rfl] at hbj
                        rw [hbj] at e2
                        have HR0 : Hid (rdTo (actB ps) done k (j + 1) = true) := by unfold Hid; rw [HRn.out, hr, hdj]; rfl
                        clear hr hbj hdj
                        go_wp2_with fail
                        go_roundw
                        case rel => exact ⟨j + 1, by omega, by go_num, by rw [HR0.out], HOj.out, HBj.out⟩
                        case measure => simp [intOf] <;> omega
                      | false =>
                        rw [hdj, if_neg (by decide)] at hbj
                        rw [hbj] at e2
                        have HAj := Lib.hid (HAw.out j wr HBj.out hjn)
                        have hal := HAL.out j
                        have e3 : bits .and .i64 ((actsN ps j : Int) / 2 ^ k) 1 = ((bN (actsN ps j) k : Nat) : Int) := bit_int _ k (by omega) (by omega)
                        have hb3 := HBt.out j k hkn
                        have HR0 : Hid (rdTo (actB ps) done k (j + 1) = !actB ps j k) := by unfold Hid; rw [HRn.out, hr, hdj]; simp
                        generalize actsN ps j = on at HAj hal e3 hb3
                        generalize bN on k = bk at e3 hb3
                        cases hA : actB ps j k with
                        | true =>
                          rw [hA, if_pos rfl] at hb3
                          rw [hb3] at e3
                          rw [hA] at HR0
                          clear hr hbj hdj hA hb3
                          go_wp2_with fail
                          refine HAj.out.mono ?_
                          rintro e w5 ⟨rfl, b5⟩
                          have C5 := Lib.hid (HBj.out.trans (b5.mono HBj.out.size))
                          have O5 := Lib.hid (HOj.out.belowZ b5 (Nat.le_refl _))
                          clear b5
                          go_wp2_with fail
                          go_roundw
                          case rel => exact ⟨j + 1, by omega, by go_num, by rw [HR0.out]; rfl, O5.out, C5.out⟩
                          case measure => simp [intOf] <;> omega
                        | false =>
                          rw [hA, if_neg (by decide)] at hb3
                          rw [hb3] at e3
                          rw [hA] at HR0
                          clear hr hbj hdj hA hb3
                          go_wp2_with fail
                          refine HAj.out.mono ?_
                          rintro e w5 ⟨rfl, b5⟩
                          have C5 := Lib.hid (HBj.out.trans (b5.mono HBj.out.size))
                          have O5 := Lib.hid (HOj.out.belowZ b5 (Nat.le_refl _))
                          clear b5
                          go_wp2_with fail
                          go_roundw
                          case rel => exact ⟨j + 1, by omega, by go_num, by rw [HR0.out]; rfl, O5.out, C5.out⟩
                          case measure => simp [intOf] <;> omega
                  · obtain rfl : j = ps.length := by omega
                    have he := rdTo_end (actB ps) ps.length done k
                    cases hs : srcB (actB ps) ps.length done k with
                    | false =>
                      have HT := Lib.hid (setTo_miss hs)
                      rw [hs] at he
                      simp only [he]
                      clear hs he hor2
                      go_wp2_with fail
                      go_roundw
                      case rel => exact ⟨k + 1, by omega, by go_num, by rw [HT.out], HOj.out, HBj.out⟩
                      case measure => simp [intOf] <;> omega
                    | true =>
                      have HT := Lib.hid (setTo_hit hs)
                      rw [hs] at he
                      simp only [he]
                      clear hs he
                      go_wp2_with fail
                      go_roundw
                      case rel => exact ⟨k + 1, by omega, by go_num, by rw [HT.out], HOj.out, HBj.out⟩
                      case measure => simp [intOf] <;> omega
            · obtain rfl : k = ps.length := by omega
              rw [← HBe.out]
              have HLast : Hid (pre ++ [((blkF ps done : Nat) : Int)] ++ flF ps f' (done ||| blkF ps done) = flF ps 5 0) := by
                have := HPre.out
                rw [HNk.out] at this
                rw [← this, List.append_assoc]; rfl
              generalize (done ||| blkF ps done : Nat) = d2 at hor HLk HStk HLast
              generalize (blkF ps done : Nat) = bk at hor hbl HLast
              go_wp2_with (at_builtin; refine wpList_appI (OwnI.alloc HOk.out _) (RowI.one _ _) rfl _ _ rfl rfl rfl (by omega) (by have := HBk.out.size; simp; omega) ?_; intro v6 w6 o6 g6)
              go_roundw
              case rel => exact ⟨f', d2, _, HLast.out, HLk.out, by have := HStk.out; have := HOp.out; omega, by simp; omega, rfl, o6, (HBk.out.alloc HBk.out.size _).grown g6 (by have := HBk.out.size; simp; omega) (fun j hj => (World.ownsRow.lt HOk.out j hj).1)⟩
              case measure => simp only [intOf, Int.toNat_natCast]; exact HStk.out

end Go.Proofs.YtjkgcgbialiipaaDoor
/- Walks: whether two rows are the same, by the laws' own function. -/
namespace Go.Proofs.YtjkgcgbialiipaaDoor
open Go.RowKit

set_option maxHeartbeats 1000000 in
theorem bnSame_ok (ao bo : Option Addr) (c d : Nat) (zs : List Int) (w : World) (h : RowI w ao zs.length c zs) (h' : RowI w bo zs.length d zs) :
    Calls Tryd.prog 49 #[.slice ao zs.length c, .slice bo zs.length d] w fun e w' => e = .returned (.bool true) ∧ Below w.heap.size w w' := by
  have hcap := h.2.cap
  have hle := h.2.le
  unfold maxLen at hcap
  go_enter Tryd.func49, Tryd.ntmps49
  go_wp2_with fail
  go_loopw [5] (fun q wr => ∃ k : Nat, k ≤ zs.length ∧ q = .int .i64 k ∧ Below w.heap.size w wr) (fun q _ => zs.length - (intOf q).toNat)
  case atStart => exact ⟨0, Nat.zero_le _, rfl, Below.refl _ _⟩
  case round =>
    obtain ⟨k, hk, rfl, hb⟩ := hrel
    by_cases hlt : k < zs.length
    · obtain ⟨b, o, rfl, _⟩ := h.2.some (by omega)
      obtain ⟨b', o', rfl, _⟩ := h'.2.some (by omega)
      have hc1 := (h.below hb (Nat.le_refl _)).2.cell b o rfl k hlt
      have hc2 := (h'.below hb (Nat.le_refl _)).2.cell b' o' rfl k hlt
      have hlt' : (k : Int) < (zs.length : Int) := by omega
      clear h h'
      go_wp2_with fail
      go_quiet (fail)
      go_wp2_with fail
      go_roundw
      case rel => exact ⟨k + 1, by omega, by go_num, hb.trans ⟨rfl, rfl, rfl, Nat.le_refl _, fun _ _ => rfl⟩⟩
      case measure => simp [intOf]; omega
    · obtain rfl : k = zs.length := by omega
      go_wp2_with fail
      go_ret
      exact ⟨rfl, hb⟩

end Go.Proofs.YtjkgcgbialiipaaDoor
/- The law FnFlowBlocks. -/
namespace Go.Proofs.YtjkgcgbialiipaaDoor
open Go.RowKit

theorem heldF {wr W w5 : World} {q o : Nat} {v1 : Value} (h : Below wr.heap.size wr W ∧ W.cell? ⟨q, o, none⟩ = some v1) (b : Below W.heap.size W w5) (h1 : q < wr.heap.size) :
    Below wr.heap.size wr w5 ∧ w5.cell? ⟨q, o, none⟩ = some v1 :=
  ⟨h.1.trans (b.mono h.1.size), (b.cell (p := ⟨q, o, none⟩) (Nat.lt_of_lt_of_le h1 h.1.size)).trans h.2⟩

set_option maxRecDepth 100000 in
set_option maxHeartbeats 8000000 in
theorem FnFlowBlocks_ok (ao : Option Addr) (l c : Nat) (cs : List Int) (w : World) (h : RowU w ao l c cs) (hm : MaxLenIs w) :
    Calls Tryd.prog 9 #[.slice ao l c] w fun e w' => e = .returned (.bool true) ∧ Below w.heap.size w w' := by
  go_enter Tryd.func9, Tryd.ntmps9
  by_cases hbig : 1048576 < l
  · have hbig' : (1048576 : Int) < (l : Int) := by omega
    go_wp2_with fail
    go_ret
    exact ⟨rfl, Below.refl _ _⟩
  · have hbig' : ¬ (1048576 : Int) < (l : Int) := by omega
    have HD := Lib.hid (drawFB_ok ao l c cs w h (by omega))
    have HM := Lib.hid (fun W (hW : Below w.heap.size w W) => hm.below hW (Nat.le_refl _))
    clear h hm
    go_wp2_with fail
    refine HD.out.mono ?_
    rintro e w1 ⟨u, rfl, hu, b1⟩
    have B1 := Lib.hid b1
    have HM1 := Lib.hid (fun W (hW : Below w1.heap.size w1 W) => HM.out W (B1.out.trans (hW.mono B1.out.size)))
    have HFi := Lib.hid (fun W (hW : Below w1.heap.size w1 W) => fbI_ok u W hu (HM1.out W hW))
    have HFs := Lib.hid (fun W => fbS_ok u W hu)
    have HFl := Lib.hid (fun W (hW : Below w1.heap.size w1 W) => flowI_ok u W hu (HM1.out W hW))
    have HSz := Lib.hid (fun W (hW : Below w1.heap.size w1 W) => sizeI_ok u W hu (HM1.out W hW))
    have HFp := Lib.hid (fun W (hW : Below w1.heap.size w1 W) => fpI_ok u W hu (HM1.out W hW))
    have HSb := Lib.hid (fun W bo l d zs s (hW : Below w1.heap.size w1 W) (hz : RowI W bo l d zs) (hl : l ≤ 1048576) => sbI_ok u bo l d zs s W hu hz hl (HM1.out W hW))
    have HLt := Lib.hid (fun W (hW : Below w1.heap.size w1 W) => ltI_ok u W hu (HM1.out W hW))
    have hp0 := cutsP_pos 44 u
    obtain ⟨ps, hps⟩ : ∃ ps, cutsP 44 u = ps := ⟨_, rfl⟩
    rw [hps] at HFi HFs HFl HSz HFp HSb HLt hp0
    have hz5 := fbV_len ps
    clear b1 HD hps
    cases hb : flwB ps with
    | false =>
      rw [hb] at HFi HFs HFl
      generalize fbV ps = zs at HFi HFs hz5
      clear hb
      go_wp2_with fail
      refine (HFi.out _ (Below.refl _ _)).mono ?_
      rintro e w2 ⟨a2, l2, rfl, q2, b2⟩
      obtain rfl := q2.1
      have B2 := Lib.hid b2
      have L2 := Lib.hid (fun W (hW : Below w2.heap.size w2 W) => q2.rowI.below hW (Nat.le_refl _))
      clear b2 q2
      go_wp2_with fail
      refine (HFs.out _).mono ?_
      rintro e w3 ⟨v3, rfl, o3, b3⟩
      have B3 := Lib.hid (B2.out.trans (b3.mono B2.out.size))
      have C3 := Lib.hid b3
      obtain ⟨a3, c3, rfl, q3⟩ := o3.out
      have L3 := Lib.hid (fun W (hW : Below w3.heap.size w3 W) => q3.rowI.below hW (Nat.le_refl _))
      have HBn := Lib.hid (fun W (hW : Below w3.heap.size w3 W) => bnSame_ok a2 a3 zs.length c3 zs W (L2.out W (C3.out.trans (hW.mono C3.out.size))) (L3.out W hW))
      clear b3 o3 q3
      go_wp2_with fail
      refine (HBn.out _ (Below.refl _ _)).mono ?_
      rintro e w4 ⟨rfl, b4⟩
      have D4 := Lib.hid b4
      have B4 := Lib.hid (B3.out.trans (b4.mono B3.out.size))
      clear b4
      go_wp2_with fail
      refine (HFl.out _ B4.out).mono ?_
      rintro e w5 ⟨rfl, b5⟩
      have D5 := Lib.hid (D4.out.trans (b5.mono D4.out.size))
      have B5 := Lib.hid (B4.out.trans (b5.mono B4.out.size))
      clear b5
      go_wp2_with fail
      refine (HBn.out _ D5.out).mono ?_
      rintro e w6 ⟨rfl, b6⟩
      have B6 := Lib.hid (B5.out.trans (b6.mono B5.out.size))
      clear b6
      go_wp2_with fail
      refine (HFl.out _ B6.out).mono ?_
      rintro e w7 ⟨rfl, b7⟩
      go_wp2_with fail
      go_ret
      exact ⟨rfl, B1.out.trans ((B6.out.trans (b7.mono B6.out.size)).mono B1.out.size)⟩
    | true =>
      obtain ⟨hn, h5, hnb, p, hfp, hsb, horb⟩ := flow_law hp0 hb
      have hp := pow_32 h5
      rw [hb] at HFi HFs HFl
      rw [hfp] at HFp
      rw [sizV_yes hn] at HSz
      have HSv := Lib.hid hsb
      have HOr := Lib.hid horb
      have HLn := Lib.hid (fun W hW => HLt.out W hW hn)
      have hbv : blocksV (fbV ps) (ps.length : Int) = true := by rw [← nb_yes hn]; exact hnb
      have HBv := Lib.hid (fun bo l d W (h : RowI W bo l d (fbV ps)) => bvI_ok bo l d (fbV ps) (ps.length : Int) W h)
      rw [blocks_same, hbv] at HBv
      have hpw := wrap_pow_nat ps.length (by omega)
      clear hb hn hnb hfp hsb horb hbv HLt
      generalize fbV ps = zs at HFi HFs hz5 HSv HOr HBv
      generalize (2 ^ ps.length : Nat) = N at hp hpw HSv HOr HLn
      go_wp2_with fail
      refine (HFi.out _ (Below.refl _ _)).mono ?_
      rintro e w2 ⟨a2, l2, rfl, q2, b2⟩
      obtain rfl := q2.1
      have B2 := Lib.hid b2
      have L2 := Lib.hid (fun W (hW : Below w2.heap.size w2 W) => q2.rowI.below hW (Nat.le_refl _))
      clear b2 q2
      go_wp2_with fail
      refine (HFs.out _).mono ?_
      rintro e w3 ⟨v3, rfl, o3, b3⟩
      have B3 := Lib.hid (B2.out.trans (b3.mono B2.out.size))
      have C3 := Lib.hid b3
      obtain ⟨a3, c3, rfl, q3⟩ := o3.out
      have HBn := Lib.hid (bnSame_ok a2 a3 zs.length c3 zs w3 (L2.out w3 C3.out) q3.rowI)
      clear b3 o3 q3
      go_wp2_with fail
      refine HBn.out.mono ?_
      rintro e w4 ⟨rfl, b4⟩
      have C4 := Lib.hid (C3.out.trans (b4.mono C3.out.size))
      have B4 := Lib.hid (B3.out.trans (b4.mono B3.out.size))
      clear b4
      go_wp2_with fail
      refine (HFl.out _ B4.out).mono ?_
      rintro e w5 ⟨rfl, b5⟩
      have C5 := Lib.hid (C4.out.trans (b5.mono C4.out.size))
      have B5 := Lib.hid (B4.out.trans (b5.mono B4.out.size))
      clear b5
      go_wp2_with fail
      refine (HSz.out _ B5.out).mono ?_
      rintro e w6 ⟨rfl, b6⟩
      have C6 := Lib.hid (C5.out.trans (b6.mono C5.out.size))
      have B6 := Lib.hid (B5.out.trans (b6.mono B5.out.size))
      clear b6
      go_wp2_with fail
      refine (HFp.out _ B6.out).mono ?_
      rintro e w7 ⟨v7, rfl, o7, b7⟩
      have C7 := Lib.hid (C6.out.trans (b7.mono C6.out.size))
      have B7 := Lib.hid (B6.out.trans (b7.mono B6.out.size))
      obtain ⟨qa, qc, rfl, q7⟩ := o7.out
      obtain ⟨qb, qo, rfl, hqb⟩ := q7.rowI.2.some (by simp)
      have Q7 := Lib.hid (fun W (hW : Below w7.heap.size w7 W) => (q7.rowI.below hW (Nat.le_refl _)).2.cell qb qo rfl 0 (by simp))
      have L7 := Lib.hid (fun W (hW : Below w7.heap.size w7 W) => L2.out W (C7.out.trans (hW.mono C7.out.size)))
      clear b7 o7 q7
      go_wp2_with fail
      go_loopw [10] (fun j wr => ∃ k : Nat, k ≤ N ∧ j = .int .i64 k ∧ Below w7.heap.size w7 wr) (fun j _ => N - (intOf j).toNat)
      case atStart => exact ⟨0, Nat.zero_le _, rfl, Below.refl _ _⟩
      case round =>
        obtain ⟨k, hk, rfl, hbl⟩ := hrel
        have HB := Lib.hid hbl
        clear hbl
        by_cases hkn : k < N
        · have hkw : (k : Int) < (N : Int) := by omega
          have hc1 := Q7.out wr HB.out
          rw [show gI [(p : Int)] 0 = (p : Int) from rfl, Nat.add_zero] at hc1
          have hb0 := World.block_lt_of_cell? wr ⟨qb, qo, none⟩ hc1
          have HVk := Lib.hid (fun W (hW : Below wr.heap.size wr W) => HSb.out W a2 zs.length zs.length zs (k : Int) (B7.out.trans ((HB.out.trans (hW.mono HB.out.size)).mono B7.out.size)) (L7.out W (HB.out.trans (hW.mono HB.out.size))) (by omega))
          rw [HSv.out k hkn] at HVk
          go_wp2_with fail
          go_region_held3 (fun w' => Below wr.heap.size wr w' ∧ w'.cell? ⟨qb, qo, none⟩ = some (.int .i64 p))
            (first | exact ⟨⟨rfl, rfl, rfl, Nat.le_refl _, fun _ _ => rfl⟩, hc1⟩ | exact heldF (by assumption) b5 hb0)
            ((go_at_call 16; refine (HVk.out _ ?_).mono ?_; (exact (by assumption : _ ∧ _).1); rintro e w5 ⟨rfl, b5⟩))
          have HB5 : Hid (Below wr.heap.size wr w5) := (by assumption : Below wr.heap.size wr w5 ∧ _).1
          go_wp2_with fail
          go_roundw
          case rel => exact ⟨k + 1, by omega, by go_num, HB.out.trans (HB5.out.mono HB.out.size)⟩
          case measure => simp [intOf] <;> omega
        · have hkw : ¬ (k : Int) < (N : Int) := by omega
          have HBv1 := Lib.hid (HBv.out a2 zs.length zs.length wr (L7.out wr HB.out))
          go_wp2_with fail
          refine HBv1.out.mono ?_
          rintro e w8 ⟨rfl, b8⟩
          have E8 := Lib.hid (B7.out.trans ((HB.out.trans (b8.mono HB.out.size)).mono B7.out.size))
          clear b8
          go_wp2_with fail
          refine (HLn.out _ E8.out).mono ?_
          rintro e w9 ⟨m, rfl, hmb, b9⟩
          have hmz : m ≤ zs.length := hmb _ HOr.out
          have hmw : (m : Int) ≤ (zs.length : Int) := by omega
          clear hmb
          go_wp2_with fail
          go_ret
          exact ⟨rfl, B1.out.trans ((E8.out.trans (b9.mono E8.out.size)).mono B1.out.size)⟩

end Go.Proofs.YtjkgcgbialiipaaDoor
