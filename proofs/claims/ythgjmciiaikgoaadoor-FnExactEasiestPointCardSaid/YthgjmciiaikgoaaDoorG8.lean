/- LeastHold of the reference. -/
import Derived.Test.YthgjmciiaikgoaaDoorG7
import Derived.Test.YthgjmciiaikgoaaDoorSz
namespace Go.Proofs.YthgjmciiaikgoaaDoor
open Go.RowKit

set_option maxHeartbeats 2000000 in
theorem l10Term_ok (s set n : Nat) (w : World) (hs : s < 32) (hset : set < 32) (hn : n ≤ 5) :
    Calls Tryd.prog 115 #[.int .i64 s, .int .i64 set, .int .i64 n] w fun e w' => e = .returned (.string ⟨(hlT s set n).toArray⟩) ∧ Below w.heap.size w w' := by
  have HBs := Lib.hid (fun k W (hk : k < 5) => by
    have := l1Bit_ok (set : Int) (k : Int) W (by omega) (by omega) (by omega) (by omega)
    rw [Int.toNat_natCast, Int.toNat_natCast] at this; exact this)
  have HBv := Lib.hid (fun k W (hk : k < 5) => by
    have := l1Bit_ok (s : Int) (k : Int) W (by omega) (by omega) (by omega) (by omega)
    rw [Int.toNat_natCast, Int.toNat_natCast] at this; exact this)
  have HZ : Hid (∀ k, (⟨(hlT s set k).toArray⟩ : ByteArray).size = k) := fun k => by simp [ByteArray.size, hlT_len]
  go_enter Tryd.func115, Tryd.ntmps115
  go_wp2_with fail
  go_loopw [7, 8] (fun v7 v8 wr => ∃ k : Nat, k ≤ n ∧ v8 = .int .i64 k ∧ v7 = .string ⟨(hlT s set k).toArray⟩ ∧ Below w.heap.size w wr) (fun _ v8 _ => n - (intOf v8).toNat)
  case atStart => exact ⟨0, Nat.zero_le _, rfl, rfl, Below.refl _ _⟩
  case round =>
    obtain ⟨k, hk, rfl, rfl, hb⟩ := hrel
    have HB := Lib.hid hb
    clear hb
    have hsz := HZ.out k
    by_cases hlt : k < n
    · have hlt' : (k : Int) < (n : Int) := by omega
      have HB1 := Lib.hid (fun W => HBs.out k W (by omega))
      have HB2 := Lib.hid (fun W => HBv.out k W (by omega))
      have hbl := bN_lt set k
      have hbv := bN_lt s k
      have HNx := Lib.hid (hl_next s set k)
      by_cases hh : bN set k = 1
      · have HD := Lib.hid (fun W => l14Dec_digit (bN s k) (by omega) W)
        have HP := Lib.hid (HNx.out (digS [((bN s k : Nat) : Int)]) (by rw [dig_one _ hbv, hlC_held hh]))
        have hpz : (digS [((bN s k : Nat) : Int)]).size ≤ 1 := by rw [digS_size]; simp
        rw [hh] at HB1
        generalize (⟨(hlT s set k).toArray⟩ : ByteArray) = u at hsz HP
        generalize digS [((bN s k : Nat) : Int)] = x at HP hpz HD
        clear hh
        go_wp2_with fail
        refine (HB1.out _).mono ?_
        rintro e w2 ⟨rfl, rfl⟩
        go_wp2_with fail
        refine (HB2.out _).mono ?_
        rintro e w2 ⟨rfl, rfl⟩
        go_wp2_with fail
        refine (HD.out _).mono ?_
        rintro e w3 ⟨rfl, b3⟩
        go_wp2_with fail
        go_roundw
        case rel => exact ⟨k + 1, by omega, by go_num, by rw [HP.out], HB.out.trans (b3.mono HB.out.size)⟩
        case measure => simp [intOf] <;> omega
      · have hh0 : bN set k = 0 := by omega
        have HP := Lib.hid (HNx.out ⟨#[42]⟩ (by rw [hlC_free hh0]))
        rw [hh0] at HB1
        generalize (⟨(hlT s set k).toArray⟩ : ByteArray) = u at hsz HP
        clear hh hh0
        go_wp2_with fail
        refine (HB1.out _).mono ?_
        rintro e w2 ⟨rfl, rfl⟩
        go_wp2_with fail
        go_roundw
        case rel => exact ⟨k + 1, by omega, by go_num, by rw [← HP.out], HB.out⟩
        case measure => simp [intOf] <;> omega
    · obtain rfl : k = n := by omega
      go_wp2_with fail
      go_ret
      exact ⟨rfl, HB.out⟩

set_option maxRecDepth 100000 in
set_option maxHeartbeats 4000000 in
theorem l10Least_ok (ao : Option Addr) (n c : Nat) (ps : List ByteArray) (s : Nat) (w : World) (h : RowT w ao n c ps) (hn : netB ps = true) (h5 : n ≤ 5) (hs : s < 2 ^ n) :
    Calls Tryd.prog 81 #[.slice ao n c, .int .i64 s] w fun e w' => e = .returned (.string ⟨(hlT s (lhS ps s) n).toArray⟩) ∧ Below w.heap.size w w' := by
  obtain rfl := h.1
  have hp : (2 ^ ps.length : Nat) ≤ 32 := Nat.pow_le_pow_right (n := 2) (by decide) h5
  have hp1 : 0 < (2 ^ ps.length : Nat) := Nat.two_pow_pos _
  have HAll := Lib.hid (fun W => l3All_ok ao ps.length c W h5)
  have HSz := Lib.hid (fun (m : Nat) W (hm : m < 32) => by
    have := l7Size_ok (m : Int) W (by omega) (by omega)
    rw [Int.toNat_natCast] at this; exact this)
  have HTm := Lib.hid (fun (m : Nat) W (hm : m < 32) => l10Term_ok s m ps.length W (by omega) hm h5)
  have HSp := Lib.hid (fun (m : Nat) W (hW : Below w.heap.size w W) => l6Spread_ok ao ps.length c ps ⟨(hlT s m ps.length).toArray⟩ W (h.below hW (Nat.le_refl _)) hn (by simpa using hlT_isT s m ps.length) (by simp [ByteArray.size, hlT_len]) h5)
  have HTo := Lib.hid (fun W => l3Told_ok s ps.length (by omega) h5 W)
  have HQ : Hid (∀ m, fsQ ps (hlT s m ps.length) s = ((⟨(spL ps (hlT s m ps.length)).toArray⟩ : ByteArray).toList == (digS (bitL s ps.length)).toList)) := fun m => rfl
  have HTk := Lib.hid (fun lo b (H : Best (lhE ps s) (lo + 1) (2 ^ ps.length) b) (hl : lo < 2 ^ ps.length) => lh_down_take h5 H hl)
  have HSk := Lib.hid (fun lo b (H : Best (lhE ps s) (lo + 1) (2 ^ ps.length) b) (hl : lo < 2 ^ ps.length) => lh_down_skip h5 H hl)
  have HEq := Lib.hid (fun b (H : Best (lhE ps s) 0 (2 ^ ps.length) b) => lhS_eq H)
  have HLt := Lib.hid (fun lo b (H : Best (lhE ps s) lo (2 ^ ps.length) b) => orAll_lt H (Nat.le_refl _))
  have HSt := Lib.hid (Best.start (lhE ps s) (2 ^ ps.length))
  have HO0 : Hid (orAll ps.length (-1) = 2 ^ ps.length - 1) := orAll_no _
  clear hn h
  generalize (2 ^ ps.length : Nat) = N at hp hp1 HAll HTk HSk HEq HLt HSt HO0 hs
  have hsi : s < 32 := by omega
  go_enter Tryd.func81, Tryd.ntmps81
  go_wp2_with (go_at_call 48; refine (HAll.out _).mono ?_; rintro e w2 ⟨rfl, rfl⟩)
  go_loopw [6, 7] (fun v6 v7 wr => ∃ (lo : Nat) (b : Int), lo ≤ N ∧ v7 = .int .i64 ((lo : Int) - 1) ∧ v6 = .int .i64 (orAll ps.length b : Nat) ∧ Best (lhE ps s) lo N b ∧ Below w.heap.size w wr) (fun _ v7 _ => (intOf v7 + 1).toNat)
  case atStart => exact ⟨N, -1, Nat.le_refl _, by congr 1; omega, by rw [HO0.out], HSt.out, Below.refl _ _⟩
  case round =>
    obtain ⟨lo, b, hlo, rfl, rfl, hB, hb⟩ := hrel
    have HBs := Lib.hid hB
    have HB := Lib.hid hb
    have hol := HLt.out lo b hB
    clear hB hb
    cases lo with
    | zero =>
      have HV := Lib.hid (HEq.out b HBs.out)
      have HTo2 := Lib.hid (fun W => HTm.out (orAll ps.length b) W (by omega))
      rw [HV.out] at HTo2 ⊢
      clear hol
      go_wp2_with fail
      refine (HTo2.out _).mono ?_
      rintro e w3 ⟨rfl, b3⟩
      go_wp2_with fail
      go_ret
      exact ⟨rfl, HB.out.trans (b3.mono HB.out.size)⟩
    | succ m =>
      have e1 : (((m + 1 : Nat) : Int) - 1) = (m : Int) := by omega
      rw [e1]
      clear e1
      have hm32 : m < 32 := by omega
      have hge : (0 : Int) ≤ (m : Int) := by omega
      have HS1 := Lib.hid (fun W => HSz.out m W hm32)
      have HS2 := Lib.hid (fun W => HSz.out (orAll ps.length b) W (by omega))
      have HTk1 := Lib.hid (HTk.out m b HBs.out (by omega))
      have HSk1 := Lib.hid (HSk.out m b HBs.out (by omega))
      by_cases hpp : popN m ≤ popN (orAll ps.length b)
      · have hpi : ((popN m : Nat) : Int) ≤ ((popN (orAll ps.length b) : Nat) : Int) := by omega
        have HT1 := Lib.hid (fun W => HTm.out m W hm32)
        have HSp1 := Lib.hid (fun W hW => HSp.out m W hW)
        have HQ1 := HQ.out m
        cases hq : fsQ ps (hlT s m ps.length) s with
        | false =>
          have HN := Lib.hid (HSk1.out (.inr hq))
          rw [hq] at HQ1
          clear hq hpp hol
          generalize (⟨(spL ps (hlT s m ps.length)).toArray⟩ : ByteArray) = tx at HSp1 HQ1
          generalize (⟨(hlT s m ps.length).toArray⟩ : ByteArray) = ta at HT1 HSp1
          generalize digS (bitL s ps.length) = ty at HTo HQ1
          have hbe := HQ1.symm
          clear HQ1
          go_wp2_with fail
          refine (HS1.out _).mono ?_
          rintro e w3 ⟨rfl, rfl⟩
          go_wp2_with fail
          refine (HS2.out _).mono ?_
          rintro e w3 ⟨rfl, rfl⟩
          go_wp2_with fail
          refine (HT1.out _).mono ?_
          rintro e w3 ⟨rfl, b3⟩
          have C3 := Lib.hid (HB.out.trans (b3.mono HB.out.size))
          clear b3
          go_wp2_with fail
          refine (HSp1.out _ C3.out).mono ?_
          rintro e w4 ⟨rfl, b4⟩
          have C4 := Lib.hid (C3.out.trans (b4.mono C3.out.size))
          clear b4
          go_wp2_with fail
          refine (HTo.out _).mono ?_
          rintro e w5 ⟨rfl, b5⟩
          have C5 := Lib.hid (C4.out.trans (b5.mono C4.out.size))
          clear b5
          go_wp2_with fail
          go_roundw
          case rel => exact ⟨m, b, by omega, by go_num, rfl, HN.out, C5.out⟩
          case measure => simp [intOf] <;> omega
        | true =>
          have HN := Lib.hid (HTk1.out hpp hq)
          rw [hq] at HQ1
          clear hq hpp hol
          generalize (⟨(spL ps (hlT s m ps.length)).toArray⟩ : ByteArray) = tx at HSp1 HQ1
          generalize (⟨(hlT s m ps.length).toArray⟩ : ByteArray) = ta at HT1 HSp1
          generalize digS (bitL s ps.length) = ty at HTo HQ1
          have hbe := HQ1.symm
          clear HQ1
          go_wp2_with fail
          refine (HS1.out _).mono ?_
          rintro e w3 ⟨rfl, rfl⟩
          go_wp2_with fail
          refine (HS2.out _).mono ?_
          rintro e w3 ⟨rfl, rfl⟩
          go_wp2_with fail
          refine (HT1.out _).mono ?_
          rintro e w3 ⟨rfl, b3⟩
          have C3 := Lib.hid (HB.out.trans (b3.mono HB.out.size))
          clear b3
          go_wp2_with fail
          refine (HSp1.out _ C3.out).mono ?_
          rintro e w4 ⟨rfl, b4⟩
          have C4 := Lib.hid (C3.out.trans (b4.mono C3.out.size))
          clear b4
          go_wp2_with fail
          refine (HTo.out _).mono ?_
          rintro e w5 ⟨rfl, b5⟩
          have C5 := Lib.hid (C4.out.trans (b5.mono C4.out.size))
          clear b5
          go_wp2_with fail
          obtain ⟨b', hb1, hb2⟩ := HN.out
          go_roundw
          case rel => exact ⟨m, b', by omega, by go_num, by rw [hb2], hb1, C5.out⟩
          case measure => simp [intOf] <;> omega
      · have hpi : ¬ ((popN m : Nat) : Int) ≤ ((popN (orAll ps.length b) : Nat) : Int) := by omega
        have HN := Lib.hid (HSk1.out (.inl hpp))
        clear hpp hol
        go_wp2_with fail
        refine (HS1.out _).mono ?_
        rintro e w3 ⟨rfl, rfl⟩
        go_wp2_with fail
        refine (HS2.out _).mono ?_
        rintro e w3 ⟨rfl, rfl⟩
        go_wp2_with fail
        go_roundw
        case rel => exact ⟨m, b, by omega, by go_num, rfl, HN.out, HB.out⟩
        case measure => simp [intOf] <;> omega

end Go.Proofs.YthgjmciiaikgoaaDoor
