/- Walks: FormatState. -/
import Derived.Test.YtlfadpfodmpneaaDoorA1
import Derived.Test.YtlfadpfodmpneaaDoorBit
import Derived.Test.YtlfadpfodmpneaaDoorT3
import Derived.Test.YtlfadpfodmpneaaDoorS1
namespace Go.Proofs.YtlfadpfodmpneaaDoor
open Go.RowKit

/-- The digits of the first n bits of a number. -/
def bitL (s n : Nat) : List Int := (List.range n).map fun i => ((bN s i : Nat) : Int)
theorem bitL_next (s n : Nat) : bitL s (n + 1) = bitL s n ++ [((bN s n : Nat) : Int)] := by simp [bitL, List.range_succ]
theorem bitL_len (s n : Nat) : (bitL s n).length = n := by simp [bitL]
theorem bitL_get (s n i : Nat) (h : i < n) : gI (bitL s n) i = (bN s i : Nat) := by simp [gI, bitL, List.getD, h]
/-- Bytes that are digits, as a text. -/
def digS (zs : List Int) : ByteArray := strOfNums (zs.map (48 + ·))
theorem digS_app (xs ys : List Int) : digS xs ++ digS ys = digS (xs ++ ys) := by
  apply ByteArray.ext
  simp [digS, strOfNums]
theorem digS_size (xs : List Int) : (digS xs).size = xs.length := by simp [digS, strOfNums, ByteArray.size]

theorem conv_one (x : Int) (W : World) : (convert 31 9 (.slice (some ⟨W.heap.size, 0, none⟩) 1 1)).run Tryd.prog (W.alloc (.cells #[.int .u8 x] 5)) = .ok (.string (strOfNums [x])) (W.alloc (.cells #[.int .u8 x] 5)) :=
  run_convert_bytes_arg _ 31 5 Tryd.underlying31 Tryd.underlying5 W.heap.size 0 1 1 [x] rfl (fun i hi => by
    obtain rfl : i = 0 := by omega
    exact (Blk.new W 5 [.int .u8 x]).cell (i := 0) rfl) 9 Tryd.underlying9

set_option maxHeartbeats 1000000 in
/-- One digit in decimal. -/
theorem l14Dec_digit (v : Nat) (hv : v ≤ 9) (w : World) :
    Calls Tryd.prog 20 #[.int .i64 v] w fun e w' => e = .returned (.string (digS [(v : Int)])) ∧ Below w.heap.size w w' := by
  have hcv := fun (W : World) => conv_one (48 + (v : Int)) W
  have hw : IntKind.u8.wrap (48 + (v : Int)) = 48 + (v : Int) := by rw [IntKind.wrap_u8]; omega
  have h1 : ¬ (v : Int) < -9223372036854775807 := by omega
  have h2 : ¬ (v : Int) < 0 := by omega
  have h3 : ¬ 9 < (v : Int) := by omega
  have hsz : (strOfNums [48 + (v : Int)]).size = 1 := rfl
  have HE : Hid (strOfNums [48 + (v : Int)] ++ ⟨#[]⟩ = digS [(v : Int)]) := by
    apply ByteArray.ext
    simp [digS, strOfNums]
  generalize strOfNums [48 + (v : Int)] = t at hcv hsz HE
  go_enter Tryd.func20, Tryd.ntmps20
  go_wp2_with fail
  refine wp_loop_rounds 1 ?_
  rw [rounds_succ]
  go_wp2_with fail
  go_ret
  exact ⟨rett HE.out, (Below.refl _ _).alloc (Nat.le_refl _) _⟩

set_option maxHeartbeats 1000000 in
theorem l3Told_ok (s n : Nat) (hs : s < 32) (hn : n ≤ 5) (w : World) :
    Calls Tryd.prog 43 #[.int .i64 s, .int .i64 n] w fun e w' => e = .returned (.string (digS (bitL s n))) ∧ Below w.heap.size w w' := by
  go_enter Tryd.func43, Tryd.ntmps43
  go_wp2
  go_loopw [5, 6] (fun v i wr => ∃ k : Nat, k ≤ n ∧ i = .int .i64 k ∧ v = .string (digS (bitL s k)) ∧ Below w.heap.size w wr) (fun _ i _ => n - (intOf i).toNat)
  case atStart => exact ⟨0, Nat.zero_le _, rfl, rfl, Below.refl _ _⟩
  case round =>
    obtain ⟨k, hk, rfl, rfl, hb⟩ := hrel
    by_cases hlt : k < n
    · have hlt' : (k : Int) < (n : Int) := by omega
      have hbl := bN_lt s k
      have HD := Lib.hid (l14Dec_digit (bN s k) (by omega) wr)
      have HN : Hid (digS (bitL s k) ++ digS [((bN s k : Nat) : Int)] = digS (bitL s (k + 1))) := by
        unfold Hid
        rw [digS_app, bitL_next]
      have hz1 : (digS (bitL s k)).size ≤ 5 := by rw [digS_size, bitL_len]; omega
      have hz2 : (digS [((bN s k : Nat) : Int)]).size ≤ 1 := by rw [digS_size]; simp
      generalize digS (bitL s k) = t1 at hz1 HN
      generalize digS [((bN s k : Nat) : Int)] = t2 at hz2 HN HD
      go_wp2_with (first | (go_at_call 55; refine (l1Bit_ok _ _ _ (by omega) (by omega) (by omega) (by omega)).mono ?_; rintro e w' ⟨rfl, rfl⟩))
      refine HD.out.mono ?_
      rintro e w1 ⟨rfl, b1⟩
      go_wp2_with fail
      go_roundw
      case rel => exact ⟨k + 1, by omega, by go_num, by rw [HN.out], hb.trans (b1.mono hb.size)⟩
      case measure => simp [intOf]; omega
    · obtain rfl : k = n := by omega
      go_wp2
      go_ret
      exact ⟨rfl, hb⟩

/-- Whether a number is a state of n switches. -/
def stB (s n : Int) : Bool := inB n 1 5 && inB s 0 (2 ^ n.toNat - 1)
def stT (s n : Int) : ByteArray := if stB s n = true then digS (bitL s.toNat n.toNat) else ⟨#[]⟩
theorem stT_no {s n : Int} (h : stB s n = false) : stT s n = ⟨#[]⟩ := by simp [stT, h]
theorem stT_yes {s n : Nat} (h : stB s n = true) : stT s n = digS (bitL s n) := by simp [stT, h]

set_option maxHeartbeats 1000000 in
theorem fsS_ok (s n : Int) (w : World) :
    Calls Tryd.prog 34 #[.int .i64 s, .int .i64 n] w fun e w' => e = .returned (.string (stT s n)) ∧ Below w.heap.size w w' := by
  cases hn : inB n 1 5 with
  | false =>
    have H := Lib.hid (stT_no (s := s) (n := n) (by simp [stB, hn]))
    go_enter Tryd.func34, Tryd.ntmps34
    go_wp2_with (go_at_call 25; refine (l1In_ok _ _ _ _).mono ?_; rintro e w' ⟨rfl, rfl⟩)
    go_ret
    exact ⟨rett H.out.symm, Below.refl _ _⟩
  | true =>
    have hm := inB_iff.1 hn
    have HT := Lib.hid (wrap_top hm)
    have hp : (2 ^ n.toNat : Nat) ≤ 32 := Nat.pow_le_pow_right (n := 2) (by decide) (show n.toNat ≤ 5 by omega)
    have hp0 : 0 < (2 ^ n.toNat : Nat) := Nat.two_pow_pos _
    have hc : ((2 ^ n.toNat : Nat) : Int) = 2 ^ n.toNat := by simp
    have hE : ((2 ^ n.toNat - 1 : Nat) : Int) = 2 ^ n.toNat - 1 := by omega
    cases hs : inB s 0 (2 ^ n.toNat - 1) with
    | false =>
      have H := Lib.hid (stT_no (s := s) (n := n) (by simp [stB, hn, hs]))
      have hs' : inB s 0 (wrap64 (wrap64 (2 ^ n.toNat) - 1)) = false := by rw [HT.out, hE]; exact hs
      clear hs hE hc
      go_enter Tryd.func34, Tryd.ntmps34
      go_wp2_with (go_at_call 25; refine (l1In_ok _ _ _ _).mono ?_; rintro e w' ⟨rfl, rfl⟩)
      go_ret
      exact ⟨rett H.out.symm, Below.refl _ _⟩
    | true =>
      have hs2 := inB_iff.1 hs
      have hs' : inB s 0 (wrap64 (wrap64 (2 ^ n.toNat) - 1)) = true := by rw [HT.out, hE]; exact hs
      obtain ⟨p, rfl⟩ := Int.eq_ofNat_of_zero_le (show 0 ≤ n by omega)
      obtain ⟨q, rfl⟩ := Int.eq_ofNat_of_zero_le hs2.1
      rw [Int.toNat_natCast] at hs'
      have H := Lib.hid (stT_yes (s := q) (n := p) (by simp only [stB, hn, hs]; rfl))
      have HL := Lib.hid (l3Told_ok q p (by omega) (by omega) w)
      clear hs hE hc hs2
      go_enter Tryd.func34, Tryd.ntmps34
      go_wp2_with (first | (go_at_call 25; refine (l1In_ok _ _ _ _).mono ?_; rintro e w' ⟨rfl, rfl⟩))
      refine HL.out.mono ?_
      rintro e w1 ⟨rfl, b1⟩
      go_wp2
      go_ret
      exact ⟨rett H.out.symm, b1⟩

/-- What formatState has written after k rounds. -/
def fsTo (s N k : Nat) : List Int := (List.range N).map fun j => if j < k then 48 + ((bN s j : Nat) : Int) else 0
theorem fsTo_zero (s N : Nat) : fsTo s N 0 = List.replicate N 0 := by
  apply List.ext_getElem <;> simp [fsTo]
theorem fsTo_len (s N k : Nat) : (fsTo s N k).length = N := by simp [fsTo]
theorem fsTo_next (s N k : Nat) : (fsTo s N k).set k (48 + ((bN s k : Nat) : Int)) = fsTo s N (k + 1) := by
  apply List.ext_getElem?
  intro i
  simp [fsTo, List.getElem?_set]
  grind
theorem fsTo_end (s N : Nat) : strOfNums (fsTo s N N) = digS (bitL s N) := by
  have : fsTo s N N = (bitL s N).map (48 + ·) := by
    simp only [fsTo, bitL, List.map_map]
    apply List.map_congr_left
    intro j hj
    simp [List.mem_range.1 hj]
  rw [this, digS]

set_option maxHeartbeats 2000000 in
theorem fmtI_ok (s n : Nat) (hs : s < 32) (hn : n ≤ 5) (w : World) :
    Calls Tryd.prog 42 #[.int .i64 s, .int .i64 n] w fun e w' => e = .returned (.string (digS (bitL s n))) ∧ Below w.heap.size w w' := by
  have hmk := run_make_bytes n (by omega)
  go_enter Tryd.func42, Tryd.ntmps42
  go_wp2_with fail
  clear hmk
  go_loopw [11] (fun i wr => ∃ k : Nat, k ≤ n ∧ i = .int .i64 k ∧ Blk wr w.heap.size 5 (byC (fsTo s n k)) ∧ Below w.heap.size w wr) (fun i _ => n - (intOf i).toNat)
  case atStart => exact ⟨0, Nat.zero_le _, rfl, by rw [fsTo_zero]; exact Blk.new _ _ _, (Below.refl _ _).alloc (Nat.le_refl _) _⟩
  case round =>
    obtain ⟨k, hk, rfl, hB, hb⟩ := hrel
    by_cases hkN : k < n
    · have hkw : (k : Int) < (n : Int) := by omega
      have hy := hB.cell (byC_get (fsTo s n k) k (by rw [fsTo_len]; omega))
      have hf := hB.free k
      have HS := Lib.hid (hB.set k (.int .u8 (48 + ((bN s k : Nat) : Int))))
      have ev : bits .and .i64 ((s : Int) / 2 ^ k) 1 = ((bN s k : Nat) : Int) := bit_int (s : Int) k (by omega) (by omega)
      have hbl := bN_lt s k
      have HBe := Lib.hid hb
      have hw1 : IntKind.u8.wrap ((bN s k : Nat) : Int) = ((bN s k : Nat) : Int) := by rw [IntKind.wrap_u8]; omega
      have hw2 : IntKind.u8.wrap (48 + ((bN s k : Nat) : Int)) = 48 + ((bN s k : Nat) : Int) := by rw [IntKind.wrap_u8]; omega
      have HN := Lib.hid (fsTo_next s n k)
      clear hB hb
      generalize bN s k = u at ev hbl hw1 hw2 HS HN
      go_wp2_with fail
      go_roundw
      case rel => exact ⟨k + 1, by omega, by go_num, by have := HS.out; rw [byC_set, HN.out] at this; exact this, HBe.out.setCell (Nat.le_refl _) _⟩
      case measure => simp [intOf]; omega
    · obtain rfl : k = n := by omega
      have hcv := run_convert_bytes_arg wr 31 5 Tryd.underlying31 Tryd.underlying5 w.heap.size 0 k k (fsTo s k k) (fsTo_len _ _ _) (fun i hi => by rw [Nat.zero_add]; exact hB.cell (byC_get _ i (by rw [fsTo_len]; exact hi))) 9 Tryd.underlying9
      rw [fsTo_end] at hcv
      clear hB
      go_wp2_with fail
      go_ret
      exact ⟨rfl, hb⟩

set_option maxHeartbeats 1000000 in
theorem fsI_ok (s n : Int) (w : World) :
    Calls Tryd.prog 33 #[.int .i64 s, .int .i64 n] w fun e w' => e = .returned (.string (stT s n)) ∧ Below w.heap.size w w' := by
  by_cases hn : 1 ≤ n ∧ n ≤ 5
  rotate_left
  · have H := Lib.hid (stT_no (s := s) (n := n) (by simp [stB, inB_false hn]))
    by_cases h1 : n < 1
    · clear hn
      go_enter Tryd.func33, Tryd.ntmps33
      go_wp2
      go_ret
      exact ⟨rett H.out.symm, Below.refl _ _⟩
    · have h2 : 5 < n := by omega
      clear hn
      go_enter Tryd.func33, Tryd.ntmps33
      go_wp2
      go_ret
      exact ⟨rett H.out.symm, Below.refl _ _⟩
  have HP := Lib.hid (wrap_pow hn)
  have hp : (2 ^ n.toNat : Nat) ≤ 32 := Nat.pow_le_pow_right (n := 2) (by decide) (show n.toNat ≤ 5 by omega)
  have hc : ((2 ^ n.toNat : Nat) : Int) = 2 ^ n.toNat := by simp
  have e1 : decide (n < 1) = false := decide_eq_false (by omega)
  have e2 : decide (5 < n) = false := decide_eq_false (by omega)
  by_cases h1 : s < 0
  · have H := Lib.hid (stT_no (s := s) (n := n) (by simp [stB, inB_false (show ¬ (0 ≤ s ∧ s ≤ 2 ^ n.toNat - 1) by omega)]))
    clear hn hc
    go_enter Tryd.func33, Tryd.ntmps33
    go_wp2
    go_ret
    exact ⟨rett H.out.symm, Below.refl _ _⟩
  have e3 : decide (s < 0) = false := decide_eq_false h1
  by_cases h2 : wrap64 (2 ^ n.toNat) ≤ s
  · have H := Lib.hid (stT_no (s := s) (n := n) (by simp [stB, inB_false (show ¬ (0 ≤ s ∧ s ≤ 2 ^ n.toNat - 1) by rw [HP.out, hc] at h2; omega)]))
    have g1 : ¬ n < 1 := by omega
    have g2 : ¬ 5 < n := by omega
    clear hp hc e1 e2 e3
    go_enter Tryd.func33, Tryd.ntmps33
    go_wp2
    go_ret
    exact ⟨rett H.out.symm, Below.refl _ _⟩
  · have h3 : s < 2 ^ n.toNat := by rw [HP.out, hc] at h2; omega
    have hB : stB s n = true := by simp [stB, inB_true hn, inB_true (show 0 ≤ s ∧ s ≤ 2 ^ n.toNat - 1 by omega)]
    have h32 : s < 32 := by omega
    have e4 : decide (wrap64 (2 ^ n.toNat) ≤ s) = false := decide_eq_false h2
    obtain ⟨p, rfl⟩ := Int.eq_ofNat_of_zero_le (show 0 ≤ n by omega)
    obtain ⟨q, rfl⟩ := Int.eq_ofNat_of_zero_le (show 0 ≤ s by omega)
    have H := Lib.hid (stT_yes hB)
    have HF := Lib.hid (fmtI_ok q p (by omega) (by omega) w)
    rw [Int.toNat_natCast] at h2 e4
    clear h3 hB hc
    go_enter Tryd.func33, Tryd.ntmps33
    go_wp2_with fail
    refine HF.out.mono ?_
    rintro e w1 ⟨rfl, b1⟩
    go_wp2
    go_ret
    exact ⟨rett H.out.symm, b1⟩

end Go.Proofs.YtlfadpfodmpneaaDoor
