/- Walks: the tables of an input, of the opposite, of both. -/
import Derived.Test.YtlfeipibhdggcaaR3
namespace Go.Proofs.Ytlfeipibhdggcaa
open Go.RowKit

theorem DT.val {n : Nat} {t : ByteArray} (h : DT n t) (hn : 1 ≤ n ∧ n ≤ 5) : tvB t = true := by
  rw [tvB, h.1, h.2, inpV_pow n hn]
  simp; omega

set_option maxHeartbeats 2000000 in
theorem inTab_ok (n k : Nat) (w : World) (hn : 1 ≤ n ∧ n ≤ 5) (hk : k < n) :
    Calls Try.prog 64 #[.int .i64 n, .int .i64 k] w fun e w' => ∃ t, e = .returned (.tuple #[.string t, .bool true]) ∧ DT n t ∧ Below w.heap.size w w' := by
  have hp : (2 ^ n : Nat) ≤ 32 := Nat.pow_le_pow_right (n := 2) (by decide) hn.2
  have hpw : wrap64 (2 ^ n) = ((2 ^ n : Nat) : Int) := wrap_pow_nat n (by omega)
  have HD : Hid (∀ zs, zs.length = 2 ^ n → bitsL zs → DT n (digT zs)) := fun zs h1 h2 => ⟨digT_dig h2, by rw [digT_size, h1]⟩
  have q1 : inB (n : Int) 1 5 = true := inB_true (by omega)
  have q2 : inB (k : Int) 0 ((n : Int) - 1) = true := inB_true (by omega)
  generalize (2 ^ n : Nat) = N at hp hpw HD
  have O0 := Lib.hid (OwnI.lit w w.heap.size [] (Nat.le_refl _) (by decide))
  have B0 : Hid (Below w.heap.size w (w.alloc (.cells #[] 3))) := (Below.refl _ _).alloc (Nat.le_refl _) _
  go_enter Try.func64, Try.ntmps64
  go_wp2_with (go_at_call 29; refine (l1In_ok _ _ _ _).mono ?_; rintro e w' ⟨rfl, rfl⟩)
  go_loopw [6, 7] (fun v q wr => ∃ (s : Nat) (zs : List Int), s ≤ N ∧ q = .int .i64 s ∧ zs.length = s ∧ OwnI wr w.heap.size v zs ∧ bitsL zs ∧ Below w.heap.size w wr) (fun _ q _ => N - (intOf q).toNat)
  case atStart => exact ⟨0, [], Nat.zero_le _, rfl, rfl, O0.out, bitsL.nil, B0.out⟩
  case round =>
    obtain ⟨s, zs, hs, rfl, hl, ho, hbl, hb⟩ := hrel
    have HO := Lib.hid ho
    have HBl := Lib.hid hbl
    have HB := Lib.hid hb
    have HL := Lib.hid hl
    clear ho hbl hb hl
    by_cases hkN : s < N
    · have hkw : (s : Int) < (N : Int) := by omega
      have hx2 := bN_lt s k
      have hBa := Lib.hid (fun W => l1Bit_ok (s : Int) (k : Int) W (by omega) (by omega) (by omega) (by omega))
      rw [Int.toNat_natCast, Int.toNat_natCast] at hBa
      generalize bN s k = x at hx2 hBa
      go_wp2_with fail
      refine (hBa.out _).mono ?_
      rintro e w5 ⟨rfl, rfl⟩
      go_wp2_with (at_builtin; refine wpList_appI (OwnI.alloc HO.out _) (RowI.one _ _) rfl _ _ rfl rfl rfl (by have := HL.out; omega) (by have := HB.out.size; simp; omega) ?_; intro v6 w6 o6 g6)
      go_roundw
      case rel => exact ⟨s + 1, _, by omega, by go_num, by simp [HL.out], o6, HBl.out.snoc (by omega), (HB.out.alloc HB.out.size _).grown g6 (by have := HB.out.size; simp; omega) (fun j hj => (World.ownsRow.lt HO.out j hj).1)⟩
      case measure => simp [intOf] <;> omega
    · obtain rfl : s = N := by omega
      obtain ⟨ao, c, rfl, q⟩ := HO.out.out
      have hlk := HL.out
      have HT := Lib.hid (l1Text_ok ao _ c zs wr q.rowI HBl.out (by omega))
      have HDT := Lib.hid (HD.out zs HL.out HBl.out)
      rw [hlk] at HT ⊢
      clear q hlk
      go_wp2_with fail
      refine HT.out.mono ?_
      rintro e w5 ⟨rfl, b5⟩
      go_wp2_with fail
      go_ret2
      exact ⟨_, rfl, HDT.out, HB.out.trans (b5.mono HB.out.size)⟩

set_option maxHeartbeats 2000000 in
theorem l1Not_ok (n : Nat) (t : ByteArray) (w : World) (hn : 1 ≤ n ∧ n ≤ 5) (h : DT n t) :
    Calls Try.prog 65 #[.string t] w fun e w' => ∃ t', e = .returned (.string t') ∧ DT n t' ∧ Below w.heap.size w w' := by
  have hp : (2 ^ n : Nat) ≤ 32 := Nat.pow_le_pow_right (n := 2) (by decide) hn.2
  have HD : Hid (∀ zs, zs.length = t.size → bitsL zs → DT n (digT zs)) := fun zs h1 h2 => ⟨digT_dig h2, by rw [digT_size, h1, h.2]⟩
  have hz : t.size ≤ 32 := by rw [h.2]; exact hp
  have HBit := Lib.hid (fun s => byD_bit h.1 s)
  clear h hp
  have O0 := Lib.hid (OwnI.lit w w.heap.size [] (Nat.le_refl _) (by decide))
  have B0 : Hid (Below w.heap.size w (w.alloc (.cells #[] 3))) := (Below.refl _ _).alloc (Nat.le_refl _) _
  go_enter Try.func65, Try.ntmps65
  go_wp2_with fail
  go_loopw [3, 4] (fun v q wr => ∃ (s : Nat) (zs : List Int), s ≤ t.size ∧ q = .int .i64 s ∧ zs.length = s ∧ OwnI wr w.heap.size v zs ∧ bitsL zs ∧ Below w.heap.size w wr) (fun _ q _ => t.size - (intOf q).toNat)
  case atStart => exact ⟨0, [], Nat.zero_le _, rfl, rfl, O0.out, bitsL.nil, B0.out⟩
  case round =>
    obtain ⟨s, zs, hs, rfl, hl, ho, hbl, hb⟩ := hrel
    have HO := Lib.hid ho
    have HBl := Lib.hid hbl
    have HB := Lib.hid hb
    have HL := Lib.hid hl
    clear ho hbl hb hl
    by_cases hkN : s < t.size
    · have hkw : (s : Int) < (t.size : Int) := by omega
      have hx2 := HBit.out s
      have hAt := Lib.hid (fun W => l1At_ok t s W hkN)
      generalize byD t s = x at hx2 hAt
      have hx0 : 0 ≤ x := by omega
      have hx1 : x ≤ 1 := by omega
      have HX := Lib.hid hx2
      clear hx2
      go_wp2_with fail
      refine (hAt.out _).mono ?_
      rintro e w5 ⟨rfl, rfl⟩
      go_wp2_with (at_builtin; refine wpList_appI (OwnI.alloc HO.out _) (RowI.one _ _) rfl _ _ rfl rfl rfl (by have := HL.out; omega) (by have := HB.out.size; simp; omega) ?_; intro v6 w6 o6 g6)
      go_roundw
      case rel => exact ⟨s + 1, _, by omega, by go_num, by simp [HL.out], o6, HBl.out.snoc (by have := HX.out; omega), (HB.out.alloc HB.out.size _).grown g6 (by have := HB.out.size; simp; omega) (fun j hj => (World.ownsRow.lt HO.out j hj).1)⟩
      case measure => simp [intOf] <;> omega
    · obtain rfl : s = t.size := by omega
      obtain ⟨ao, c, rfl, q⟩ := HO.out.out
      have hlk := HL.out
      have HT := Lib.hid (l1Text_ok ao _ c zs wr q.rowI HBl.out (by omega))
      have HDT := Lib.hid (HD.out zs HL.out HBl.out)
      rw [hlk] at HT ⊢
      clear q hlk
      go_wp2_with fail
      refine HT.out.mono ?_
      rintro e w5 ⟨rfl, b5⟩
      go_wp2_with fail
      go_ret
      exact ⟨_, rfl, HDT.out, HB.out.trans (b5.mono HB.out.size)⟩

set_option maxHeartbeats 1000000 in
theorem l1Both_ok (n : Nat) (f t : ByteArray) (w : World) (hn : 1 ≤ n ∧ n ≤ 5) (h : DT n f) (h' : DT n t) :
    Calls Try.prog 76 #[.string f, .string t] w fun e w' => e = .returned (.bool true) ∧ w = w' := by
  have hp : (2 ^ n : Nat) ≤ 32 := Nat.pow_le_pow_right (n := 2) (by decide) hn.2
  have H1 := Lib.hid (fun W => tblS_ok f (by rw [h.2]; omega) W)
  have H2 := Lib.hid (fun W => tblS_ok t (by rw [h'.2]; omega) W)
  rw [h.val hn] at H1
  rw [h'.val hn] at H2
  have hz : ((f.size : Int) == (t.size : Int)) = true := by rw [h.2, h'.2]; simp
  have hz1 : f.size ≤ 32 := by rw [h.2]; exact hp
  have hz2 : t.size ≤ 32 := by rw [h'.2]; exact hp
  clear h h' hp
  go_enter Try.func76, Try.ntmps76
  go_wp2_with fail
  refine (H1.out _).mono ?_
  rintro e w5 ⟨rfl, rfl⟩
  go_wp2_with fail
  refine (H2.out _).mono ?_
  rintro e w5 ⟨rfl, rfl⟩
  go_wp2_with fail
  go_ret
  exact ⟨rfl, rfl⟩

set_option maxHeartbeats 2000000 in
theorem andTab_ok (n : Nat) (f t : ByteArray) (w : World) (hn : 1 ≤ n ∧ n ≤ 5) (h : DT n f) (h' : DT n t) :
    Calls Try.prog 66 #[.string f, .string t] w fun e w' => ∃ t', e = .returned (.tuple #[.string t', .bool true]) ∧ DT n t' ∧ Below w.heap.size w w' := by
  have hp : (2 ^ n : Nat) ≤ 32 := Nat.pow_le_pow_right (n := 2) (by decide) hn.2
  have HD : Hid (∀ zs, zs.length = f.size → bitsL zs → DT n (digT zs)) := fun zs h1 h2 => ⟨digT_dig h2, by rw [digT_size, h1, h.2]⟩
  have hz : f.size ≤ 32 := by rw [h.2]; exact hp
  have hz2 : t.size = f.size := by rw [h.2, h'.2]
  have HBt := Lib.hid (fun W => l1Both_ok n f t W hn h h')
  have HF := Lib.hid (fun s => byD_bit h.1 s)
  have HG := Lib.hid (fun s => byD_bit h'.1 s)
  have HZ := Lib.hid hz2
  clear h h' hp hz2
  have O0 := Lib.hid (OwnI.lit w w.heap.size [] (Nat.le_refl _) (by decide))
  have B0 : Hid (Below w.heap.size w (w.alloc (.cells #[] 3))) := (Below.refl _ _).alloc (Nat.le_refl _) _
  go_enter Try.func66, Try.ntmps66
  go_wp2_with fail
  refine (HBt.out _).mono ?_
  rintro e w5 ⟨rfl, rfl⟩
  go_wp2_with fail
  go_loopw [6, 7] (fun v q wr => ∃ (s : Nat) (zs : List Int), s ≤ f.size ∧ q = .int .i64 s ∧ zs.length = s ∧ OwnI wr w.heap.size v zs ∧ bitsL zs ∧ Below w.heap.size w wr) (fun _ q _ => f.size - (intOf q).toNat)
  case atStart => exact ⟨0, [], Nat.zero_le _, rfl, rfl, O0.out, bitsL.nil, B0.out⟩
  case round =>
    obtain ⟨s, zs, hs, rfl, hl, ho, hbl, hb⟩ := hrel
    have HO := Lib.hid ho
    have HBl := Lib.hid hbl
    have HB := Lib.hid hb
    have HL := Lib.hid hl
    clear ho hbl hb hl
    by_cases hkN : s < f.size
    · have hkw : (s : Int) < (f.size : Int) := by omega
      have hA1 := Lib.hid (fun W => l1At_ok f s W hkN)
      have hA2 := Lib.hid (fun W => l1At_ok t s W (by rw [HZ.out]; exact hkN))
      have h1 := HF.out s
      have h2 := HG.out s
      generalize byD f s = x at h1 hA1
      generalize byD t s = y at h2 hA2
      have HM : Hid (wrap64 (x * y) = 0 ∨ wrap64 (x * y) = 1) := by
        rcases h1 with rfl | rfl <;> rcases h2 with rfl | rfl <;> unfold Hid <;> decide +kernel
      clear h1 h2
      go_wp2_with fail
      refine (hA1.out _).mono ?_
      rintro e w5 ⟨rfl, rfl⟩
      go_wp2_with fail
      refine (hA2.out _).mono ?_
      rintro e w5 ⟨rfl, rfl⟩
      go_wp2_with (at_builtin; refine wpList_appI (OwnI.alloc HO.out _) (RowI.one _ _) rfl _ _ rfl rfl rfl (by have := HL.out; omega) (by have := HB.out.size; simp; omega) ?_; intro v6 w6 o6 g6)
      go_roundw
      case rel => exact ⟨s + 1, _, by omega, by go_num, by simp [HL.out], o6, HBl.out.snoc HM.out, (HB.out.alloc HB.out.size _).grown g6 (by have := HB.out.size; simp; omega) (fun j hj => (World.ownsRow.lt HO.out j hj).1)⟩
      case measure => simp [intOf] <;> omega
    · obtain rfl : s = f.size := by omega
      obtain ⟨ao, c, rfl, q⟩ := HO.out.out
      have hlk := HL.out
      have HT := Lib.hid (l1Text_ok ao _ c zs wr q.rowI HBl.out (by omega))
      have HDT := Lib.hid (HD.out zs HL.out HBl.out)
      rw [hlk] at HT ⊢
      clear q hlk
      go_wp2_with fail
      refine HT.out.mono ?_
      rintro e w5 ⟨rfl, b5⟩
      go_wp2_with fail
      go_ret2
      exact ⟨_, rfl, HDT.out, HB.out.trans (b5.mono HB.out.size)⟩

end Go.Proofs.Ytlfeipibhdggcaa
