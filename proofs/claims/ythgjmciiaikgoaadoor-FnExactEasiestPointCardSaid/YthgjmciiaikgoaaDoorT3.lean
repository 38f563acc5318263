/- Walks: the text of a table. -/
import Derived.Test.YthgjmciiaikgoaaDoorT2
import Derived.Laws.BytesArg
namespace Go.Proofs.YthgjmciiaikgoaaDoor
open Go.RowKit

theorem rett {a b : ByteArray} (h : a = b) : Ending.returned (.string a) = .returned (.string b) := by rw [h]

/-- Cells of bytes. -/
def byC (xs : List Int) : List Value := xs.map (.int .u8)
theorem byC_get (xs : List Int) (k : Nat) (h : k < xs.length) : (byC xs)[k]? = some (.int .u8 (gI xs k)) := by simp [byC, gI_lt h]
theorem byC_set (xs : List Int) (k : Nat) (v : Int) : (byC xs).set k (.int .u8 v) = byC (xs.set k v) := by simp [byC, List.map_set]
theorem i5 : (Tryd.prog.info? 5).map (fun i => (i.zero, i.size, i.bytes)) = some (some (.int .u8 0), 1, 1) := by kernel_rfl
theorem made_bytes (n : Nat) : madeCells (Value.cells (.int .u8 0)) (n * 1) = (byC (List.replicate n 0)).toArray := by
  apply Array.ext
  · simp [madeCells, byC]
  · intro i h1 h2
    simp [madeCells, byC, Value.cells, Nat.mod_one]
theorem run_make_bytes (n : Nat) (hn : n ≤ 1048576) (w : World) :
    (Instr.makeSlice 97 (.int .i64 (n : Int)) (.int .i64 (n : Int))).run Tryd.prog w = .ok (.slice (some ⟨w.heap.size, 0, none⟩) n n) (w.alloc (.cells (byC (List.replicate n 0)).toArray 5)) := by
  obtain ⟨i, hi, hz, hs, hby⟩ := info_parts i5
  have := run_make (P := Tryd.prog) w 97 5 i (.int .u8 0) Tryd.underlying97 hi hz .i64 .i64 n n (by omega) (Int.le_refl _) (by rw [hby]; omega) (by omega)
  rw [this, hs]
  simp only [Int.toNat_natCast, made_bytes]

/-- What text has written after k rounds. -/
def txtTo (bs : List Int) (N k : Nat) : List Int := (List.range N).map fun j => if j < k then 48 + gI bs j else 0
theorem txtTo_zero (bs : List Int) (N : Nat) : txtTo bs N 0 = List.replicate N 0 := by
  apply List.ext_getElem <;> simp [txtTo]
theorem txtTo_len (bs : List Int) (N k : Nat) : (txtTo bs N k).length = N := by simp [txtTo]
theorem txtTo_next (bs : List Int) (N k : Nat) : (txtTo bs N k).set k (48 + gI bs k) = txtTo bs N (k + 1) := by
  apply List.ext_getElem?
  intro i
  simp [txtTo, List.getElem?_set]
  grind
theorem txtTo_get (bs : List Int) (N k j : Nat) (hj : j < N) (h : j < k) : gI (txtTo bs N k) j = 48 + gI bs j := by simp [gI, txtTo, List.getD, hj, h]

/-- The digits of a table as a text. -/
def bitT (bs : List Int) (N : Nat) : ByteArray := strOfNums (txtTo bs N N)

set_option maxHeartbeats 2000000 in
theorem text_ok (p : Nat) (bs : List Int) (hp : p ≤ 5) (hl : bs.length = 32) (hd : ∀ j, j < 2 ^ p → gI bs j = 0 ∨ gI bs j = 1) (w : World) :
    Calls Tryd.prog 104 #[tabV p bs] w fun e w' => e = .returned (.string (bitT bs (2 ^ p))) ∧ Below w.heap.size w w' := by
  have hp32 : (2 ^ p : Nat) ≤ 32 := Nat.pow_le_pow_right (n := 2) (by decide) hp
  have HW := Lib.hid (fun (W : World) => width_ok p bs (by omega) W)
  have HD := Lib.hid hd
  clear hd
  have HT := Lib.hid (show bitT bs (2 ^ p) = strOfNums (txtTo bs (2 ^ p) (2 ^ p)) from rfl)
  generalize hN : (2 ^ p : Nat) = N at hp32 HW HD HT
  clear hN
  have HB0 := Lib.hid (Blk.new w 76 (tabC p bs))
  have hb0 := (Below.refl w.heap.size w).alloc (Nat.le_refl _) (.cells (tabC p bs).toArray 76)
  have hmk := run_make_bytes N (by omega)
  go_enter Tryd.func104, Tryd.ntmps104
  go_wp2_with (first | (refine wpList_tabBox rfl _ rfl p bs rfl ?_) | (refine wpList_tabLoad rfl _ rfl _ p bs rfl hl _ HB0.out ?_))
  refine (HW.out _).mono ?_
  rintro e w2 ⟨rfl, b2⟩
  have c2 := hb0.trans (b2.mono hb0.size)
  have k2 := HB0.out.below b2 HB0.out.lt
  have hs2 : w.heap.size + 1 ≤ w2.heap.size := by have := b2.size; simpa using this
  clear b2 hb0
  go_wp2_with fail
  clear hmk
  go_loopw [10] (fun s wr => ∃ k : Nat, k ≤ N ∧ s = .int .i64 k ∧ Blk wr w2.heap.size 5 (byC (txtTo bs N k)) ∧ Blk wr w.heap.size 76 (tabC p bs) ∧ Below w.heap.size w wr) (fun s _ => N - (intOf s).toNat)
  case atStart => exact ⟨0, Nat.zero_le _, rfl, by rw [txtTo_zero]; exact Blk.new _ _ _, k2.alloc _, c2.alloc c2.size _⟩
  case round =>
    obtain ⟨k, hk, rfl, hB, hT, hb⟩ := hrel
    clear k2 c2
    by_cases hkN : k < N
    · have hkw : (k : Int) < (N : Int) := by omega
      have hk32 : (k : Int) < 32 := by omega
      have hx := hT.cell (tabC_get p bs k (by omega))
      have hy := hB.cell (byC_get (txtTo bs N k) k (by rw [txtTo_len]; omega))
      have hf := hB.free k
      have HS := Lib.hid (hB.set k (.int .u8 (48 + gI bs k)))
      have HO := Lib.hid (hT.other (a := ⟨w2.heap.size, k, none⟩) (by show w.heap.size ≠ w2.heap.size; omega) (.int .u8 (48 + gI bs k)))
      have HBe := Lib.hid hb
      have HL := Lib.hid hs2
      clear hB hT hb
      rcases HD.out k hkN with hq | hq
      all_goals
        rw [hq] at hx
        have HQ := Lib.hid hq
        clear hq
        go_wp2_with fail
        go_roundw
        case rel => exact ⟨k + 1, by omega, by go_num, by have := HS.out; rw [byC_set, txtTo_next, HQ.out] at this; exact this, by have := HO.out; rw [HQ.out] at this; exact this, HBe.out.setCell (by show w.heap.size ≤ w2.heap.size; have := HL.out; omega) _⟩
        case measure => simp [intOf]; omega
    · obtain rfl : k = N := by omega
      have hcv := run_convert_bytes_arg wr 97 5 Tryd.underlying97 Tryd.underlying5 w2.heap.size 0 k k (txtTo bs k k) (txtTo_len _ _ _) (fun i hi => by rw [Nat.zero_add]; exact hB.cell (byC_get _ i (by rw [txtTo_len]; exact hi))) 9 Tryd.underlying9
      clear hB hT
      go_wp2_with fail
      go_ret
      exact ⟨rett HT.out.symm, hb⟩

end Go.Proofs.YthgjmciiaikgoaaDoor
