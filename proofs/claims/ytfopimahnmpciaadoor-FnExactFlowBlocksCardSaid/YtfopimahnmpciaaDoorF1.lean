/- Walks: FormatState. -/
import Derived.Test.YtfopimahnmpciaaDoorA1
import Derived.Test.YtfopimahnmpciaaDoorBit
import Derived.Test.YtfopimahnmpciaaDoorT3
import Derived.Test.YtfopimahnmpciaaDoorS1
namespace Go.Proofs.YtfopimahnmpciaaDoor
open Go.RowKit

/-- The digits of the first n bits of a number. -/
def bitL (s n : Nat) : List Int := (List.range n).map fun i => ((bN s i : Nat) : Int)
theorem bitL_next (s n : Nat) : bitL s (n + 1) = bitL s n ++ [((bN s n : Nat) : Int)] := by simp [bitL, List.range_succ]
theorem bitL_len (s n : Nat) : (bitL s n).length = n := by simp [bitL]
theorem bitL_get (s n i : Nat) (h : i < n) : gI (bitL s n) i = (bN s i : Nat) := by simp [gI, bitL, List.getD, h]
/-- Bytes that are digits, as a text. -/
def digS (zs : List Int) : ByteArray := strOfNums (zs.map (48 + ·))
theorem digS_app (xs ys : List Int) : digS xs ++ digS ys = digS (xs ++ ys) := by
  apply ByteArray.ext
  simp [digS, strOfNums]
theorem digS_size (xs : List Int) : (digS xs).size = xs.length := by simp [digS, strOfNums, ByteArray.size]

theorem conv_one (x : Int) (W : World) : (convert 64 9 (.slice (some ⟨W.heap.size, 0, none⟩) 1 1)).run Tryd.prog (W.alloc (.cells #[.int .u8 x] 5)) = .ok (.string (strOfNums [x])) (W.alloc (.cells #[.int .u8 x] 5)) :=
  run_convert_bytes_arg _ 64 5 Tryd.underlying64 Tryd.underlying5 W.heap.size 0 1 1 [x] rfl (fun i hi => by
    obtain rfl : i = 0 := by omega
    exact (Blk.new W 5 [.int .u8 x]).cell (i := 0) rfl) 9 Tryd.underlying9

set_option maxHeartbeats 1000000 in
/-- One digit in decimal. -/
theorem l14Dec_digit (v : Nat) (hv : v ≤ 9) (w : World) :
    Calls Tryd.prog 31 #[.int .i64 v] w fun e w' => e = .returned (.string (digS [(v : Int)])) ∧ Below w.heap.size w w' := by
  have hcv := fun (W : World) => conv_one (48 + (v : Int)) W
  have hw : IntKind.u8.wrap (48 + (v : Int)) = 48 + (v : Int) := by rw [IntKind.wrap_u8]; omega
  have h1 : ¬ (v : Int) < -9223372036854775807 := by omega
  have h2 : ¬ (v : Int) < 0 := by omega
  have h3 : ¬ 9 < (v : Int) := by omega
  have hsz : (strOfNums [48 + (v : Int)]).size = 1 := rfl
  have HE : Hid (strOfNums [48 + (v : Int)] ++ ⟨#[]⟩ = digS [(v : Int)]) := by
    apply ByteArray.ext
    simp [digS, strOfNums]
  generalize strOfNums [48 + (v : Int)] = t at hcv hsz HE
  go_enter Tryd.func31, Tryd.ntmps31
  go_wp2_with fail
  refine wp_loop_rounds 1 ?_
  rw [rounds_succ]
  go_wp2_with fail
  go_ret
  exact ⟨rett HE.out, (Below.refl _ _).alloc (Nat.le_refl _) _⟩

/-- Whether a number is a state of n switches. -/
def stB (s n : Int) : Bool := inB n 1 5 && inB s 0 (2 ^ n.toNat - 1)
def stT (s n : Int) : ByteArray := if stB s n = true then digS (bitL s.toNat n.toNat) else ⟨#[]⟩
theorem stT_no {s n : Int} (h : stB s n = false) : stT s n = ⟨#[]⟩ := by simp [stT, h]
theorem stT_yes {s n : Nat} (h : stB s n = true) : stT s n = digS (bitL s n) := by simp [stT, h]

/-- What formatState has written after k rounds. -/
def fsTo (s N k : Nat) : List Int := (List.range N).map fun j => if j < k then 48 + ((bN s j : Nat) : Int) else 0
theorem fsTo_zero (s N : Nat) : fsTo s N 0 = List.replicate N 0 := by
  apply List.ext_getElem <;> simp [fsTo]
theorem fsTo_len (s N k : Nat) : (fsTo s N k).length = N := by simp [fsTo]
theorem fsTo_next (s N k : Nat) : (fsTo s N k).set k (48 + ((bN s k : Nat) : Int)) = fsTo s N (k + 1) := by
  apply List.ext_getElem?
  intro i
  simp [fsTo, List.getElem?_set]
  grind
theorem fsTo_end (s N : Nat) : strOfNums (fsTo s N N) = digS (bitL s N) := by
  have : fsTo s N N = (bitL s N).map (48 + ·) := by
    simp only [fsTo, bitL, List.map_map]
    apply List.map_congr_left
    intro j hj
    simp [List.mem_range.1 hj]
  rw [this, digS]

end Go.Proofs.YtfopimahnmpciaaDoor
