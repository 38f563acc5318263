/- Walks: the text of a table. -/
import Derived.Test.YtlfadpfodmpneaaDoorT2
import Derived.Laws.BytesArg
namespace Go.Proofs.YtlfadpfodmpneaaDoor
open Go.RowKit

theorem rett {a b : ByteArray} (h : a = b) : Ending.returned (.string a) = .returned (.string b) := by rw [h]

/-- Cells of bytes. -/
def byC (xs : List Int) : List Value := xs.map (.int .u8)
theorem byC_get (xs : List Int) (k : Nat) (h : k < xs.length) : (byC xs)[k]? = some (.int .u8 (gI xs k)) := by simp [byC, gI_lt h]
theorem byC_set (xs : List Int) (k : Nat) (v : Int) : (byC xs).set k (.int .u8 v) = byC (xs.set k v) := by simp [byC, List.map_set]
theorem i5 : (Tryd.prog.info? 5).map (fun i => (i.zero, i.size, i.bytes)) = some (some (.int .u8 0), 1, 1) := by kernel_rfl
theorem made_bytes (n : Nat) : madeCells (Value.cells (.int .u8 0)) (n * 1) = (byC (List.replicate n 0)).toArray := by
  apply Array.ext
  · simp [madeCells, byC]
  · intro i h1 h2
    simp [madeCells, byC, Value.cells, Nat.mod_one]
theorem run_make_bytes (n : Nat) (hn : n ≤ 1048576) (w : World) :
    (Instr.makeSlice 31 (.int .i64 (n : Int)) (.int .i64 (n : Int))).run Tryd.prog w = .ok (.slice (some ⟨w.heap.size, 0, none⟩) n n) (w.alloc (.cells (byC (List.replicate n 0)).toArray 5)) := by
  obtain ⟨i, hi, hz, hs, hby⟩ := info_parts i5
  have := run_make (P := Tryd.prog) w 31 5 i (.int .u8 0) Tryd.underlying31 hi hz .i64 .i64 n n (by omega) (Int.le_refl _) (by rw [hby]; omega) (by omega)
  rw [this, hs]
  simp only [Int.toNat_natCast, made_bytes]

/-- What text has written after k rounds. -/
def txtTo (bs : List Int) (N k : Nat) : List Int := (List.range N).map fun j => if j < k then 48 + gI bs j else 0
theorem txtTo_zero (bs : List Int) (N : Nat) : txtTo bs N 0 = List.replicate N 0 := by
  apply List.ext_getElem <;> simp [txtTo]
theorem txtTo_len (bs : List Int) (N k : Nat) : (txtTo bs N k).length = N := by simp [txtTo]
theorem txtTo_next (bs : List Int) (N k : Nat) : (txtTo bs N k).set k (48 + gI bs k) = txtTo bs N (k + 1) := by
  apply List.ext_getElem?
  intro i
  simp [txtTo, List.getElem?_set]
  grind
theorem txtTo_get (bs : List Int) (N k j : Nat) (hj : j < N) (h : j < k) : gI (txtTo bs N k) j = 48 + gI bs j := by simp [gI, txtTo, List.getD, hj, h]

/-- The digits of a table as a text. -/
def bitT (bs : List Int) (N : Nat) : ByteArray := strOfNums (txtTo bs N N)

end Go.Proofs.YtlfadpfodmpneaaDoor
