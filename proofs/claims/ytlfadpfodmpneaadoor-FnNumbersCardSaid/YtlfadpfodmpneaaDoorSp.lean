/- A text cut by the library, in a seat without networks. -/
import Derived.Test.YtlfadpfodmpneaaDoorN1
import Derived.Test.YtlfadpfodmpneaaDoorS1
import Derived.Test.YtlfadpfodmpneaaDoorShelf
namespace Go.Proofs.YtlfadpfodmpneaaDoor
open Go.RowKit

theorem cutsP_count (c : UInt8) (s : ByteArray) : (cutsP c s).length = Lib.countB s ⟨#[c]⟩ + 1 := Lib.splitB_all ⟨#[c]⟩ (Nat.le_refl 1) 0 _ s rfl
/-- What strings.Split asks of the world: a variable of its own holds some number. -/
def MaxLenIs (w : World) : Prop := ∃ m, w.cell? ⟨3, 0, none⟩ = some (.int .i64 m)
theorem MaxLenIs.lt {w : World} (h : MaxLenIs w) : 3 < w.heap.size := let ⟨_, hm⟩ := h; World.block_lt_of_cell? w ⟨3, 0, none⟩ hm
theorem MaxLenIs.below {w w' : World} {B : Nat} (h : MaxLenIs w) (hb : Below B w w') (hB : w.heap.size ≤ B) : MaxLenIs w' := by
  obtain ⟨m, hm⟩ := h
  have hl := MaxLenIs.lt ⟨m, hm⟩
  exact ⟨m, (hb.cell (p := ⟨3, 0, none⟩) (by show 3 < B; omega)).trans hm⟩

theorem split_ok (s : ByteArray) (c : UInt8) (w : World) (hs : s.size ≤ 1048576) (hm : MaxLenIs w) :
    Calls Tryd.prog 26 #[.string s, .string ⟨#[c]⟩] w fun e w' => e = .returned (.slice (some ⟨w.heap.size, 0, none⟩) (cutsP c s).length (cutsP c s).length) ∧ w' = w.alloc (.cells (strs (cutsP c s)).toArray 9) := by
  obtain ⟨m, hm⟩ := hm
  rw [cutsP_count]
  exact Tryd.strings_Split s ⟨#[c]⟩ m w (by omega) hm (Nat.le_refl 1)

theorem RowT.of_blk {w : World} {g : Nat} {t : TypeId} {ts : List ByteArray} (h : Blk w g t (strs ts)) (hm : ts.length ≤ maxLen) : RowT w (some ⟨g, 0, none⟩) ts.length ts.length ts :=
  ⟨rfl, Nat.le_refl _, hm, fun e => (by cases e), fun _ => ⟨g, 0, rfl, h.lt⟩, fun b o e i hi => by
    cases e
    rw [Nat.zero_add]
    exact h.cell (strs_get ts i hi)⟩

end Go.Proofs.YtlfadpfodmpneaaDoor
