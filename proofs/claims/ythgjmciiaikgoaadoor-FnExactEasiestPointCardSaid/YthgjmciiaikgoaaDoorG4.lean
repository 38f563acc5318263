/- Walks: what a term spreads to, by the program. -/
import Derived.Test.YthgjmciiaikgoaaDoorG3
import Derived.Test.YthgjmciiaikgoaaDoorS2
import Derived.Laws.IdiomStrings
namespace Go.Proofs.YthgjmciiaikgoaaDoor
open Go.RowKit

/-- Bytes that may be written, from a block's start on. -/
structure ByAt (w : World) (g : Nat) (zs : List Int) : Prop where
  cell : ∀ k, k < zs.length → w.cell? ⟨g, k, none⟩ = some (.int .u8 (gI zs k))
  free : ∀ k, k < zs.length → w.frozen? ⟨g, k, none⟩ = false
  lt : g < w.heap.size
theorem ByAt.below {B : Nat} {w w' : World} {g : Nat} {zs : List Int} (h : ByAt w g zs) (hb : Below B w w') (hB : w.heap.size ≤ B) : ByAt w' g zs :=
  ⟨fun k hk => (hb.cell (p := ⟨g, k, none⟩) (Nat.lt_of_lt_of_le h.lt hB)).trans (h.cell k hk), fun k hk => (hb.frozen (p := ⟨g, k, none⟩) (Nat.lt_of_lt_of_le h.lt hB)).trans (h.free k hk), Nat.lt_of_lt_of_le h.lt hb.size⟩
theorem ByAt.drew {w : World} {g : Nat} {zs : List Int} (h : ByAt w g zs) : ByAt w.drew g zs := ⟨h.cell, h.free, h.lt⟩
theorem ByAt.set {w : World} {g : Nat} {zs : List Int} (h : ByAt w g zs) (k : Nat) (hk : k < zs.length) (v : Int) : ByAt (w.setCell ⟨g, k, none⟩ (.int .u8 v)) g (zs.set k v) := by
  refine ⟨fun i hi => ?_, fun i hi => ?_, by simpa [World.setCell] using h.lt⟩
  · have hi' : i < zs.length := by simpa using hi
    by_cases hik : i = k
    · subst hik
      rw [World.cell?_setCell_same' _ _ _ (by rw [h.cell i hk]; rfl)]
      simp [gI, List.getD, hk]
    · have hne : (⟨g, k, none⟩ : Addr) ≠ ⟨g, i, none⟩ := fun e => by
        have := congrArg Addr.off e
        simp at this
        omega
      have e1 : (w.setCell ⟨g, k, none⟩ (.int .u8 v)).cell? ⟨g, i, none⟩ = w.cell? ⟨g, i, none⟩ := by
        first | exact World.cell?_setCell_other _ _ _ hne | exact World.cell?_setCell_other _ _ _ _ hne
      rw [e1, h.cell i hi']
      simp [gI, List.getD, show ¬ k = i by omega]
  · have hi' : i < zs.length := by simpa using hi
    have := h.free i hi'
    simpa using this
/-- The bytes of a text. -/
def byZ (t : ByteArray) : List Int := t.data.toList.map fun b => ((b.toNat : Nat) : Int)
theorem byZ_len (t : ByteArray) : (byZ t).length = t.size := by rw [byZ, List.length_map]; rfl
theorem ByAt.conv (w : World) (t : ByteArray) (cap : Nat) (e : TypeId) (hc : t.size ≤ cap) : ByAt (w.alloc (.cells (bytesRow t cap) e ((bytesRow t cap).size, (bytesRow t cap).size + 1))) w.heap.size (byZ t) := by
  have hz : (bytesRow t cap).size = cap := by
    have e : t.data.size = t.size := rfl
    rw [bytesRow, Array.size_append, Array.size_map, Array.size_replicate, e]; omega
  refine ⟨fun k hk => ?_, fun k hk => ?_, by simp⟩
  · rw [byZ_len] at hk
    rw [World.cell?_alloc_mark, bytesRow_at t cap k hk]
    congr 2
    simp only [gI, byZ, List.getD_eq_getElem?_getD, List.getElem?_map, Array.getElem?_toList]
    rw [Array.getElem?_eq_getElem (show k < t.data.size from hk)]
    rfl
  · rw [byZ_len] at hk
    rw [World.frozen?_alloc_mark, hz]
    simp
    omega

/-- The letters while the first k are done. -/
def mzL (ps : List ByteArray) (l : List UInt8) (k : Nat) : List Int := (List.range l.length).map fun j => (((if j < k then spC ps l j else l.getD j 42).toNat : Nat) : Int)
theorem mzL_len (ps : List ByteArray) (l : List UInt8) (k : Nat) : (mzL ps l k).length = l.length := by simp [mzL]
theorem mzL_zero (ps : List ByteArray) (t : ByteArray) : mzL ps t.data.toList 0 = byZ t := by
  apply List.ext_getElem?
  intro i
  by_cases hi : i < t.data.toList.length
  · have h1 : (mzL ps t.data.toList 0)[i]? = some (((t.data.toList.getD i 42).toNat : Nat) : Int) := by simp only [mzL, List.getElem?_map, List.getElem?_range hi]; rfl
    have h2 : (byZ t)[i]? = some (((t.data.toList.getD i 42).toNat : Nat) : Int) := by
      rw [byZ, List.getElem?_map, List.getElem?_eq_getElem hi, List.getD, List.getElem?_eq_getElem hi]; rfl
    rw [h1, h2]
  · rw [List.getElem?_eq_none (by rw [mzL_len]; omega), List.getElem?_eq_none (by rw [byZ_len]; exact Nat.le_of_not_lt hi)]
theorem mzL_get {ps : List ByteArray} {l : List UInt8} {k : Nat} (h : k < l.length) : gI (mzL ps l k) k = (((l.getD k 42).toNat : Nat) : Int) := by
  simp [gI, mzL, h]
theorem mzL_set {ps : List ByteArray} {l : List UInt8} {k : Nat} (h : k < l.length) : (mzL ps l k).set k (((spC ps l k).toNat : Nat) : Int) = mzL ps l (k + 1) := by
  apply List.ext_getElem?
  intro i
  by_cases hi : i < l.length
  · have h2 : (mzL ps l (k + 1))[i]? = some (((if i < k + 1 then spC ps l i else l.getD i 42).toNat : Nat) : Int) := by simp only [mzL, List.getElem?_map, List.getElem?_range hi]; rfl
    rw [h2]
    by_cases e : i = k
    · subst e
      rw [List.getElem?_set_self (by rw [mzL_len]; exact hi), if_pos (by omega)]
    · have h1 : (mzL ps l k)[i]? = some (((if i < k then spC ps l i else l.getD i 42).toNat : Nat) : Int) := by simp only [mzL, List.getElem?_map, List.getElem?_range hi]; rfl
      rw [List.getElem?_set_ne (fun e2 => e e2.symm), h1]
      have : (i < k + 1) = (i < k) := by apply propext; omega
      simp only [this]
  · rw [List.getElem?_eq_none (by simp [mzL_len]; omega), List.getElem?_eq_none (by rw [mzL_len]; omega)]
theorem mzL_same {ps : List ByteArray} {l : List UInt8} {k : Nat} (h : spC ps l k = l.getD k 42) : mzL ps l (k + 1) = mzL ps l k := by
  unfold mzL
  apply List.map_congr_left
  intro j _
  by_cases e : j = k
  · subst e
    rw [if_pos (by omega), if_neg (by omega), h]
  · have : (j < k + 1) = (j < k) := by apply propext; omega
    simp only [this]
theorem mzL_end (ps : List ByteArray) (l : List UInt8) : strOfNums (mzL ps l l.length) = ⟨(spR ps l).toArray⟩ := by
  apply ByteArray.ext
  apply Array.ext'
  show (mzL ps l l.length).map (fun n => UInt8.ofNat n.toNat) = spR ps l
  unfold mzL spR
  rw [List.map_map]
  apply List.map_congr_left
  intro j hj
  have hj' : j < l.length := by simpa using hj
  simp [hj']

/-- Whether one of the first k states of a list leads a switch to a value. -/
def tzB (L : List Int) (ps : List ByteArray) (i v k : Nat) : Bool := (List.range k).any fun j => bitN ps i (gI L j).toNat == v
theorem tzB_next (L : List Int) (ps : List ByteArray) (i v k : Nat) : tzB L ps i v (k + 1) = (tzB L ps i v k || bitN ps i (gI L k).toNat == v) := by simp [tzB, List.range_succ]
theorem tzB_end (l : List UInt8) (ps : List ByteArray) (i v : Nat) : tzB (stL l (2 ^ l.length)) ps i v (stL l (2 ^ l.length)).length = toB ps l i v := by
  cases h : toB ps l i v with
  | true =>
    obtain ⟨s, h1, h2, h3⟩ := toB_get h
    obtain ⟨j, hj, ej⟩ := stL_mem h1 h2
    rw [tzB, List.any_eq_true]
    exact ⟨j, List.mem_range.2 hj, by rw [ej, Int.toNat_natCast, h3]; simp⟩
  | false =>
    rw [tzB, List.any_eq_false]
    intro j hj
    obtain ⟨s, e, h1, h2⟩ := stL_get (List.mem_range.1 hj)
    rw [e, Int.toNat_natCast, beq_iff_eq]
    intro hv
    rw [toB_yes h1 h2 hv] at h
    cases h

end Go.Proofs.YthgjmciiaikgoaaDoor
