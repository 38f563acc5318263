/- Walks: a network as a text. -/
import Derived.Test.YtlfadpfodmpneaaDoorN3
namespace Go.Proofs.YtlfadpfodmpneaaDoor
open Go.RowKit

/-- Whether parts are the tables of a network. -/
def netB (ps : List ByteArray) : Bool := ps.all fun t => digB t && decide (inpV t.size = (ps.length : Int))
theorem netB_not {ps : List ByteArray} {k : Nat} (hk : k < ps.length) (h : (digB (gT ps k) && decide (inpV (gT ps k).size = (ps.length : Int))) = false) : netB ps = false := by
  rw [netB, List.all_eq_false]
  exact ⟨gT ps k, List.mem_of_getElem? (gT_lt hk), by simpa using h⟩
theorem netB_yes {ps : List ByteArray} (h : ∀ k, k < ps.length → (digB (gT ps k) && decide (inpV (gT ps k).size = (ps.length : Int))) = true) : netB ps = true := by
  rw [netB, List.all_eq_true]
  intro t ht
  obtain ⟨i, hi, rfl⟩ := List.getElem_of_mem ht
  have := h i hi
  rwa [show gT ps i = ps[i] by simp [gT, List.getD, hi]] at this
theorem netB_get {ps : List ByteArray} (h : netB ps = true) (k : Nat) (hk : k < ps.length) : digB (gT ps k) = true ∧ inpV (gT ps k).size = (ps.length : Int) := by
  rw [netB, List.all_eq_true] at h
  have := h (gT ps k) (List.mem_of_getElem? (gT_lt hk))
  simpa using this
def netL (ps : List ByteArray) : List ByteArray := if netB ps = true then ps else []
theorem netL_yes {ps : List ByteArray} (h : netB ps = true) : netL ps = ps := by simp [netL, h]
theorem netL_no {ps : List ByteArray} (h : netB ps = false) : netL ps = [] := by simp [netL, h]
theorem retv {v : Value} {c d : Bool} (h : c = d) : Ending.returned (.tuple #[v, .bool c]) = .returned (.tuple #[v, .bool d]) := by rw [h]
theorem cutsP_size (c : UInt8) (s : ByteArray) (t : ByteArray) (ht : t ∈ cutsP c s) : t.size ≤ s.size := by
  rw [cutTo_end] at ht
  have key : ∀ i, ∀ t ∈ (cutTo c s i).1, t.size ≤ s.size := by
    intro i
    induction i with
    | zero => intro t ht; cases ht
    | succ i ih =>
      intro t ht
      by_cases h : s.data.toList[i]? = some c
      · rw [cutTo_hit h] at ht
        rcases List.mem_append.1 ht with h1 | h1
        · exact ih t h1
        · rw [List.mem_singleton.1 h1]; simp; omega
      · rw [cutTo_miss h] at ht; exact ih t ht
  rcases List.mem_append.1 ht with h1 | h1
  · exact key _ t h1
  · rw [List.mem_singleton.1 h1]; simp
theorem cutsP_pos (c : UInt8) (s : ByteArray) : 0 < (cutsP c s).length := by rw [cutTo_end]; simp
theorem cutsP_len (c : UInt8) (s : ByteArray) : (cutsP c s).length ≤ s.size + 1 := by
  rw [cutTo_end]
  have := cutTo_len c s s.size
  simp; omega

end Go.Proofs.YtlfadpfodmpneaaDoor
