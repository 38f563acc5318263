/- Walks and plain facts: several of my texts in one. -/
import Derived.Test.YtcmjogojlijdgaaGreatDoorGrB
import Derived.Test.YtcmjogojlijdgaaGreatDoorGrF
/- Walks: holding switches, on both sides. -/
namespace Go.Proofs.YtcmjogojlijdgaaGreatDoor
open Go.RowKit

theorem digT_self {t : ByteArray} (h : digB t = true) : digT ((List.range t.size).map (byD t)) = t := by
  apply ByteArray.ext
  apply Array.ext'
  simp only [digT, List.map_map]
  apply List.ext_getElem?
  intro i
  by_cases hi : i < t.size
  · have hb := at_byte t i hi
    rw [hb]
    simp only [List.getElem?_map, List.getElem?_range hi, Option.map_some, Function.comp]
    rw [digB, List.all_eq_true] at h
    have hd := (isD_int _).1 (h t[i] (List.mem_of_getElem? hb))
    have e : byD t i = ((t[i].toNat : Nat) : Int) - 48 := byD_at t i hi
    have e2 : 48 + (byD t i).toNat = t[i].toNat := by omega
    rw [e2, UInt8.ofNat_toNat]
  · rw [List.getElem?_eq_none (by simp; omega), List.getElem?_eq_none (by simp; omega)]
theorem gT_dig {ps : List ByteArray} (hn : netB ps = true) {k : Nat} (hk : k < ps.length) : gT ps k = digF (bitN ps) ps.length k := by
  have hd := (netB_get hn k hk).1
  have hz := net_size hn k hk
  rw [digF, ← hz]
  conv => lhs; rw [← digT_self hd]
  congr 1
  apply List.map_congr_left
  intro s _
  exact bitN_eq hd s

/-- A letter repeated. -/
def repB (b : UInt8) (n : Nat) : ByteArray := ⟨(List.replicate n b).toArray⟩
theorem repB_size (b : UInt8) (n : Nat) : (repB b n).size = n := by simp [repB, ByteArray.size]
theorem repB_app (b : UInt8) (i j : Nat) : repB b i ++ repB b j = repB b (i + j) := by
  apply ByteArray.ext
  apply Array.ext'
  simp [repB]
theorem repB_one (b : UInt8) : repB b 1 = ⟨#[b]⟩ := rfl
theorem repB_zero (b : UInt8) : repB b 0 = ⟨#[]⟩ := rfl
theorem digT_rep (v n : Nat) : digT ((List.range n).map fun _ => ((v : Nat) : Int)) = repB (UInt8.ofNat (48 + v)) n := by
  apply ByteArray.ext
  apply Array.ext'
  simp only [digT, repB, List.map_map]
  rw [List.eq_replicate_iff]
  refine ⟨by simp, fun b hb => ?_⟩
  simp only [List.mem_map, Function.comp] at hb
  obtain ⟨_, _, rfl⟩ := hb
  simp

end Go.Proofs.YtcmjogojlijdgaaGreatDoor
/- Walks: HoldSwitches of the reference. -/
namespace Go.Proofs.YtcmjogojlijdgaaGreatDoor
open Go.RowKit

/-- Whether texts are a network and a term of its switches. -/
def htB (ps : List ByteArray) (l : List UInt8) : Bool := netB ps && termB l ps.length
theorem ht_no {ps : List ByteArray} {l : List UInt8} (h : netB ps = false) : htB ps l = false := by simp [htB, h]
theorem ht_in {ps : List ByteArray} {l : List UInt8} (h : netB ps = true) : htB ps l = termB l ps.length := by simp [htB, h]
theorem ht_get {ps : List ByteArray} {t : ByteArray} (h : htB ps t.data.toList = true) : netB ps = true ∧ t.size = ps.length ∧ t.data.toList.all isT = true := by
  rw [htB, Bool.and_eq_true, termB] at h
  simp only [Bool.and_eq_true, decide_eq_true_iff] at h
  exact ⟨h.1, by have := h.2.1.2; exact_mod_cast this, h.2.2⟩

/-- The values of a network in which a term's switches are held. -/
def hsF (ps : List ByteArray) (l : List UInt8) (k s : Nat) : Nat := if ltr l k = 2 then bitN ps k s else ltr l k
theorem hs_star {ps : List ByteArray} {l : List UInt8} {k n : Nat} (h : ltr l k = 2) : digF (hsF ps l) n k = digF (bitN ps) n k := by
  unfold digF
  congr 1
  apply List.map_congr_left
  intro s _
  simp [hsF, h]
theorem hs_dig {ps : List ByteArray} {l : List UInt8} {k n : Nat} (h : ltr l k < 2) : digF (hsF ps l) n k = repB (UInt8.ofNat (48 + ltr l k)) (2 ^ n) := by
  rw [← digT_rep]
  unfold digF
  congr 1
  apply List.map_congr_left
  intro s _
  rw [hsF, if_neg (by omega)]
theorem extract_one (t : ByteArray) (k : Nat) (h : k < t.size) : t.extract k (k + 1) = ⟨#[t[k]]⟩ := by
  apply ByteArray.ext
  apply Array.ext'
  apply List.ext_getElem?
  intro i
  have hk : k < t.data.size := h
  simp only [ByteArray.data_extract, Array.getElem?_toList, Array.getElem?_extract]
  cases i with
  | zero =>
    rw [if_pos (by omega)]
    rw [Nat.add_zero, Array.getElem?_eq_getElem hk]
    rfl
  | succ i =>
    rw [if_neg (by omega)]
    simp

/-- What HoldSwitches gives. -/
def hsT (ps : List ByteArray) (l : List UInt8) : ByteArray := if htB ps l = true then netT (hsF ps l) ps.length else ⟨#[]⟩
theorem hsT_no {ps : List ByteArray} {l : List UInt8} (h : htB ps l = false) : hsT ps l = ⟨#[]⟩ := by simp [hsT, h]
theorem hsT_yes {ps : List ByteArray} {l : List UInt8} (h : htB ps l = true) : hsT ps l = netT (hsF ps l) ps.length := by simp [hsT, h]
theorem ret2h {a b : ByteArray} {c d : Bool} (h : a = b) (h' : c = d) : Ending.returned (.tuple #[.string a, .bool c]) = .returned (.tuple #[.string b, .bool d]) := by rw [h, h']

end Go.Proofs.YtcmjogojlijdgaaGreatDoor
