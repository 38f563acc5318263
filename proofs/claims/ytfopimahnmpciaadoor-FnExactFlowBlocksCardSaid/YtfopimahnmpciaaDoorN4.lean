/- Walks: a network as a text. -/
import Derived.Test.YtfopimahnmpciaaDoorN3
namespace Go.Proofs.YtfopimahnmpciaaDoor
open Go.RowKit

/-- Whether parts are the tables of a network. -/
def netB (ps : List ByteArray) : Bool := ps.all fun t => digB t && decide (inpV t.size = (ps.length : Int))
theorem netB_not {ps : List ByteArray} {k : Nat} (hk : k < ps.length) (h : (digB (gT ps k) && decide (inpV (gT ps k).size = (ps.length : Int))) = false) : netB ps = false := by
  rw [netB, List.all_eq_false]
  exact ⟨gT ps k, List.mem_of_getElem? (gT_lt hk), by simpa using h⟩
theorem netB_yes {ps : List ByteArray} (h : ∀ k, k < ps.length → (digB (gT ps k) && decide (inpV (gT ps k).size = (ps.length : Int))) = true) : netB ps = true := by
  rw [netB, List.all_eq_true]
  intro t ht
  obtain ⟨i, hi, rfl⟩ := List.getElem_of_mem ht
  have := h i hi
  rwa [show gT ps i = ps[i] by simp [gT, List.getD, hi]] at this
theorem netB_get {ps : List ByteArray} (h : netB ps = true) (k : Nat) (hk : k < ps.length) : digB (gT ps k) = true ∧ inpV (gT ps k).size = (ps.length : Int) := by
  rw [netB, List.all_eq_true] at h
  have := h (gT ps k) (List.mem_of_getElem? (gT_lt hk))
  simpa using this
def netL (ps : List ByteArray) : List ByteArray := if netB ps = true then ps else []
theorem netL_yes {ps : List ByteArray} (h : netB ps = true) : netL ps = ps := by simp [netL, h]
theorem netL_no {ps : List ByteArray} (h : netB ps = false) : netL ps = [] := by simp [netL, h]
theorem retv {v : Value} {c d : Bool} (h : c = d) : Ending.returned (.tuple #[v, .bool c]) = .returned (.tuple #[v, .bool d]) := by rw [h]
theorem cutsP_size (c : UInt8) (s : ByteArray) (t : ByteArray) (ht : t ∈ cutsP c s) : t.size ≤ s.size := by
  rw [cutTo_end] at ht
  have key : ∀ i, ∀ t ∈ (cutTo c s i).1, t.size ≤ s.size := by
    intro i
    induction i with
    | zero => intro t ht; cases ht
    | succ i ih =>
      intro t ht
      by_cases h : s.data.toList[i]? = some c
      · rw [cutTo_hit h] at ht
        rcases List.mem_append.1 ht with h1 | h1
        · exact ih t h1
        · rw [List.mem_singleton.1 h1]; simp; omega
      · rw [cutTo_miss h] at ht; exact ih t ht
  rcases List.mem_append.1 ht with h1 | h1
  · exact key _ t h1
  · rw [List.mem_singleton.1 h1]; simp
theorem cutsP_pos (c : UInt8) (s : ByteArray) : 0 < (cutsP c s).length := by rw [cutTo_end]; simp
theorem cutsP_len (c : UInt8) (s : ByteArray) : (cutsP c s).length ≤ s.size + 1 := by
  rw [cutTo_end]
  have := cutTo_len c s s.size
  simp; omega

set_option maxHeartbeats 2000000 in
theorem l3Open_ok (s : ByteArray) (w : World) (hs : s.size ≤ 1048576) :
    Calls Tryd.prog 9 #[.string s] w fun e w' => ∃ v, e = .returned (.tuple #[v, .bool (netB (cutsP 44 s))]) ∧ OwnT w' w.heap.size v (netL (cutsP 44 s)) ∧ Below w.heap.size w w' := by
  have HC := Lib.hid (l14Cut_ok s 44 w hs)
  have hpl := cutsP_len 44 s
  have hpz := cutsP_size 44 s
  generalize cutsP 44 s = ps at HC hpl hpz
  go_enter Tryd.func9, Tryd.ntmps9
  go_wp2_with fail
  refine HC.out.mono ?_
  rintro e w1 ⟨v, rfl, o1, b1⟩
  have HO := Lib.hid o1
  obtain ⟨a, cp, rfl, q⟩ := o1.row
  have HS := Lib.hid (fun k (hk : k < ps.length) => Nat.le_trans (hpz (gT ps k) (List.mem_of_getElem? (gT_lt hk))) hs)
  clear hpz
  go_wp2_with fail
  go_loop [5] (fun i => ∃ k : Nat, k ≤ ps.length ∧ i = .int .i64 k ∧ (∀ j, j < k → (digB (gT ps j) && decide (inpV (gT ps j).size = (ps.length : Int))) = true)) (fun i => ps.length - (intOf i).toNat)
  case atStart => exact ⟨0, Nat.zero_le _, rfl, fun j h => absurd h (Nat.not_lt_zero _)⟩
  case round =>
    obtain ⟨k, hk, rfl, hno⟩ := hrel
    have HN := Lib.hid hno
    clear hno
    by_cases hlt : k < ps.length
    · obtain ⟨b, o, rfl, hbo⟩ := q.2.some (by omega)
      have hcx := q.2.cell b o rfl k hlt
      have hlt' : (k : Int) < (ps.length : Int) := by omega
      have hz := HS.out k hlt
      have HT := Lib.hid (tblS_ok (gT ps k) hz w1)
      have HI := Lib.hid (l1Inputs_ok (gT ps k).size hz w1)
      clear q
      cases ht : tvB (gT ps k) with
      | false =>
        have hb : (digB (gT ps k) && decide (inpV (gT ps k).size = (ps.length : Int))) = false := by
          rw [Bool.and_eq_false_iff]
          rw [tvB, Bool.and_eq_false_iff] at ht
          rcases ht with h | h
          · exact .inl h
          · refine .inr ?_
            simp only [decide_eq_false_iff_not] at h ⊢
            omega
        have HQ := Lib.hid (netB_not hlt hb)
        rw [ht] at HT
        clear ht hb
        go_wp2_with fail
        refine HT.out.mono ?_
        rintro e w2 ⟨rfl, rfl⟩
        go_wp2_with fail
        go_ret2
        exact ⟨_, retv HQ.out.symm, by rw [netL_no HQ.out]; exact OwnT.lit _ _ [] b1.size (by decide), b1.alloc b1.size _⟩
      | true =>
        rw [ht] at HT
        by_cases he : inpV (gT ps k).size = (ps.length : Int)
        · have hne : (inpV (gT ps k).size != (ps.length : Int)) = false := by simp [he]
          have hb : (digB (gT ps k) && decide (inpV (gT ps k).size = (ps.length : Int))) = true := by
            rw [tvB, Bool.and_eq_true] at ht
            rw [ht.1, decide_eq_true he]; rfl
          have HQ := Lib.hid hb
          clear ht hb he
          generalize inpV (gT ps k).size = u at hne HI
          go_wp2_with fail
          refine HT.out.mono ?_
          rintro e w2 ⟨rfl, rfl⟩
          go_wp2_with fail
          refine HI.out.mono ?_
          rintro e w2 ⟨rfl, rfl⟩
          go_wp2_with fail
          go_round
          case rel => exact ⟨k + 1, by omega, by go_num, fun j hj => by
              by_cases e : j = k
              · rw [e]; exact HQ.out
              · exact HN.out j (by omega)⟩
          case measure => simp [intOf]; omega
        · have hne : (inpV (gT ps k).size != (ps.length : Int)) = true := by simp [he]
          have hb : (digB (gT ps k) && decide (inpV (gT ps k).size = (ps.length : Int))) = false := by
            rw [decide_eq_false he]; simp
          have HQ := Lib.hid (netB_not hlt hb)
          clear ht hb he
          generalize inpV (gT ps k).size = u at hne HI
          go_wp2_with fail
          refine HT.out.mono ?_
          rintro e w2 ⟨rfl, rfl⟩
          go_wp2_with fail
          refine HI.out.mono ?_
          rintro e w2 ⟨rfl, rfl⟩
          go_wp2_with fail
          go_ret2
          exact ⟨_, retv HQ.out.symm, by rw [netL_no HQ.out]; exact OwnT.lit _ _ [] b1.size (by decide), b1.alloc b1.size _⟩
    · obtain rfl : k = ps.length := by omega
      have HQ := Lib.hid (netB_yes HN.out)
      clear q
      go_wp2_with fail
      go_ret2
      exact ⟨_, retv HQ.out.symm, by rw [netL_yes HQ.out]; exact HO.out, b1⟩

end Go.Proofs.YtfopimahnmpciaaDoor
