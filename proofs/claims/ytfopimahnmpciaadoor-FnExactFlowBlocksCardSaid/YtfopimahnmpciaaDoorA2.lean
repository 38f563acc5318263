/- Walks: bytes of texts, terms. -/
import Derived.Test.YtfopimahnmpciaaDoorA1
namespace Go.Proofs.YtfopimahnmpciaaDoor
open Go.RowKit

theorem at_list (s : ByteArray) (k : Nat) (h : k < s.size) : s.data.toList[k]'(by simpa using h) = s[k] := rfl

set_option maxHeartbeats 1000000 in
theorem l14Find_ok (s : ByteArray) (c : Int) (w : World) (hs : s.size ≤ maxLen) :
    Calls Tryd.prog 39 #[.string s, .int .u8 c] w fun e w' => e = .returned (.int .i64 (findI s.data.toList c 0)) ∧ w = w' := by
  unfold maxLen at hs
  go_enter Tryd.func39, Tryd.ntmps39
  go_wp2
  go_loop [5] (fun i => ∃ k : Nat, k ≤ s.size ∧ i = .int .i64 k ∧ (∀ j (h : j < k) (h2 : j < s.size), ((s[j].toNat : Nat) : Int) ≠ c)) (fun i => s.size - (intOf i).toNat)
  case atStart => exact ⟨0, Nat.zero_le _, rfl, fun j h => absurd h (Nat.not_lt_zero _)⟩
  case round =>
    obtain ⟨k, hk, rfl, hno⟩ := hrel
    have HN := Lib.hid hno
    clear hno
    by_cases hlt : k < s.size
    · by_cases hq : ((s[k].toNat : Nat) : Int) = c
      · have hqb : (((s[k].toNat : Nat) : Int) == c) = true := by simp [hq]
        have HQ := Lib.hid hq
        clear hq
        go_wp2
        go_ret
        exact ⟨reti (by rw [findI_hit s.data.toList c 0 k (by simpa using hlt) (fun j hj => HN.out j hj (by omega)) HQ.out]; omega), rfl⟩
      · have hqb : (((s[k].toNat : Nat) : Int) == c) = false := by simp [hq]
        have HQ := Lib.hid hq
        clear hq
        go_wp2
        go_round
        case rel => exact ⟨k + 1, by omega, by go_num, fun j hj h2 => by
            by_cases e : j = k
            · subst e; exact HQ.out
            · exact HN.out j (by omega) h2⟩
        case measure => simp [intOf]; omega
    · go_wp2
      go_ret
      refine ⟨reti ?_, rfl⟩
      rw [findI_miss s.data.toList c 0 fun j hj => ?_]
      have h2 : j < s.size := by simpa using hj
      exact HN.out j (by omega) h2

theorem ne_int {a b : Int} (h : a ≠ b) : (a != b) = true := by simp [h]
theorem eq_int {a b : Int} (h : a = b) : (a != b) = false := by simp [h]

theorem all_term {s : ByteArray} (h : ∀ j (h2 : j < s.size), isT s[j] = true) : s.data.toList.all isT = true := by
  refine List.all_eq_true.2 fun b hb => ?_
  obtain ⟨j, hj, rfl⟩ := List.getElem_of_mem hb
  exact h j (by simpa using hj)
theorem not_all_term {s : ByteArray} {k : Nat} (hlt : k < s.size) (h : ¬ isT s[k] = true) : s.data.toList.all isT = false := by
  rw [List.all_eq_false]
  exact ⟨s[k], by rw [← at_list s k hlt]; exact List.getElem_mem _, h⟩

theorem at_getD (s : ByteArray) (k : Nat) (h : k < s.size) : s.data.toList.getD k 42 = s[k] := by
  have : s.data.toList[k]? = some s[k] := by rw [List.getElem?_eq_getElem (by simpa using h)]; rfl
  simp [List.getD, this]
theorem star_iff (b : UInt8) : b = 42 ↔ ((b.toNat : Nat) : Int) = 42 := by
  have e1 : (42 : UInt8).toNat = 42 := rfl
  rw [← UInt8.toNat_inj, e1]; omega
theorem heldTo_star {s : ByteArray} {k : Nat} (h : k < s.size) (e : ((s[k].toNat : Nat) : Int) = 42) : heldTo s.data.toList (k + 1) = heldTo s.data.toList k := by
  rw [heldTo_succ, at_getD s k h, if_pos ((star_iff _).2 e)]
theorem heldTo_held {s : ByteArray} {k : Nat} (h : k < s.size) (e : ((s[k].toNat : Nat) : Int) ≠ 42) : heldTo s.data.toList (k + 1) = heldTo s.data.toList k ||| 2 ^ k := by
  rw [heldTo_succ, at_getD s k h, if_neg (fun h => e ((star_iff _).1 h))]

def heldV (l : List UInt8) : Int := if termB l l.length then heldTo l l.length else -1

end Go.Proofs.YtfopimahnmpciaaDoor
