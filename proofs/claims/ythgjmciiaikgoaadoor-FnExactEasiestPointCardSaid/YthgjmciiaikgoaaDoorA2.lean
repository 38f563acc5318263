/- Walks: bytes of texts, terms. -/
import Derived.Test.YthgjmciiaikgoaaDoorA1
namespace Go.Proofs.YthgjmciiaikgoaaDoor
open Go.RowKit

theorem at_list (s : ByteArray) (k : Nat) (h : k < s.size) : s.data.toList[k]'(by simpa using h) = s[k] := rfl

set_option maxHeartbeats 1000000 in
theorem l14Find_ok (s : ByteArray) (c : Int) (w : World) (hs : s.size ≤ maxLen) :
    Calls Tryd.prog 123 #[.string s, .int .u8 c] w fun e w' => e = .returned (.int .i64 (findI s.data.toList c 0)) ∧ w = w' := by
  unfold maxLen at hs
  go_enter Tryd.func123, Tryd.ntmps123
  go_wp2
  go_loop [5] (fun i => ∃ k : Nat, k ≤ s.size ∧ i = .int .i64 k ∧ (∀ j (h : j < k) (h2 : j < s.size), ((s[j].toNat : Nat) : Int) ≠ c)) (fun i => s.size - (intOf i).toNat)
  case atStart => exact ⟨0, Nat.zero_le _, rfl, fun j h => absurd h (Nat.not_lt_zero _)⟩
  case round =>
    obtain ⟨k, hk, rfl, hno⟩ := hrel
    have HN := Lib.hid hno
    clear hno
    by_cases hlt : k < s.size
    · by_cases hq : ((s[k].toNat : Nat) : Int) = c
      · have hqb : (((s[k].toNat : Nat) : Int) == c) = true := by simp [hq]
        have HQ := Lib.hid hq
        clear hq
        go_wp2
        go_ret
        exact ⟨reti (by rw [findI_hit s.data.toList c 0 k (by simpa using hlt) (fun j hj => HN.out j hj (by omega)) HQ.out]; omega), rfl⟩
      · have hqb : (((s[k].toNat : Nat) : Int) == c) = false := by simp [hq]
        have HQ := Lib.hid hq
        clear hq
        go_wp2
        go_round
        case rel => exact ⟨k + 1, by omega, by go_num, fun j hj h2 => by
            by_cases e : j = k
            · subst e; exact HQ.out
            · exact HN.out j (by omega) h2⟩
        case measure => simp [intOf]; omega
    · go_wp2
      go_ret
      refine ⟨reti ?_, rfl⟩
      rw [findI_miss s.data.toList c 0 fun j hj => ?_]
      have h2 : j < s.size := by simpa using hj
      exact HN.out j (by omega) h2

set_option maxHeartbeats 1000000 in
theorem tvS_ok (s : ByteArray) (m : Int) (w : World) (hs : s.size ≤ maxLen) :
    Calls Tryd.prog 97 #[.string s, .int .i64 m] w fun e w' => e = .returned (.bool (termB s.data.toList m)) ∧ w = w' := by
  have hsl : s.data.toList.length = s.size := by simp
  unfold maxLen at hs
  have HSL := Lib.hid hsl
  clear hsl
  go_enter Tryd.func97, Tryd.ntmps97
  go_wp2
  go_loop [5] (fun i => ∃ k : Nat, k ≤ s.size ∧ i = .int .i64 k ∧ (∀ j (h : j < k) (h2 : j < s.size), isT s[j] = true)) (fun i => s.size - (intOf i).toNat)
  case atStart => exact ⟨0, Nat.zero_le _, rfl, fun j h => absurd h (Nat.not_lt_zero _)⟩
  case round =>
    obtain ⟨k, hk, rfl, hno⟩ := hrel
    have HN := Lib.hid hno
    clear hno
    by_cases hlt : k < s.size
    · by_cases hq : isT s[k] = true
      · have hf : ¬ findI [42, 48, 49] ((s[k].toNat : Nat) : Int) 0 < 0 := by rw [findI_term]; simp [hq]
        have HQ := Lib.hid hq
        clear hq
        go_wp2_with (go_at_call 123; refine (l14Find_ok _ _ _ (by decide)).mono ?_; rintro e w' ⟨rfl, rfl⟩)
        go_round
        case rel => exact ⟨k + 1, by omega, by go_num, fun j hj h2 => by
            by_cases e : j = k
            · subst e; exact HQ.out
            · exact HN.out j (by omega) h2⟩
        case measure => simp [intOf]; omega
      · have hf : findI [42, 48, 49] ((s[k].toNat : Nat) : Int) 0 < 0 := by rw [findI_term]; simpa using hq
        have HQ := Lib.hid hq
        clear hq
        go_wp2_with (go_at_call 123; refine (l14Find_ok _ _ _ (by decide)).mono ?_; rintro e w' ⟨rfl, rfl⟩)
        go_ret
        refine ⟨retb ?_, rfl⟩
        have : s.data.toList.all isT = false := by
          rw [List.all_eq_false]
          exact ⟨s[k], by rw [← at_list s k hlt]; exact List.getElem_mem _, HQ.out⟩
        simp [termB, this]
    · have HA : Hid (s.data.toList.all isT = true) := by
        refine List.all_eq_true.2 fun b hb => ?_
        obtain ⟨j, hj, rfl⟩ := List.getElem_of_mem hb
        exact HN.out j (by have := HSL.out; omega) (by have := HSL.out; omega)
      by_cases h5 : 1 ≤ m ∧ m ≤ 5
      · have hq : inB m 1 5 = true := inB_iff.2 h5
        go_wp2_with (go_at_call 47; refine (l1In_ok _ _ _ _).mono ?_; rintro e w' ⟨rfl, rfl⟩)
        go_ret
        exact ⟨retb (by rw [termB, HA.out, HSL.out, decide_eq_true h5]; simp only [Bool.and_true, Bool.true_and]; exact beq_dec _ _), rfl⟩
      · have hq : inB m 1 5 = false := by rw [Bool.eq_false_iff]; exact fun h => h5 (inB_iff.1 h)
        go_wp2_with (go_at_call 47; refine (l1In_ok _ _ _ _).mono ?_; rintro e w' ⟨rfl, rfl⟩)
        go_ret
        exact ⟨retb (by rw [termB, decide_eq_false h5]; rfl), rfl⟩

theorem ne_int {a b : Int} (h : a ≠ b) : (a != b) = true := by simp [h]
theorem eq_int {a b : Int} (h : a = b) : (a != b) = false := by simp [h]

theorem all_term {s : ByteArray} (h : ∀ j (h2 : j < s.size), isT s[j] = true) : s.data.toList.all isT = true := by
  refine List.all_eq_true.2 fun b hb => ?_
  obtain ⟨j, hj, rfl⟩ := List.getElem_of_mem hb
  exact h j (by simpa using hj)
theorem not_all_term {s : ByteArray} {k : Nat} (hlt : k < s.size) (h : ¬ isT s[k] = true) : s.data.toList.all isT = false := by
  rw [List.all_eq_false]
  exact ⟨s[k], by rw [← at_list s k hlt]; exact List.getElem_mem _, h⟩

set_option maxHeartbeats 1000000 in
theorem tvI_ok (s : ByteArray) (m : Int) (w : World) (hs : s.size ≤ maxLen) :
    Calls Tryd.prog 100 #[.string s, .int .i64 m] w fun e w' => e = .returned (.bool (termB s.data.toList m)) ∧ w = w' := by
  have HSL := Lib.hid (show s.data.toList.length = s.size by simp)
  unfold maxLen at hs
  by_cases h5 : 1 ≤ m ∧ m ≤ 5
  rotate_left
  · by_cases hm1 : m < 1
    · go_enter Tryd.func100, Tryd.ntmps100
      go_wp2
      go_ret
      exact ⟨retb (by rw [termB, decide_eq_false h5]; rfl), rfl⟩
    · have hm5 : 5 < m := by omega
      go_enter Tryd.func100, Tryd.ntmps100
      go_wp2
      go_ret
      exact ⟨retb (by rw [termB, decide_eq_false h5]; rfl), rfl⟩
  by_cases hl : (s.size : Int) = m
  rotate_left
  · have hlb := ne_int hl
    go_enter Tryd.func100, Tryd.ntmps100
    go_wp2
    go_ret
    exact ⟨retb (by rw [termB, HSL.out, decide_eq_false hl]; simp), rfl⟩
  have hlb := eq_int hl
  have HL := Lib.hid hl
  obtain ⟨n, rfl⟩ := Int.eq_ofNat_of_zero_le (show 0 ≤ m by omega)
  have hns : n ≤ s.size := by omega
  clear hl
  go_enter Tryd.func100, Tryd.ntmps100
  go_wp2
  go_loop [19] (fun i => ∃ k : Nat, k ≤ n ∧ i = .int .i64 k ∧ (∀ j (h : j < k) (h2 : j < s.size), isT s[j] = true)) (fun i => n - (intOf i).toNat)
  case atStart => exact ⟨0, Nat.zero_le _, rfl, fun j h => absurd h (Nat.not_lt_zero _)⟩
  case round =>
    obtain ⟨k, hk, rfl, hno⟩ := hrel
    have HN := Lib.hid hno
    clear hno
    by_cases hlt : k < n
    · have hks : k < s.size := by omega
      by_cases hq : isT s[k] = true
      · have h3 := (isT_iff _).1 hq
        have HQ := Lib.hid hq
        clear hq
        by_cases e0 : ((s[k].toNat : Nat) : Int) = 48
        · have t0 := eq_int e0
          clear e0 h3
          go_wp2
          go_round
          case rel => exact ⟨k + 1, by omega, by go_num, fun j hj h2 => by
              by_cases e : j = k
              · subst e; exact HQ.out
              · exact HN.out j (by omega) h2⟩
          case measure => simp [intOf]; omega
        · have t0 := ne_int e0
          by_cases e1 : ((s[k].toNat : Nat) : Int) = 49
          · have t1 := eq_int e1
            clear e0 e1 h3
            go_wp2
            go_round
            case rel => exact ⟨k + 1, by omega, by go_num, fun j hj h2 => by
                by_cases e : j = k
                · subst e; exact HQ.out
                · exact HN.out j (by omega) h2⟩
            case measure => simp [intOf]; omega
          · have t1 := ne_int e1
            have t2 := eq_int (show ((s[k].toNat : Nat) : Int) = 42 by omega)
            clear e0 e1 h3
            go_wp2
            go_round
            case rel => exact ⟨k + 1, by omega, by go_num, fun j hj h2 => by
                by_cases e : j = k
                · subst e; exact HQ.out
                · exact HN.out j (by omega) h2⟩
            case measure => simp [intOf]; omega
      · have h3 := fun h => hq ((isT_iff _).2 h)
        have t0 := ne_int (show ((s[k].toNat : Nat) : Int) ≠ 48 by intro h; exact h3 (.inr (.inl h)))
        have t1 := ne_int (show ((s[k].toNat : Nat) : Int) ≠ 49 by intro h; exact h3 (.inr (.inr h)))
        have t2 := ne_int (show ((s[k].toNat : Nat) : Int) ≠ 42 by intro h; exact h3 (.inl h))
        have HA := Lib.hid (not_all_term hks hq)
        clear hq h3
        go_wp2
        go_ret
        exact ⟨retb (by simp [termB, HA.out]), rfl⟩
    · have HA := Lib.hid (all_term (s := s) fun j h2 => HN.out j (by have := HL.out; omega) h2)
      go_wp2
      go_ret
      exact ⟨retb (by rw [termB, HA.out, HSL.out, decide_eq_true h5, decide_eq_true HL.out]; rfl), rfl⟩

theorem at_getD (s : ByteArray) (k : Nat) (h : k < s.size) : s.data.toList.getD k 42 = s[k] := by
  have : s.data.toList[k]? = some s[k] := by rw [List.getElem?_eq_getElem (by simpa using h)]; rfl
  simp [List.getD, this]
theorem star_iff (b : UInt8) : b = 42 ↔ ((b.toNat : Nat) : Int) = 42 := by
  have e1 : (42 : UInt8).toNat = 42 := rfl
  rw [← UInt8.toNat_inj, e1]; omega
theorem heldTo_star {s : ByteArray} {k : Nat} (h : k < s.size) (e : ((s[k].toNat : Nat) : Int) = 42) : heldTo s.data.toList (k + 1) = heldTo s.data.toList k := by
  rw [heldTo_succ, at_getD s k h, if_pos ((star_iff _).2 e)]
theorem heldTo_held {s : ByteArray} {k : Nat} (h : k < s.size) (e : ((s[k].toNat : Nat) : Int) ≠ 42) : heldTo s.data.toList (k + 1) = heldTo s.data.toList k ||| 2 ^ k := by
  rw [heldTo_succ, at_getD s k h, if_neg (fun h => e ((star_iff _).1 h))]

set_option maxHeartbeats 1000000 in
theorem l10Held_ok (s : ByteArray) (w : World) (hs : s.size ≤ 62) :
    Calls Tryd.prog 85 #[.string s] w fun e w' => e = .returned (.int .i64 (heldTo s.data.toList s.size)) ∧ w = w' := by
  go_enter Tryd.func85, Tryd.ntmps85
  go_wp2
  go_loop [3, 4] (fun t i => ∃ k : Nat, k ≤ s.size ∧ i = .int .i64 k ∧ t = .int .i64 (heldTo s.data.toList k)) (fun _ i => s.size - (intOf i).toNat)
  case atStart => exact ⟨0, Nat.zero_le _, rfl, rfl⟩
  case round =>
    obtain ⟨k, hk, rfl, rfl⟩ := hrel
    by_cases hlt : k < s.size
    · have hlt64 : (k : Int) < 64 := by omega
      by_cases hq : ((s[k].toNat : Nat) : Int) = 42
      · have hqb := eq_int hq
        have HX := Lib.hid (heldTo_star hlt hq)
        clear hq
        go_wp2
        go_round
        case rel => exact ⟨k + 1, by omega, by go_num, by rw [HX.out]⟩
        case measure => simp [intOf]; omega
      · have hqb := ne_int hq
        have HX := Lib.hid (heldTo_held hlt hq)
        clear hq
        go_wp2
        go_round
        case rel => exact ⟨k + 1, by omega, by go_num, by rw [HX.out, or_shl _ _ (heldTo_lt63 _ _ (by omega)) (by omega)]⟩
        case measure => simp [intOf]; omega
    · obtain rfl : k = s.size := by omega
      go_wp2
      go_ret
      exact ⟨rfl, rfl⟩

set_option maxHeartbeats 1000000 in
theorem heldIn_ok (s : ByteArray) (w : World) (hs : s.size ≤ 62) :
    Calls Tryd.prog 87 #[.string s] w fun e w' => e = .returned (.int .i64 (heldTo s.data.toList s.size)) ∧ w = w' := by
  go_enter Tryd.func87, Tryd.ntmps87
  go_wp2
  go_loop [3, 4] (fun t i => ∃ k : Nat, k ≤ s.size ∧ i = .int .i64 k ∧ t = .int .i64 (heldTo s.data.toList k)) (fun _ i => s.size - (intOf i).toNat)
  case atStart => exact ⟨0, Nat.zero_le _, rfl, rfl⟩
  case round =>
    obtain ⟨k, hk, rfl, rfl⟩ := hrel
    by_cases hlt : k < s.size
    · have hlt64 : (k : Int) < 64 := by omega
      by_cases hq : ((s[k].toNat : Nat) : Int) = 42
      · have hqb := eq_int hq
        have HX := Lib.hid (heldTo_star hlt hq)
        clear hq
        go_wp2
        go_round
        case rel => exact ⟨k + 1, by omega, by go_num, by rw [HX.out]⟩
        case measure => simp [intOf]; omega
      · have hqb := ne_int hq
        have HX := Lib.hid (heldTo_held hlt hq)
        clear hq
        go_wp2
        go_round
        case rel => exact ⟨k + 1, by omega, by go_num, by rw [HX.out, or_shl _ _ (heldTo_lt63 _ _ (by omega)) (by omega)]⟩
        case measure => simp [intOf]; omega
    · obtain rfl : k = s.size := by omega
      go_wp2
      go_ret
      exact ⟨rfl, rfl⟩

def heldV (l : List UInt8) : Int := if termB l l.length then heldTo l l.length else -1

end Go.Proofs.YthgjmciiaikgoaaDoor
