/- Walks: which states a term has, on both sides. -/
import Derived.Test.YthgjmciiaikgoaaDoorA2
import Derived.Test.YthgjmciiaikgoaaDoorBit
import Derived.Test.YthgjmciiaikgoaaDoorV1
namespace Go.Proofs.YthgjmciiaikgoaaDoor
open Go.RowKit

/-- The value that a term's letter holds: 0 or 1, or 2 for a star. -/
def ltr (l : List UInt8) (i : Nat) : Nat := if l.getD i 42 = 42 then 2 else (l.getD i 42).toNat - 48
theorem ltr_lt {l : List UInt8} (h : l.all isT = true) (i : Nat) : ltr l i < 3 := by
  unfold ltr
  split
  · decide
  · rename_i hne
    by_cases hi : i < l.length
    · have := List.all_eq_true.1 h _ (List.getElem_mem hi)
      have e : l.getD i 42 = l[i] := by simp [List.getD, hi]
      rw [e] at hne ⊢
      rcases (isT_iff _).1 this with h1 | h1 | h1
      · exact absurd ((star_iff _).2 h1) hne
      · omega
      · omega
    · rw [List.getD_eq_getElem?_getD, List.getElem?_eq_none (by omega)] at hne
      exact absurd rfl hne
/-- Whether a term's letter lets a state by. -/
def letB (l : List UInt8) (s i : Nat) : Bool := ltr l i == 2 || ltr l i == bN s i
def hasT (l : List UInt8) (s : Nat) : Bool := (List.range l.length).all (letB l s)
theorem hasT_no {l : List UInt8} {s i : Nat} (hi : i < l.length) (h : letB l s i = false) : hasT l s = false := by
  rw [hasT, List.all_eq_false]
  exact ⟨i, List.mem_range.2 hi, by simp [h]⟩
theorem hasT_yes {l : List UInt8} {s : Nat} (h : ∀ i, i < l.length → letB l s i = true) : hasT l s = true := by
  rw [hasT, List.all_eq_true]
  exact fun i hi => h i (List.mem_range.1 hi)

theorem ltr_star {l : List UInt8} {i : Nat} (h : l.getD i 42 = 42) : ltr l i = 2 := by rw [ltr, if_pos h]
theorem ltr_dig {l : List UInt8} {i : Nat} (hl : l.all isT = true) (hi : i < l.length) (h : l.getD i 42 ≠ 42) : ((((l.getD i 42).toNat : Nat) : Int)) = 48 + (ltr l i : Nat) ∧ ltr l i < 2 := by
  have e : l.getD i 42 = l[i] := by simp [List.getD, hi]
  have hT := List.all_eq_true.1 hl _ (List.getElem_mem hi)
  rw [ltr, if_neg h]
  rw [e] at h ⊢
  rcases (isT_iff _).1 hT with h1 | h1 | h1
  · exact absurd ((star_iff _).2 h1) h
  · omega
  · omega
theorem bytes_get (t : ByteArray) (k : Nat) (h : k < t.size) : (((t[k].toNat : Nat) : Int)) = (((t.data.toList.getD k 42).toNat : Nat) : Int) := by rw [at_getD t k h]

set_option maxHeartbeats 4000000 in
theorem hasI_ok (t : ByteArray) (s : Nat) (w : World) (ht : t.data.toList.all isT = true) (h5 : t.size ≤ 5) (hs : s < 32) :
    Calls Tryd.prog 125 #[.string t, .int .i64 s] w fun e w' => e = .returned (.bool (hasT t.data.toList s)) ∧ Below w.heap.size w w' := by
  have hlen : t.data.toList.length = t.size := rfl
  have HT := Lib.hid ht
  have HL := Lib.hid hlen
  clear ht hlen
  go_enter Tryd.func125, Tryd.ntmps125
  go_wp2_with fail
  go_loopw [5] (fun q wr => ∃ k : Nat, k ≤ t.size ∧ q = .int .i64 k ∧ (∀ j, j < k → letB t.data.toList s j = true) ∧ Below w.heap.size w wr) (fun q _ => t.size - (intOf q).toNat)
  case atStart => exact ⟨0, Nat.zero_le _, rfl, fun j hj => absurd hj (Nat.not_lt_zero _), Below.refl _ _⟩
  case round =>
    obtain ⟨k, hk, rfl, hall, hb⟩ := hrel
    have HA := Lib.hid hall
    have HB := Lib.hid hb
    clear hall hb
    by_cases hlt : k < t.size
    · have hlt' : (k : Int) < (t.size : Int) := by omega
      have hk0 : (0 : Int) ≤ (k : Int) := by omega
      have hbyte := bytes_get t k hlt
      have ev : bits .and .i64 ((s : Int) / 2 ^ k) 1 = ((bN s k : Nat) : Int) := bit_int (s : Int) k (by omega) (by omega)
      have hbl := bN_lt s k
      by_cases hst : t.data.toList.getD k 42 = 42
      · have hb1 : (((t[k].toNat : Nat) : Int) != 42) = false := by rw [hbyte, hst]; rfl
        have HQ := Lib.hid (show letB t.data.toList s k = true by rw [letB, ltr_star hst]; rfl)
        clear hst hbyte
        go_wp2_with fail
        go_quiet (fail)
        go_wp2_with fail
        go_roundw
        case rel => exact ⟨k + 1, by omega, by go_num, fun j hj => by
            by_cases e : j = k
            · rw [e]; exact HQ.out
            · exact HA.out j (by omega), HB.out.trans ⟨rfl, rfl, rfl, Nat.le_refl _, fun _ _ => rfl⟩⟩
        case measure => simp [intOf]; omega
      · obtain ⟨hd1, hd2⟩ := ltr_dig HT.out (by rw [HL.out]; exact hlt) hst
        rw [← hbyte] at hd1
        have hb1 : (((t[k].toNat : Nat) : Int) != 42) = true := by rw [hd1]; simp; omega
        have hw1 : IntKind.u8.wrap (((t[k].toNat : Nat) : Int) - 48) = ((ltr t.data.toList k : Nat) : Int) := by rw [hd1, IntKind.wrap_u8]; omega
        have hw2 : IntKind.i64.wrap ((ltr t.data.toList k : Nat) : Int) = ((ltr t.data.toList k : Nat) : Int) := wraps_i64 _ (by omega) (by omega)
        have HLb : Hid (letB t.data.toList s k = (ltr t.data.toList k == 2 || ltr t.data.toList k == bN s k)) := rfl
        clear hst hbyte hd1
        generalize ltr t.data.toList k = v at hd2 hw1 hw2 HLb
        generalize bN s k = u at ev hbl HLb
        by_cases huv : v = u
        · have hb2 : (((v : Nat) : Int) != ((u : Nat) : Int)) = false := by rw [huv]; simp
          have HQ := Lib.hid (show letB t.data.toList s k = true by rw [HLb.out, huv]; simp)
          clear huv
          go_wp2_with fail
          go_quiet (fail)
          go_wp2_with fail
          go_roundw
          case rel => exact ⟨k + 1, by omega, by go_num, fun j hj => by
              by_cases e : j = k
              · rw [e]; exact HQ.out
              · exact HA.out j (by omega), HB.out.trans ⟨rfl, rfl, rfl, Nat.le_refl _, fun _ _ => rfl⟩⟩
          case measure => simp [intOf]; omega
        · have hb2 : (((v : Nat) : Int) != ((u : Nat) : Int)) = true := by simp; omega
          have HQ := Lib.hid (hasT_no (l := t.data.toList) (s := s) (by rw [HL.out]; exact hlt) (show letB t.data.toList s k = false by
            rw [HLb.out, Bool.or_eq_false_iff, beq_eq_false_iff_ne, beq_eq_false_iff_ne]; omega))
          clear huv
          go_wp2_with fail
          go_quiet (fail)
          go_wp2_with fail
          go_ret
          exact ⟨retb HQ.out.symm, HB.out.trans ⟨rfl, rfl, rfl, Nat.le_refl _, fun _ _ => rfl⟩⟩
    · obtain rfl : k = t.size := by omega
      have HQ := Lib.hid (hasT_yes (l := t.data.toList) (s := s) HA.out)
      go_wp2_with fail
      go_ret
      exact ⟨retb HQ.out.symm, HB.out⟩


theorem sameW {P : Program} {f : FuncId} {args : Array Value} {w : World} {v : Value} (h : Calls P f args w fun e w' => e = .returned v ∧ w = w') : Calls P f args w fun e w' => e = .returned v ∧ w' = w :=
  h.mono fun _ _ ⟨a, b⟩ => ⟨a, b.symm⟩

set_option maxHeartbeats 4000000 in
theorem hasS_ok (t : ByteArray) (s : Nat) (w : World) (ht : t.data.toList.all isT = true) (h5 : t.size ≤ 5) (hs : s < 32) :
    Calls Tryd.prog 133 #[.string t, .int .i64 s] w fun e w' => e = .returned (.bool (hasT t.data.toList s)) ∧ Below w.heap.size w w' := by
  have hlen : t.data.toList.length = t.size := rfl
  have HT := Lib.hid ht
  have HL := Lib.hid hlen
  clear ht hlen
  go_enter Tryd.func133, Tryd.ntmps133
  go_wp2_with fail
  go_loopw [5] (fun q wr => ∃ k : Nat, k ≤ t.size ∧ q = .int .i64 k ∧ (∀ j, j < k → letB t.data.toList s j = true) ∧ Below w.heap.size w wr) (fun q _ => t.size - (intOf q).toNat)
  case atStart => exact ⟨0, Nat.zero_le _, rfl, fun j hj => absurd hj (Nat.not_lt_zero _), Below.refl _ _⟩
  case round =>
    obtain ⟨k, hk, rfl, hall, hb⟩ := hrel
    have HA := Lib.hid hall
    have HB := Lib.hid hb
    clear hall hb
    by_cases hlt : k < t.size
    · have hlt' : (k : Int) < (t.size : Int) := by omega
      have hk0 : (0 : Int) ≤ (k : Int) := by omega
      have hbyte := bytes_get t k hlt
      have hbl := bN_lt s k
      have HBt := Lib.hid (fun W => l1Bit_ok (s : Int) (k : Int) W (by omega) (by omega) (by omega) (by omega))
      rw [Int.toNat_natCast, Int.toNat_natCast] at HBt
      by_cases hst : t.data.toList.getD k 42 = 42
      · have hb1 : (((t[k].toNat : Nat) : Int) != 42) = false := by rw [hbyte, hst]; rfl
        have HQ := Lib.hid (show letB t.data.toList s k = true by rw [letB, ltr_star hst]; rfl)
        clear hst hbyte
        go_wp2_with fail
        go_quiet (fail)
        go_wp2_with fail
        go_roundw
        case rel => exact ⟨k + 1, by omega, by go_num, fun j hj => by
            by_cases e : j = k
            · rw [e]; exact HQ.out
            · exact HA.out j (by omega), HB.out.trans ⟨rfl, rfl, rfl, Nat.le_refl _, fun _ _ => rfl⟩⟩
        case measure => simp [intOf]; omega
      · obtain ⟨hd1, hd2⟩ := ltr_dig HT.out (by rw [HL.out]; exact hlt) hst
        rw [← hbyte] at hd1
        have hb1 : (((t[k].toNat : Nat) : Int) != 42) = true := by rw [hd1]; simp; omega
        have hw1 : IntKind.i64.wrap (((t[k].toNat : Nat) : Int) - 48) = ((ltr t.data.toList k : Nat) : Int) := by rw [hd1]; exact (wraps_i64 _ (by omega) (by omega)).trans (by omega)
        have hw2 : IntKind.i64.wrap ((t[k].toNat : Nat) : Int) = ((t[k].toNat : Nat) : Int) := wraps_i64 _ (by omega) (by have := UInt8.toNat_lt t[k]; omega)
        have hw3 : ((t[k].toNat : Nat) : Int) - 48 = ((ltr t.data.toList k : Nat) : Int) := by rw [hd1]; omega
        have HLb : Hid (letB t.data.toList s k = (ltr t.data.toList k == 2 || ltr t.data.toList k == bN s k)) := rfl
        clear hst hbyte hd1
        generalize ltr t.data.toList k = v at hd2 hw1 hw3 HLb
        generalize bN s k = u at HBt hbl HLb
        by_cases huv : v = u
        · have hb2 : (((v : Nat) : Int) != ((u : Nat) : Int)) = false := by rw [huv]; simp
          have HQ := Lib.hid (show letB t.data.toList s k = true by rw [HLb.out, huv]; simp)
          clear huv
          go_wp2_with fail
          go_quiet ((go_at_call 53; exact Calls.quiet_of_same (sameW (HBt.out _))))
          go_wp2_with fail
          go_roundw
          case rel => exact ⟨k + 1, by omega, by go_num, fun j hj => by
              by_cases e : j = k
              · rw [e]; exact HQ.out
              · exact HA.out j (by omega), HB.out.trans ⟨rfl, rfl, rfl, Nat.le_refl _, fun _ _ => rfl⟩⟩
          case measure => simp [intOf]; omega
        · have hb2 : (((v : Nat) : Int) != ((u : Nat) : Int)) = true := by simp; omega
          have HQ := Lib.hid (hasT_no (l := t.data.toList) (s := s) (by rw [HL.out]; exact hlt) (show letB t.data.toList s k = false by
            rw [HLb.out, Bool.or_eq_false_iff, beq_eq_false_iff_ne, beq_eq_false_iff_ne]; omega))
          clear huv
          go_wp2_with fail
          go_quiet ((go_at_call 53; exact Calls.quiet_of_same (sameW (HBt.out _))))
          go_wp2_with fail
          go_ret
          exact ⟨retb HQ.out.symm, HB.out.trans ⟨rfl, rfl, rfl, Nat.le_refl _, fun _ _ => rfl⟩⟩
    · obtain rfl : k = t.size := by omega
      have HQ := Lib.hid (hasT_yes (l := t.data.toList) (s := s) HA.out)
      go_wp2_with fail
      go_ret
      exact ⟨retb HQ.out.symm, HB.out⟩

end Go.Proofs.YthgjmciiaikgoaaDoor
