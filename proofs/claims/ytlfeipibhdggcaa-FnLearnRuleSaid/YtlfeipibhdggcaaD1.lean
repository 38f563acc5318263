/- Walks: UnseenOf. -/
import Derived.Test.YtlfeipibhdggcaaA8
import Derived.Test.YtlfeipibhdggcaaB2
import Derived.Deep.RegionWith
import Derived.Deep.RegionHeld3
import Derived.Deep.RegionLaw
import Derived.Lib.AppendZeros
namespace Go.Proofs.Ytlfeipibhdggcaa
open Go.RowKit

/-- Whether a step from a state was seen. -/
def hasB (zs : List (Int × Int)) (s : Int) : Bool := zs.any fun p => p.1 == s
theorem hasB_yes {zs : List (Int × Int)} {s : Int} {k : Nat} (hk : k < zs.length) (h : ((gS zs k).1 == s) = true) : hasB zs s = true := by
  rw [hasB, List.any_eq_true]
  exact ⟨gS zs k, by rw [show gS zs k = zs[k] by simp [gS, List.getD, hk]]; exact List.getElem_mem _, h⟩
theorem hasB_no {zs : List (Int × Int)} {s : Int} (h : ∀ k, k < zs.length → ((gS zs k).1 == s) = false) : hasB zs s = false := by
  rw [hasB, List.any_eq_false]
  intro p hp
  obtain ⟨i, hi, rfl⟩ := List.getElem_of_mem hp
  have := h i hi
  rw [show gS zs i = zs[i] by simp [gS, List.getD, hi]] at this
  simp [this]

set_option maxHeartbeats 1000000 in
theorem l12Has_ok (ao : Option Addr) (n c : Nat) (zs : List (Int × Int)) (s : Int) (w : World) (h : RowS w ao n c zs) :
    Calls Try.prog 42 #[.slice ao n c, .int .i64 s] w fun e w' => e = .returned (.bool (hasB zs s)) ∧ w = w' := by
  obtain rfl := h.len
  have hml := h.cap
  have hml' := h.le
  unfold maxLen at hml
  go_enter Try.func42, Try.ntmps42
  go_wp2
  go_loop [5] (fun i => ∃ k : Nat, k ≤ zs.length ∧ i = .int .i64 k ∧ (∀ j, j < k → ((gS zs j).1 == s) = false)) (fun i => zs.length - (intOf i).toNat)
  case atStart => exact ⟨0, Nat.zero_le _, rfl, fun j h => absurd h (Nat.not_lt_zero _)⟩
  case round =>
    obtain ⟨k, hk, rfl, hno⟩ := hrel
    have HN := Lib.hid hno
    clear hno
    by_cases hlt : k < zs.length
    · obtain ⟨b, o, rfl, hbo⟩ := h.some (by omega)
      have hx0 : w.cell? ⟨b, o + k * 2, none⟩ = some (.int .i64 (gS zs k).1) := h.before b o rfl k hlt
      clear h
      have hlt' : (k : Int) < (zs.length : Int) := by omega
      cases hq : ((gS zs k).1 == s) with
      | true =>
        have HQ := Lib.hid hq
        go_wp2
        go_ret
        exact ⟨retb (hasB_yes hlt HQ.out).symm, rfl⟩
      | false =>
        have HQ := Lib.hid hq
        go_wp2
        go_round
        case rel => exact ⟨k + 1, by omega, by go_num, fun j hj => by
            by_cases e : j = k
            · subst e; exact HQ.out
            · exact HN.out j (by omega)⟩
        case measure => simp [intOf]; omega
    · have HA := Lib.hid (hasB_no (zs := zs) (s := s) fun i hi => HN.out i (by omega))
      go_wp2
      go_ret
      exact ⟨retb HA.out.symm, rfl⟩

/-- The states before no step. -/
def unTo (zs : List (Int × Int)) (k : Nat) : List Int := ((List.range k).filter fun t : Nat => !hasB zs t).map fun t : Nat => (t : Int)
theorem unTo_skip {zs : List (Int × Int)} {k : Nat} (h : hasB zs k = true) : unTo zs (k + 1) = unTo zs k := by simp [unTo, List.range_succ, List.filter_append, h]
theorem unTo_take {zs : List (Int × Int)} {k : Nat} (h : hasB zs k = false) : unTo zs (k + 1) = unTo zs k ++ [(k : Int)] := by simp [unTo, List.range_succ, List.filter_append, h]
theorem unTo_len (zs : List (Int × Int)) (k : Nat) : (unTo zs k).length ≤ k := by
  have := List.length_filter_le (fun t : Nat => !hasB zs t) (List.range k)
  simpa [unTo] using this
def unV (zs : List (Int × Int)) (m : Int) : List Int := if seenB zs m = true then unTo zs (2 ^ m.toNat) else []
theorem unV_no {zs : List (Int × Int)} {m : Int} (h : seenB zs m = false) : unV zs m = [] := by simp [unV, h]
theorem unV_yes {zs : List (Int × Int)} {m : Nat} (h : seenB zs m = true) : unV zs m = unTo zs (2 ^ m) := by simp [unV, h]
theorem unV_len (zs : List (Int × Int)) (m : Int) : (unV zs m).length ≤ 32 := by
  cases h : seenB zs m with
  | false => simp [unV_no h]
  | true =>
    obtain ⟨hm, -⟩ := seen_parts h
    have hp : (2 ^ m.toNat : Nat) ≤ 32 := Nat.pow_le_pow_right (n := 2) (by decide) (show m.toNat ≤ 5 by omega)
    have := unTo_len zs (2 ^ m.toNat)
    simp [unV, h]; omega

set_option maxHeartbeats 1000000 in
theorem unS_ok (ao : Option Addr) (n c : Nat) (zs : List (Int × Int)) (m : Int) (w : World) (h : RowS w ao n c zs) :
    Calls Try.prog 19 #[.slice ao n c, .int .i64 m] w fun e w' => ∃ v, e = .returned v ∧ OwnI w' w.heap.size v (unV zs m) ∧ Below w.heap.size w w' := by
  cases hs : seenB zs m with
  | false =>
    have H := Lib.hid hs
    go_enter Try.func19, Try.ntmps19
    go_wp2_with (go_at_call 41; refine (svS_ok _ _ _ zs _ _ h).mono ?_; rintro e w' ⟨rfl, rfl⟩)
    refine wp_loop_rounds 1 ?_
    rw [rounds_succ]
    go_wp2_with (go_at_call 41; refine (svS_ok _ _ _ zs _ _ (h.below ((Below.refl _ _).alloc (Nat.le_refl _) _) (Nat.le_refl _))).mono ?_; rintro e w' ⟨rfl, rfl⟩)
    go_ret
    refine ⟨_, rfl, ?_, (Below.refl _ _).alloc (Nat.le_refl _) _⟩
    rw [unV_no H.out]
    exact OwnI.lit _ _ [] (Nat.le_refl _) (by decide)
  | true =>
    have H := Lib.hid hs
    obtain ⟨hm, hl, hz, hlt⟩ := seen_parts hs
    obtain ⟨p, rfl⟩ := Int.eq_ofNat_of_zero_le (show 0 ≤ m by omega)
    have HP : Hid (wrap64 (2 ^ p) = ((2 ^ p : Nat) : Int)) := wrap_pow_nat p (by omega)
    have hp32 : (2 ^ p : Nat) ≤ 32 := Nat.pow_le_pow_right (n := 2) (by decide) (show p ≤ 5 by omega)
    have HU := Lib.hid (unV_yes hs)
    clear hz hlt
    generalize hN : (2 ^ p : Nat) = N at hp32 HP HU
    clear hN
    go_enter Try.func19, Try.ntmps19
    go_wp2_with fail
    go_loopw [5, 6] (fun v s wr => ∃ k : Nat, k ≤ N ∧ s = .int .i64 k ∧ OwnI wr w.heap.size v (unTo zs k) ∧ Below w.heap.size w wr) (fun _ s _ => N - (intOf s).toNat)
    case atStart => exact ⟨0, Nat.zero_le _, rfl, OwnI.lit _ _ [] (Nat.le_refl _) (by decide), (Below.refl _ _).alloc (Nat.le_refl _) _⟩
    case round =>
      obtain ⟨k, hk, rfl, ho, hb⟩ := hrel
      have hr := h.below hb (Nat.le_refl _)
      have HC := Lib.hid h
      have HO := Lib.hid ho
      have HL := Lib.hid (unTo_len zs k)
      clear h ho
      by_cases hkN : k < N
      · have hkw : (k : Int) < wrap64 (2 ^ p) := by rw [HP.out]; omega
        cases hh : hasB zs k with
        | true =>
          have HH := Lib.hid hh
          go_wp2_with (first | (go_at_call 41; refine (svS_ok _ _ _ zs _ _ hr).mono ?_; rintro e w' ⟨rfl, rfl⟩) | (go_at_call 42; refine (l12Has_ok _ _ _ zs _ _ hr).mono ?_; rintro e w' ⟨rfl, rfl⟩))
          go_roundw
          case rel => exact ⟨k + 1, by omega, by go_num, by rw [unTo_skip HH.out]; exact HO.out, hb⟩
          case measure => simp [intOf] <;> omega
        | false =>
          have HH := Lib.hid hh
          go_wp2_with (first | (go_at_call 41; refine (svS_ok _ _ _ zs _ _ hr).mono ?_; rintro e w' ⟨rfl, rfl⟩) | (go_at_call 42; refine (l12Has_ok _ _ _ zs _ _ hr).mono ?_; rintro e w' ⟨rfl, rfl⟩) | (at_builtin; go_must (refine wpList_appI (OwnI.alloc HO.out _) (RowI.one _ _) rfl _ _ rfl rfl rfl (by have := HL.out; omega) (by have := hb.size; simp; omega) ?_); intro v2 w2 o2 g2))
          go_roundw
          case rel => exact ⟨k + 1, by omega, by go_num, by rw [unTo_take HH.out]; exact o2, (hb.alloc hb.size _).grown g2 (by have := hb.size; simp; omega) (fun j hj => (World.ownsRow.lt HO.out j hj).1)⟩
          case measure => simp [intOf] <;> omega
      · obtain rfl : k = N := by omega
        have hkw : ¬ (k : Int) < wrap64 (2 ^ p) := by rw [HP.out]; omega
        go_wp2_with (first | (go_at_call 41; refine (svS_ok _ _ _ zs _ _ hr).mono ?_; rintro e w' ⟨rfl, rfl⟩))
        go_ret
        exact ⟨_, rfl, by rw [HU.out]; exact HO.out, hb⟩

end Go.Proofs.Ytlfeipibhdggcaa
