/- Walks: FormatStates; the law on it. -/
import Derived.Test.YtlfadpfodmpneaaDoorF1
import Derived.Test.YtlfadpfodmpneaaDoorShelf
namespace Go.Proofs.YtlfadpfodmpneaaDoor
open Go.RowKit

theorem stT_size (s n : Int) : (stT s n).size ≤ 5 := by
  unfold stT
  split
  · rename_i h
    simp only [stB, Bool.and_eq_true] at h
    have := inB_iff.1 h.1
    rw [digS_size, bitL_len]; omega
  · decide
theorem ne_empty {u : ByteArray} (h : 0 < u.size) : u.toList.isEmpty = false := by
  rw [Lib.toList_data]
  cases hd : u.data.toList with
  | nil =>
    have h1 : u.data.size = 0 := by have := congrArg List.length hd; simpa using this
    have h2 : u.size = u.data.size := rfl
    omega
  | cons a l => rfl
theorem stT_pos {s n : Int} (h : stB s n = true) : 0 < (stT s n).size := by
  have h' := h
  simp only [stB, Bool.and_eq_true] at h'
  have := inB_iff.1 h'.1
  rw [stT, if_pos h, digS_size, bitL_len]; omega
theorem stT_some {s n : Int} (h : stB s n = true) : (stT s n).toList.isEmpty = false := ne_empty (stT_pos h)
def stsF (zs : List Int) (m : Int) (i : Nat) : ByteArray := stT (gI zs i) m
def stsV (zs : List Int) (m : Int) : ByteArray :=
  if (List.range zs.length).all (fun i => stB (gI zs i) m) = true then (if zs.length = 0 then ⟨#[45]⟩ else joinF (stsF zs m) ⟨#[32]⟩ zs.length) else ⟨#[]⟩
theorem stsV_no {zs : List Int} {m : Int} {k : Nat} (hk : k < zs.length) (h : stB (gI zs k) m = false) : stsV zs m = ⟨#[]⟩ := by
  have : ¬ ((List.range zs.length).all (fun i => stB (gI zs i) m) = true) := by
    rw [List.all_eq_true]
    intro ha
    have := ha k (List.mem_range.2 hk)
    rw [h] at this; cases this
  rw [stsV, if_neg this]
theorem stsV_yes {zs : List Int} {m : Int} (hn : 0 < zs.length) (h : ∀ i, i < zs.length → stB (gI zs i) m = true) : stsV zs m = joinF (stsF zs m) ⟨#[32]⟩ zs.length := by
  rw [stsV, if_pos (List.all_eq_true.2 fun i hi => h i (List.mem_range.1 hi)), if_neg (by omega)]
theorem stsV_nil (m : Int) : stsV [] m = ⟨#[45]⟩ := rfl

set_option maxHeartbeats 2000000 in
theorem fssS_ok (ao : Option Addr) (n c : Nat) (zs : List Int) (m : Int) (w : World) (h : RowI w ao n c zs) (hn : n ≤ 1048576) :
    Calls Tryd.prog 19 #[.slice ao n c, .int .i64 m] w fun e w' => e = .returned (.string (stsV zs m)) ∧ Below w.heap.size w w' := by
  obtain rfl := h.1
  go_enter Tryd.func19, Tryd.ntmps19
  go_wp2
  go_loopw [5, 6] (fun v i wr => ∃ k : Nat, k ≤ zs.length ∧ i = .int .i64 k ∧ v = .string (joinF (stsF zs m) ⟨#[32]⟩ k) ∧ (∀ j, j < k → stB (gI zs j) m = true) ∧ Below w.heap.size w wr) (fun _ i _ => zs.length - (intOf i).toNat)
  case atStart => exact ⟨0, Nat.zero_le _, rfl, rfl, fun j hj => absurd hj (Nat.not_lt_zero _), Below.refl _ _⟩
  case round =>
    obtain ⟨k, hk, rfl, rfl, hall, hb⟩ := hrel
    have HA := Lib.hid hall
    clear hall
    have hz := joinF_size (stsF zs m) ⟨#[32]⟩ 5 (by decide) (fun i => stT_size _ _) k
    by_cases hlt : k < zs.length
    · obtain ⟨b, o, rfl, hbo⟩ := h.2.some (by omega)
      have hcx := (h.below hb (Nat.le_refl _)).2.cell b o rfl k hlt
      have hlt' : (k : Int) < (zs.length : Int) := by omega
      have HS := Lib.hid (fsS_ok (gI zs k) m wr)
      cases hq : stB (gI zs k) m with
      | false =>
        have HN := Lib.hid (stsV_no hlt hq)
        rw [stT_no hq] at HS
        clear h hz
        go_wp2_with fail
        refine HS.out.mono ?_
        rintro e w1 ⟨rfl, b1⟩
        go_wp2_with fail
        go_ret
        exact ⟨rett HN.out.symm, hb.trans (b1.mono hb.size)⟩
      | true =>
        have HQ := Lib.hid hq
        have HF : Hid (stT (gI zs k) m = stsF zs m k) := rfl
        have hne := stT_some hq
        have hz3 := stT_size (gI zs k) m
        have hz2 : (joinF (stsF zs m) ⟨#[32]⟩ k).size ≤ 1099512676352 := by omega
        have HN := Lib.hid (joinF_next (stsF zs m) ⟨#[32]⟩ k)
        have HN1 : Hid (joinF (stsF zs m) ⟨#[32]⟩ 1 = joinF (stsF zs m) ⟨#[32]⟩ 0 ++ stsF zs m 0) := rfl
        clear h hz hq
        by_cases h0 : 0 < k
        · generalize joinF (stsF zs m) ⟨#[32]⟩ k = t at hz2 HN
          generalize stT (gI zs k) m = u at hne hz3 HS HF
          go_wp2_with fail
          refine HS.out.mono ?_
          rintro e w1 ⟨rfl, b1⟩
          go_wp2_with fail
          go_roundw
          case rel => exact ⟨k + 1, by omega, by go_num, by rw [HN.out h0, ← HF.out], fun j hj => by
              by_cases e : j = k
              · rw [e]; exact HQ.out
              · exact HA.out j (by omega), hb.trans (b1.mono hb.size)⟩
          case measure => simp [intOf]; omega
        · obtain rfl : k = 0 := by omega
          generalize joinF (stsF zs m) ⟨#[32]⟩ 0 = t at hz2 HN1
          generalize stT (gI zs 0) m = u at hne hz3 HS HF
          rw [Nat.add_zero] at hcx
          go_wp2_with fail
          refine HS.out.mono ?_
          rintro e w1 ⟨rfl, b1⟩
          go_wp2_with fail
          go_roundw
          case rel => exact ⟨1, by omega, rfl, by rw [HN1.out, ← HF.out], fun j hj => by
              obtain rfl : j = 0 := by omega
              exact HQ.out, hb.trans (b1.mono hb.size)⟩
          case measure => simp [intOf]; omega
    · obtain rfl : k = zs.length := by omega
      clear h hz
      by_cases h0 : 0 < zs.length
      · have HN := Lib.hid (stsV_yes h0 HA.out)
        have hne : (joinF (stsF zs m) ⟨#[32]⟩ zs.length).toList.isEmpty = false := by
          have h1 := stT_pos (HA.out (zs.length - 1) (by omega))
          obtain ⟨q, hq⟩ : ∃ q, zs.length = q + 1 := ⟨zs.length - 1, by omega⟩
          rw [hq] at h1 ⊢
          refine ne_empty ?_
          simp only [joinF, ByteArray.size_append]
          have h2 : 0 < (stsF zs m q).size := h1
          omega
        generalize joinF (stsF zs m) ⟨#[32]⟩ zs.length = t at hne HN
        go_wp2_with fail
        go_ret
        exact ⟨rett HN.out.symm, hb⟩
      · have e0 : zs = [] := List.eq_nil_of_length_eq_zero (by omega)
        subst e0
        have hj0 : joinF (stsF [] m) ⟨#[32]⟩ 0 = ⟨#[]⟩ := rfl
        simp only [List.length_nil, hj0]
        go_wp2_with fail
        go_ret
        exact ⟨rfl, hb⟩

end Go.Proofs.YtlfadpfodmpneaaDoor
