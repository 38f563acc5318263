/- Walks: slices.Grow at nil, slices.Concat, the program's JoinBlocks. -/
import Derived.Test.YtlknfiegmdipkaaB2
namespace Go.Proofs.Ytlknfiegmdipkaa
open Go.RowKit

set_option maxHeartbeats 1000000 in
theorem Grow_nil (n : Nat) (w : World) (hn : n ≤ 1099511627776) :
    Calls Try.prog 43 #[.slice none 0 0, .int .i64 n] w fun e w' => ∃ v, e = .returned v ∧ OwnI w' w.heap.size v [] ∧ Below w.heap.size w w' := by
  by_cases h0 : n = 0
  · subst h0
    go_enter Try.func43, Try.ntmps43
    go_wp2
    go_ret
    exact ⟨_, rfl, OwnI.nil _ _, Below.refl _ _⟩
  · obtain ⟨i, hi, hz, hsz, hby⟩ := info_parts i3
    have hp : 0 < (n : Int) := by omega
    have hrun := fun ty => Lib.run_append_nil_zeros (P := Try.prog) w 22 3 ty 3 i (.int .i64 0) .i64 .i64 Try.underlying22 Try.underlying3 hi hz n (by omega) (by omega) (by omega) (by rw [hby]; omega)
    have HR := Lib.hid hrun
    have hge := grownCap_ge w n 0 3
    have hcm := grownCap_le_maxLen w n 0 3 (by unfold maxLen; omega)
    clear hrun
    go_enter Try.func43, Try.ntmps43
    go_wp2_with (at_builtin; refine Lib.wpList_append_run _ rfl _ _ _ _ rfl _ _ rfl rfl _ _ (HR.out _) ?_)
    go_ret
    refine ⟨_, rfl, ?_, ?_⟩
    · refine ⟨rfl, .inr ⟨w.heap.size, _, _, rfl, Nat.le_refl _, heap_alloc_new w.drew _, Nat.zero_le _, hcm, ?_, by simp [ints]⟩⟩
      simp only [Array.size_append, size_zeroCells]
      simp
      omega
    · exact ((Below.refl _ _).drew).alloc (Nat.le_refl _) _

/-- What was joined of k rows. -/
def joinTo (Z : Nat → List Int) (k : Nat) : List Int := (List.range k).flatMap Z
theorem joinTo_succ (Z : Nat → List Int) (k : Nat) : joinTo Z (k + 1) = joinTo Z k ++ Z k := by simp [joinTo, List.range_succ]

theorem joinTo_len (Z : Nat → List Int) (T : Nat) (m : Nat) (hT : (joinTo Z m).length ≤ T) (k : Nat) (hk : k ≤ m) : (joinTo Z k).length ≤ T := by
  induction m with
  | zero => rw [show k = 0 by omega]; exact hT
  | succ m ih =>
    by_cases e : k = m + 1
    · rw [e]; exact hT
    · exact ih (by rw [joinTo_succ, List.length_append] at hT; omega) (by omega)

set_option maxHeartbeats 1000000 in
theorem Concat_ok (g m : Nat) (A : Nat → Option Addr) (N C : Nat → Nat) (Z : Nat → List Int) (w : World) (hg : g < w.heap.size) (hcell : ∀ i, i < m → w.cell? ⟨g, i, none⟩ = some (.slice (A i) (N i) (C i))) (hr : ∀ i, i < m → RowI w (A i) (N i) (C i) (Z i)) (hm : m ≤ 1000)
    (hlen : (joinTo Z m).length ≤ 1099511627776) :
    Calls Try.prog 37 #[.slice (some ⟨g, 0, none⟩) m m] w fun e w' => ∃ v, e = .returned v ∧ OwnI w' w.heap.size v (joinTo Z m) ∧ Below w.heap.size w w' := by
  go_enter Try.func37, Try.ntmps37
  go_wp2
  go_loop [3, 11] (fun s i => ∃ k : Nat, k ≤ m ∧ i = .int .i64 k ∧ s = .int .i64 ((joinTo Z k).length : Nat)) (fun _ i => m - (intOf i).toNat)
  case atStart => exact ⟨0, Nat.zero_le _, rfl, rfl⟩
  case round =>
    obtain ⟨k, hk, rfl, rfl⟩ := hrel
    have hjl := joinTo_len Z _ m hlen k hk
    by_cases hlt : k < m
    · have hx := hcell k hlt
      have hrl := (hr k hlt).1
      have HS : Hid ((joinTo Z (k + 1)).length = (joinTo Z k).length + N k) := by unfold Hid; rw [joinTo_succ, List.length_append, hrl]
      have hjl2 := joinTo_len Z _ m hlen (k + 1) hlt
      have hnk : N k ≤ 1099511627776 := by have := HS.out; omega
      have hlt' : (k : Int) < (m : Int) := by omega
      clear hrl hcell hr hjl2
      go_wp2
      go_round
      case rel => exact ⟨k + 1, by omega, by go_num, by rw [HS.out]; go_num⟩
      case measure => simp [intOf]; omega
    · obtain rfl : k = m := by omega
      have HJ := Lib.hid hlen
      clear hlen
      go_wp2_with (go_at_call 43; refine (Grow_nil _ _ hjl).mono ?_; rintro e w1 ⟨v1, rfl, o1, b1⟩)
      go_loopw [6, 27] (fun v i wr => ∃ j : Nat, j ≤ k ∧ i = .int .i64 j ∧ OwnI wr w.heap.size v (joinTo Z j) ∧ Below w.heap.size w wr) (fun _ i _ => k - (intOf i).toNat)
      case atStart => exact ⟨0, Nat.zero_le _, rfl, o1, b1⟩
      case round =>
        obtain ⟨j, hj, rfl, oj, bj⟩ := hrel
        by_cases hjk : j < k
        · have hx : wr.cell? ⟨g, j, none⟩ = some (.slice (A j) (N j) (C j)) := (bj.cell (by exact hg)).trans (hcell j hjk)
          have hrj := (hr j hjk).below bj (Nat.le_refl _)
          have hjl2 := joinTo_len Z _ k HJ.out (j + 1) hjk
          have HB : Hid (((joinTo Z j).length + N j) * 8 ≤ 140737488355328) := by unfold Hid; rw [joinTo_succ, List.length_append, hrj.1] at hjl2; omega
          have hjk' : (j : Int) < (k : Int) := by omega
          clear hcell hr hjl2 o1
          go_wp2_with (at_builtin; refine wpList_appI oj hrj rfl _ _ rfl rfl rfl HB.out bj.size ?_; intro v5 w5 o5 g5)
          go_roundw
          case rel => exact ⟨j + 1, by omega, by go_num, by rw [joinTo_succ]; exact o5, bj.grown g5 bj.size (fun q hq => (World.ownsRow.lt oj q hq).1)⟩
          case measure => simp [intOf]; omega
        · obtain rfl : j = k := by omega
          go_wp2
          go_ret
          exact ⟨_, rfl, oj, bj⟩

end Go.Proofs.Ytlknfiegmdipkaa
