/- Walks: the program's JoinBlocks; the law on JoinBlocks. -/
import Derived.Test.YtlknfiegmdipkaaB3
namespace Go.Proofs.Ytlknfiegmdipkaa
open Go.RowKit

theorem OwnI.base {w : World} {B B' : Nat} {v : Value} {zs : List Int} (h : OwnI w B v zs) (hB : B' ≤ B) : OwnI w B' v zs := by
  obtain ⟨h1, h2 | ⟨g, cap, cur, e, hg, r⟩⟩ := h
  · exact ⟨h1, .inl h2⟩
  · exact ⟨h1, .inr ⟨g, cap, cur, e, Nat.le_trans hB hg, r⟩⟩

/-- Three rows: two that were there, a new one of one number between them. -/
theorem concat3 (w0 w1 : World) (hb : Below w0.heap.size w0 w1) (a0 a2 : Option Addr) (n0 c0 n2 c2 : Nat) (z0 z2 : List Int) (h0 : RowI w1 a0 n0 c0 z0) (h2 : RowI w1 a2 n2 c2 z2) (x : Int) (hl : z0.length + z2.length ≤ 1099511627775) :
    Calls Try.prog 37 #[.slice (some ⟨w1.heap.size + 1, 0, none⟩) 3 3]
      ((w1.alloc (.cells #[.int .i64 x] 3)).alloc (.cells #[.slice a0 n0 c0, .slice (some ⟨w1.heap.size, 0, none⟩) 1 1, .slice a2 n2 c2] 22)).drew
      fun e w' => ∃ v, e = .returned v ∧ OwnI w' w0.heap.size v (z0 ++ [x] ++ z2) ∧ Below w0.heap.size w0 w' := by
  let W := ((w1.alloc (.cells #[.int .i64 x] 3)).alloc (.cells #[.slice a0 n0 c0, .slice (some ⟨w1.heap.size, 0, none⟩) 1 1, .slice a2 n2 c2] 22)).drew
  have hW : W.heap.size = w1.heap.size + 2 := by simp [W]
  have hbl : Blk W (w1.heap.size + 1) 22 [.slice a0 n0 c0, .slice (some ⟨w1.heap.size, 0, none⟩) 1 1, .slice a2 n2 c2] := by
    have := Blk.new (w1.alloc (.cells #[.int .i64 x] 3)) 22 [.slice a0 n0 c0, .slice (some ⟨w1.heap.size, 0, none⟩) 1 1, .slice a2 n2 c2]
    rw [show (w1.alloc (.cells #[.int .i64 x] 3)).heap.size = w1.heap.size + 1 by simp] at this
    exact this
  have b1 : Below w1.heap.size w1 W := (((Below.refl _ _).alloc (Nat.le_refl _) _).alloc (by simp) _).drew
  have r1 : RowI W (some ⟨w1.heap.size, 0, none⟩) 1 1 [x] := by
    have := RowI.one w1 x
    exact (this.below ((Below.refl (w1.heap.size + 1) _).alloc (by simp) (.cells #[.slice a0 n0 c0, .slice (some ⟨w1.heap.size, 0, none⟩) 1 1, .slice a2 n2 c2] 22)).drew (by simp))
  have hws := hb.size
  refine (Concat_ok (w1.heap.size + 1) 3 (fun | 0 => a0 | 1 => some ⟨w1.heap.size, 0, none⟩ | _ => a2) (fun | 0 => n0 | 1 => 1 | _ => n2) (fun | 0 => c0 | 1 => 1 | _ => c2) (fun | 0 => z0 | 1 => [x] | _ => z2) W (by omega) ?_ ?_ (by decide) ?_).mono ?_
  · intro i hi
    match i, hi with
    | 0, _ => exact hbl.cell rfl
    | 1, _ => exact hbl.cell rfl
    | 2, _ => exact hbl.cell rfl
  · intro i hi
    match i, hi with
    | 0, _ => exact h0.below b1 (Nat.le_refl _)
    | 1, _ => exact r1
    | 2, _ => exact h2.below b1 (Nat.le_refl _)
  · simp [joinTo, List.range_succ]; omega
  · rintro e w' ⟨v, rfl, o, b⟩
    refine ⟨v, rfl, ?_, ?_⟩
    · have o' := o.base (show w0.heap.size ≤ W.heap.size by have := hb.size; omega)
      simpa [joinTo, List.range_succ] using o'
    · exact (hb.trans (b1.mono hb.size)).trans (b.mono (by have := hb.size; omega))

set_option maxHeartbeats 2000000 in
theorem jbI_yes (b o n c : Nat) (zs : List Int) (m : Int) (k : Nat) (w : World) (h : RowI w (some ⟨b, o, none⟩) n c zs) (hk : k + 2 ≤ n) (hv : blocksV zs m = true) (hn : n ≤ 1048576) :
    Calls Try.prog 21 #[.slice (some ⟨b, o, none⟩) n c, .int .i64 m, .int .i64 k] w fun e w' => ∃ v, e = .returned (.tuple #[v, .bool true]) ∧ OwnI w' w.heap.size v (joinV zs k) ∧ Below w.heap.size w w' := by
  obtain rfl := h.1
  have hml := h.2.cap
  have hml' := h.2.le
  unfold maxLen at hml
  have HB := Lib.hid (bvI_ok _ _ _ zs m w h)
  rw [← blocks_same] at hv
  have hk0 : (k : Int) < (zs.length : Int) := by omega
  have hk1 : (k : Int) + 1 < (zs.length : Int) := by omega
  have hs2 : ((k : Int) + 1).toNat = k + 1 := by omega
  have hs3 : 0 ≤ (k : Int) + 1 := by omega
  have hs5 : ((k : Int) + 2).toNat = k + 2 := by omega
  have hs6 : 0 ≤ (k : Int) + 2 := by omega
  have hs7 : (k : Int) + 2 ≤ (zs.length : Int) := by omega
  have hg1 : decide ((k : Int) < 0) = false := decide_eq_false (by omega)
  have hg2 : decide ((zs.length : Int) - 1 ≤ (k : Int)) = false := decide_eq_false (by omega)
  by_cases hc : c = k + 2
  · subst hc
    go_enter Try.func21, Try.ntmps21
    go_wp2_with fail
    refine HB.out.mono ?_
    rintro e w1 ⟨rfl, b1⟩
    rw [hv]
    have r1 := h.below b1 (Nat.le_refl _)
    go_wp2_with fail
    have x0 : w1.cell? ⟨b, o + k, none⟩ = some (.int .i64 (gI zs k)) := r1.2.cell b o rfl k (by omega)
    have x1 : w1.cell? ⟨b, o + (k + 1), none⟩ = some (.int .i64 (gI zs (k + 1))) := r1.2.cell b o rfl (k + 1) (by omega)
    have hs1 : IntKind.i64.wrap ((k : Int) + 1) = (k : Int) + 1 := IntWalk.i64_in _ (by omega)
    have hs4 : IntKind.i64.wrap ((k : Int) + 2) = (k : Int) + 2 := IntWalk.i64_in _ (by omega)
    have r4 : RowI w1 (some ⟨b, o, none⟩) 0 0 (zs.drop (k + 2)) := by
      have e1 : zs.drop (k + 2) = [] := List.drop_of_length_le (by omega)
      rw [e1]
      exact RowI.empty _ _ _ (Nat.zero_le _) (fun e => by cases e)
    have HC := Lib.hid (concat3 w w1 b1 _ _ _ _ _ _ _ _ (r1.take k (by omega)) r4 (bits .or .i64 (gI zs k) (gI zs (k + 1))) (by simp only [List.length_take, List.length_drop]; omega))
    clear h r1 r4
    go_region_with (go_at_call 37; refine HC.out.mono ?_; rintro e w2 ⟨v2, rfl, o2, b2⟩)
    all_goals
      go_wp2
      go_ret2
      exact ⟨v2, rfl, o2, b2⟩
  · have hcc : ¬ k + 2 = c := fun e => hc e.symm
    go_enter Try.func21, Try.ntmps21
    go_wp2_with fail
    refine HB.out.mono ?_
    rintro e w1 ⟨rfl, b1⟩
    rw [hv]
    have r1 := h.below b1 (Nat.le_refl _)
    go_wp2_with fail
    have x0 : w1.cell? ⟨b, o + k, none⟩ = some (.int .i64 (gI zs k)) := r1.2.cell b o rfl k (by omega)
    have x1 : w1.cell? ⟨b, o + (k + 1), none⟩ = some (.int .i64 (gI zs (k + 1))) := r1.2.cell b o rfl (k + 1) (by omega)
    have hs1 : IntKind.i64.wrap ((k : Int) + 1) = (k : Int) + 1 := IntWalk.i64_in _ (by omega)
    have hs4 : IntKind.i64.wrap ((k : Int) + 2) = (k : Int) + 2 := IntWalk.i64_in _ (by omega)
    have HC := Lib.hid (concat3 w w1 b1 _ _ _ _ _ _ _ _ (r1.take k (by omega)) (r1.drop (k + 2) (by omega)) (bits .or .i64 (gI zs k) (gI zs (k + 1))) (by simp only [List.length_take, List.length_drop]; omega))
    clear h r1
    go_region_with (go_at_call 37; refine HC.out.mono ?_; rintro e w2 ⟨v2, rfl, o2, b2⟩)
    all_goals
      go_wp2
      go_ret2
      exact ⟨v2, rfl, o2, b2⟩

end Go.Proofs.Ytlknfiegmdipkaa
