/- Walks: small functions on numbers and rows of numbers. -/
import Derived.Test.YtjkgcgbialiipaaDoorCore
namespace Go.Proofs.YtjkgcgbialiipaaDoor
open Go.RowKit

theorem retb {a b : Bool} (h : a = b) : Ending.returned (.bool a) = .returned (.bool b) := by rw [h]

def inB (a b c : Int) : Bool := decide (b ≤ a) && decide (a ≤ c)
theorem inB_iff {a b c : Int} : inB a b c = true ↔ b ≤ a ∧ a ≤ c := by simp [inB]
theorem inB_true {a b c : Int} (h : b ≤ a ∧ a ≤ c) : inB a b c = true := inB_iff.2 h
theorem inB_false {a b c : Int} (h : ¬ (b ≤ a ∧ a ≤ c)) : inB a b c = false := by rw [Bool.eq_false_iff]; exact fun h' => h (inB_iff.1 h')

set_option maxHeartbeats 400000 in
theorem l1In_ok (a b c : Int) (w : World) :
    Calls Tryd.prog 90 #[.int .i64 a, .int .i64 b, .int .i64 c] w fun e w' => e = .returned (.bool (inB a b c)) ∧ w = w' := by
  go_enter Tryd.func90, Tryd.ntmps90
  go_wp2 <;> (go_ret; exact ⟨retb (by simp [inB]; omega), rfl⟩)

/-- What toIntS has written after k rounds. -/
def partI (zs : List Int) (k : Nat) : List Int := zs.take k ++ List.replicate (zs.length - k) 0

theorem partI_set (zs : List Int) (k : Nat) (h : k < zs.length) : (ints (partI zs k)).set k (.int .i64 (gI zs k)) = ints (partI zs (k + 1)) := by
  apply List.ext_getElem?
  intro i
  simp [ints, partI, List.getElem?_set, List.getElem?_append, List.getElem?_take, gI, List.getD]
  have := List.getElem?_eq_getElem h
  grind
theorem partI_get (zs : List Int) (k : Nat) (h : k < zs.length) : (ints (partI zs k))[k]? = some (.int .i64 0) := by
  simp [ints, partI, List.getElem?_append, List.getElem?_replicate, Nat.min_eq_left (Nat.le_of_lt h)]; omega
theorem partI_end (zs : List Int) : partI zs zs.length = zs := by simp [partI]

theorem take_same {xs ys : List Int} {k : Nat} (h : xs.take k = ys.take k) (hx : k < xs.length) (hy : k < ys.length) (he : gI xs k = gI ys k) : xs.take (k + 1) = ys.take (k + 1) := by
  rw [List.take_succ_eq_append_getElem hx, List.take_succ_eq_append_getElem hy, h]
  have h1 : xs[k] = gI xs k := by simp [gI, List.getD, hx]
  have h2 : ys[k] = gI ys k := by simp [gI, List.getD, hy]
  rw [h1, h2, he]

theorem reti {a b : Int} (h : a = b) : Ending.returned (.int .i64 a) = .returned (.int .i64 b) := by rw [h]
theorem blk_reject {top : Int} {zs : List Int} {k t : Nat} (h : k < zs.length) (ht : (zs.take k).foldlM (addB top) 0 = some t) (hn : addB top t (gI zs k) = none) : unionB top zs = none :=
  foldM_miss (gI_lt h) ht hn

set_option maxHeartbeats 1000000 in
theorem bvS_ok (ao : Option Addr) (n c : Nat) (zs : List Int) (m : Int) (w : World) (h : RowI w ao n c zs) :
    Calls Tryd.prog 38 #[.slice ao n c, .int .i64 m] w fun e w' => e = .returned (.bool (blocksV zs m)) ∧ Below w.heap.size w w' := by
  obtain ⟨rfl, hr⟩ := h
  have hml := hr.cap
  have hml' := hr.le
  unfold maxLen at hml
  go_enter Tryd.func38, Tryd.ntmps38
  go_wp2
  go_loopw [5, 6] (fun s i wr => ∃ k t : Nat, k ≤ zs.length ∧ i = .int .i64 k ∧ s = .int .i64 t ∧ t < 32 ∧ (zs.take k).foldlM (addB 32) 0 = some t ∧ Below w.heap.size w wr) (fun _ i _ => zs.length - (intOf i).toNat)
  case atStart => exact ⟨0, 0, Nat.zero_le _, rfl, rfl, by omega, rfl, Below.refl _ _⟩
  case round =>
    obtain ⟨k, t, hk, rfl, rfl, ht, hfold, hb⟩ := hrel
    have HF := Lib.hid hfold
    clear hfold
    by_cases hlt : k < zs.length
    · obtain ⟨b, o, rfl, hbo⟩ := hr.some (by omega)
      have hcx : wr.cell? ⟨b, o + k, none⟩ = some (.int .i64 (gI zs k)) := (hb.cell (by exact hbo)).trans (hr.cell b o rfl k hlt)
      have hlt' : (k : Int) < (zs.length : Int) := by omega
      by_cases h1 : 1 ≤ gI zs k ∧ gI zs k ≤ 31
      · have hq : inB (gI zs k) 1 31 = true := inB_iff.2 h1
        have H2 := Lib.hid (and_int t (gI zs k) (by omega) (by omega) (by omega) (by omega))
        have H3 := Lib.hid (or_int t (gI zs k) (by omega) (by omega) (by omega) (by omega))
        by_cases h2 : t &&& (gI zs k).toNat = 0
        · have h2b : (bits .and .i64 t (gI zs k) != 0) = false := by rw [H2.out]; simp [h2]
          have HX : Hid (addB 32 t (gI zs k) = some (t ||| (gI zs k).toNat)) := by unfold Hid addB; rw [if_pos ⟨h1.1, by omega, h2⟩]
          clear h2
          go_wp2_with (go_at_call 90; refine (l1In_ok _ _ _ _).mono ?_; rintro e w' ⟨rfl, rfl⟩)
          go_roundw
          case rel => exact ⟨k + 1, t ||| (gI zs k).toNat, by omega, by go_num, by rw [H3.out]; rfl, or_lt32 ht (by omega), by rw [foldM_hit (gI_lt hlt) HF.out, HX.out], hb⟩
          case measure => simp [intOf]; omega
        · have h2b : (bits .and .i64 t (gI zs k) != 0) = true := by rw [H2.out]; simp; omega
          have HX := Lib.hid (blk_reject hlt HF.out (by unfold addB; rw [if_neg (fun h => h2 h.2.2)]))
          clear h2
          go_wp2_with (go_at_call 90; refine (l1In_ok _ _ _ _).mono ?_; rintro e w' ⟨rfl, rfl⟩)
          go_ret
          exact ⟨retb (by simp [blocksV, HX.out]), hb⟩
      · have hq : inB (gI zs k) 1 31 = false := by rw [Bool.eq_false_iff]; exact fun h => h1 (inB_iff.1 h)
        have HX := Lib.hid (blk_reject hlt HF.out (by unfold addB; rw [if_neg (fun h => h1 ⟨h.1, by omega⟩)]))
        go_wp2_with (go_at_call 90; refine (l1In_ok _ _ _ _).mono ?_; rintro e w' ⟨rfl, rfl⟩)
        go_ret
        exact ⟨retb (by simp [blocksV, HX.out]), hb⟩
    · have HE : Hid (unionB 32 zs = some t) := by have := HF.out; rw [foldM_end _ _ _ _ (by omega)] at this; exact this
      by_cases h5 : 1 ≤ m ∧ m ≤ 5
      · have hq : inB m 1 5 = true := inB_iff.2 h5
        go_wp2_with (go_at_call 90; refine (l1In_ok _ _ _ _).mono ?_; rintro e w' ⟨rfl, rfl⟩)
        go_ret
        refine ⟨retb ?_, hb⟩
        rw [blocksV, HE.out, wrap_top h5, eq_some, decide_eq_true h5]; rfl
      · have hq : inB m 1 5 = false := by rw [Bool.eq_false_iff]; exact fun h => h5 (inB_iff.1 h)
        go_wp2_with (go_at_call 90; refine (l1In_ok _ _ _ _).mono ?_; rintro e w' ⟨rfl, rfl⟩)
        go_ret
        exact ⟨retb (by simp [blocksV, h5]), hb⟩

set_option maxHeartbeats 1000000 in
theorem bvI_ok (ao : Option Addr) (n c : Nat) (zs : List Int) (m : Int) (w : World) (h : RowI w ao n c zs) :
    Calls Tryd.prog 21 #[.slice ao n c, .int .i64 m] w fun e w' => e = .returned (.bool (blocksI zs m)) ∧ Below w.heap.size w w' := by
  obtain ⟨rfl, hr⟩ := h
  have hml := hr.cap
  have hml' := hr.le
  unfold maxLen at hml
  by_cases hm1 : m < 1
  · go_enter Tryd.func21, Tryd.ntmps21
    go_wp2
    go_ret
    exact ⟨retb (by simp [blocksI]; omega), Below.refl _ _⟩
  by_cases hm5 : 5 < m
  · go_enter Tryd.func21, Tryd.ntmps21
    go_wp2
    go_ret
    exact ⟨retb (by simp [blocksI]; omega), Below.refl _ _⟩
  have h5 : 1 ≤ m ∧ m ≤ 5 := by omega
  have HP := Lib.hid (wrap_pow h5)
  have HT := Lib.hid (wrap_top h5)
  have hp32 : 2 ^ m.toNat ≤ 32 := Nat.pow_le_pow_right (n := 2) (by decide) (show m.toNat ≤ 5 by omega)
  have hc2 : ((2 ^ m.toNat : Nat) : Int) = 2 ^ m.toNat := by simp
  have HC := Lib.hid hc2
  clear hc2
  go_enter Tryd.func21, Tryd.ntmps21
  go_wp2
  go_loopw [5, 16] (fun s i wr => ∃ k t : Nat, k ≤ zs.length ∧ i = .int .i64 k ∧ s = .int .i64 t ∧ t < 32 ∧ (zs.take k).foldlM (addB (2 ^ m.toNat)) 0 = some t ∧ Below w.heap.size w wr) (fun _ i _ => zs.length - (intOf i).toNat)
  case atStart => exact ⟨0, 0, Nat.zero_le _, rfl, rfl, by omega, rfl, Below.refl _ _⟩
  case round =>
    obtain ⟨k, t, hk, rfl, rfl, ht, hfold, hb⟩ := hrel
    have HF := Lib.hid hfold
    clear hfold
    by_cases hlt : k < zs.length
    · obtain ⟨b, o, rfl, hbo⟩ := hr.some (by omega)
      have hcx : wr.cell? ⟨b, o + k, none⟩ = some (.int .i64 (gI zs k)) := (hb.cell (by exact hbo)).trans (hr.cell b o rfl k hlt)
      have hlt' : (k : Int) < (zs.length : Int) := by omega
      by_cases h0 : gI zs k ≤ 0
      · have HX := Lib.hid (blk_reject hlt HF.out (by unfold addB; rw [if_neg (fun h => by omega)]))
        go_wp2
        go_ret
        exact ⟨retb (by simp [blocksI, HX.out]), hb⟩
      · by_cases h1 : 2 ^ m.toNat ≤ gI zs k
        · have HX := Lib.hid (blk_reject hlt HF.out (by unfold addB; rw [if_neg (fun h => by omega)]))
          have h1b : wrap64 (2 ^ m.toNat) ≤ gI zs k := by rw [HP.out, HC.out]; exact h1
          go_wp2
          go_ret
          exact ⟨retb (by simp [blocksI, HX.out]), hb⟩
        · have h1b : ¬ wrap64 (2 ^ m.toNat) ≤ gI zs k := by rw [HP.out, HC.out]; exact h1
          have h31 : gI zs k < 32 := by have := HC.out; omega
          have H2 := Lib.hid (and_int t (gI zs k) (by omega) (by omega) (by omega) (by omega))
          have H3 := Lib.hid (or_int t (gI zs k) (by omega) (by omega) (by omega) (by omega))
          by_cases h2 : t &&& (gI zs k).toNat = 0
          · have h2b : (bits .and .i64 t (gI zs k) != 0) = false := by rw [H2.out]; simp [h2]
            have HX : Hid (addB (2 ^ m.toNat) t (gI zs k) = some (t ||| (gI zs k).toNat)) := by unfold Hid addB; rw [if_pos ⟨by omega, by omega, h2⟩]
            clear h2
            go_wp2
            go_roundw
            case rel => exact ⟨k + 1, t ||| (gI zs k).toNat, by omega, by go_num, by rw [H3.out]; rfl, or_lt32 ht (by omega), by rw [foldM_hit (gI_lt hlt) HF.out, HX.out], hb⟩
            case measure => simp [intOf]; omega
          · have h2b : (bits .and .i64 t (gI zs k) != 0) = true := by rw [H2.out]; simp; omega
            have HX := Lib.hid (blk_reject hlt HF.out (by unfold addB; rw [if_neg (fun h => h2 h.2.2)]))
            clear h2
            go_wp2
            go_ret
            exact ⟨retb (by simp [blocksI, HX.out]), hb⟩
    · have HE : Hid (unionB (2 ^ m.toNat) zs = some t) := by have := HF.out; rw [foldM_end _ _ _ _ (by omega)] at this; exact this
      go_wp2
      go_ret
      refine ⟨retb ?_, hb⟩
      rw [blocksI, HE.out, HT.out, eq_some, decide_eq_true h5]; rfl

end Go.Proofs.YtjkgcgbialiipaaDoor
