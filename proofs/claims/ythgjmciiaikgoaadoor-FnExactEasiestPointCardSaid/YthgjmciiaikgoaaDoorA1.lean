/- Walks: small functions on numbers and rows of numbers. -/
import Derived.Test.YthgjmciiaikgoaaDoorCore
namespace Go.Proofs.YthgjmciiaikgoaaDoor
open Go.RowKit

theorem retb {a b : Bool} (h : a = b) : Ending.returned (.bool a) = .returned (.bool b) := by rw [h]

def inB (a b c : Int) : Bool := decide (b ≤ a) && decide (a ≤ c)
theorem inB_iff {a b c : Int} : inB a b c = true ↔ b ≤ a ∧ a ≤ c := by simp [inB]
theorem inB_true {a b c : Int} (h : b ≤ a ∧ a ≤ c) : inB a b c = true := inB_iff.2 h
theorem inB_false {a b c : Int} (h : ¬ (b ≤ a ∧ a ≤ c)) : inB a b c = false := by rw [Bool.eq_false_iff]; exact fun h' => h (inB_iff.1 h')

set_option maxHeartbeats 400000 in
theorem l1In_ok (a b c : Int) (w : World) :
    Calls Tryd.prog 47 #[.int .i64 a, .int .i64 b, .int .i64 c] w fun e w' => e = .returned (.bool (inB a b c)) ∧ w = w' := by
  go_enter Tryd.func47, Tryd.ntmps47
  go_wp2 <;> (go_ret; exact ⟨retb (by simp [inB]; omega), rfl⟩)

/-- What toIntS has written after k rounds. -/
def partI (zs : List Int) (k : Nat) : List Int := zs.take k ++ List.replicate (zs.length - k) 0

theorem partI_set (zs : List Int) (k : Nat) (h : k < zs.length) : (ints (partI zs k)).set k (.int .i64 (gI zs k)) = ints (partI zs (k + 1)) := by
  apply List.ext_getElem?
  intro i
  simp [ints, partI, List.getElem?_set, List.getElem?_append, List.getElem?_take, gI, List.getD]
  have := List.getElem?_eq_getElem h
  grind
theorem partI_get (zs : List Int) (k : Nat) (h : k < zs.length) : (ints (partI zs k))[k]? = some (.int .i64 0) := by
  simp [ints, partI, List.getElem?_append, List.getElem?_replicate, Nat.min_eq_left (Nat.le_of_lt h)]; omega
theorem partI_end (zs : List Int) : partI zs zs.length = zs := by simp [partI]

set_option maxHeartbeats 400000 in
theorem toIntS_ok (ao : Option Addr) (n c : Nat) (zs : List Int) (w : World) (h : RowI w ao n c zs) (hn : n * 8 ≤ 281474976710656) :
    Calls Tryd.prog 16 #[.slice ao n c] w fun e w' => ∃ bo, e = .returned (.slice bo n n) ∧ OutI w' w.heap.size bo n n zs ∧ Below w.heap.size w w' := by
  obtain ⟨rfl, hr⟩ := h
  have hmk := run_make_ints zs.length hn
  go_enter Tryd.func16, Tryd.ntmps16
  go_wp2
  go_loopw [4] (fun i wr => ∃ k : Nat, k ≤ zs.length ∧ i = .int .i64 k ∧ Blk wr w.heap.size 3 (ints (partI zs k)) ∧ Below w.heap.size w wr) (fun i _ => zs.length - (intOf i).toNat)
  case atStart => exact ⟨0, Nat.zero_le _, rfl, by rw [show partI zs 0 = List.replicate zs.length 0 by simp [partI]]; exact Blk.new _ _ _, (Below.refl _ _).alloc (Nat.le_refl _) _⟩
  case round =>
    obtain ⟨k, hk, rfl, hblk, hb⟩ := hrel
    by_cases hlt : k < zs.length
    · obtain ⟨b, o, rfl, hbo⟩ := hr.some (by omega)
      have hcx : wr.cell? ⟨b, o + k, none⟩ = some (.int .i64 (gI zs k)) := (hb.cell (by exact hbo)).trans (hr.cell b o rfl k hlt)
      have hcy : wr.cell? ⟨w.heap.size, k, none⟩ = some (.int .i64 0) := hblk.cell (partI_get zs k hlt)
      have hcz := hblk.free k
      go_wp2
      go_roundw
      case rel => exact ⟨k + 1, by omega, by go_num, by rw [← partI_set zs k hlt]; exact hblk.set k _, hb.setCell (Nat.le_refl _) _⟩
      case measure => simp [intOf]; omega
    · obtain rfl : k = zs.length := by omega
      rw [partI_end] at hblk
      go_wp2
      go_ret
      exact ⟨_, rfl, OutI.of_blk' hblk rfl (Nat.le_refl _) (by unfold maxLen; omega), hb⟩

theorem take_same {xs ys : List Int} {k : Nat} (h : xs.take k = ys.take k) (hx : k < xs.length) (hy : k < ys.length) (he : gI xs k = gI ys k) : xs.take (k + 1) = ys.take (k + 1) := by
  rw [List.take_succ_eq_append_getElem hx, List.take_succ_eq_append_getElem hy, h]
  have h1 : xs[k] = gI xs k := by simp [gI, List.getD, hx]
  have h2 : ys[k] = gI ys k := by simp [gI, List.getD, hy]
  rw [h1, h2, he]

/-- eqIntS: whether two lists are the same. -/
theorem eqIntS_ok (ao bo : Option Addr) (n m c d : Nat) (xs ys : List Int) (w : World) (h : RowI w ao n c xs) (h' : RowI w bo m d ys) :
    Calls Tryd.prog 18 #[.slice ao n c, .slice bo m d] w fun e w' => e = .returned (.bool (decide (xs = ys))) ∧ Below w.heap.size w w' := by
  obtain ⟨rfl, hr⟩ := h
  obtain ⟨rfl, hs⟩ := h'
  have hml := hr.cap
  have hml' := hr.le
  unfold maxLen at hml
  by_cases hlen : xs.length = ys.length
  · have hne : (((xs.length : Nat) : Int) != (ys.length : Int)) = false := by simp [hlen]
    have HL := Lib.hid hlen
    clear hlen
    go_enter Tryd.func18, Tryd.ntmps18
    go_wp2
    go_loopw [5] (fun i wr => ∃ k : Nat, k ≤ xs.length ∧ i = .int .i64 k ∧ xs.take k = ys.take k ∧ Below w.heap.size w wr) (fun i _ => xs.length - (intOf i).toNat)
    case atStart => exact ⟨0, Nat.zero_le _, rfl, rfl, Below.refl _ _⟩
    case round =>
      obtain ⟨k, hk, rfl, hsame, hb⟩ := hrel
      have HS := Lib.hid hsame
      clear hsame
      by_cases hlt : k < xs.length
      · obtain ⟨b, o, rfl, hbo⟩ := hr.some (by omega)
        obtain ⟨b', o', rfl, hbo'⟩ := hs.some (by rw [← HL.out]; omega)
        have hcx : wr.cell? ⟨b, o + k, none⟩ = some (.int .i64 (gI xs k)) := (hb.cell (by exact hbo)).trans (hr.cell b o rfl k hlt)
        have hcy : wr.cell? ⟨b', o' + k, none⟩ = some (.int .i64 (gI ys k)) := (hb.cell (by exact hbo')).trans (hs.cell b' o' rfl k (by rw [← HL.out]; omega))
        have hlt' : (k : Int) < (xs.length : Int) := by omega
        have hlt2 : (k : Int) < (ys.length : Int) := by rw [← HL.out]; omega
        by_cases hq : gI xs k = gI ys k
        · have hqb : (gI xs k != gI ys k) = false := by simp [hq]
          have HQ := Lib.hid hq
          clear hq
          go_wp2
          go_quiet (fail)
          go_wp2
          go_roundw
          case rel => exact ⟨k + 1, by omega, by go_num, take_same HS.out hlt (by rw [← HL.out]; omega) HQ.out, below_drewN hb _⟩
          case measure => simp [intOf]; omega
        · have hqb : (gI xs k != gI ys k) = true := by simp [hq]
          go_wp2
          go_quiet (fail)
          go_wp2
          go_ret
          exact ⟨retb (by simp; intro h; exact hq (by rw [h])), below_drewN hb _⟩
      · obtain rfl : k = xs.length := by omega
        go_wp2
        go_ret
        exact ⟨retb (by have h := HS.out; rw [List.take_length, List.take_of_length_le (by rw [← HL.out]; exact Nat.le_refl _)] at h; simp [h]), hb⟩
  · have hne : (((xs.length : Nat) : Int) != (ys.length : Int)) = true := by simp; omega
    go_enter Tryd.func18, Tryd.ntmps18
    go_wp2
    go_ret
    exact ⟨retb (by simp; intro h; simp [h] at hlen), Below.refl _ _⟩

theorem reti {a b : Int} (h : a = b) : Ending.returned (.int .i64 a) = .returned (.int .i64 b) := by rw [h]
theorem blk_reject {top : Int} {zs : List Int} {k t : Nat} (h : k < zs.length) (ht : (zs.take k).foldlM (addB top) 0 = some t) (hn : addB top t (gI zs k) = none) : unionB top zs = none :=
  foldM_miss (gI_lt h) ht hn

set_option maxHeartbeats 1000000 in
theorem bvS_ok (ao : Option Addr) (n c : Nat) (zs : List Int) (m : Int) (w : World) (h : RowI w ao n c zs) :
    Calls Tryd.prog 90 #[.slice ao n c, .int .i64 m] w fun e w' => e = .returned (.bool (blocksV zs m)) ∧ Below w.heap.size w w' := by
  obtain ⟨rfl, hr⟩ := h
  have hml := hr.cap
  have hml' := hr.le
  unfold maxLen at hml
  go_enter Tryd.func90, Tryd.ntmps90
  go_wp2
  go_loopw [5, 6] (fun s i wr => ∃ k t : Nat, k ≤ zs.length ∧ i = .int .i64 k ∧ s = .int .i64 t ∧ t < 32 ∧ (zs.take k).foldlM (addB 32) 0 = some t ∧ Below w.heap.size w wr) (fun _ i _ => zs.length - (intOf i).toNat)
  case atStart => exact ⟨0, 0, Nat.zero_le _, rfl, rfl, by omega, rfl, Below.refl _ _⟩
  case round =>
    obtain ⟨k, t, hk, rfl, rfl, ht, hfold, hb⟩ := hrel
    have HF := Lib.hid hfold
    clear hfold
    by_cases hlt : k < zs.length
    · obtain ⟨b, o, rfl, hbo⟩ := hr.some (by omega)
      have hcx : wr.cell? ⟨b, o + k, none⟩ = some (.int .i64 (gI zs k)) := (hb.cell (by exact hbo)).trans (hr.cell b o rfl k hlt)
      have hlt' : (k : Int) < (zs.length : Int) := by omega
      by_cases h1 : 1 ≤ gI zs k ∧ gI zs k ≤ 31
      · have hq : inB (gI zs k) 1 31 = true := inB_iff.2 h1
        have H2 := Lib.hid (and_int t (gI zs k) (by omega) (by omega) (by omega) (by omega))
        have H3 := Lib.hid (or_int t (gI zs k) (by omega) (by omega) (by omega) (by omega))
        by_cases h2 : t &&& (gI zs k).toNat = 0
        · have h2b : (bits .and .i64 t (gI zs k) != 0) = false := by rw [H2.out]; simp [h2]
          have HX : Hid (addB 32 t (gI zs k) = some (t ||| (gI zs k).toNat)) := by unfold Hid addB; rw [if_pos ⟨h1.1, by omega, h2⟩]
          clear h2
          go_wp2_with (go_at_call 47; refine (l1In_ok _ _ _ _).mono ?_; rintro e w' ⟨rfl, rfl⟩)
          go_roundw
          case rel => exact ⟨k + 1, t ||| (gI zs k).toNat, by omega, by go_num, by rw [H3.out]; rfl, or_lt32 ht (by omega), by rw [foldM_hit (gI_lt hlt) HF.out, HX.out], hb⟩
          case measure => simp [intOf]; omega
        · have h2b : (bits .and .i64 t (gI zs k) != 0) = true := by rw [H2.out]; simp; omega
          have HX := Lib.hid (blk_reject hlt HF.out (by unfold addB; rw [if_neg (fun h => h2 h.2.2)]))
          clear h2
          go_wp2_with (go_at_call 47; refine (l1In_ok _ _ _ _).mono ?_; rintro e w' ⟨rfl, rfl⟩)
          go_ret
          exact ⟨retb (by simp [blocksV, HX.out]), hb⟩
      · have hq : inB (gI zs k) 1 31 = false := by rw [Bool.eq_false_iff]; exact fun h => h1 (inB_iff.1 h)
        have HX := Lib.hid (blk_reject hlt HF.out (by unfold addB; rw [if_neg (fun h => h1 ⟨h.1, by omega⟩)]))
        go_wp2_with (go_at_call 47; refine (l1In_ok _ _ _ _).mono ?_; rintro e w' ⟨rfl, rfl⟩)
        go_ret
        exact ⟨retb (by simp [blocksV, HX.out]), hb⟩
    · have HE : Hid (unionB 32 zs = some t) := by have := HF.out; rw [foldM_end _ _ _ _ (by omega)] at this; exact this
      by_cases h5 : 1 ≤ m ∧ m ≤ 5
      · have hq : inB m 1 5 = true := inB_iff.2 h5
        go_wp2_with (go_at_call 47; refine (l1In_ok _ _ _ _).mono ?_; rintro e w' ⟨rfl, rfl⟩)
        go_ret
        refine ⟨retb ?_, hb⟩
        rw [blocksV, HE.out, wrap_top h5, eq_some, decide_eq_true h5]; rfl
      · have hq : inB m 1 5 = false := by rw [Bool.eq_false_iff]; exact fun h => h5 (inB_iff.1 h)
        go_wp2_with (go_at_call 47; refine (l1In_ok _ _ _ _).mono ?_; rintro e w' ⟨rfl, rfl⟩)
        go_ret
        exact ⟨retb (by simp [blocksV, h5]), hb⟩

set_option maxHeartbeats 1000000 in
theorem bvI_ok (ao : Option Addr) (n c : Nat) (zs : List Int) (m : Int) (w : World) (h : RowI w ao n c zs) :
    Calls Tryd.prog 92 #[.slice ao n c, .int .i64 m] w fun e w' => e = .returned (.bool (blocksI zs m)) ∧ Below w.heap.size w w' := by
  obtain ⟨rfl, hr⟩ := h
  have hml := hr.cap
  have hml' := hr.le
  unfold maxLen at hml
  by_cases hm1 : m < 1
  · go_enter Tryd.func92, Tryd.ntmps92
    go_wp2
    go_ret
    exact ⟨retb (by simp [blocksI]; omega), Below.refl _ _⟩
  by_cases hm5 : 5 < m
  · go_enter Tryd.func92, Tryd.ntmps92
    go_wp2
    go_ret
    exact ⟨retb (by simp [blocksI]; omega), Below.refl _ _⟩
  have h5 : 1 ≤ m ∧ m ≤ 5 := by omega
  have HP := Lib.hid (wrap_pow h5)
  have HT := Lib.hid (wrap_top h5)
  have hp32 : 2 ^ m.toNat ≤ 32 := Nat.pow_le_pow_right (n := 2) (by decide) (show m.toNat ≤ 5 by omega)
  have hc2 : ((2 ^ m.toNat : Nat) : Int) = 2 ^ m.toNat := by simp
  have HC := Lib.hid hc2
  clear hc2
  go_enter Tryd.func92, Tryd.ntmps92
  go_wp2
  go_loopw [5, 16] (fun s i wr => ∃ k t : Nat, k ≤ zs.length ∧ i = .int .i64 k ∧ s = .int .i64 t ∧ t < 32 ∧ (zs.take k).foldlM (addB (2 ^ m.toNat)) 0 = some t ∧ Below w.heap.size w wr) (fun _ i _ => zs.length - (intOf i).toNat)
  case atStart => exact ⟨0, 0, Nat.zero_le _, rfl, rfl, by omega, rfl, Below.refl _ _⟩
  case round =>
    obtain ⟨k, t, hk, rfl, rfl, ht, hfold, hb⟩ := hrel
    have HF := Lib.hid hfold
    clear hfold
    by_cases hlt : k < zs.length
    · obtain ⟨b, o, rfl, hbo⟩ := hr.some (by omega)
      have hcx : wr.cell? ⟨b, o + k, none⟩ = some (.int .i64 (gI zs k)) := (hb.cell (by exact hbo)).trans (hr.cell b o rfl k hlt)
      have hlt' : (k : Int) < (zs.length : Int) := by omega
      by_cases h0 : gI zs k ≤ 0
      · have HX := Lib.hid (blk_reject hlt HF.out (by unfold addB; rw [if_neg (fun h => by omega)]))
        go_wp2
        go_ret
        exact ⟨retb (by simp [blocksI, HX.out]), hb⟩
      · by_cases h1 : 2 ^ m.toNat ≤ gI zs k
        · have HX := Lib.hid (blk_reject hlt HF.out (by unfold addB; rw [if_neg (fun h => by omega)]))
          have h1b : wrap64 (2 ^ m.toNat) ≤ gI zs k := by rw [HP.out, HC.out]; exact h1
          go_wp2
          go_ret
          exact ⟨retb (by simp [blocksI, HX.out]), hb⟩
        · have h1b : ¬ wrap64 (2 ^ m.toNat) ≤ gI zs k := by rw [HP.out, HC.out]; exact h1
          have h31 : gI zs k < 32 := by have := HC.out; omega
          have H2 := Lib.hid (and_int t (gI zs k) (by omega) (by omega) (by omega) (by omega))
          have H3 := Lib.hid (or_int t (gI zs k) (by omega) (by omega) (by omega) (by omega))
          by_cases h2 : t &&& (gI zs k).toNat = 0
          · have h2b : (bits .and .i64 t (gI zs k) != 0) = false := by rw [H2.out]; simp [h2]
            have HX : Hid (addB (2 ^ m.toNat) t (gI zs k) = some (t ||| (gI zs k).toNat)) := by unfold Hid addB; rw [if_pos ⟨by omega, by omega, h2⟩]
            clear h2
            go_wp2
            go_roundw
            case rel => exact ⟨k + 1, t ||| (gI zs k).toNat, by omega, by go_num, by rw [H3.out]; rfl, or_lt32 ht (by omega), by rw [foldM_hit (gI_lt hlt) HF.out, HX.out], hb⟩
            case measure => simp [intOf]; omega
          · have h2b : (bits .and .i64 t (gI zs k) != 0) = true := by rw [H2.out]; simp; omega
            have HX := Lib.hid (blk_reject hlt HF.out (by unfold addB; rw [if_neg (fun h => h2 h.2.2)]))
            clear h2
            go_wp2
            go_ret
            exact ⟨retb (by simp [blocksI, HX.out]), hb⟩
    · have HE : Hid (unionB (2 ^ m.toNat) zs = some t) := by have := HF.out; rw [foldM_end _ _ _ _ (by omega)] at this; exact this
      go_wp2
      go_ret
      refine ⟨retb ?_, hb⟩
      rw [blocksI, HE.out, HT.out, eq_some, decide_eq_true h5]; rfl

end Go.Proofs.YthgjmciiaikgoaaDoor
