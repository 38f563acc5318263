/- Walks: small functions on numbers and rows of numbers. -/
import Derived.Test.YtlfadpfodmpneaaDoorCore
namespace Go.Proofs.YtlfadpfodmpneaaDoor
open Go.RowKit

theorem retb {a b : Bool} (h : a = b) : Ending.returned (.bool a) = .returned (.bool b) := by rw [h]

def inB (a b c : Int) : Bool := decide (b ≤ a) && decide (a ≤ c)
theorem inB_iff {a b c : Int} : inB a b c = true ↔ b ≤ a ∧ a ≤ c := by simp [inB]
theorem inB_true {a b c : Int} (h : b ≤ a ∧ a ≤ c) : inB a b c = true := inB_iff.2 h
theorem inB_false {a b c : Int} (h : ¬ (b ≤ a ∧ a ≤ c)) : inB a b c = false := by rw [Bool.eq_false_iff]; exact fun h' => h (inB_iff.1 h')

set_option maxHeartbeats 400000 in
theorem l1In_ok (a b c : Int) (w : World) :
    Calls Tryd.prog 25 #[.int .i64 a, .int .i64 b, .int .i64 c] w fun e w' => e = .returned (.bool (inB a b c)) ∧ w = w' := by
  go_enter Tryd.func25, Tryd.ntmps25
  go_wp2 <;> (go_ret; exact ⟨retb (by simp [inB]; omega), rfl⟩)

/-- What toIntS has written after k rounds. -/
def partI (zs : List Int) (k : Nat) : List Int := zs.take k ++ List.replicate (zs.length - k) 0

theorem partI_set (zs : List Int) (k : Nat) (h : k < zs.length) : (ints (partI zs k)).set k (.int .i64 (gI zs k)) = ints (partI zs (k + 1)) := by
  apply List.ext_getElem?
  intro i
  simp [ints, partI, List.getElem?_set, List.getElem?_append, List.getElem?_take, gI, List.getD]
  have := List.getElem?_eq_getElem h
  grind
theorem partI_get (zs : List Int) (k : Nat) (h : k < zs.length) : (ints (partI zs k))[k]? = some (.int .i64 0) := by
  simp [ints, partI, List.getElem?_append, List.getElem?_replicate, Nat.min_eq_left (Nat.le_of_lt h)]; omega
theorem partI_end (zs : List Int) : partI zs zs.length = zs := by simp [partI]

set_option maxHeartbeats 400000 in
theorem toIntS_ok (ao : Option Addr) (n c : Nat) (zs : List Int) (w : World) (h : RowI w ao n c zs) (hn : n * 8 ≤ 281474976710656) :
    Calls Tryd.prog 7 #[.slice ao n c] w fun e w' => ∃ bo, e = .returned (.slice bo n n) ∧ OutI w' w.heap.size bo n n zs ∧ Below w.heap.size w w' := by
  obtain ⟨rfl, hr⟩ := h
  have hmk := run_make_ints zs.length hn
  go_enter Tryd.func7, Tryd.ntmps7
  go_wp2
  go_loopw [4] (fun i wr => ∃ k : Nat, k ≤ zs.length ∧ i = .int .i64 k ∧ Blk wr w.heap.size 3 (ints (partI zs k)) ∧ Below w.heap.size w wr) (fun i _ => zs.length - (intOf i).toNat)
  case atStart => exact ⟨0, Nat.zero_le _, rfl, by rw [show partI zs 0 = List.replicate zs.length 0 by simp [partI]]; exact Blk.new _ _ _, (Below.refl _ _).alloc (Nat.le_refl _) _⟩
  case round =>
    obtain ⟨k, hk, rfl, hblk, hb⟩ := hrel
    by_cases hlt : k < zs.length
    · obtain ⟨b, o, rfl, hbo⟩ := hr.some (by omega)
      have hcx : wr.cell? ⟨b, o + k, none⟩ = some (.int .i64 (gI zs k)) := (hb.cell (by exact hbo)).trans (hr.cell b o rfl k hlt)
      have hcy : wr.cell? ⟨w.heap.size, k, none⟩ = some (.int .i64 0) := hblk.cell (partI_get zs k hlt)
      have hcz := hblk.free k
      go_wp2
      go_roundw
      case rel => exact ⟨k + 1, by omega, by go_num, by rw [← partI_set zs k hlt]; exact hblk.set k _, hb.setCell (Nat.le_refl _) _⟩
      case measure => simp [intOf]; omega
    · obtain rfl : k = zs.length := by omega
      rw [partI_end] at hblk
      go_wp2
      go_ret
      exact ⟨_, rfl, OutI.of_blk' hblk rfl (Nat.le_refl _) (by unfold maxLen; omega), hb⟩

theorem take_same {xs ys : List Int} {k : Nat} (h : xs.take k = ys.take k) (hx : k < xs.length) (hy : k < ys.length) (he : gI xs k = gI ys k) : xs.take (k + 1) = ys.take (k + 1) := by
  rw [List.take_succ_eq_append_getElem hx, List.take_succ_eq_append_getElem hy, h]
  have h1 : xs[k] = gI xs k := by simp [gI, List.getD, hx]
  have h2 : ys[k] = gI ys k := by simp [gI, List.getD, hy]
  rw [h1, h2, he]

/-- eqIntS: whether two lists are the same. -/
theorem eqIntS_ok (ao bo : Option Addr) (n m c d : Nat) (xs ys : List Int) (w : World) (h : RowI w ao n c xs) (h' : RowI w bo m d ys) :
    Calls Tryd.prog 9 #[.slice ao n c, .slice bo m d] w fun e w' => e = .returned (.bool (decide (xs = ys))) ∧ Below w.heap.size w w' := by
  obtain ⟨rfl, hr⟩ := h
  obtain ⟨rfl, hs⟩ := h'
  have hml := hr.cap
  have hml' := hr.le
  unfold maxLen at hml
  by_cases hlen : xs.length = ys.length
  · have hne : (((xs.length : Nat) : Int) != (ys.length : Int)) = false := by simp [hlen]
    have HL := Lib.hid hlen
    clear hlen
    go_enter Tryd.func9, Tryd.ntmps9
    go_wp2
    go_loopw [5] (fun i wr => ∃ k : Nat, k ≤ xs.length ∧ i = .int .i64 k ∧ xs.take k = ys.take k ∧ Below w.heap.size w wr) (fun i _ => xs.length - (intOf i).toNat)
    case atStart => exact ⟨0, Nat.zero_le _, rfl, rfl, Below.refl _ _⟩
    case round =>
      obtain ⟨k, hk, rfl, hsame, hb⟩ := hrel
      have HS := Lib.hid hsame
      clear hsame
      by_cases hlt : k < xs.length
      · obtain ⟨b, o, rfl, hbo⟩ := hr.some (by omega)
        obtain ⟨b', o', rfl, hbo'⟩ := hs.some (by rw [← HL.out]; omega)
        have hcx : wr.cell? ⟨b, o + k, none⟩ = some (.int .i64 (gI xs k)) := (hb.cell (by exact hbo)).trans (hr.cell b o rfl k hlt)
        have hcy : wr.cell? ⟨b', o' + k, none⟩ = some (.int .i64 (gI ys k)) := (hb.cell (by exact hbo')).trans (hs.cell b' o' rfl k (by rw [← HL.out]; omega))
        have hlt' : (k : Int) < (xs.length : Int) := by omega
        have hlt2 : (k : Int) < (ys.length : Int) := by rw [← HL.out]; omega
        by_cases hq : gI xs k = gI ys k
        · have hqb : (gI xs k != gI ys k) = false := by simp [hq]
          have HQ := Lib.hid hq
          clear hq
          go_wp2
          go_quiet (fail)
          go_wp2
          go_roundw
          case rel => exact ⟨k + 1, by omega, by go_num, take_same HS.out hlt (by rw [← HL.out]; omega) HQ.out, below_drewN hb _⟩
          case measure => simp [intOf]; omega
        · have hqb : (gI xs k != gI ys k) = true := by simp [hq]
          go_wp2
          go_quiet (fail)
          go_wp2
          go_ret
          exact ⟨retb (by simp; intro h; exact hq (by rw [h])), below_drewN hb _⟩
      · obtain rfl : k = xs.length := by omega
        go_wp2
        go_ret
        exact ⟨retb (by have h := HS.out; rw [List.take_length, List.take_of_length_le (by rw [← HL.out]; exact Nat.le_refl _)] at h; simp [h]), hb⟩
  · have hne : (((xs.length : Nat) : Int) != (ys.length : Int)) = true := by simp; omega
    go_enter Tryd.func9, Tryd.ntmps9
    go_wp2
    go_ret
    exact ⟨retb (by simp; intro h; simp [h] at hlen), Below.refl _ _⟩

theorem reti {a b : Int} (h : a = b) : Ending.returned (.int .i64 a) = .returned (.int .i64 b) := by rw [h]
theorem blk_reject {top : Int} {zs : List Int} {k t : Nat} (h : k < zs.length) (ht : (zs.take k).foldlM (addB top) 0 = some t) (hn : addB top t (gI zs k) = none) : unionB top zs = none :=
  foldM_miss (gI_lt h) ht hn

end Go.Proofs.YtlfadpfodmpneaaDoor
