/- Walks: marks in a result, and whether they still hold. -/
import Derived.Test.YtlfadpfodmpneaaDoorA1
namespace Go.Proofs.YtlfadpfodmpneaaDoor
open Go.RowKit

/-- A cell of an own row is written. -/
theorem OutI.set {w : World} {B : Nat} {b o n c : Nat} {zs : List Int} (h : OutI w B (some ⟨b, o, none⟩) n c zs) (k : Nat) (hk : k < n) (v : Int) : OutI (w.setCell ⟨b, o + k, none⟩ (.int .i64 v)) B (some ⟨b, o, none⟩) n c (zs.set k v) := by
  obtain ⟨rfl, ⟨hle, hcap, hnil, hsome, hcell⟩, hown, hblk, hfree⟩ := h
  have hc := hcell b o rfl k hk
  refine ⟨by simp, ⟨hle, hcap, hnil, fun hn => ?_, fun b' o' e i hi => ?_⟩, hown, fun a e => (by simpa [World.setCell] using hblk a e), fun b' o' e i hi => ?_⟩
  · obtain ⟨b', o', e, hb⟩ := hsome hn
    exact ⟨b', o', e, by simpa [World.setCell] using hb⟩
  · cases e
    by_cases hik : i = k
    · subst hik
      rw [World.cell?_setCell_same' _ _ _ (by rw [hc]; rfl)]
      simp [gI, List.getD, hi]
    · have hne : (⟨b, o + k, none⟩ : Addr) ≠ ⟨b, o + i, none⟩ := fun e => by
        have := congrArg Addr.off e
        simp at this
        omega
      have e1 : (w.setCell ⟨b, o + k, none⟩ (.int .i64 v)).cell? ⟨b, o + i, none⟩ = w.cell? ⟨b, o + i, none⟩ := by
        first | exact World.cell?_setCell_other _ _ _ hne | exact World.cell?_setCell_other _ _ _ _ hne
      rw [e1, hcell b o rfl i hi]
      simp [gI, List.getD, show ¬ k = i by omega]
  · cases e
    have := hfree b o rfl i hi
    simpa using this

/-- Marks m, m + 1, .. for the first k of n elements. -/
def marks (m : Int) (k : Nat) (zs : List Int) : List Int := ((List.range k).map fun i : Nat => m + (i : Int)) ++ zs.drop k
theorem marks_len (m : Int) (k : Nat) (zs : List Int) (h : k ≤ zs.length) : (marks m k zs).length = zs.length := by simp [marks]; omega
theorem marks_set (m : Int) (k : Nat) (zs : List Int) (h : k < zs.length) : (marks m k zs).set k (m + k) = marks m (k + 1) zs := by
  apply List.ext_getElem?
  intro i
  simp [marks, List.getElem?_set, List.getElem?_append, List.range_succ]
  grind
theorem marks_get (m : Int) (k i : Nat) (zs : List Int) (h : i < k) : gI (marks m k zs) i = m + i := by
  simp [marks, gI, List.getD, List.getElem?_append, h]

/-- Only the block of a slice's own row has turned. -/
def blkOf (ao : Option Addr) : Option Nat := ao.map (·.block)

theorem OutI.grown {w w' : World} {row : Option Nat} {B : Nat} {ao : Option Addr} {n c : Nat} {zs : List Int} (h : OutI w B ao n c zs) (hg : w.grownBy w' row) (hne : ∀ a, ao = some a → some a.block ≠ row) : OutI w' B ao n c zs := by
  have hr := h.rowI.grown hg hne
  refine ⟨hr.1, ⟨hr.2, h.2.own, fun a e => Nat.lt_of_lt_of_le (h.2.lt a e) hg.size, fun b o e i hi => ?_⟩⟩
  obtain ⟨b', o', e', h1⟩ := h.2.row.some (by omega)
  rw [e] at e'
  cases e'
  rw [World.frozen?_of_block (w := w) (hg.block b h1 (hne _ e))]
  exact h.2.free b o e i hi
theorem Below.ofBlk {B : Nat} {w0 w w' : World} {ao : Option Addr} (h : Below B w0 w) (hg : w.grownBy w' (blkOf ao)) (hB : B ≤ w.heap.size) (hb : ∀ a, ao = some a → B ≤ a.block) : Below B w0 w' :=
  h.grown hg hB (fun k hk => by
    obtain ⟨a, ha, rfl⟩ := Option.map_eq_some_iff.1 hk
    exact hb a ha)
theorem OutI.below {w w' : World} {B B' : Nat} {ao : Option Addr} {n c : Nat} {zs : List Int} (h : OutI w B ao n c zs) (hb : Below B' w w') (hB : w.heap.size ≤ B') : OutI w' B ao n c zs :=
  h.grown (row := none) ⟨hb.os, hb.tape, hb.output, hb.size, fun k hk _ => hb.block k (by omega)⟩ (fun _ _ => by simp)

set_option maxHeartbeats 1000000 in
theorem markIntS_ok (B : Nat) (ao : Option Addr) (n c : Nat) (zs : List Int) (m : Int) (w : World) (h : OutI w B ao n c zs) (hm : 0 ≤ m ∧ m ≤ 1152921504606846976) (hn : n ≤ 1099511627776) :
    Calls Tryd.prog 12 #[.slice ao n c, .int .i64 m] w fun e w' => e = .returned (.int .i64 (m + n)) ∧ OutI w' B ao n c (marks m n zs) ∧ w.grownBy w' (blkOf ao) ∧ w'.heap.size = w.heap.size := by
  obtain rfl := h.1
  go_enter Tryd.func12, Tryd.ntmps12
  go_wp2
  go_loopw [1, 5] (fun s i wr => ∃ k : Nat, k ≤ zs.length ∧ i = .int .i64 k ∧ s = .int .i64 (m + k) ∧ OutI wr B ao zs.length c (marks m k zs) ∧ w.grownBy wr (blkOf ao) ∧ wr.heap.size = w.heap.size) (fun _ i _ => zs.length - (intOf i).toNat)
  case atStart => exact ⟨0, Nat.zero_le _, rfl, by go_num, by simpa [marks] using h, World.grownBy.refl _ _, rfl⟩
  case round =>
    obtain ⟨k, hk, rfl, rfl, ho, hb, hsz⟩ := hrel
    have HZ := Lib.hid hsz
    clear hsz
    by_cases hlt : k < zs.length
    · obtain ⟨b, o, rfl, hbo⟩ := ho.2.row.some (by omega)
      have hcx := ho.2.row.cell b o rfl k hlt
      have hfx := ho.2.free b o rfl k hlt
      have hs := ho.set k hlt (m + k)
      rw [marks_set m k zs hlt] at hs
      have hlt' : (k : Int) < (zs.length : Int) := by omega
      clear h ho
      go_wp2
      go_roundw
      case rel => exact ⟨k + 1, by omega, by go_num, by go_num, hs, grownBy_setCell (a := ⟨b, o + k, none⟩) hb rfl _, by simpa [World.setCell] using HZ.out⟩
      case measure => simp [intOf]; omega
    · obtain rfl : k = zs.length := by omega
      go_wp2
      go_ret
      exact ⟨rfl, ho, hb, HZ.out⟩

set_option maxHeartbeats 1000000 in
/-- Marks that stand are held. -/
theorem heldIntS_ok (ao : Option Addr) (n c : Nat) (zs : List Int) (m : Int) (w : World) (h : RowI w ao n c zs) (hz : ∀ i, i < n → gI zs i = m + i) (hm : 0 ≤ m ∧ m ≤ 1152921504606846976) (hn : n ≤ 1099511627776) :
    Calls Tryd.prog 13 #[.slice ao n c, .int .i64 m] w fun e w' => e = .returned (.int .i64 (m + n)) ∧ w = w' := by
  obtain rfl := h.1
  go_enter Tryd.func13, Tryd.ntmps13
  go_wp2
  go_loop [1, 5] (fun s i => ∃ k : Nat, k ≤ zs.length ∧ i = .int .i64 k ∧ s = .int .i64 (m + k)) (fun _ i => zs.length - (intOf i).toNat)
  case atStart => exact ⟨0, Nat.zero_le _, rfl, by go_num⟩
  case round =>
    obtain ⟨k, hk, rfl, rfl⟩ := hrel
    by_cases hlt : k < zs.length
    · obtain ⟨b, o, rfl, hbo⟩ := h.2.some (by omega)
      have hcx := h.2.cell b o rfl k hlt
      simp only [hz k hlt] at hcx
      have hlt' : (k : Int) < (zs.length : Int) := by omega
      clear h hz
      go_wp2
      go_round
      case rel => exact ⟨k + 1, by omega, by go_num, by go_num⟩
      case measure => simp [intOf]; omega
    · obtain rfl : k = zs.length := by omega
      go_wp2
      go_ret
      exact ⟨rfl, rfl⟩

end Go.Proofs.YtlfadpfodmpneaaDoor
