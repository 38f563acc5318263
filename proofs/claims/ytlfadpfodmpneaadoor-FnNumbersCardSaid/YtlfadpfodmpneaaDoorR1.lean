/- Walks: the source of drawn numbers: in range, whatever the bytes. -/
import Derived.Test.YtlfadpfodmpneaaDoorBit
import Derived.Test.YtlfadpfodmpneaaDoorS1
import Derived.Test.YtlfadpfodmpneaaDoorB1
namespace Go.Proofs.YtlfadpfodmpneaaDoor
open Go.RowKit

/-- Of one-cell bytes. -/
def RowU (w : World) (ao : Option Addr) (n c : Nat) (zs : List Int) : Prop := zs.length = n ∧ Row w ao n c (fun i => .int .u8 (gI zs i)) ∧ ∀ i, i < n → 0 ≤ gI zs i ∧ gI zs i < 256
theorem RowU.below {B : Nat} {w w' : World} {ao : Option Addr} {n c : Nat} {zs : List Int} (h : RowU w ao n c zs) (hb : Below B w w') (hB : w.heap.size ≤ B) : RowU w' ao n c zs := ⟨h.1, h.2.1.below hb hB, h.2.2⟩
theorem wf_u8 {z : Int} (h : (Lit.int .u8 z).wf = true) : 0 ≤ z ∧ z < 256 := by
  simp only [Lit.wf] at h
  have e1 : IntKind.u8.min = 0 := rfl
  have e2 : IntKind.u8.max = 255 := rfl
  rw [e1, e2] at h
  have : 0 ≤ z ∧ z ≤ 255 := by simpa using h
  omega
theorem IsRow.rowU {w : World} {a : Option Addr} {n c : Nat} {zs : List Int} (h : IsRow .u8 w a n c zs) : RowU w a n c (zs.take n) := by
  rcases h with ⟨rfl, rfl, rfl, rfl⟩ | ⟨x, rfl, hl, hm, hz, hcell, hwf⟩
  · exact ⟨rfl, ⟨Nat.le_refl _, Nat.zero_le _, fun _ => rfl, fun h => absurd h (Nat.lt_irrefl _), fun b o e => by cases e⟩, fun i hi => absurd hi (Nat.not_lt_zero _)⟩
  · refine ⟨by simp; omega, ⟨hl, hm, fun e => (by cases e), fun hn => ?_, fun b o e i hi => ?_⟩, fun i hi => ?_⟩
    · obtain ⟨b, off, spot⟩ := x
      have hc := hcell 0 (by omega)
      have hs : spot = none := by simpa [Addr.add] using World.cell?_spot hc
      subst hs
      exact ⟨b, off, rfl, World.block_lt_of_cell? w ⟨b, off, none⟩ (by simpa [Addr.add] using hc)⟩
    · cases e
      have hc := hcell i (by omega)
      have ha : (⟨b, o, none⟩ : Addr).add i = ⟨b, o + i, none⟩ := by unfold Addr.add; split <;> simp_all
      rw [ha] at hc
      rw [hc]
      simp [gI, List.getD, hi]
    · have hil : i < zs.length := by omega
      have := hwf zs[i] (List.getElem_mem _)
      have e : gI (zs.take n) i = zs[i] := by simp [gI, List.getD, hi, hil]
      rw [e]
      exact wf_u8 this

/-- The source: its bytes, and how many numbers were drawn at most. -/
structure Rd (w : World) (g P : Nat) : Prop where
  ex : ∃ ao l c zs, ∃ p : Nat, Blk w g 64 [.slice ao l c, .int .i64 p] ∧ RowU w ao l c zs ∧ l ≤ 2000 ∧ p ≤ P ∧ (∀ a, ao = some a → 0 < l → a.block < g)
theorem Rd.lt {w : World} {g P : Nat} (h : Rd w g P) : g < w.heap.size := let ⟨_, _, _, _, _, hb, _⟩ := h.ex; hb.lt
theorem Rd.more {w : World} {g P Q : Nat} (h : Rd w g P) (hq : P ≤ Q) : Rd w g Q := by
  obtain ⟨ao, l, c, zs, p, h1, h2, h3, h4, h5⟩ := h.ex
  exact ⟨ao, l, c, zs, p, h1, h2, h3, by omega, h5⟩
theorem Rd.below {w w' : World} {g P B : Nat} (h : Rd w g P) (hb : Below B w w') (hg : w.heap.size ≤ B) : Rd w' g P := by
  obtain ⟨ao, l, c, zs, p, h1, h2, h3, h4, h5⟩ := h.ex
  exact ⟨ao, l, c, zs, p, h1.below hb (Nat.lt_of_lt_of_le h1.lt hg), h2.below hb hg, h3, h4, h5⟩
theorem Rd.grown {w w' : World} {g P : Nat} {row : Option Nat} (h : Rd w g P) (hb : w.grownBy w' row) (hr : ∀ j, row = some j → g < j) : Rd w' g P := by
  obtain ⟨ao, l, c, zs, p, h1, ⟨h2, h2r, h2b⟩, h3, h4, h5⟩ := h.ex
  have hblk : ∀ i, i ≤ g → w'.heap[i]? = w.heap[i]? := fun i hi => hb.block i (Nat.lt_of_le_of_lt hi h1.lt) (fun e => by have := hr i (by rw [e]); omega)
  refine ⟨ao, l, c, zs, p, by unfold Blk; rw [hblk g (Nat.le_refl _)]; exact h1, ⟨h2, ⟨h2r.le, h2r.cap, h2r.nil, fun hn => ?_, fun b o e i hi => ?_⟩, h2b⟩, h3, h4, h5⟩
  · obtain ⟨b, o, e, hbo⟩ := h2r.some hn
    exact ⟨b, o, e, Nat.lt_of_lt_of_le hbo hb.size⟩
  · rw [← h2r.cell b o e i hi]
    have := h5 _ e (by omega)
    simp only [World.cell?]
    rw [hblk b (Nat.le_of_lt this)]

end Go.Proofs.YtlfadpfodmpneaaDoor
