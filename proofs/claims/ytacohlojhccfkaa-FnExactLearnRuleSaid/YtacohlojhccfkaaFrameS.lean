/- What the frame of a law tells of a slice of steps that came in. -/
import Derived.Test.YtacohlojhccfkaaA3
import Derived.Deep.Slices
import Derived.ChangeSame
namespace Go.Proofs.Ytacohlojhccfkaa
open Go.RowKit Go.ChangeShapes Go.WideShapes Go.Deep

theorem cellsSeen : Try.prog.cellsOf 46 = 2 := by kernel_rfl
theorem cellsInt : Try.prog.cellsOf 3 = 1 := by kernel_rfl

section
variable {H : Type} {enc : TypeId × Value → H} {w : World} {base : Nat} {spare : Nat → Bool} {held : Bool}

set_option maxRecDepth 100000 in
/-- Two cells that read as a step are two numbers. -/
theorem seen_cells {fuel : Nat} {cs : List Value} {x : DataW H × List MemPlace} (h : DataW.trod enc Try.prog w base spare held fuel 46 cs = some x) : ∃ a b : Int, cs = [.int .i64 a, .int .i64 b] := by
  obtain ⟨y0, y1, n, _, hl, h0, h1⟩ := trod_struct2 Try.underlying46 h
  rw [cellsSeen] at hl
  match cs, hl with
  | [c0, c1], _ =>
    have e0 : DataW.trod enc Try.prog w base spare held n 3 (([c0, c1].drop 0).take (Try.prog.cellsOf 3)) = some y0 := h0
    have e1 : DataW.trod enc Try.prog w base spare held n 3 (([c0, c1].drop 1).take (Try.prog.cellsOf 3)) = some y1 := h1
    rw [cellsInt] at e0 e1
    obtain ⟨a, ha, _⟩ := DataW.trod_int Try.underlying3 e0
    obtain ⟨b, hb, _⟩ := DataW.trod_int Try.underlying3 e1
    simp at ha hb
    exact ⟨a, b, by rw [ha, hb]⟩

theorem seen_rowS {fuel : Nat} {ao : Option Addr} {n c : Nat} {x : DataW H × List MemPlace} (h : DataW.trod enc Try.prog w base spare held fuel 22 [.slice ao n c] = some x) : ∃ zs, RowS w ao n c zs := by
  rcases open_slice Try.underlying22 h with ⟨hcs, _⟩ | ⟨a, len, cap, m, k, D, Pl, hcs, _, hl, hm, hmm, _, hel⟩
  · simp at hcs
    obtain ⟨rfl, rfl, rfl⟩ := hcs
    exact ⟨[], ⟨rfl, Nat.le_refl _, Nat.zero_le _, fun h => absurd h (Nat.lt_irrefl _), fun b o e => (by cases e), fun b o e => (by cases e)⟩⟩
  · simp at hcs
    obtain ⟨rfl, rfl, rfl⟩ := hcs
    have hle : n ≤ m := by rw [hmm]; split <;> omega
    obtain ⟨F, hF⟩ := choose_lt (α := Int × Int) (n := n) (p := fun i p => w.cell? (a.add (i * 2)) = some (.int .i64 p.1) ∧ w.cell? ((a.add (i * 2)).add 1) = some (.int .i64 p.2)) (fun i hi => by
      obtain ⟨cs', h1, h2⟩ := hel i (by omega)
      rw [cellsSeen] at h1
      obtain ⟨p, q, rfl⟩ := seen_cells h2
      obtain ⟨_, _, hc⟩ := World.cells?_some h1
      have c0 := hc 0 (by omega)
      have c1 := hc 1 (by omega)
      exact ⟨(p, q), by simpa [Addr.add] using c0, by simpa using c1⟩)
    have hg : ∀ i, i < n → gS ((List.range n).map F) i = F i := fun i hi => by simp [gS, List.getD, hi]
    refine ⟨(List.range n).map F, by simp, hl, hm, fun hn => ?_, fun b o e i hi => ?_, fun b o e i hi => ?_⟩
    · obtain ⟨b, off, spot⟩ := a
      have hc := (hF 0 hn).1
      have hs : spot = none := by simpa [Addr.add] using World.cell?_spot hc
      subst hs
      exact ⟨b, off, rfl, World.block_lt_of_cell? w ⟨b, off, none⟩ (by simpa [Addr.add] using hc)⟩
    · cases e
      rw [hg i hi]
      have := (hF i hi).1
      have ha : (⟨b, o, none⟩ : Addr).add (i * 2) = ⟨b, o + i * 2, none⟩ := by unfold Addr.add; split <;> simp_all
      rwa [ha] at this
    · cases e
      rw [hg i hi]
      have := (hF i hi).2
      have ha : ((⟨b, o, none⟩ : Addr).add (i * 2)).add 1 = ⟨b, o + i * 2 + 1, none⟩ := by rw [Deep.add_add]; unfold Addr.add; split <;> simp_all [Nat.add_assoc]
      rwa [ha] at this
end

end Go.Proofs.Ytacohlojhccfkaa
