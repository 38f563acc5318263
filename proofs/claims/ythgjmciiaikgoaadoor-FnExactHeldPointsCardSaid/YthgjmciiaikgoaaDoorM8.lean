/- Walks: StepBlocks on both sides. -/
import Derived.Test.YthgjmciiaikgoaaDoorM7
namespace Go.Proofs.YthgjmciiaikgoaaDoor
open Go.RowKit

/-- Whether a text is a network and sets are blocks of its switches. -/
def nbB (ps : List ByteArray) (zs : List Int) : Bool := netB ps && blocksV zs ps.length
theorem nb_no {ps : List ByteArray} {zs : List Int} (h : netB ps = false) : nbB ps zs = false := by simp [nbB, h]
theorem nb_yes {ps : List ByteArray} {zs : List Int} (h : netB ps = true) : nbB ps zs = blocksV zs ps.length := by simp [nbB, h]

set_option maxHeartbeats 1000000 in
theorem l11Blocks_ok (s : ByteArray) (bo : Option Addr) (l d : Nat) (zs : List Int) (w : World) (hs : s.size ≤ 1048576) (hz : RowI w bo l d zs) :
    Calls Tryd.prog 46 #[.string s, .slice bo l d] w fun e w' => ∃ v, e = .returned (.tuple #[v, .bool (nbB (cutsP 44 s) zs)]) ∧ OwnT w' w.heap.size v (netL (cutsP 44 s)) ∧ Below w.heap.size w w' := by
  have HO := Lib.hid (l3Open_ok s w hs)
  generalize cutsP 44 s = ps at HO
  cases hn : netB ps with
  | false =>
    have HN := Lib.hid hn
    rw [hn] at HO
    have HB := Lib.hid (nb_no (zs := zs) hn)
    clear hn
    go_enter Tryd.func46, Tryd.ntmps46
    go_wp2_with fail
    refine HO.out.mono ?_
    rintro e w1 ⟨v, rfl, o1, b1⟩
    have HO1 := Lib.hid o1
    clear o1
    go_wp2_with fail
    go_ret2
    exact ⟨v, retv HB.out.symm, HO1.out, b1⟩
  | true =>
    have HN := Lib.hid hn
    rw [hn] at HO
    have HB := Lib.hid (nb_yes (zs := zs) hn)
    clear hn
    go_enter Tryd.func46, Tryd.ntmps46
    go_wp2_with fail
    refine HO.out.mono ?_
    rintro e w1 ⟨v, rfl, o1, b1⟩
    rw [netL_yes HN.out] at o1
    obtain ⟨a, c, rfl, _⟩ := o1.row
    have HO1 := Lib.hid o1
    have HV := Lib.hid (bvS_ok bo l d zs (ps.length : Int) w1 (hz.below b1 (Nat.le_refl _)))
    clear o1
    go_wp2_with fail
    refine HV.out.mono ?_
    rintro e w2 ⟨rfl, b2⟩
    go_wp2_with fail
    go_ret2
    exact ⟨_, retv HB.out.symm, by rw [netL_yes HN.out]; exact HO1.out.below b2 (Nat.le_refl _), b1.trans (b2.mono b1.size)⟩

set_option maxHeartbeats 1000000 in
theorem blocksOf_ok (s : ByteArray) (bo : Option Addr) (l d : Nat) (zs : List Int) (w : World) (hs : s.size ≤ 1048576) (hz : RowI w bo l d zs) (hm : MaxLenIs w) :
    Calls Tryd.prog 50 #[.string s, .slice bo l d] w fun e w' => ∃ v, e = .returned (.tuple #[v, .bool (nbB (cutsP 44 s) zs)]) ∧ OwnN w' w.heap.size v (cutsP 44 s).length (netN (cutsP 44 s)) ∧ Below w.heap.size w w' := by
  have HO := Lib.hid (readNetwork_ok s w hs hm)
  generalize cutsP 44 s = ps at HO
  cases hn : netB ps with
  | false =>
    have HN := Lib.hid hn
    rw [hn] at HO
    have HB := Lib.hid (nb_no (zs := zs) hn)
    clear hn
    go_enter Tryd.func50, Tryd.ntmps50
    go_wp2_with fail
    refine HO.out.mono ?_
    rintro e w1 ⟨v, rfl, o1, b1⟩
    have HO1 := Lib.hid o1
    clear o1
    go_wp2_with fail
    go_ret2
    exact ⟨v, retv HB.out.symm, HO1.out, b1⟩
  | true =>
    have HN := Lib.hid hn
    rw [hn] at HO
    have HB := Lib.hid (nb_yes (zs := zs) hn)
    have HE := Lib.hid (netN_yes hn)
    have hlen := bitsN_len ps ps.length
    clear hn
    go_enter Tryd.func50, Tryd.ntmps50
    go_wp2_with fail
    refine HO.out.mono ?_
    rintro e w1 ⟨v, rfl, o1, b1⟩
    rw [HE.out] at o1
    obtain ⟨a, c, rfl, _⟩ := o1.row (bitsN_wide ps ps.length)
    rw [hlen] at o1
    have HO1 := Lib.hid o1
    have HV := Lib.hid (bvI_ok bo l d zs (ps.length : Int) w1 (hz.below b1 (Nat.le_refl _)))
    rw [blocks_same] at HV
    clear o1
    go_wp2_with fail
    refine HV.out.mono ?_
    rintro e w2 ⟨rfl, b2⟩
    go_wp2_with fail
    go_ret2
    exact ⟨_, retv HB.out.symm, by rw [HE.out]; exact HO1.out.below b2 (Nat.le_refl _), b1.trans (b2.mono b1.size)⟩

end Go.Proofs.YthgjmciiaikgoaaDoor
