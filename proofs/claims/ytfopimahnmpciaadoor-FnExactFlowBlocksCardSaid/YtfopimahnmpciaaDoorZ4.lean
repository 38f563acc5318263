/- Walks: a row of numbers cloned; the sign of a row of switches, by the program. -/
import Derived.Test.YtfopimahnmpciaaDoorB2
import Derived.Test.YtfopimahnmpciaaDoorP2
import Derived.Test.YtfopimahnmpciaaDoorM5
namespace Go.Proofs.YtfopimahnmpciaaDoor
open Go.RowKit

set_option maxRecDepth 100000 in
set_option maxHeartbeats 2000000 in
theorem cloneI_ok (ao : Option Addr) (n c : Nat) (zs : List Int) (w : World) (h : RowI w ao n c zs) (hn : n ≤ 1048576) (h0 : 0 < n) :
    Calls Tryd.prog 27 #[.slice ao n c] w fun e w' => ∃ v, e = .returned v ∧ OwnI w' w.heap.size v zs ∧ Below w.heap.size w w' := by
  obtain ⟨b, o, rfl, hb⟩ := h.2.some h0
  have b1 : Below w.heap.size w (w.alloc (.cells #[] 3)) := (Below.refl _ _).alloc (Nat.le_refl _) _
  have HR := Lib.hid (h.below b1 (Nat.le_refl _))
  have B1 := Lib.hid b1
  clear b1 h
  have heq := Lib.run_eql_slice_nil (P := Tryd.prog) w 22 3 (some ⟨b, o, none⟩) n c 0 0 Tryd.underlying22
  go_enter Tryd.func27, Tryd.ntmps27
  go_wp2_with (at_builtin; refine wpList_appI (OwnI.lit _ w.heap.size [] (Nat.le_refl _) (by decide)) HR.out rfl _ _ rfl rfl rfl (by simp; omega) (by simp) ?_; intro v3 w3 o3 g3)
  go_ret
  exact ⟨_, rfl, o3, B1.out.grown g3 B1.out.size (fun j hj => (World.ownsRow.lt (OwnI.lit w w.heap.size [] (Nat.le_refl _) (by decide)) j hj).1)⟩

end Go.Proofs.YtfopimahnmpciaaDoor
