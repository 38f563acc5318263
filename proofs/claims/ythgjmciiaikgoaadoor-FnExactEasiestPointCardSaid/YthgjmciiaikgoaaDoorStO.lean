/- Walks: a state of a network, by the program. -/
import Derived.Test.YthgjmciiaikgoaaDoorQ0
import Derived.Test.YthgjmciiaikgoaaDoorM5
namespace Go.Proofs.YthgjmciiaikgoaaDoor
open Go.RowKit

set_option maxHeartbeats 1000000 in
theorem stateOf_ok (t : ByteArray) (s : Int) (w : World) (hs : t.size ≤ 1048576) (hm : MaxLenIs w) :
    Calls Tryd.prog 82 #[.string t, .int .i64 s] w fun e w' => ∃ v, e = .returned (.tuple #[v, .bool (stB' (cutsP 44 t) s)]) ∧ OwnN w' w.heap.size v (cutsP 44 t).length (netN (cutsP 44 t)) ∧ Below w.heap.size w w' := by
  have HO := Lib.hid (readNetwork_ok t w hs hm)
  have hp0 := cutsP_pos 44 t
  generalize cutsP 44 t = ps at HO hp0 ⊢
  cases hb : netB ps with
  | false =>
    have HV := Lib.hid (stB'_no (s := s) hb)
    rw [hb] at HO
    clear hb
    go_enter Tryd.func82, Tryd.ntmps82
    go_wp2_with fail
    refine HO.out.mono ?_
    rintro e w1 ⟨v, rfl, o1, b1⟩
    have O1 := Lib.hid o1
    clear o1
    go_wp2_with fail
    go_ret2
    exact ⟨_, retv HV.out.symm, O1.out, b1⟩
  | true =>
    have HV := Lib.hid (stB'_in (s := s) hb)
    have HN := Lib.hid (netN_yes hb)
    have h5 := net_le hb hp0
    have hlen := bitsN_len ps ps.length
    have HSts := Lib.hid (fun (ao : Option Addr) (c : Nat) W => states_ok ao ps.length c W (by omega))
    rw [hb] at HO
    clear hb
    cases hso : stOk ps.length s with
    | false =>
      have hin := stOk_lt hso
      rw [hso] at HV
      clear hso
      generalize ((2 ^ ps.length : Nat) : Int) = N at hin HSts
      by_cases hneg : s < 0
      · have hge : ¬ (0 : Int) ≤ s := by omega
        go_enter Tryd.func82, Tryd.ntmps82
        go_wp2_with fail
        refine HO.out.mono ?_
        rintro e w1 ⟨v, rfl, o1, b1⟩
        have O1 := Lib.hid o1
        clear o1
        go_wp2_with fail
        go_ret2
        exact ⟨_, retv HV.out.symm, O1.out, b1⟩
      · have hge : (0 : Int) ≤ s := by omega
        have hnl : ¬ s < N := by omega
        clear hin
        go_enter Tryd.func82, Tryd.ntmps82
        go_wp2_with fail
        refine HO.out.mono ?_
        rintro e w1 ⟨v, rfl, o1, b1⟩
        have O1 := Lib.hid o1
        rw [HN.out] at o1
        obtain ⟨a, c, rfl, r1⟩ := o1.row (bitsN_wide ps ps.length)
        rw [hlen] at O1 ⊢
        have HAa := Lib.hid (fun W => HSts.out a c W)
        clear o1 r1 hlen
        go_wp2_with (go_at_call 51; refine (HAa.out _).mono ?_; rintro e w2 ⟨rfl, rfl⟩)
        go_ret2
        exact ⟨_, retv (by rw [HV.out]; exact decide_eq_false (by omega)), O1.out, b1⟩
    | true =>
      have hin := (stOk_iff.1 hso).2
      have hge := (stOk_iff.1 hso).1
      rw [hso] at HV
      clear hso
      generalize ((2 ^ ps.length : Nat) : Int) = N at hin HSts
      go_enter Tryd.func82, Tryd.ntmps82
      go_wp2_with fail
      refine HO.out.mono ?_
      rintro e w1 ⟨v, rfl, o1, b1⟩
      have O1 := Lib.hid o1
      rw [HN.out] at o1
      obtain ⟨a, c, rfl, r1⟩ := o1.row (bitsN_wide ps ps.length)
      rw [hlen] at O1 ⊢
      have HAa := Lib.hid (fun W => HSts.out a c W)
      clear o1 r1 hlen
      go_wp2_with (go_at_call 51; refine (HAa.out _).mono ?_; rintro e w2 ⟨rfl, rfl⟩)
      go_ret2
      exact ⟨_, retv HV.out.symm, O1.out, b1⟩

end Go.Proofs.YthgjmciiaikgoaaDoor
