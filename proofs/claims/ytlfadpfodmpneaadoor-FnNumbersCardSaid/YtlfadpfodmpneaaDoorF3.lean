/- Walks: FormatStates of the program; the law on it. -/
import Derived.Test.YtlfadpfodmpneaaDoorF2
import Derived.Test.YtlfadpfodmpneaaDoorJn
namespace Go.Proofs.YtlfadpfodmpneaaDoor
open Go.RowKit

set_option maxHeartbeats 2000000 in
theorem fssI_ok (ao : Option Addr) (n c : Nat) (zs : List Int) (m : Int) (w : World) (h : RowI w ao n c zs) (hn : n ≤ 1048576) :
    Calls Tryd.prog 18 #[.slice ao n c, .int .i64 m] w fun e w' => e = .returned (.string (stsV zs m)) ∧ Below w.heap.size w w' := by
  obtain rfl := h.1
  by_cases hpos : 0 < zs.length
  rotate_left
  · have e0 : zs = [] := List.eq_nil_of_length_eq_zero (by omega)
    subst e0
    simp only [List.length_nil]
    go_enter Tryd.func18, Tryd.ntmps18
    go_wp2
    go_ret
    exact ⟨rfl, Below.refl _ _⟩
  have hne0 : ((zs.length : Int) == 0) = false := by
    have : ¬ (zs.length : Int) = 0 := by omega
    simpa using this
  have hnz : ¬ zs = [] := fun e => by rw [e] at hpos; exact absurd hpos (by decide)
  go_enter Tryd.func18, Tryd.ntmps18
  go_wp2_with fail
  go_loopw [5, 14] (fun v i wr => ∃ k : Nat, k ≤ zs.length ∧ i = .int .i64 k ∧ OwnT wr w.heap.size v (listF (stsF zs m) k) ∧ (∀ j, j < k → stB (gI zs j) m = true) ∧ Below w.heap.size w wr) (fun _ i _ => zs.length - (intOf i).toNat)
  case atStart => exact ⟨0, Nat.zero_le _, rfl, OwnT.nil _ _, fun j hj => absurd hj (Nat.not_lt_zero _), Below.refl _ _⟩
  case round =>
    obtain ⟨k, hk, rfl, ho, hall, hb⟩ := hrel
    have HA := Lib.hid hall
    have HO := Lib.hid ho
    have HB := Lib.hid hb
    have hlen := listF_len (stsF zs m) k
    clear hall
    by_cases hlt : k < zs.length
    · obtain ⟨b, o, rfl, hbo⟩ := h.2.some (by omega)
      have hcx := (h.below hb (Nat.le_refl _)).2.cell b o rfl k hlt
      have hlt' : (k : Int) < (zs.length : Int) := by omega
      have HS := Lib.hid (fsI_ok (gI zs k) m wr)
      cases hq : stB (gI zs k) m with
      | false =>
        have HN := Lib.hid (stsV_no hlt hq)
        rw [stT_no hq] at HS
        clear h ho hb
        go_wp2_with fail
        refine HS.out.mono ?_
        rintro e w1 ⟨rfl, b1⟩
        go_wp2_with fail
        go_ret
        exact ⟨rett HN.out.symm, HB.out.trans (b1.mono HB.out.size)⟩
      | true =>
        have HQ := Lib.hid hq
        have HF : Hid (stT (gI zs k) m = stsF zs m k) := rfl
        have hne := stT_some hq
        have HN := Lib.hid (listF_next (stsF zs m) k)
        clear h ho hb hq
        generalize stT (gI zs k) m = u at hne HS HF
        go_wp2_with fail
        refine HS.out.mono ?_
        rintro e w2 ⟨rfl, b2⟩
        have HB2 := Lib.hid (HB.out.trans (b2.mono HB.out.size))
        have HO2 := Lib.hid (HO.out.below b2 (Nat.le_refl _))
        have HCe := Lib.hid ((Blk.new w2 9 [.string u]).cell (i := 0) rfl)
        clear b2
        go_wp2_with (at_builtin; go_must (refine wpList_appT (OwnT.alloc HO2.out _) HCe.out rfl _ _ rfl rfl rfl (by omega) (by have := HB2.out.size; simp; omega) ?_); intro v3 w3 o3 g3)
        go_roundw
        case rel => exact ⟨k + 1, by omega, by go_num, by rw [HN.out, ← HF.out]; exact o3, fun j hj => by
            by_cases e : j = k
            · rw [e]; exact HQ.out
            · exact HA.out j (by omega), (HB2.out.alloc HB2.out.size _).grown g3 (by have := HB2.out.size; simp; omega) (fun j hj => (World.ownsRow.lt HO2.out j hj).1)⟩
        case measure => simp [intOf] <;> omega
    · obtain rfl : k = zs.length := by omega
      have HN := Lib.hid (stsV_yes hpos HA.out)
      obtain ⟨a, cp, rfl, q⟩ := ho.row
      obtain ⟨bk, off, rfl, hbk⟩ := q.2.some (by omega)
      have hz := joinF_size (stsF zs m) ⟨#[32]⟩ 5 (by decide) (fun i => stT_size _ _) zs.length
      have HJ := Lib.hid (Tryd.strings_Join bk off cp (listF (stsF zs m) zs.length) ⟨#[32]⟩ wr (fun j x hj => by
        have hjl : j < (listF (stsF zs m) zs.length).length := (List.getElem?_eq_some_iff.1 hj).1
        rw [q.2.cell bk off rfl j hjl]
        have := gT_lt hjl
        rw [hj] at this
        cases this
        rfl) hbk (by omega) q.2.le (by rw [join_len _ _ _ hpos]; omega))
      rw [hlen, join_eq _ _ _ hpos] at HJ
      clear q ho h hz
      go_wp2_with fail
      refine HJ.out.mono ?_
      rintro e w1 ⟨rfl, b1⟩
      go_wp2_with fail
      go_ret
      exact ⟨rett HN.out.symm, hb.trans (b1.mono hb.size)⟩

end Go.Proofs.YtlfadpfodmpneaaDoor
