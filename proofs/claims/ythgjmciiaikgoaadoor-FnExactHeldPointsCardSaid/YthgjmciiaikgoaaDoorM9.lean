/- Walks: StepBlocks on both sides. -/
import Derived.Test.YthgjmciiaikgoaaDoorM8
import Derived.Test.YthgjmciiaikgoaaDoorAll
namespace Go.Proofs.YthgjmciiaikgoaaDoor
open Go.RowKit

theorem nb_net {ps : List ByteArray} {zs : List Int} (h : nbB ps zs = true) : netB ps = true := by
  rw [nbB, Bool.and_eq_true] at h; exact h.1
theorem nb_blocks {ps : List ByteArray} {zs : List Int} (h : nbB ps zs = true) (k : Nat) (hk : k < zs.length) : 1 ≤ gI zs k ∧ gI zs k < 2 ^ ps.length := by
  rw [nbB, Bool.and_eq_true] at h
  have := blocks_all h.2 k hk
  rwa [Int.toNat_natCast] at this

/-- What StepBlocks gives. -/
def sbV (ps : List ByteArray) (zs : List Int) (s : Int) : Int := if (nbB ps zs && stOk ps.length s) = true then (runTo ps zs s.toNat zs.length : Nat) else -1
theorem sb_no {ps : List ByteArray} {zs : List Int} {s : Int} (h : nbB ps zs = false) : sbV ps zs s = -1 := by simp [sbV, h]
theorem sb_out {ps : List ByteArray} {zs : List Int} {s : Int} (h : stOk ps.length s = false) : sbV ps zs s = -1 := by simp [sbV, h]
theorem sb_yes {ps : List ByteArray} {zs : List Int} {s : Nat} (h : nbB ps zs = true) (h2 : stOk ps.length s = true) : sbV ps zs s = (runTo ps zs s zs.length : Nat) := by simp [sbV, h, h2]

set_option maxHeartbeats 2000000 in
theorem sbS_ok (t : ByteArray) (bo : Option Addr) (l d : Nat) (zs : List Int) (s : Int) (w : World) (hs : t.size ≤ 1048576) (hz : RowI w bo l d zs) (hl : l ≤ 1048576) :
    Calls Tryd.prog 15 #[.string t, .slice bo l d, .int .i64 s] w fun e w' => e = .returned (.int .i64 (sbV (cutsP 44 t) zs s)) ∧ Below w.heap.size w w' := by
  have HO := Lib.hid (l11Blocks_ok t bo l d zs w hs hz)
  have hp0 := cutsP_pos 44 t
  generalize cutsP 44 t = ps at HO hp0
  obtain rfl := hz.1
  cases hb : nbB ps zs with
  | false =>
    have HV := Lib.hid (sb_no (s := s) hb)
    rw [hb] at HO
    clear hb hz
    go_enter Tryd.func15, Tryd.ntmps15
    go_wp2_with fail
    refine HO.out.mono ?_
    rintro e w1 ⟨v, rfl, o1, b1⟩
    clear o1
    go_wp2_with fail
    go_ret
    exact ⟨reti HV.out.symm, b1⟩
  | true =>
    rw [hb] at HO
    have hn := nb_net hb
    have h5 := net_le hn hp0
    have HN := Lib.hid (netL_yes hn)
    cases hq : stOk ps.length s with
    | false =>
      have HV := Lib.hid (sb_out (zs := zs) hq)
      have HQ : Hid (inB s 0 ((2 ^ ps.length - 1 : Nat) : Int) = false) := hq
      have HA := Lib.hid (fun ao c W => l3All_ok ao ps.length c W h5)
      clear hb hz hn hq
      go_enter Tryd.func15, Tryd.ntmps15
      go_wp2_with fail
      refine HO.out.mono ?_
      rintro e w1 ⟨v, rfl, o1, b1⟩
      rw [HN.out] at o1
      obtain ⟨a, c, rfl, _⟩ := o1.row
      clear o1
      generalize ((2 ^ ps.length - 1 : Nat) : Int) = top at HQ HA
      go_wp2_with fail
      refine (HA.out _ _ _).mono ?_
      rintro e w2 ⟨rfl, rfl⟩
      have hq := HQ.out
      go_wp2_with (go_at_call 47; refine (l1In_ok _ _ _ _).mono ?_; rintro e w' ⟨rfl, rfl⟩)
      go_ret
      exact ⟨reti HV.out.symm, b1⟩
    | true =>
      have hr := stOk_iff.1 hq
      obtain ⟨q, rfl⟩ := Int.eq_ofNat_of_zero_le hr.1
      have HV := Lib.hid (sb_yes hb hq)
      have HQ : Hid (inB q 0 ((2 ^ ps.length - 1 : Nat) : Int) = true) := hq
      have HA := Lib.hid (fun ao c W => l3All_ok ao ps.length c W h5)
      have hbl := nb_blocks hb
      have HS := Lib.hid (fun ao c W (h : RowT W ao ps.length c ps) (hb : Below w.heap.size w W) => l11Step_ok ao ps.length c ps bo zs.length d zs q W h (hz.below hb (Nat.le_refl _)) hn h5 (by omega) hbl hl)
      clear hb hz hn hq hr hbl
      go_enter Tryd.func15, Tryd.ntmps15
      go_wp2_with fail
      refine HO.out.mono ?_
      rintro e w1 ⟨v, rfl, o1, b1⟩
      rw [HN.out] at o1
      obtain ⟨a, c, rfl, r1⟩ := o1.row
      have HS1 := Lib.hid (HS.out _ _ _ r1 b1)
      clear o1 r1
      generalize ((2 ^ ps.length - 1 : Nat) : Int) = top at HQ HA
      go_wp2_with fail
      refine (HA.out _ _ _).mono ?_
      rintro e w2 ⟨rfl, rfl⟩
      have hq := HQ.out
      go_wp2_with (go_at_call 47; refine (l1In_ok _ _ _ _).mono ?_; rintro e w' ⟨rfl, rfl⟩)
      refine HS1.out.mono ?_
      rintro e w2 ⟨rfl, rfl⟩
      go_wp2_with fail
      go_ret
      exact ⟨reti HV.out.symm, b1⟩

set_option maxHeartbeats 2000000 in
theorem sbI_ok (t : ByteArray) (bo : Option Addr) (l d : Nat) (zs : List Int) (s : Int) (w : World) (hs : t.size ≤ 1048576) (hz : RowI w bo l d zs) (hl : l ≤ 1048576) (hm : MaxLenIs w) :
    Calls Tryd.prog 17 #[.string t, .slice bo l d, .int .i64 s] w fun e w' => e = .returned (.int .i64 (sbV (cutsP 44 t) zs s)) ∧ Below w.heap.size w w' := by
  have HO := Lib.hid (blocksOf_ok t bo l d zs w hs hz hm)
  have hp0 := cutsP_pos 44 t
  generalize cutsP 44 t = ps at HO hp0
  obtain rfl := hz.1
  cases hb : nbB ps zs with
  | false =>
    have HV := Lib.hid (sb_no (s := s) hb)
    rw [hb] at HO
    clear hb hz hm
    go_enter Tryd.func17, Tryd.ntmps17
    go_wp2_with fail
    refine HO.out.mono ?_
    rintro e w1 ⟨v, rfl, o1, b1⟩
    clear o1
    go_wp2_with fail
    go_ret
    exact ⟨reti HV.out.symm, b1⟩
  | true =>
    rw [hb] at HO
    have hn := nb_net hb
    have h5 := net_le hn hp0
    have HN := Lib.hid (netN_yes hn)
    have hlen := bitsN_len ps ps.length
    have HSt := Lib.hid (fun ao c W => states_ok ao ps.length c W (by omega))
    cases hq : stOk ps.length s with
    | false =>
      have HV := Lib.hid (sb_out (zs := zs) hq)
      have hr := stOk_lt hq
      clear hb hz hn hq hm
      go_enter Tryd.func17, Tryd.ntmps17
      go_wp2_with fail
      refine HO.out.mono ?_
      rintro e w1 ⟨v, rfl, o1, b1⟩
      rw [HN.out] at o1
      obtain ⟨a, c, rfl, _⟩ := o1.row (bitsN_wide ps ps.length)
      rw [hlen] at o1 ⊢
      clear o1
      generalize ((2 ^ ps.length : Nat) : Int) = top at hr HSt
      rcases hr with hr | hr
      · go_wp2_with fail
        go_ret
        exact ⟨reti HV.out.symm, b1⟩
      · by_cases h0 : s < 0
        · go_wp2_with fail
          go_ret
          exact ⟨reti HV.out.symm, b1⟩
        · go_wp2_with fail
          refine (HSt.out _ _ _).mono ?_
          rintro e w2 ⟨rfl, rfl⟩
          go_wp2_with fail
          go_ret
          exact ⟨reti HV.out.symm, b1⟩
    | true =>
      have hr := stOk_iff.1 hq
      obtain ⟨q, rfl⟩ := Int.eq_ofNat_of_zero_le hr.1
      have HV := Lib.hid (sb_yes hb hq)
      have hbl := nb_blocks hb
      have HS := Lib.hid (fun ao c W (h : RowN W ao ps.length c ps.length (bitsN ps ps.length)) (hb : Below w.heap.size w W) => run_ok ao c ps bo zs.length d zs q W h (hz.below hb (Nat.le_refl _)) hn h5 (by omega) hbl hl)
      have hr2 := hr.2
      clear hb hz hn hq hbl hm hr
      go_enter Tryd.func17, Tryd.ntmps17
      go_wp2_with fail
      refine HO.out.mono ?_
      rintro e w1 ⟨v, rfl, o1, b1⟩
      rw [HN.out] at o1
      obtain ⟨a, c, rfl, r1⟩ := o1.row (bitsN_wide ps ps.length)
      rw [hlen] at r1 ⊢
      have HS1 := Lib.hid (HS.out _ _ _ r1 b1)
      clear o1 r1
      generalize ((2 ^ ps.length : Nat) : Int) = top at hr2 HSt
      go_wp2_with fail
      refine (HSt.out _ _ _).mono ?_
      rintro e w2 ⟨rfl, rfl⟩
      go_wp2_with fail
      refine HS1.out.mono ?_
      rintro e w2 ⟨rfl, b2⟩
      go_wp2_with fail
      go_ret
      exact ⟨reti HV.out.symm, b1.trans (b2.mono b1.size)⟩

end Go.Proofs.YthgjmciiaikgoaaDoor
