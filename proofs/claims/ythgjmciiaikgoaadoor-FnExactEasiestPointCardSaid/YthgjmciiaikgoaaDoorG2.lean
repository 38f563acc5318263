/- Walks: what a term spreads to, by the reference. -/
import Derived.Test.YthgjmciiaikgoaaDoorG1
import Derived.Test.YthgjmciiaikgoaaDoorH2
import Derived.Test.YthgjmciiaikgoaaDoorF1
namespace Go.Proofs.YthgjmciiaikgoaaDoor
open Go.RowKit

set_option maxHeartbeats 4000000 in
theorem l6Forced_ok (ps : List ByteArray) (i : Nat) (t : ByteArray) (w : World) (hn : netB ps = true) (hi : i < ps.length) (ht : t.data.toList.all isT = true) (hz : t.size = ps.length) (h5 : ps.length ≤ 5) :
    Calls Tryd.prog 98 #[.string (gT ps i), .string t] w fun e w' => e = .returned (.int .i64 (frcV ps t.data.toList i)) ∧ Below w.heap.size w w' := by
  have hp : (2 ^ t.size : Nat) ≤ 32 := Nat.pow_le_pow_right (n := 2) (by decide) (show t.size ≤ 5 by omega)
  have HS := Lib.hid (l6States_ok t w ht (by omega))
  have hd := (netB_get hn i hi).1
  have hsz := net_size hn i hi
  have HAt := Lib.hid (fun s W (hs : s < 2 ^ t.size) => by
    have := l1At_ok (gT ps i) s W (by rw [hsz, ← hz]; exact hs)
    rw [bitN_eq hd s] at this; exact this)
  have HB := Lib.hid (fun s => bitN_lt hd s)
  have HLt : Hid (t.data.toList.length = t.size) := rfl
  have HG := Lib.hid (fun k (h : k < (stL t.data.toList (2 ^ t.size)).length) => stL_get h)
  have hpos : 0 < (stL t.data.toList (2 ^ t.size)).length := by
    obtain ⟨s, h1, h2⟩ := term_has ht
    obtain ⟨j, hj, _⟩ := stL_mem (l := t.data.toList) h1 h2
    exact Nat.lt_of_le_of_lt (Nat.zero_le _) hj
  have hmax := stL_len t.data.toList (2 ^ t.size)
  obtain ⟨s0, e0, h0, hs0⟩ := stL_get hpos
  have HSame := Lib.hid (fun (h : ∀ k, k < (stL t.data.toList (2 ^ t.size)).length → bitN ps i (gI (stL t.data.toList (2 ^ t.size)) k).toNat = bitN ps i s0) => frc_same (ps := ps) (l := t.data.toList) (i := i) h0 hs0 (bitN_lt hd s0) (fun s h1 h2 => by
    obtain ⟨j, hj, ej⟩ := stL_mem (l := t.data.toList) h1 h2
    have := h j hj
    have ej' : gI (stL t.data.toList (2 ^ t.size)) j = (s : Int) := ej
    rw [ej', Int.toNat_natCast] at this
    exact this))
  have HTwo := Lib.hid (fun s1 (h1 : s1 < 2 ^ t.size) (hs1 : hasT t.data.toList s1 = true) (hne : bitN ps i s1 ≠ bitN ps i s0) => frc_two (ps := ps) (l := t.data.toList) (i := i) h0 hs0 (bitN_lt hd s0) h1 hs1 (bitN_lt hd s1) hne)
  have HA0 := Lib.hid (fun W => HAt.out s0 W h0)
  have hb0 := bitN_lt hd s0
  clear hd hsz ht hn hs0
  generalize (2 ^ t.size : Nat) = N at hp HS HAt HG hpos hmax HSame HTwo h0 e0
  generalize stL t.data.toList N = L at HS HG hpos hmax HSame e0
  generalize gT ps i = f at HAt HA0 ⊢
  go_enter Tryd.func98, Tryd.ntmps98
  go_wp2_with fail
  refine HS.out.mono ?_
  rintro e w1 ⟨v, rfl, o1, b1⟩
  obtain ⟨ao, c, rfl, q1⟩ := o1.out
  have R1 := Lib.hid q1.rowI
  have B1 := Lib.hid b1
  clear o1 q1 b1
  go_wp2_with fail
  go_loopw [6] (fun q wr => ∃ k : Nat, 1 ≤ k ∧ k ≤ L.length ∧ q = .int .i64 k ∧ (∀ j, j < k → bitN ps i (gI L j).toNat = bitN ps i s0) ∧ Below w1.heap.size w1 wr) (fun q _ => L.length - (intOf q).toNat)
  case atStart => exact ⟨1, Nat.le_refl _, hpos, rfl, fun j hj => by
      obtain rfl : j = 0 := by omega
      rw [e0, Int.toNat_natCast], Below.refl _ _⟩
  case round =>
    obtain ⟨k, hk1, hk, rfl, hall, hb⟩ := hrel
    have HA := Lib.hid hall
    have HBk := Lib.hid hb
    have R := R1.out.below hb (Nat.le_refl _)
    obtain ⟨b, o, rfl, hbo⟩ := R.2.some hpos
    have hc0 := R.2.cell b o rfl 0 hpos
    rw [e0, Nat.add_zero] at hc0
    clear hall hb
    by_cases hlt : k < L.length
    · have hlt' : (k : Int) < (L.length : Int) := by omega
      have hlpos : (0 : Int) < (L.length : Int) := by omega
      obtain ⟨sk, ek, h1, h2⟩ := HG.out k hlt
      have hck := R.2.cell b o rfl k hlt
      rw [ek] at hck
      have HAk := Lib.hid (fun W => HAt.out sk W h1)
      have hbk := HB.out sk
      have HTk := Lib.hid (HTwo.out sk h1 h2)
      have HEk : Hid (∀ x, bitN ps i sk = x → bitN ps i (gI L k).toNat = x) := fun x hx => by rw [ek, Int.toNat_natCast]; exact hx
      clear ek h2 R
      by_cases hu : bitN ps i sk = bitN ps i s0
      · have hbq : (((bitN ps i sk : Nat) : Int) != ((bitN ps i s0 : Nat) : Int)) = false := by rw [hu]; simp
        have HQ := Lib.hid (HEk.out _ hu)
        clear hu
        go_wp2_with fail
        go_quiet ((go_at_call 120; exact Calls.quiet_of_same (sameW (HAt.out _ _ (by assumption)))))
        go_wp2_with fail
        go_roundw
        case rel => exact ⟨k + 1, by omega, by omega, by go_num, fun j hj => by
            by_cases e : j = k
            · rw [e]; exact HQ.out
            · exact HA.out j (by omega), HBk.out.trans ⟨rfl, rfl, rfl, Nat.le_refl _, fun _ _ => rfl⟩⟩
        case measure => simp [intOf]; omega
      · have hbq : (((bitN ps i sk : Nat) : Int) != ((bitN ps i s0 : Nat) : Int)) = true := by simp; omega
        have HQ := Lib.hid (HTk.out hu)
        clear hu
        go_wp2_with fail
        go_quiet ((go_at_call 120; exact Calls.quiet_of_same (sameW (HAt.out _ _ (by assumption)))))
        go_wp2_with fail
        go_ret
        exact ⟨congrArg (fun x => Ending.returned (.int .i64 x)) HQ.out.symm, (B1.out.trans (HBk.out.mono B1.out.size)).trans ⟨rfl, rfl, rfl, Nat.le_refl _, fun _ _ => rfl⟩⟩
    · obtain rfl : k = L.length := by omega
      have HQ := Lib.hid (HSame.out HA.out)
      have hlpos : (0 : Int) < (L.length : Int) := by omega
      clear R
      go_wp2_with fail
      refine (HA0.out _).mono ?_
      rintro e w3 ⟨rfl, rfl⟩
      go_wp2_with fail
      go_ret
      exact ⟨congrArg (fun x => Ending.returned (.int .i64 x)) HQ.out.symm, B1.out.trans (HBk.out.mono B1.out.size)⟩

end Go.Proofs.YthgjmciiaikgoaaDoor
