/- EasiestPoint on both sides, and the law FnExactEasiestPoint. -/
import Derived.Test.YthgjmciiaikgoaaDoorG11
import Derived.Test.YthgjmciiaikgoaaDoorI1
namespace Go.Proofs.YthgjmciiaikgoaaDoor
open Go.RowKit

/-- The best of the first k points. -/
def epTo (H : Int → Int) (zs : List Int) : Nat → Int
  | 0 => -1
  | k + 1 => if epTo H zs k < 0 ∨ H (gI zs k) < H (epTo H zs k) then gI zs k else epTo H zs k
theorem epTo_take {H : Int → Int} {zs : List Int} {k : Nat} (h : epTo H zs k < 0 ∨ H (gI zs k) < H (epTo H zs k)) : epTo H zs (k + 1) = gI zs k := by rw [epTo, if_pos h]
theorem epTo_keep {H : Int → Int} {zs : List Int} {k : Nat} (h : ¬ (epTo H zs k < 0 ∨ H (gI zs k) < H (epTo H zs k))) : epTo H zs (k + 1) = epTo H zs k := by rw [epTo, if_neg h]
/-- What EasiestPoint gives. -/
noncomputable def epV (ps : List ByteArray) : Int := epTo (hnV ps) (fpV ps) (fpV ps).length

set_option maxHeartbeats 1000000 in
theorem epS_ok (t : ByteArray) (w : World) (hs : t.size ≤ 1048576) :
    Calls Tryd.prog 44 #[.string t] w fun e w' => e = .returned (.int .i64 (epV (cutsP 44 t))) ∧ Below w.heap.size w w' := by
  have HF := Lib.hid (fpS_ok t w hs)
  have HH := Lib.hid (fun s W => hnS_ok t s W hs)
  have hlen := fpV_len (cutsP 44 t) (cutsP_pos 44 t)
  have HE : Hid (epV (cutsP 44 t) = epTo (hnV (cutsP 44 t)) (fpV (cutsP 44 t)) (fpV (cutsP 44 t)).length) := rfl
  generalize epV (cutsP 44 t) = E at HE ⊢
  generalize fpV (cutsP 44 t) = zs at HF hlen HE
  generalize hnV (cutsP 44 t) = H at HH HE
  go_enter Tryd.func44, Tryd.ntmps44
  go_wp2_with fail
  refine HF.out.mono ?_
  rintro e w1 ⟨v, rfl, o1, b1⟩
  obtain ⟨a, c, rfl, q1⟩ := o1.out
  have R1 := Lib.hid q1.rowI
  have B1 := Lib.hid b1
  clear o1 b1 q1
  go_wp2_with fail
  go_loopw [4, 5] (fun b i wr => ∃ k : Nat, k ≤ zs.length ∧ i = .int .i64 k ∧ b = .int .i64 (epTo H zs k) ∧ Below w1.heap.size w1 wr) (fun _ i _ => zs.length - (intOf i).toNat)
  case atStart => exact ⟨0, Nat.zero_le _, rfl, rfl, Below.refl _ _⟩
  case round =>
    obtain ⟨k, hk, rfl, rfl, hb⟩ := hrel
    have HB := Lib.hid hb
    by_cases hlt : k < zs.length
    · obtain ⟨q, o, rfl, hbo⟩ := R1.out.2.some (by omega)
      have hcx := (R1.out.below hb (Nat.le_refl _)).2.cell q o rfl k hlt
      have hlt' : (k : Int) < (zs.length : Int) := by omega
      clear hb
      by_cases h0 : epTo H zs k < 0
      · have HN := Lib.hid (epTo_take (.inl h0))
        generalize gI zs k = z at hcx HN
        generalize epTo H zs k = y at h0
        go_wp2_with fail
        go_roundw
        case rel => exact ⟨k + 1, by omega, by go_num, by rw [HN.out], HB.out⟩
        case measure => simp [intOf]; omega
      · by_cases h1 : H (gI zs k) < H (epTo H zs k)
        · have HN := Lib.hid (epTo_take (.inr h1))
          generalize gI zs k = z at hcx HN h1
          generalize epTo H zs k = y at h0 h1
          have HHz := Lib.hid (HH.out z)
          have HHy := Lib.hid (HH.out y)
          generalize H z = hz at h1 HHz
          generalize H y = hy at h1 HHy
          go_wp2_with fail
          refine (HHz.out _).mono ?_
          rintro e w2 ⟨rfl, b2⟩
          have C2 := Lib.hid (HB.out.trans (b2.mono HB.out.size))
          have hcx2 := (b2.cell (p := ⟨q, o + k, none⟩) (World.block_lt_of_cell? wr ⟨q, o + k, none⟩ hcx)).trans hcx
          clear b2
          go_wp2_with fail
          refine (HHy.out _).mono ?_
          rintro e w3 ⟨rfl, b3⟩
          have C3 := Lib.hid (C2.out.trans (b3.mono C2.out.size))
          have hcx3 := (b3.cell (p := ⟨q, o + k, none⟩) (World.block_lt_of_cell? w2 ⟨q, o + k, none⟩ hcx2)).trans hcx2
          clear b3 hcx hcx2
          go_wp2_with fail
          go_roundw
          case rel => exact ⟨k + 1, by omega, by go_num, by rw [HN.out], C3.out⟩
          case measure => simp [intOf]; omega
        · have HN := Lib.hid (epTo_keep (H := H) (zs := zs) (k := k) (fun h => h.elim h0 h1))
          generalize gI zs k = z at hcx h1
          generalize epTo H zs k = y at h0 h1 HN
          have HHz := Lib.hid (HH.out z)
          have HHy := Lib.hid (HH.out y)
          generalize H z = hz at h1 HHz
          generalize H y = hy at h1 HHy
          go_wp2_with fail
          refine (HHz.out _).mono ?_
          rintro e w2 ⟨rfl, b2⟩
          have C2 := Lib.hid (HB.out.trans (b2.mono HB.out.size))
          clear b2
          go_wp2_with fail
          refine (HHy.out _).mono ?_
          rintro e w3 ⟨rfl, b3⟩
          have C3 := Lib.hid (C2.out.trans (b3.mono C2.out.size))
          clear b3
          go_wp2_with fail
          go_roundw
          case rel => exact ⟨k + 1, by omega, by go_num, by rw [HN.out], C3.out⟩
          case measure => simp [intOf]; omega
    · obtain rfl : k = zs.length := by omega
      go_wp2_with fail
      go_ret
      exact ⟨reti HE.out.symm, B1.out.trans (HB.out.mono B1.out.size)⟩

set_option maxHeartbeats 1000000 in
theorem epI_ok (t : ByteArray) (w : World) (hs : t.size ≤ 1048576) (hm : MaxLenIs w) :
    Calls Tryd.prog 45 #[.string t] w fun e w' => e = .returned (.int .i64 (epV (cutsP 44 t))) ∧ Below w.heap.size w w' := by
  have HF := Lib.hid (fpI_ok t w hs hm)
  have HH := Lib.hid (fun s W (hW : Below w.heap.size w W) => hnI_ok t s W hs (hm.below hW (Nat.le_refl _)))
  have hlen := fpV_len (cutsP 44 t) (cutsP_pos 44 t)
  have HE : Hid (epV (cutsP 44 t) = epTo (hnV (cutsP 44 t)) (fpV (cutsP 44 t)) (fpV (cutsP 44 t)).length) := rfl
  clear hm
  generalize epV (cutsP 44 t) = E at HE ⊢
  generalize fpV (cutsP 44 t) = zs at HF hlen HE
  generalize hnV (cutsP 44 t) = H at HH HE
  go_enter Tryd.func45, Tryd.ntmps45
  go_wp2_with fail
  refine HF.out.mono ?_
  rintro e w1 ⟨v, rfl, o1, b1⟩
  obtain ⟨a, c, rfl, q1⟩ := o1.out
  have R1 := Lib.hid q1.rowI
  have B1 := Lib.hid b1
  clear o1 b1 q1
  go_wp2_with fail
  go_loopw [3, 9] (fun b i wr => ∃ k : Nat, k ≤ zs.length ∧ i = .int .i64 k ∧ b = .int .i64 (epTo H zs k) ∧ Below w1.heap.size w1 wr) (fun _ i _ => zs.length - (intOf i).toNat)
  case atStart => exact ⟨0, Nat.zero_le _, rfl, rfl, Below.refl _ _⟩
  case round =>
    obtain ⟨k, hk, rfl, rfl, hb⟩ := hrel
    have HB := Lib.hid hb
    by_cases hlt : k < zs.length
    · obtain ⟨q, o, rfl, hbo⟩ := R1.out.2.some (by omega)
      have hcx := (R1.out.below hb (Nat.le_refl _)).2.cell q o rfl k hlt
      have hlt' : (k : Int) < (zs.length : Int) := by omega
      clear hb
      by_cases h0 : epTo H zs k < 0
      · have HN := Lib.hid (epTo_take (.inl h0))
        generalize gI zs k = z at hcx HN
        generalize epTo H zs k = y at h0
        go_wp2_with fail
        go_roundw
        case rel => exact ⟨k + 1, by omega, by go_num, by rw [HN.out], HB.out⟩
        case measure => simp [intOf]; omega
      · by_cases h1 : H (gI zs k) < H (epTo H zs k)
        · have HN := Lib.hid (epTo_take (.inr h1))
          generalize gI zs k = z at hcx HN h1
          generalize epTo H zs k = y at h0 h1
          have HHz := Lib.hid (HH.out z)
          have HHy := Lib.hid (HH.out y)
          generalize H z = hz at h1 HHz
          generalize H y = hy at h1 HHy
          go_wp2_with fail
          refine (HHz.out _ (B1.out.trans (HB.out.mono B1.out.size))).mono ?_
          rintro e w2 ⟨rfl, b2⟩
          have C2 := Lib.hid (HB.out.trans (b2.mono HB.out.size))
          clear b2
          go_wp2_with fail
          refine (HHy.out _ (B1.out.trans (C2.out.mono B1.out.size))).mono ?_
          rintro e w3 ⟨rfl, b3⟩
          have C3 := Lib.hid (C2.out.trans (b3.mono C2.out.size))
          clear b3
          go_wp2_with fail
          go_roundw
          case rel => exact ⟨k + 1, by omega, by go_num, by rw [HN.out], C3.out⟩
          case measure => simp [intOf]; omega
        · have HN := Lib.hid (epTo_keep (H := H) (zs := zs) (k := k) (fun h => h.elim h0 h1))
          generalize gI zs k = z at hcx h1
          generalize epTo H zs k = y at h0 h1 HN
          have HHz := Lib.hid (HH.out z)
          have HHy := Lib.hid (HH.out y)
          generalize H z = hz at h1 HHz
          generalize H y = hy at h1 HHy
          go_wp2_with fail
          refine (HHz.out _ (B1.out.trans (HB.out.mono B1.out.size))).mono ?_
          rintro e w2 ⟨rfl, b2⟩
          have C2 := Lib.hid (HB.out.trans (b2.mono HB.out.size))
          clear b2
          go_wp2_with fail
          refine (HHy.out _ (B1.out.trans (C2.out.mono B1.out.size))).mono ?_
          rintro e w3 ⟨rfl, b3⟩
          have C3 := Lib.hid (C2.out.trans (b3.mono C2.out.size))
          clear b3
          go_wp2_with fail
          go_roundw
          case rel => exact ⟨k + 1, by omega, by go_num, by rw [HN.out], C3.out⟩
          case measure => simp [intOf]; omega
    · obtain rfl : k = zs.length := by omega
      go_wp2_with fail
      go_ret
      exact ⟨reti HE.out.symm, B1.out.trans (HB.out.mono B1.out.size)⟩

set_option maxHeartbeats 2000000 in
theorem FnExactEasiestPoint_ok (t : ByteArray) (w : World) (_ : t.size ≤ maxLen) (hm : MaxLenIs w) :
    Calls Tryd.prog 14 #[.string t] w fun e w' => e = .returned (.bool true) ∧ Below w.heap.size w w' := by
  go_enter Tryd.func14, Tryd.ntmps14
  by_cases hb0 : 1048576 < t.size
  · go_wp2
    go_ret
    exact ⟨rfl, Below.refl _ _⟩
  · have ht : t.size ≤ 1048576 := by omega
    have HM := Lib.hid hm
    clear hm
    go_wp2_with fail
    refine (epS_ok t _ ht).mono ?_
    rintro e w1 ⟨rfl, b1⟩
    go_wp2_with fail
    refine (epI_ok t _ ht (HM.out.below b1 (Nat.le_refl _))).mono ?_
    rintro e w2 ⟨rfl, b2⟩
    have c2 : Below w.heap.size w w2 := b1.trans (b2.mono b1.size)
    generalize epV (cutsP 44 t) = u
    go_wp2_with fail
    go_ret
    exact ⟨rfl, c2⟩

end Go.Proofs.YthgjmciiaikgoaaDoor
