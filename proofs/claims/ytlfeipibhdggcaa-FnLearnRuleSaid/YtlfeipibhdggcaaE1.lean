/- Walks: the text of a rule. -/
import Derived.Test.YtlfeipibhdggcaaC3
import Derived.Test.YtlfeipibhdggcaaTx
namespace Go.Proofs.Ytlfeipibhdggcaa
open Go.RowKit Go.Maps

/-- What the steps tell of a switch at a state, by some inputs; 0 where they tell nothing. -/
def ruleTo (zs : List (Int × Int)) (i inp s k : Nat) : Int := (keyF zs i inp k ((s &&& inp : Nat) : Int)).getD 0
theorem ruleTo_hit {zs : List (Int × Int)} {i inp s k : Nat} (h : keyN inp (gS zs k) = s &&& inp) : ruleTo zs i inp s (k + 1) = (valN i (gS zs k) : Nat) := by
  simp [ruleTo, keyF, putF, h]
theorem ruleTo_miss {zs : List (Int × Int)} {i inp s k : Nat} (h : keyN inp (gS zs k) ≠ s &&& inp) : ruleTo zs i inp s (k + 1) = ruleTo zs i inp s k := by
  have : ¬ (((s &&& inp : Nat) : Int) = ((keyN inp (gS zs k) : Nat) : Int)) := by omega
  simp [ruleTo, keyF, putF, this]
theorem ruleTo_bit (zs : List (Int × Int)) (i inp s : Nat) : ∀ k, ruleTo zs i inp s k = 0 ∨ ruleTo zs i inp s k = 1
  | 0 => .inl rfl
  | k + 1 => by
    by_cases h : keyN inp (gS zs k) = s &&& inp
    · rw [ruleTo_hit h]; have := valN_lt i (gS zs k); omega
    · rw [ruleTo_miss h]; exact ruleTo_bit zs i inp s k
def ruleL (zs : List (Int × Int)) (i inp N : Nat) : List Int := (List.range N).map fun s => ruleTo zs i inp s zs.length
theorem ruleL_next (zs : List (Int × Int)) (i inp N : Nat) : ruleL zs i inp (N + 1) = ruleL zs i inp N ++ [ruleTo zs i inp N zs.length] := by simp [ruleL, List.range_succ]
theorem ruleL_len (zs : List (Int × Int)) (i inp N : Nat) : (ruleL zs i inp N).length = N := by simp [ruleL]
theorem ruleL_bit (zs : List (Int × Int)) (i inp N k : Nat) (h : k < N) : gI (ruleL zs i inp N) k = 0 ∨ gI (ruleL zs i inp N) k = 1 := by
  have e : gI (ruleL zs i inp N) k = ruleTo zs i inp k zs.length := by simp [gI, ruleL, List.getD, h]
  rw [e]
  exact ruleTo_bit zs i inp k zs.length

set_option maxHeartbeats 4000000 in
theorem l12Rule_ok (ao : Option Addr) (n c : Nat) (zs : List (Int × Int)) (p i inp : Nat) (hp : p ≤ 5) (hi : i < 5) (hinp : inp < 32) (hz : Small zs) (w : World) (h : RowS w ao n c zs) :
    Calls Try.prog 37 #[.slice ao n c, .int .i64 p, .int .i64 i, .int .i64 inp] w fun e w' => e = .returned (.string (digT (ruleL zs i inp (2 ^ p)))) ∧ Below w.heap.size w w' := by
  obtain rfl := h.len
  have hml := h.cap
  have hml' := h.le
  unfold maxLen at hml
  have HP : Hid (wrap64 (2 ^ p) = ((2 ^ p : Nat) : Int)) := wrap_pow_nat p (by omega)
  have hp32 : (2 ^ p : Nat) ≤ 32 := Nat.pow_le_pow_right (n := 2) (by decide) (show p ≤ 5 by omega)
  generalize hN : (2 ^ p : Nat) = N at hp32 HP
  clear hN
  go_enter Try.func37, Try.ntmps37
  go_wp2
  go_loopw [9, 10] (fun v s wr => ∃ k : Nat, k ≤ N ∧ s = .int .i64 k ∧ OwnI wr w.heap.size v (ruleL zs i inp k) ∧ Below w.heap.size w wr) (fun _ s _ => N - (intOf s).toNat)
  case atStart => exact ⟨0, Nat.zero_le _, rfl, OwnI.lit _ _ [] (Nat.le_refl _) (by decide), (Below.refl _ _).alloc (Nat.le_refl _) _⟩
  case round =>
    obtain ⟨s, hk, rfl, ho, hb⟩ := hrel
    have HO := Lib.hid ho
    have hlen := ruleL_len zs i inp s
    by_cases hsN : s < N
    · have hsw : (s : Int) < wrap64 (2 ^ p) := by rw [HP.out]; omega
      have hr := h.below hb (Nat.le_refl _)
      have HH := Lib.hid h
      have HB0 := Lib.hid hb
      clear ho h hb
      go_wp2
      obtain ⟨wo, hwo⟩ : ∃ wo : World, wo = wr := ⟨_, rfl⟩
      subst hwo
      go_loop [11, 12] (fun v t => ∃ k : Nat, k ≤ zs.length ∧ t = .int .i64 k ∧ v = .int .i64 (ruleTo zs i inp s k)) (fun _ t => zs.length - (intOf t).toNat)
      case atStart => exact ⟨0, Nat.zero_le _, rfl, rfl⟩
      case round =>
        obtain ⟨k, hk2, rfl, rfl⟩ := hrel
        by_cases hlt : k < zs.length
        · obtain ⟨b, o, rfl, hbo⟩ := hr.some (by omega)
          have hx0 : wo.cell? ⟨b, o + k * 2, none⟩ = some (.int .i64 (gS zs k).1) := hr.before b o rfl k hlt
          have hx1 : wo.cell? ⟨b, o + k * 2 + 1, none⟩ = some (.int .i64 (gS zs k).2) := hr.after b o rfl k hlt
          obtain ⟨z0, z1, z2, z3⟩ := hz k hlt
          have hlt' : (k : Int) < (zs.length : Int) := by omega
          have ex : bits .xor .i64 (gS zs k).1 (s : Int) = (((gS zs k).1.toNat ^^^ s : Nat) : Int) := xor_int _ _ z0 (by omega) (by omega) (by omega)
          have ea : bits .and .i64 (((gS zs k).1.toNat ^^^ s : Nat) : Int) (inp : Int) = ((((gS zs k).1.toNat ^^^ s) &&& inp : Nat) : Int) := and_nat _ _ (by have := Nat.xor_lt_two_pow (n := 5) (x := (gS zs k).1.toNat) (y := s) (by omega) (by omega); omega) (by omega)
          by_cases hq : keyN inp (gS zs k) = s &&& inp
          · have hq0 : ((gS zs k).1.toNat ^^^ s) &&& inp = 0 := (xor_and _ _ _).2 hq
            rw [hq0] at ea
            have HQ := Lib.hid (ruleTo_hit (i := i) hq)
            have HV := Lib.hid (show valN i (gS zs k) = bN (gS zs k).2.toNat i from rfl)
            clear hq hq0 hz hr
            go_wp2_with (first | (go_at_call 49; refine (l1Bit_ok _ _ _ z2 (by omega) (by omega) (by omega)).mono ?_; rintro e w' ⟨rfl, rfl⟩))
            go_round
            case rel => exact ⟨k + 1, by omega, by go_num, by rw [HQ.out]; go_num⟩
            case measure => simp [intOf]; omega
          · have hq0 : ((((((gS zs k).1.toNat ^^^ s) &&& inp : Nat) : Int)) == 0) = false := by
              have : ¬ (((gS zs k).1.toNat ^^^ s) &&& inp = 0) := fun e => hq ((xor_and _ _ _).1 e)
              simpa using this
            generalize ((((gS zs k).1.toNat ^^^ s) &&& inp : Nat) : Int) = u at ea hq0
            have HQ := Lib.hid (ruleTo_miss (i := i) hq)
            clear hq hz hr
            go_wp2
            go_round
            case rel => exact ⟨k + 1, by omega, by go_num, by rw [HQ.out]⟩
            case measure => simp [intOf]; omega
        · obtain rfl : k = zs.length := by omega
          have HR := Lib.hid (ruleL_next zs i inp s)
          clear hr hz
          go_wp2_with (at_builtin; go_must (refine wpList_appI (OwnI.alloc HO.out _) (RowI.one _ _) rfl _ _ rfl rfl rfl (by omega) (by have := HB0.out.size; simp; omega) ?_); intro v2 w2 o2 g2)
          go_roundw
          case rel => exact ⟨s + 1, by omega, by go_num, by rw [HR.out]; exact o2, (HB0.out.alloc HB0.out.size _).grown g2 (by have := HB0.out.size; simp; omega) (fun j hj => (World.ownsRow.lt HO.out j hj).1)⟩
          case measure => simp [intOf] <;> omega
    · obtain rfl : s = N := by omega
      have hsw : ¬ (s : Int) < wrap64 (2 ^ p) := by rw [HP.out]; omega
      obtain ⟨a, cp, rfl, q⟩ := ho.out
      rw [hlen] at q
      have HT := Lib.hid (l1Text_ok a s cp _ wr q.rowI (fun j hj => ruleL_bit zs i inp s j hj) (by omega))
      clear q ho hz h
      go_wp2_with fail
      refine HT.out.mono ?_
      rintro e w1 ⟨rfl, b1⟩
      go_wp2_with fail
      go_ret
      exact ⟨rfl, hb.trans (b1.mono hb.size)⟩

end Go.Proofs.Ytlfeipibhdggcaa
