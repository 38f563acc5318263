/- Walks: the fewest inputs that explain a switch. -/
import Derived.Test.YtlfeipibhdggcaaC1
namespace Go.Proofs.Ytlfeipibhdggcaa
open Go.RowKit Go.Maps

/-- Which sets explain a switch. -/
def Exp (zs : List (Int × Int)) (i : Nat) (s : Nat) : Prop := Agree zs i s zs.length

noncomputable def leastI (zs : List (Int × Int)) (m i : Int) : Int := if swB zs m i = true then least (Exp zs i.toNat) (2 ^ m.toNat) else -2

theorem takeB {s q : Nat} (h : popN q ≤ popN s) (t : Nat) (ht : (s : Int) = t) : popN q ≤ popN t := by
  have e : s = t := by omega
  rw [← e]; exact h

set_option maxHeartbeats 2000000 in
theorem l12Least_ok (ao : Option Addr) (n c : Nat) (zs : List (Int × Int)) (p i : Nat) (hp : 1 ≤ p ∧ p ≤ 5) (hi : i < 5) (hz : Small zs) (w : World) (h : RowS w ao n c zs) :
    Calls Try.prog 33 #[.slice ao n c, .int .i64 p, .int .i64 i] w fun e w' => e = .returned (.int .i64 (least (Exp zs i) (2 ^ p))) ∧ Below w.heap.size w w' := by
  have HTop : Hid (wrap64 (wrap64 (2 ^ p) - 1) = ((2 ^ p - 1 : Nat) : Int)) := wrap_top (m := (p : Int)) (by omega)
  have hp32 : (2 ^ p : Nat) ≤ 32 := Nat.pow_le_pow_right (n := 2) (by decide) (show p ≤ 5 by omega)
  have hp0 : 0 < (2 ^ p : Nat) := Nat.two_pow_pos _
  have HLen := Lib.hid h.len
  generalize hN : (2 ^ p : Nat) = N at hp32 hp0
  have HN := Lib.hid hN
  clear hN
  go_enter Try.func33, Try.ntmps33
  go_wp2
  go_loopw [7, 8] (fun b s wr => ∃ (k : Nat) (r : Int), k ≤ N ∧ s = .int .i64 ((k : Int) - 1) ∧ b = .int .i64 r ∧ Best (Exp zs i) k N r ∧ Below w.heap.size w wr) (fun _ s _ => (intOf s + 1).toNat)
  case atStart => exact ⟨N, -1, Nat.le_refl _, by rw [HTop.out, HN.out]; go_num, rfl, Best.start _ _, Below.refl _ _⟩
  case round =>
    obtain ⟨k, r, hk, rfl, rfl, hbest, hb⟩ := hrel
    have HB := Lib.hid hbest
    have hrr := hbest.range
    clear hbest
    by_cases hk0 : 0 < k
    · obtain ⟨q, rfl⟩ : ∃ q, k = q + 1 := ⟨k - 1, by omega⟩
      have hq : ((q + 1 : Nat) : Int) - 1 = (q : Int) := by omega
      have hr := h.below hb (Nat.le_refl _)
      have HX := Lib.hid (l12Explains_ok ao n c zs i q hi (by omega) hz wr hr)
      rw [hq]
      have hq0 : 0 ≤ (q : Int) := by omega
      clear hq hr hz h
      go_wp2_with fail
      refine HX.out.mono ?_
      rintro e w1 ⟨⟨ha, rfl⟩ | ⟨ha, rfl⟩, b1⟩
      · rw [← HLen.out] at ha
        have HA : Hid (Exp zs i q) := ha
        clear ha
        by_cases hr0 : r < 0
        · have hd : decide (r < 0) = true := decide_eq_true hr0
          go_wp2
          go_roundw
          case rel => exact ⟨q, q, by omega, by go_num, rfl, Best.takeDown HB.out (by omega) HA.out (fun s hs => by omega), hb.trans (b1.mono hb.size)⟩
          case measure => simp [intOf] <;> omega
        · obtain ⟨s, rfl⟩ := Int.eq_ofNat_of_zero_le (show 0 ≤ r by omega)
          have hd : decide ((s : Int) < 0) = false := decide_eq_false hr0
          by_cases hpop : popN q ≤ popN s
          · have hpd : ((popN q : Nat) : Int) ≤ ((popN s : Nat) : Int) := by omega
            go_wp2_with (go_at_call 52; refine (l7Size_ok _ _ (by omega) (by omega)).mono ?_; rintro e w' ⟨rfl, rfl⟩)
            go_roundw
            case rel => exact ⟨q, q, by omega, by go_num, rfl, Best.takeDown HB.out (by omega) HA.out (takeB hpop), hb.trans (b1.mono hb.size)⟩
            case measure => simp [intOf] <;> omega
          · have hpd : ¬ ((popN q : Nat) : Int) ≤ ((popN s : Nat) : Int) := by omega
            go_wp2_with (go_at_call 52; refine (l7Size_ok _ _ (by omega) (by omega)).mono ?_; rintro e w' ⟨rfl, rfl⟩)
            go_roundw
            case rel => exact ⟨q, s, by omega, by go_num, rfl, Best.skipDown HB.out (.inr ⟨s, rfl, by omega⟩), hb.trans (b1.mono hb.size)⟩
            case measure => simp [intOf] <;> omega
      · rw [← HLen.out] at ha
        have HA : Hid (¬ Exp zs i q) := ha
        clear ha
        go_wp2
        go_roundw
        case rel => exact ⟨q, r, by omega, by go_num, rfl, Best.skipDown HB.out (.inl HA.out), hb.trans (b1.mono hb.size)⟩
        case measure => simp [intOf] <;> omega
    · obtain rfl : k = 0 := by omega
      go_wp2
      go_ret
      exact ⟨reti HB.out.eq_least, hb⟩

end Go.Proofs.Ytlfeipibhdggcaa
