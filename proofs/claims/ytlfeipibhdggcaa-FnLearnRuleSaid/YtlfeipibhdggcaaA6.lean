/- Walks: the reference's word on what explains a switch. -/
import Derived.Test.YtlfeipibhdggcaaA5
import Derived.Test.YtlfeipibhdggcaaBit
namespace Go.Proofs.Ytlfeipibhdggcaa
open Go.RowKit Go.Maps

theorem same {P : Program} {f : FuncId} {args : Array Value} {w : World} {v : Value} (h : Calls P f args w fun e w' => e = .returned v ∧ w = w') : Calls P f args w fun e w' => e = .returned v ∧ w' = w :=
  h.mono fun _ _ ⟨a, b⟩ => ⟨a, b.symm⟩

theorem explS_key {zs : List (Int × Int)} {k j inp : Nat} (h1 : 0 ≤ (gS zs k).1 ∧ (gS zs k).1 < 32) (h2 : 0 ≤ (gS zs j).1 ∧ (gS zs j).1 < 32) (hi : inp < 32) :
    (bits .and .i64 (bits .xor .i64 (gS zs k).1 (gS zs j).1) (inp : Int) == 0) = decide (keyN inp (gS zs k) = keyN inp (gS zs j)) := by
  have hx : (gS zs k).1.toNat ^^^ (gS zs j).1.toNat < 2 ^ 63 := Nat.xor_lt_two_pow (by omega) (by omega)
  rw [xor_int _ _ h1.1 (by omega) h2.1 (by omega), and_nat _ inp hx (by omega), Bool.eq_iff_iff, decide_eq_true_iff, beq_iff_eq, keyN, keyN, ← xor_and]
  omega

set_option maxHeartbeats 1000000 in
theorem l12Explains_ok (ao : Option Addr) (n c : Nat) (zs : List (Int × Int)) (i inp : Nat) (hi : i < 5) (hinp : inp < 32) (hz : Small zs) (w : World) (h : RowS w ao n c zs) :
    Calls Try.prog 30 #[.slice ao n c, .int .i64 i, .int .i64 inp] w fun e w' => ((Agree zs i inp n ∧ e = .returned (.bool true)) ∨ (¬ Agree zs i inp n ∧ e = .returned (.bool false))) ∧ Below w.heap.size w w' := by
  obtain rfl := h.len
  have hml := h.cap
  have hml' := h.le
  unfold maxLen at hml
  go_enter Try.func30, Try.ntmps30
  go_wp2
  go_loopw [7] (fun s wr => ∃ k : Nat, k ≤ zs.length ∧ s = .int .i64 k ∧ Agree zs i inp k ∧ Below w.heap.size w wr) (fun i _ => zs.length - (intOf i).toNat)
  case atStart => exact ⟨0, Nat.zero_le _, rfl, fun a h => absurd h (Nat.not_lt_zero _), Below.refl _ _⟩
  case round =>
    obtain ⟨k, hk, rfl, hag, hb⟩ := hrel
    have HA := Lib.hid hag
    clear hag
    by_cases hlt : k < zs.length
    · obtain ⟨b, o, rfl, hbo⟩ := h.some (by omega)
      have hx0 : w.cell? ⟨b, o + k * 2, none⟩ = some (.int .i64 (gS zs k).1) := h.before b o rfl k hlt
      have hx1 : w.cell? ⟨b, o + k * 2 + 1, none⟩ = some (.int .i64 (gS zs k).2) := h.after b o rfl k hlt
      have HX0 := Lib.hid hx0
      have HX1 := Lib.hid hx1
      obtain ⟨z0, z1, z2, z3⟩ := hz k hlt
      have hlt' : (k : Int) < (zs.length : Int) := by omega
      clear hx0 hx1
      go_wp2
      obtain ⟨wo, hwo⟩ : ∃ wo : World, wo = wr := ⟨_, rfl⟩
      subst hwo
      go_loopw [8] (fun s wr => ∃ j : Nat, j ≤ k ∧ s = .int .i64 j ∧ (∀ a, a < j → keyN inp (gS zs k) = keyN inp (gS zs a) → valN i (gS zs k) = valN i (gS zs a)) ∧ Below w.heap.size w wr) (fun i _ => k - (intOf i).toNat)
      case atStart => exact ⟨0, Nat.zero_le _, rfl, fun a h => absurd h (Nat.not_lt_zero _), hb⟩
      case round =>
        obtain ⟨j, hj, rfl, hag2, hb2⟩ := hrel
        have HG := Lib.hid hag2
        clear hag2
        by_cases hjl : j < k
        · have hx0 : wr.cell? ⟨b, o + k * 2, none⟩ = some (.int .i64 (gS zs k).1) := (hb2.cell (by exact hbo)).trans HX0.out
          have hx1 : wr.cell? ⟨b, o + k * 2 + 1, none⟩ = some (.int .i64 (gS zs k).2) := (hb2.cell (by exact hbo)).trans HX1.out
          have hy0 : wr.cell? ⟨b, o + j * 2, none⟩ = some (.int .i64 (gS zs j).1) := (hb2.cell (by exact hbo)).trans (h.before b o rfl j (by omega))
          have hy1 : wr.cell? ⟨b, o + j * 2 + 1, none⟩ = some (.int .i64 (gS zs j).2) := (hb2.cell (by exact hbo)).trans (h.after b o rfl j (by omega))
          obtain ⟨y0, y1, y2, y3⟩ := hz j (by omega)
          have hjl' : (j : Int) < (k : Int) := by omega
          have hjl2 : (j : Int) < (zs.length : Int) := by omega
          have hK := explS_key (zs := zs) (k := k) (j := j) (inp := inp) ⟨z0, z1⟩ ⟨y0, y1⟩ hinp
          by_cases hkey : keyN inp (gS zs k) = keyN inp (gS zs j)
          · rw [decide_eq_true hkey] at hK
            by_cases hval : valN i (gS zs k) = valN i (gS zs j)
            · have hVb : (((bN (gS zs k).2.toNat i : Nat) : Int) != ((bN (gS zs j).2.toNat i : Nat) : Int)) = false := by
                have : bN (gS zs k).2.toNat i = bN (gS zs j).2.toNat i := hval
                simp [this]
              have HV := Lib.hid hval
              clear hval hkey
              go_wp2
              go_quiet ((go_at_call 49; exact Calls.quiet_of_same (same (l1Bit_ok _ _ _ (by omega) (by omega) (by omega) (by omega)))))
              go_wp2
              go_roundw
              case rel => exact ⟨j + 1, by omega, by go_num, fun a ha he => by
                  by_cases e : a = j
                  · subst e; exact HV.out
                  · exact HG.out a (by omega) he, below_drewN hb2 _⟩
              case measure => simp [intOf]; omega
            · have hVb : (((bN (gS zs k).2.toNat i : Nat) : Int) != ((bN (gS zs j).2.toNat i : Nat) : Int)) = true := by
                have : bN (gS zs k).2.toNat i ≠ bN (gS zs j).2.toNat i := hval
                simp; omega
              have HV := Lib.hid (show ¬ Agree zs i inp zs.length from fun h => hval (h k hlt j hjl hkey))
              clear hval hkey
              go_wp2
              go_quiet ((go_at_call 49; exact Calls.quiet_of_same (same (l1Bit_ok _ _ _ (by omega) (by omega) (by omega) (by omega)))))
              go_wp2
              go_ret
              exact ⟨.inr ⟨HV.out, rfl⟩, below_drewN hb2 _⟩
          · rw [decide_eq_false hkey] at hK
            have HV := Lib.hid hkey
            clear hkey
            go_wp2
            go_quiet (fail)
            go_wp2
            go_roundw
            case rel => exact ⟨j + 1, by omega, by go_num, fun a ha he => by
                by_cases e : a = j
                · subst e; exact absurd he HV.out
                · exact HG.out a (by omega) he, below_drewN hb2 _⟩
            case measure => simp [intOf]; omega
        · obtain rfl : j = k := by omega
          go_wp2
          go_roundw
          case rel => exact ⟨j + 1, by omega, by go_num, fun a ha b hb he => by
              by_cases e : a = j
              · subst e; exact HG.out b hb he
              · exact HA.out a (by omega) b hb he, hb2⟩
          case measure => simp [intOf]; omega
    · obtain rfl : k = zs.length := by omega
      go_wp2
      go_ret
      exact ⟨.inl ⟨HA.out, rfl⟩, hb⟩

end Go.Proofs.Ytlfeipibhdggcaa
