/- Walks: a table read from a text, as the program does it. -/
import Derived.Test.YtfopimahnmpciaaDoorN3
import Derived.Test.YtfopimahnmpciaaDoorT2
namespace Go.Proofs.YtfopimahnmpciaaDoor
open Go.RowKit

theorem tab_built0 : Tryd.prog.built 50 [] = some (tabC 0 z32).toArray := by kernel_rfl
/-- 'T{}'. -/
theorem wpList_tabZero {ops : Array Oper} {rest : List Oper} {o : Oper} {a : Act} {w : World} {Q : Exit → Act → World → Prop} (hg : o.guard = none) (ho : o.op = .build 50 #[])
    (h : wpList Tryd.prog ops Q rest (a.put o.dst (tabV 0 z32)) w) : wpList Tryd.prog ops Q (o :: rest) a w := by
  have e : ((#[] : Array (Nat × Operand)).map fun (p : Nat × Operand) => (p.1, a.eval p.2)).toList = [] := by simp
  refine wpList_build hg 50 #[] ho ?_ ?_
  · show (Tryd.prog.built 50 ((#[] : Array (Nat × Operand)).map fun (p : Nat × Operand) => (p.1, a.eval p.2)).toList).isSome = true
    rw [e, tab_built0]; rfl
  · show wpList Tryd.prog ops Q rest (a.put o.dst (.agg ((Tryd.prog.built 50 ((#[] : Array (Nat × Operand)).map fun (p : Nat × Operand) => (p.1, a.eval p.2)).toList).getD #[]))) w
    rw [e, tab_built0]; exact h

/-- The digit at a place of a text. -/
def byD (t : ByteArray) (s : Nat) : Int := (((t.data.toList.getD s 48).toNat : Nat) : Int) - 48
theorem byD_at (t : ByteArray) (s : Nat) (h : s < t.size) : byD t s = ((t[s].toNat : Nat) : Int) - 48 := by
  rw [byD, List.getD_eq_getElem?_getD, at_byte t s h]; rfl
theorem byD_bit {t : ByteArray} (h : digB t = true) (s : Nat) : byD t s = 0 ∨ byD t s = 1 := by
  by_cases hs : s < t.size
  · rw [digB, List.all_eq_true] at h
    have := (isD_int _).1 (h t[s] (List.mem_of_getElem? (at_byte t s hs)))
    rw [byD_at t s hs]; omega
  · rw [byD, List.getD_eq_getElem?_getD, List.getElem?_eq_none (by simp; omega)]
    exact .inl rfl

set_option maxHeartbeats 1000000 in
theorem rtClosure_ok (t : ByteArray) (s p : Nat) (w : World) (hs : s < t.size) (_ : t.size ≤ 1048576) (hd : digB t = true) (hc : w.cell? ⟨p, 0, none⟩ = some (.string t)) :
    Calls Tryd.prog 36 #[.int .i64 s, .pointer (some ⟨p, 0, none⟩)] w fun e w' => e = .returned (.int .u8 (byD t s)) ∧ Below w.heap.size w w' := by
  have hb := byD_bit hd s
  rw [byD_at t s hs] at hb ⊢
  have hw : IntKind.u8.wrap (((t[s].toNat : Nat) : Int) - 48) = ((t[s].toNat : Nat) : Int) - 48 := by rw [IntKind.wrap_u8]; omega
  have hs' : (s : Int) < (t.size : Int) := by omega
  clear hd hb
  go_enter Tryd.func36, Tryd.ntmps36
  go_wp2
  go_ret
  exact ⟨rfl, Below.refl _ _⟩

/-- What readTable gives. -/
def rtV (t : ByteArray) : Value := if tvB t = true then tabV (inpV t.size) (eachL (byD t) t.size) else tabV 0 z32
theorem rtV_no {t : ByteArray} (h : tvB t = false) : rtV t = tabV 0 z32 := by simp [rtV, h]
theorem rtV_yes {t : ByteArray} (h : tvB t = true) : rtV t = tabV (inpV t.size) (eachL (byD t) t.size) := by simp [rtV, h]

theorem retr {a a' : Value} {c c' : Bool} (h : a = a') (h' : c = c') : Ending.returned (.tuple #[a, .bool c]) = .returned (.tuple #[a', .bool c']) := by rw [h, h']

set_option maxHeartbeats 4000000 in
theorem readTable_ok (t : ByteArray) (w : World) (hz : t.size ≤ 1048576) :
    Calls Tryd.prog 25 #[.string t] w fun e w' => e = .returned (.tuple #[rtV t, .bool (tvB t)]) ∧ Below w.heap.size w w' := by
  have hc0 := (Blk.new w 9 [.string t]).alloc (.cells (tabC 0 z32).toArray 50)
  have hb0 := Blk.new (w.alloc (.cells #[.string t] 9)) 50 (tabC 0 z32)
  have hs1 : (w.alloc (.cells #[.string t] 9)).heap.size = w.heap.size + 1 := by simp
  rw [hs1] at hb0
  have hw0 : Below w.heap.size w ((w.alloc (.cells #[.string t] 9)).alloc (.cells (tabC 0 z32).toArray 50)) := ((Below.refl _ _).alloc (Nat.le_refl _) _).alloc (by omega) _
  have HC0 := Lib.hid hc0
  have HB0 := Lib.hid hb0
  have HW0 := Lib.hid hw0
  clear hc0 hb0 hw0 hs1
  go_enter Tryd.func25, Tryd.ntmps25
  go_wp2_with (first | (refine wpList_tabAlloc rfl rfl ?_))
  go_loopw [4] (fun i wr => ∃ q : Nat, 1 ≤ q ∧ q ≤ 6 ∧ i = .int .i64 q ∧ (∀ j : Nat, 1 ≤ j → j < q → t.size ≠ 2 ^ j) ∧ Blk wr w.heap.size 9 [.string t] ∧ Blk wr (w.heap.size + 1) 50 (tabC 0 z32) ∧ Below w.heap.size w wr) (fun i _ => 6 - (intOf i).toNat)
  case atStart => exact ⟨1, by omega, by omega, rfl, fun j h1 h2 => by omega, HC0.out, HB0.out, HW0.out⟩
  case round =>
    obtain ⟨q, hq1, hq6, rfl, hno, hC, hB, hb⟩ := hrel
    have HN := Lib.hid hno
    have HC := Lib.hid hC
    have HB := Lib.hid hB
    have HBe := Lib.hid hb
    have hcs := hC.cell (i := 0) (v := .string t) rfl
    clear hno hC hB hb
    by_cases hlt : q < 6
    · have hq5 : (q : Int) ≤ 5 := by omega
      have hwq : wrap64 (2 ^ q) = ((2 ^ q : Nat) : Int) := wrap_pow_nat q (by omega)
      by_cases he : t.size = 2 ^ q
      · have hbq : ((t.size : Int) != wrap64 (2 ^ q)) = false := by rw [hwq, he]; simp
        have HE := Lib.hid he
        clear he hwq
        go_wp2
        go_quiet (fail)
        go_wp2
        have hcs2 : (wr.drewN nq).cell? ⟨w.heap.size, 0, none⟩ = some (.string t) := hcs
        have HC2 : Hid (Blk (wr.drewN nq) w.heap.size 9 [.string t]) := HC.out
        have HB2 : Hid (Blk (wr.drewN nq) (w.heap.size + 1) 50 (tabC 0 z32)) := HB.out
        have HBe2 : Hid (Below w.heap.size w (wr.drewN nq)) := HBe.out.trans ⟨rfl, rfl, rfl, Nat.le_refl _, fun _ _ => rfl⟩
        generalize wr.drewN nq = wo at hcs2 HC2 HB2 HBe2
        clear hcs HC HB HBe
        go_loop [5] (fun i => ∃ k : Nat, k ≤ t.size ∧ i = .int .i64 k ∧ (∀ j (_ : j < k) (h2 : j < t.size), isD t[j] = true)) (fun i => t.size - (intOf i).toNat)
        case atStart => exact ⟨0, Nat.zero_le _, rfl, fun j h => absurd h (Nat.not_lt_zero _)⟩
        case round =>
          obtain ⟨k, hk, rfl, hno⟩ := hrel
          have HD := Lib.hid hno
          clear hno
          by_cases hkt : k < t.size
          · by_cases h0 : ((t[k].toNat : Nat) : Int) = 48
            · have b0 : (((t[k].toNat : Nat) : Int) != 48) = false := by simp [h0]
              have HQ := Lib.hid ((isD_int t[k]).2 (.inl h0))
              clear h0
              go_wp2
              go_round
              case rel => exact ⟨k + 1, by omega, by go_num, fun j hj h2 => by
                  by_cases e : j = k
                  · subst e; exact HQ.out
                  · exact HD.out j (by omega) h2⟩
              case measure => simp [intOf]; omega
            · have b0 : (((t[k].toNat : Nat) : Int) != 48) = true := by simp [h0]
              by_cases h1 : ((t[k].toNat : Nat) : Int) = 49
              · have b1 : (((t[k].toNat : Nat) : Int) != 49) = false := by simp [h1]
                have HQ := Lib.hid ((isD_int t[k]).2 (.inr h1))
                clear h0 h1
                go_wp2
                go_round
                case rel => exact ⟨k + 1, by omega, by go_num, fun j hj h2 => by
                    by_cases e : j = k
                    · subst e; exact HQ.out
                    · exact HD.out j (by omega) h2⟩
                case measure => simp [intOf]; omega
              · have b1 : (((t[k].toNat : Nat) : Int) != 49) = true := by simp [h1]
                have hq : isD t[k] = false := by
                  rw [Bool.eq_false_iff]
                  intro e
                  rcases (isD_int t[k]).1 e with e | e
                  · exact h0 e
                  · exact h1 e
                have HQ := Lib.hid (show tvB t = false by rw [tvB, digB_not hkt hq]; rfl)
                clear h0 h1 hq
                go_wp2_with (first | (refine wpList_tabZero rfl rfl ?_) | (refine wpList_tabStore rfl _ _ rfl _ 0 z32 rfl rfl rfl _ _ HB2.out rfl ?_; intro w4 k4 g4 z4))
                have hrd := tab_read k4 (show z32.length = 32 from rfl)
                have c4 : Below w.heap.size w w4 := HBe2.out.grown g4 HBe2.out.size (fun j hj => by cases hj; omega)
                clear k4 g4
                refine bodyPost_ret (v := .tuple #[tabV 0 z32, .bool false]) (by simp [results, Tryd.results25, asAddr, hrd]) rfl ⟨retr (rtV_no HQ.out).symm HQ.out.symm, c4⟩
          · obtain rfl : k = t.size := by omega
            have hdig := digB_yes (f := t) fun j hj => HD.out j hj hj
            have htv : tvB t = true := by
              rw [tvB, hdig, HE.out, inpV_pow q (by omega)]
              simp; omega
            have HQ := Lib.hid htv
            have HV : Hid (rtV t = tabV q (eachL (byD t) (2 ^ q))) := by
              unfold Hid
              rw [rtV_yes htv, HE.out, inpV_pow q (by omega)]
            have HEa := Lib.hid (each_ok q (by omega) 36 #[.pointer (some ⟨w.heap.size, 0, none⟩)] (byD t) wo (fun _ _ => by kernel_rfl) (fun s hs W hW => rtClosure_ok t s w.heap.size W (by rw [HE.out]; exact hs) hz hdig ((hW.cell (p := ⟨w.heap.size, 0, none⟩) (HC2.out.lt)).trans hcs2)))
            clear hdig htv
            go_wp2_with fail
            refine HEa.out.mono ?_
            rintro e w3 ⟨rfl, b3⟩
            have HB3 := Lib.hid (HB2.out.below b3 HB2.out.lt)
            have HBe3 := Lib.hid (HBe2.out.trans (b3.mono HBe2.out.size))
            clear b3
            go_wp2_with (first | (refine wpList_tabStore rfl _ _ rfl _ _ (eachL (byD t) (2 ^ q)) rfl rfl (eachL_len _ _) _ _ HB3.out rfl ?_; intro w4 k4 g4 z4))
            have hrd := tab_read k4 (eachL_len _ _)
            have c4 : Below w.heap.size w w4 := HBe3.out.grown g4 HBe3.out.size (fun j hj => by cases hj; omega)
            clear k4 g4
            refine bodyPost_ret (v := .tuple #[tabV q (eachL (byD t) (2 ^ q)), .bool true]) (by simp [results, Tryd.results25, asAddr, hrd]) rfl ⟨retr HV.out.symm HQ.out.symm, c4⟩
      · have hbq : ((t.size : Int) != wrap64 (2 ^ q)) = true := by
          rw [hwq, bne_iff_ne]
          exact fun e => he (by exact_mod_cast e)
        have HE := Lib.hid he
        clear he hwq
        go_wp2
        go_quiet (fail)
        go_wp2
        go_roundw
        case rel => exact ⟨q + 1, by omega, by omega, by go_num, fun j h1 h2 => by
            by_cases e : j = q
            · rw [e]; exact HE.out
            · exact HN.out j h1 (by omega), HC.out, HB.out, HBe.out.trans ⟨rfl, rfl, rfl, Nat.le_refl _, fun _ _ => rfl⟩⟩
        case measure => simp [intOf]; omega
    · obtain rfl : q = 6 := by omega
      have HV := Lib.hid (inpV_none (k := t.size) fun n h1 h2 => HN.out n h1 (by omega))
      go_wp2_with (first | (refine wpList_tabZero rfl rfl ?_) | (refine wpList_tabStore rfl _ _ rfl _ 0 z32 rfl rfl rfl _ _ HB.out rfl ?_; intro w4 k4 g4 z4))
      have hrd := tab_read k4 (show z32.length = 32 from rfl)
      have c4 : Below w.heap.size w w4 := HBe.out.grown g4 HBe.out.size (fun j hj => by cases hj; omega)
      have htv : tvB t = false := by simp [tvB, HV.out]
      have HR := Lib.hid htv
      clear k4 g4 htv
      refine bodyPost_ret (v := .tuple #[tabV 0 z32, .bool false]) (by simp [results, Tryd.results25, asAddr, hrd]) rfl ⟨retr (rtV_no HR.out).symm HR.out.symm, c4⟩

end Go.Proofs.YtfopimahnmpciaaDoor
