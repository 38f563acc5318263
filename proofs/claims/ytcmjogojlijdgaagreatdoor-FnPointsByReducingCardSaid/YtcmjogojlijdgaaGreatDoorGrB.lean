/- Walks and plain facts: several of my texts in one. -/
import Derived.Test.YtcmjogojlijdgaaGreatDoorGrA
import Derived.Great.BuildSlice
import Derived.Test.YtcmjogojlijdgaaGreatDoorShelf
import Derived.Deep.RegionHeld3
/- Walks: a table read from a text, as the program does it. -/
namespace Go.Proofs.YtcmjogojlijdgaaGreatDoor
open Go.RowKit

theorem tab_built0 : Tryz.prog.built 66 [] = some (tabC 0 z32).toArray := by kernel_rfl
/-- 'T{}'. -/
theorem wpList_tabZero {ops : Array Oper} {rest : List Oper} {o : Oper} {a : Act} {w : World} {Q : Exit → Act → World → Prop} (hg : o.guard = none) (ho : o.op = .build 66 #[])
    (h : wpList Tryz.prog ops Q rest (a.put o.dst (tabV 0 z32)) w) : wpList Tryz.prog ops Q (o :: rest) a w := by
  have e : ((#[] : Array (Nat × Operand)).map fun (p : Nat × Operand) => (p.1, a.eval p.2)).toList = [] := by simp
  refine wpList_build hg 66 #[] ho ?_ ?_
  · show (Tryz.prog.built 66 ((#[] : Array (Nat × Operand)).map fun (p : Nat × Operand) => (p.1, a.eval p.2)).toList).isSome = true
    rw [e, tab_built0]; rfl
  · show wpList Tryz.prog ops Q rest (a.put o.dst (.agg ((Tryz.prog.built 66 ((#[] : Array (Nat × Operand)).map fun (p : Nat × Operand) => (p.1, a.eval p.2)).toList).getD #[]))) w
    rw [e, tab_built0]; exact h

/-- The digit at a place of a text. -/
def byD (t : ByteArray) (s : Nat) : Int := (((t.data.toList.getD s 48).toNat : Nat) : Int) - 48
theorem byD_at (t : ByteArray) (s : Nat) (h : s < t.size) : byD t s = ((t[s].toNat : Nat) : Int) - 48 := by
  rw [byD, List.getD_eq_getElem?_getD, at_byte t s h]; rfl
theorem byD_bit {t : ByteArray} (h : digB t = true) (s : Nat) : byD t s = 0 ∨ byD t s = 1 := by
  by_cases hs : s < t.size
  · rw [digB, List.all_eq_true] at h
    have := (isD_int _).1 (h t[s] (List.mem_of_getElem? (at_byte t s hs)))
    rw [byD_at t s hs]; omega
  · rw [byD, List.getD_eq_getElem?_getD, List.getElem?_eq_none (by simp; omega)]
    exact .inl rfl

set_option maxHeartbeats 1000000 in
theorem rtClosure_ok (t : ByteArray) (s p : Nat) (w : World) (hs : s < t.size) (_ : t.size ≤ 1048576) (hd : digB t = true) (hc : w.cell? ⟨p, 0, none⟩ = some (.string t)) :
    Calls Tryz.prog 64 #[.int .i64 s, .pointer (some ⟨p, 0, none⟩)] w fun e w' => e = .returned (.int .u8 (byD t s)) ∧ Below w.heap.size w w' := by
  have hb := byD_bit hd s
  rw [byD_at t s hs] at hb ⊢
  have hw : IntKind.u8.wrap (((t[s].toNat : Nat) : Int) - 48) = ((t[s].toNat : Nat) : Int) - 48 := by rw [IntKind.wrap_u8]; omega
  have hs' : (s : Int) < (t.size : Int) := by omega
  clear hd hb
  go_enter Tryz.func64, Tryz.ntmps64
  go_wp2
  go_ret
  exact ⟨rfl, Below.refl _ _⟩

/-- What readTable gives. -/
def rtV (t : ByteArray) : Value := if tvB t = true then tabV (inpV t.size) (eachL (byD t) t.size) else tabV 0 z32
theorem rtV_no {t : ByteArray} (h : tvB t = false) : rtV t = tabV 0 z32 := by simp [rtV, h]
theorem rtV_yes {t : ByteArray} (h : tvB t = true) : rtV t = tabV (inpV t.size) (eachL (byD t) t.size) := by simp [rtV, h]

theorem retr {a a' : Value} {c c' : Bool} (h : a = a') (h' : c = c') : Ending.returned (.tuple #[a, .bool c]) = .returned (.tuple #[a', .bool c']) := by rw [h, h']

set_option maxHeartbeats 4000000 in
theorem readTable_ok (t : ByteArray) (w : World) (hz : t.size ≤ 1048576) :
    Calls Tryz.prog 38 #[.string t] w fun e w' => e = .returned (.tuple #[rtV t, .bool (tvB t)]) ∧ Below w.heap.size w w' := by
  have hc0 := (Blk.new w 9 [.string t]).alloc (.cells (tabC 0 z32).toArray 66)
  have hb0 := Blk.new (w.alloc (.cells #[.string t] 9)) 66 (tabC 0 z32)
  have hs1 : (w.alloc (.cells #[.string t] 9)).heap.size = w.heap.size + 1 := by simp
  rw [hs1] at hb0
  have hw0 : Below w.heap.size w ((w.alloc (.cells #[.string t] 9)).alloc (.cells (tabC 0 z32).toArray 66)) := ((Below.refl _ _).alloc (Nat.le_refl _) _).alloc (by omega) _
  have HC0 := Lib.hid hc0
  have HB0 := Lib.hid hb0
  have HW0 := Lib.hid hw0
  clear hc0 hb0 hw0 hs1
  go_enter Tryz.func38, Tryz.ntmps38
  go_wp2_with (first | (refine wpList_tabAlloc rfl rfl ?_))
  go_loopw [4] (fun i wr => ∃ q : Nat, 1 ≤ q ∧ q ≤ 6 ∧ i = .int .i64 q ∧ (∀ j : Nat, 1 ≤ j → j < q → t.size ≠ 2 ^ j) ∧ Blk wr w.heap.size 9 [.string t] ∧ Blk wr (w.heap.size + 1) 66 (tabC 0 z32) ∧ Below w.heap.size w wr) (fun i _ => 6 - (intOf i).toNat)
  case atStart => exact ⟨1, by omega, by omega, rfl, fun j h1 h2 => by omega, HC0.out, HB0.out, HW0.out⟩
  case round =>
    obtain ⟨q, hq1, hq6, rfl, hno, hC, hB, hb⟩ := hrel
    have HN := Lib.hid hno
    have HC := Lib.hid hC
    have HB := Lib.hid hB
    have HBe := Lib.hid hb
    have hcs := hC.cell (i := 0) (v := .string t) rfl
    clear hno hC hB hb
    by_cases hlt : q < 6
    · have hq5 : (q : Int) ≤ 5 := by omega
      have hwq : wrap64 (2 ^ q) = ((2 ^ q : Nat) : Int) := wrap_pow_nat q (by omega)
      by_cases he : t.size = 2 ^ q
      · have hbq : ((t.size : Int) != wrap64 (2 ^ q)) = false := by rw [hwq, he]; simp
        have HE := Lib.hid he
        clear he hwq
        go_wp2
        go_quiet (fail)
        go_wp2
        have hcs2 : (wr.drewN nq).cell? ⟨w.heap.size, 0, none⟩ = some (.string t) := hcs
        have HC2 : Hid (Blk (wr.drewN nq) w.heap.size 9 [.string t]) := HC.out
        have HB2 : Hid (Blk (wr.drewN nq) (w.heap.size + 1) 66 (tabC 0 z32)) := HB.out
        have HBe2 : Hid (Below w.heap.size w (wr.drewN nq)) := HBe.out.trans ⟨rfl, rfl, rfl, Nat.le_refl _, fun _ _ => rfl⟩
        generalize wr.drewN nq = wo at hcs2 HC2 HB2 HBe2
        clear hcs HC HB HBe
        go_loop [5] (fun i => ∃ k : Nat, k ≤ t.size ∧ i = .int .i64 k ∧ (∀ j (_ : j < k) (h2 : j < t.size), isD t[j] = true)) (fun i => t.size - (intOf i).toNat)
        case atStart => exact ⟨0, Nat.zero_le _, rfl, fun j h => absurd h (Nat.not_lt_zero _)⟩
        case round =>
          obtain ⟨k, hk, rfl, hno⟩ := hrel
          have HD := Lib.hid hno
          clear hno
          by_cases hkt : k < t.size
          · by_cases h0 : ((t[k].toNat : Nat) : Int) = 48
            · have b0 : (((t[k].toNat : Nat) : Int) != 48) = false := by simp [h0]
              have HQ := Lib.hid ((isD_int t[k]).2 (.inl h0))
              clear h0
              go_wp2
              go_round
              case rel => exact ⟨k + 1, by omega, by go_num, fun j hj h2 => by
                  by_cases e : j = k
                  · subst e; exact HQ.out
                  · exact HD.out j (by omega) h2⟩
              case measure => simp [intOf]; omega
            · have b0 : (((t[k].toNat : Nat) : Int) != 48) = true := by simp [h0]
              by_cases h1 : ((t[k].toNat : Nat) : Int) = 49
              · have b1 : (((t[k].toNat : Nat) : Int) != 49) = false := by simp [h1]
                have HQ := Lib.hid ((isD_int t[k]).2 (.inr h1))
                clear h0 h1
                go_wp2
                go_round
                case rel => exact ⟨k + 1, by omega, by go_num, fun j hj h2 => by
                    by_cases e : j = k
                    · subst e; exact HQ.out
                    · exact HD.out j (by omega) h2⟩
                case measure => simp [intOf]; omega
              · have b1 : (((t[k].toNat : Nat) : Int) != 49) = true := by simp [h1]
                have hq : isD t[k] = false := by
                  rw [Bool.eq_false_iff]
                  intro e
                  rcases (isD_int t[k]).1 e with e | e
                  · exact h0 e
                  · exact h1 e
                have HQ := Lib.hid (show tvB t = false by rw [tvB, digB_not hkt hq]; rfl)
                clear h0 h1 hq
                go_wp2_with (first | (refine wpList_tabZero rfl rfl ?_) | (refine wpList_tabStore rfl _ _ rfl _ 0 z32 rfl rfl rfl _ _ HB2.out rfl ?_; intro w4 k4 g4 z4))
                have hrd := tab_read k4 (show z32.length = 32 from rfl)
                have c4 : Below w.heap.size w w4 := HBe2.out.grown g4 HBe2.out.size (fun j hj => by cases hj; omega)
                clear k4 g4
                refine bodyPost_ret (v := .tuple #[tabV 0 z32, .bool false]) (by simp [results, Tryz.results38, asAddr, hrd]) rfl ⟨retr (rtV_no HQ.out).symm HQ.out.symm, c4⟩
          · obtain rfl : k = t.size := by omega
            have hdig := digB_yes (f := t) fun j hj => HD.out j hj hj
            have htv : tvB t = true := by
              rw [tvB, hdig, HE.out, inpV_pow q (by omega)]
              simp; omega
            have HQ := Lib.hid htv
            have HV : Hid (rtV t = tabV q (eachL (byD t) (2 ^ q))) := by
              unfold Hid
              rw [rtV_yes htv, HE.out, inpV_pow q (by omega)]
            have HEa := Lib.hid (each_ok q (by omega) 64 #[.pointer (some ⟨w.heap.size, 0, none⟩)] (byD t) wo (fun _ _ => by kernel_rfl) (fun s hs W hW => rtClosure_ok t s w.heap.size W (by rw [HE.out]; exact hs) hz hdig ((hW.cell (p := ⟨w.heap.size, 0, none⟩) (HC2.out.lt)).trans hcs2)))
            clear hdig htv
            go_wp2_with fail
            refine HEa.out.mono ?_
            rintro e w3 ⟨rfl, b3⟩
            have HB3 := Lib.hid (HB2.out.below b3 HB2.out.lt)
            have HBe3 := Lib.hid (HBe2.out.trans (b3.mono HBe2.out.size))
            clear b3
            go_wp2_with (first | (refine wpList_tabStore rfl _ _ rfl _ _ (eachL (byD t) (2 ^ q)) rfl rfl (eachL_len _ _) _ _ HB3.out rfl ?_; intro w4 k4 g4 z4))
            have hrd := tab_read k4 (eachL_len _ _)
            have c4 : Below w.heap.size w w4 := HBe3.out.grown g4 HBe3.out.size (fun j hj => by cases hj; omega)
            clear k4 g4
            refine bodyPost_ret (v := .tuple #[tabV q (eachL (byD t) (2 ^ q)), .bool true]) (by simp [results, Tryz.results38, asAddr, hrd]) rfl ⟨retr HV.out.symm HQ.out.symm, c4⟩
      · have hbq : ((t.size : Int) != wrap64 (2 ^ q)) = true := by
          rw [hwq, bne_iff_ne]
          exact fun e => he (by exact_mod_cast e)
        have HE := Lib.hid he
        clear he hwq
        go_wp2
        go_quiet (fail)
        go_wp2
        go_roundw
        case rel => exact ⟨q + 1, by omega, by omega, by go_num, fun j h1 h2 => by
            by_cases e : j = q
            · rw [e]; exact HE.out
            · exact HN.out j h1 (by omega), HC.out, HB.out, HBe.out.trans ⟨rfl, rfl, rfl, Nat.le_refl _, fun _ _ => rfl⟩⟩
        case measure => simp [intOf]; omega
    · obtain rfl : q = 6 := by omega
      have HV := Lib.hid (inpV_none (k := t.size) fun n h1 h2 => HN.out n h1 (by omega))
      go_wp2_with (first | (refine wpList_tabZero rfl rfl ?_) | (refine wpList_tabStore rfl _ _ rfl _ 0 z32 rfl rfl rfl _ _ HB.out rfl ?_; intro w4 k4 g4 z4))
      have hrd := tab_read k4 (show z32.length = 32 from rfl)
      have c4 : Below w.heap.size w w4 := HBe.out.grown g4 HBe.out.size (fun j hj => by cases hj; omega)
      have htv : tvB t = false := by simp [tvB, HV.out]
      have HR := Lib.hid htv
      clear k4 g4 htv
      refine bodyPost_ret (v := .tuple #[tabV 0 z32, .bool false]) (by simp [results, Tryz.results38, asAddr, hrd]) rfl ⟨retr (rtV_no HR.out).symm HR.out.symm, c4⟩

end Go.Proofs.YtcmjogojlijdgaaGreatDoor
/- Rows of tables. -/
namespace Go.Proofs.YtcmjogojlijdgaaGreatDoor
open Go.RowKit

/-- The cells of tables of n inputs. -/
def netC (n : Int) (bss : List (List Int)) : List Value := bss.flatMap (tabC n)
def W32 (bss : List (List Int)) : Prop := ∀ bs ∈ bss, bs.length = 32
theorem netC_len (n : Int) : ∀ bss : List (List Int), W32 bss → (netC n bss).length = bss.length * 33
  | [], _ => rfl
  | bs :: bss, h => by
    have h1 := netC_len n bss (fun b hb => h b (List.mem_cons_of_mem _ hb))
    have h2 := h bs List.mem_cons_self
    simp only [netC, List.flatMap_cons, List.length_append, tabC_len, List.length_cons] at h1 ⊢
    rw [h2]; omega
theorem netC_app (n : Int) (xs ys : List (List Int)) : netC n (xs ++ ys) = netC n xs ++ netC n ys := by simp [netC]
theorem tabC_ones (n : Int) (bs : List Int) : ∀ u ∈ tabC n bs, u.oneCell' = true := fun u hu => by
  simp only [tabC, List.mem_cons, List.mem_map] at hu
  rcases hu with rfl | ⟨x, _, rfl⟩ <;> rfl

theorem i76 : (Tryz.prog.info? 66).map (fun i => (i.zero, i.size, i.bytes)) = some (some (tabV 0 z32), 33, 40) := by kernel_rfl

theorem tab_fill (n : Int) (bs : List Int) (hl : bs.length = 32) (c0 : Array Value) (h0 : c0.size = 33) :
    Instr.fill (fun i => some (i * 33, 33)) c0 [(0, tabV n bs)] = some (tabC n bs).toArray := by
  have hs : (tabC n bs).toArray.size = 33 := by simp [tabC_len, hl]
  have := Great.fill_whole (s := 33) (by omega) [tabV n bs] c0 (fun v hv => by rw [List.mem_singleton.1 hv]; exact hs) (by simp [h0])
  simpa [tabV, Value.cells] using this

/-- '[]T{t}': what 'append(out, t)' lays first. -/
theorem wpList_tabSlice {ops : Array Oper} {rest : List Oper} {o : Oper} {a : Act} {w : World} {Q : Exit → Act → World → Prop} (hg : o.guard = none) (x : Operand) (ho : o.op = .buildSlice 37 1 #[(0, x)])
    (n : Int) (bs : List Int) (hx : a.eval x = tabV n bs) (hl : bs.length = 32)
    (h : wpList Tryz.prog ops Q rest (a.put o.dst (.slice (some ⟨w.heap.size, 0, none⟩) 1 1)) (w.alloc (.cells (tabC n bs).toArray 66))) : wpList Tryz.prog ops Q (o :: rest) a w := by
  obtain ⟨i, hi, hz, hsz, hby⟩ := info_parts i76
  refine wpList_buildSlice hg 37 66 1 #[(0, x)] ho (tabC n bs).toArray i (tabV 0 z32) Tryz.underlying37 hi hz (by rw [hsz]; omega) (by rw [hsz]; omega) ?_ h
  have e : (#[(0, x)].map fun (p : Nat × Operand) => (p.1, a.eval p.2)).toList = [(0, tabV n bs)] := by simp [hx]
  rw [hsz]
  show Instr.fill _ _ (#[(0, x)].map fun (p : Nat × Operand) => (p.1, a.eval p.2)).toList = _
  rw [e]
  exact tab_fill n bs hl _ (by simp)

/-- A slice of tables that the call itself makes. -/
def OwnN (w : World) (B : Nat) (v : Value) (n : Int) (bss : List (List Int)) : Prop := w.ownsRow B 66 33 v bss.length (netC n bss)

theorem OwnN.nil (w : World) (B : Nat) (n : Int) : OwnN w B (.slice none 0 0) n [] := World.ownsRow_nil _ _ _ _
theorem OwnN.alloc {w : World} {B : Nat} {v : Value} {n : Int} {bss : List (List Int)} (h : OwnN w B v n bss) (o : Obj) : OwnN (w.alloc o) B v n bss := World.ownsRow.alloc h o
theorem OwnN.below {w w' : World} {B B' : Nat} {v : Value} {n : Int} {bss : List (List Int)} (h : OwnN w B v n bss) (hb : Below B' w w') (hB : w.heap.size ≤ B') : OwnN w' B v n bss := by
  obtain ⟨h0, h1 | ⟨g, cap, cur, e, hg, hh, h2⟩⟩ := h
  · exact ⟨h0, .inl h1⟩
  · exact ⟨h0, .inr ⟨g, cap, cur, e, hg, by rw [hb.block g (by have := lt_of_block hh; omega)]; exact hh, h2⟩⟩

/-- 'append(out, t)'. -/
theorem wpList_appN {w : World} {ops : Array Oper} {rest : List Oper} {o : Oper} {a : Act} {Q : Exit → Act → World → Prop} {B : Nat} {v : Value} {n : Int} {bss : List (List Int)} {bs : List Int} {g : Nat} (hown : OwnN w B v n bss) (hl : bs.length = 32) (hr : Blk w g 66 (tabC n bs))
    (hgd : o.guard = none) (s x : Operand) (ho : o.op = .call { callee := .builtin .append, args := #[s, x], argTypes := #[37, 37] }) (hs : a.eval s = v) (hx : a.eval x = .slice (some ⟨g, 0, none⟩) 1 1)
    (hbytes : bss.length + 1 ≤ 1048576) (hB : B ≤ w.heap.size)
    (h : ∀ v' w', OwnN w' B v' n (bss ++ [bs]) → w.grownBy w' v.ownBlock → wpList Tryz.prog ops Q rest (a.put o.dst v') w') : wpList Tryz.prog ops Q (o :: rest) a w := by
  obtain ⟨i, hi, hz, hsz, hby⟩ := info_parts i76
  have e1 : bss.length + 1 = (bss ++ [bs]).length := by simp
  have e2 : netC n bss ++ tabC n bs = netC n (bss ++ [bs]) := by simp [netC]
  refine wpList_append_own w hgd s x _ ho B 66 i (tabV 0 z32) 33 40 Tryz.underlying37 hi hz hsz hby rfl (by decide) v _ _ hs hown ⟨g, 0, none⟩ 1 1 (tabC n bs) hx (by rw [tabC_len, hl]) (fun j u hj => ?_) (tabC_ones n bs) (by unfold maxLen; omega) (by omega) hB ?_
  · have : (⟨g, 0, none⟩ : Addr).add j = ⟨g, 0 + j, none⟩ := Addr.add_mid g 0 j
    rw [this, Nat.zero_add]
    exact hr.cell hj
  · intro v' w' r1 r2 _
    exact h v' w' (by unfold OwnN; rw [← e1, ← e2]; exact r1) r2

/-- A slice value reads as tables. -/
structure RowN (w : World) (ao : Option Addr) (l c : Nat) (n : Int) (bss : List (List Int)) : Prop where
  len : bss.length = l
  wide : W32 bss
  le : l ≤ c
  cap : c ≤ maxLen
  some : 0 < l → ∃ b o, ao = Option.some ⟨b, o, none⟩ ∧ b < w.heap.size
  range : ∀ b o, ao = Option.some ⟨b, o, none⟩ → ∀ i bs, bss[i]? = Option.some bs → w.rangeAt b (o + i * 33) (tabC n bs)
theorem RowN.below {B : Nat} {w w' : World} {ao : Option Addr} {l c : Nat} {n : Int} {bss : List (List Int)} (h : RowN w ao l c n bss) (hb : Below B w w') (hB : w.heap.size ≤ B) : RowN w' ao l c n bss :=
  ⟨h.len, h.wide, h.le, h.cap, fun hn => let ⟨b, o, e, hbo⟩ := h.some hn; ⟨b, o, e, Nat.lt_of_lt_of_le hbo hb.size⟩, fun b o e i bs hi => by
    have hl : i < bss.length := (List.getElem?_eq_some_iff.1 hi).1
    obtain ⟨b', o', e', hbo⟩ := h.some (by rw [← h.len]; omega)
    rw [e] at e'
    cases e'
    intro j v hv
    exact (hb.cell (p := ⟨b, o + i * 33 + j, none⟩) (by show b < B; omega)).trans (h.range b o e i bs hi j v hv)⟩
theorem netC_get (n : Int) : ∀ (bss : List (List Int)) (_ : W32 bss) (i : Nat) (bs : List Int) (_ : bss[i]? = some bs) (j : Nat) (_ : j < 33), (netC n bss)[i * 33 + j]? = (tabC n bs)[j]?
  | [], _, _, _, h, _, _ => by simp at h
  | b0 :: bss, hw, 0, bs, h, j, hj => by
    have e : b0 = bs := by simpa using h
    subst e
    have := hw b0 List.mem_cons_self
    rw [Nat.zero_mul, Nat.zero_add]
    simp only [netC, List.flatMap_cons]
    rw [List.getElem?_append_left (by rw [tabC_len, this]; omega)]
  | b0 :: bss, hw, i + 1, bs, h, j, hj => by
    have h1 := netC_get n bss (fun b hb => hw b (List.mem_cons_of_mem _ hb)) i bs (by simpa using h) j hj
    have h2 := hw b0 List.mem_cons_self
    simp only [netC, List.flatMap_cons] at h1 ⊢
    rw [List.getElem?_append_right (by rw [tabC_len, h2]; omega), tabC_len, h2, ← h1]
    congr 1
    omega
theorem OwnN.row {w : World} {B : Nat} {v : Value} {n : Int} {bss : List (List Int)} (h : OwnN w B v n bss) (hw : W32 bss) : ∃ ao c, v = .slice ao bss.length c ∧ RowN w ao bss.length c n bss := by
  obtain ⟨_, ⟨rfl, hn⟩ | ⟨g, cap, cur, rfl, hg, hh, hle, hm, hs, ht⟩⟩ := h
  · exact ⟨none, 0, by rw [hn], rfl, hw, by omega, Nat.zero_le _, fun h => absurd h (by omega), fun b o e => by cases e⟩
  · refine ⟨some ⟨g, 0, none⟩, cap, rfl, rfl, hw, hle, hm, fun _ => ⟨g, 0, rfl, lt_of_block hh⟩, fun b o e i bs hi j v hv => ?_⟩
    cases e
    have hil : i < bss.length := (List.getElem?_eq_some_iff.1 hi).1
    have hj : j < 33 := by
      have h1 := (List.getElem?_eq_some_iff.1 hv).1
      rw [tabC_len, hw bs (List.mem_of_getElem? hi)] at h1
      exact h1
    rw [Nat.zero_add, cell_of_row w g _ cur 66 (0, 0) hh]
    have h1 := netC_get n bss hw i bs hi j hj
    rw [hv, ← ht, List.getElem?_take, if_pos (by omega)] at h1
    simpa using h1

end Go.Proofs.YtcmjogojlijdgaaGreatDoor
/- Walks: a network read from a text, as the program does it. -/
namespace Go.Proofs.YtcmjogojlijdgaaGreatDoor
open Go.RowKit

theorem cutsP_count (c : UInt8) (s : ByteArray) : (cutsP c s).length = Lib.countB s ⟨#[c]⟩ + 1 := Lib.splitB_all ⟨#[c]⟩ (Nat.le_refl 1) 0 _ s rfl

/-- What strings.Split asks of the world: a variable of its own holds some number. -/
def MaxLenIs (w : World) : Prop := ∃ m, w.cell? ⟨0, 0, none⟩ = some (.int .i64 m)
theorem MaxLenIs.lt {w : World} (h : MaxLenIs w) : 0 < w.heap.size := let ⟨_, hm⟩ := h; World.block_lt_of_cell? w ⟨0, 0, none⟩ hm
theorem MaxLenIs.below {w w' : World} {B : Nat} (h : MaxLenIs w) (hb : Below B w w') (hB : w.heap.size ≤ B) : MaxLenIs w' := by
  obtain ⟨m, hm⟩ := h
  have hl := MaxLenIs.lt ⟨m, hm⟩
  exact ⟨m, (hb.cell (p := ⟨0, 0, none⟩) (by show 0 < B; omega)).trans hm⟩

theorem split_ok (s : ByteArray) (c : UInt8) (w : World) (hs : s.size ≤ 1048576) (hm : MaxLenIs w) :
    Calls Tryz.prog 37 #[.string s, .string ⟨#[c]⟩] w fun e w' => e = .returned (.slice (some ⟨w.heap.size, 0, none⟩) (cutsP c s).length (cutsP c s).length) ∧ w' = w.alloc (.cells (strs (cutsP c s)).toArray 9) := by
  obtain ⟨m, hm⟩ := hm
  rw [cutsP_count]
  exact Tryz.strings_Split s ⟨#[c]⟩ m w (by omega) hm (Nat.le_refl 1)

theorem RowT.of_blk {w : World} {g : Nat} {t : TypeId} {ts : List ByteArray} (h : Blk w g t (strs ts)) (hm : ts.length ≤ maxLen) : RowT w (some ⟨g, 0, none⟩) ts.length ts.length ts :=
  ⟨rfl, Nat.le_refl _, hm, fun e => (by cases e), fun _ => ⟨g, 0, rfl, h.lt⟩, fun b o e i hi => by
    cases e
    rw [Nat.zero_add]
    exact h.cell (strs_get ts i hi)⟩

/-- The tables of a network, as rows of bits. -/
def bitsN (ps : List ByteArray) (k : Nat) : List (List Int) := (List.range k).map fun i => eachL (byD (gT ps i)) (gT ps i).size
theorem bitsN_next (ps : List ByteArray) (k : Nat) : bitsN ps (k + 1) = bitsN ps k ++ [eachL (byD (gT ps k)) (gT ps k).size] := by simp [bitsN, List.range_succ]
theorem bitsN_len (ps : List ByteArray) (k : Nat) : (bitsN ps k).length = k := by simp [bitsN]
theorem bitsN_wide (ps : List ByteArray) (k : Nat) : W32 (bitsN ps k) := fun bs hb => by
  simp only [bitsN, List.mem_map] at hb
  obtain ⟨i, _, rfl⟩ := hb
  exact eachL_len _ _
def netN (ps : List ByteArray) : List (List Int) := if netB ps = true then bitsN ps ps.length else []
theorem netN_no {ps : List ByteArray} (h : netB ps = false) : netN ps = [] := by simp [netN, h]
theorem netN_yes {ps : List ByteArray} (h : netB ps = true) : netN ps = bitsN ps ps.length := by simp [netN, h]
theorem net_five {ps : List ByteArray} (h0 : 0 < ps.length) (h : netB ps = true) : ps.length ≤ 5 := by
  obtain ⟨_, h1⟩ := netB_get h 0 h0
  exact (inpV_eq h0 h1).1

theorem OwnN.base {w : World} {B B' : Nat} {v : Value} {n : Int} {bss : List (List Int)} (h : OwnN w B v n bss) (hB : B' ≤ B) : OwnN w B' v n bss := by
  obtain ⟨h0, h1 | ⟨g, cap, cur, e, hg, h2⟩⟩ := h
  · exact ⟨h0, .inl h1⟩
  · exact ⟨h0, .inr ⟨g, cap, cur, e, by omega, h2⟩⟩
/-- A slice of tables stands where only a new block that is not its own has turned. -/
theorem OwnN.grown' {w w2 w' : World} {B g : Nat} {v : Value} {n : Int} {bss : List (List Int)} (h : OwnN w B v n bss) (h2 : OwnN w2 B v n bss) (hg : w.grownBy w' (some g)) (hlt : w2.heap.size ≤ g := by exact Nat.le_refl _) : OwnN w' B v n bss := by
  obtain ⟨h0, h1 | ⟨q, cap, cur, e, hq, hh, h3⟩⟩ := h
  · exact ⟨h0, .inl h1⟩
  · obtain ⟨_, ⟨e2, _⟩ | ⟨q2, _, _, e2, _, hh2, _⟩⟩ := h2
    · rw [e] at e2; cases e2
    · rw [e] at e2
      cases e2
      have hl := lt_of_block hh2
      have hl1 := lt_of_block hh
      exact ⟨h0, .inr ⟨q, cap, cur, e, hq, by rw [hg.block q hl1 (by simp; omega)]; exact hh, h3⟩⟩
def goodT (ps : List ByteArray) (k : Nat) : Bool := digB (gT ps k) && decide (inpV (gT ps k).size = (ps.length : Int))

set_option maxHeartbeats 4000000 in
theorem readNetwork_ok (s : ByteArray) (w : World) (hs : s.size ≤ 1048576) (hm : MaxLenIs w) :
    Calls Tryz.prog 16 #[.string s] w fun e w' => ∃ v, e = .returned (.tuple #[v, .bool (netB (cutsP 44 s))]) ∧ OwnN w' w.heap.size v (cutsP 44 s).length (netN (cutsP 44 s)) ∧ Below w.heap.size w w' := by
  have HC := Lib.hid (split_ok s 44 w hs hm)
  have hpl := cutsP_len 44 s
  have hpz := cutsP_size 44 s
  have hp0 := cutsP_pos 44 s
  generalize cutsP 44 s = ps at HC hpl hpz hp0
  have HS := Lib.hid (fun k (hk : k < ps.length) => Nat.le_trans (hpz (gT ps k) (List.mem_of_getElem? (gT_lt hk))) hs)
  clear hpz hm
  by_cases h5 : 5 < ps.length
  · have HN : Hid (netB ps = false) := by
      unfold Hid
      rw [Bool.eq_false_iff]
      intro e
      have := net_five hp0 e
      omega
    go_enter Tryz.func16, Tryz.ntmps16
    go_wp2_with fail
    refine HC.out.mono ?_
    rintro e w1 ⟨rfl, rfl⟩
    go_wp2_with fail
    go_ret2
    exact ⟨_, retv HN.out.symm, by rw [netN_no HN.out]; exact OwnN.nil _ _ _, (Below.refl _ _).alloc (Nat.le_refl _) _⟩
  · have hq0 := RowT.of_blk (Blk.new w 9 (strs ps)) (by unfold maxLen; omega)
    have hb0 : Below w.heap.size w (w.alloc (.cells (strs ps).toArray 9)) := (Below.refl _ _).alloc (Nat.le_refl _) _
    have HQ0 := Lib.hid hq0
    have HB0 := Lib.hid hb0
    clear hq0 hb0
    go_enter Tryz.func16, Tryz.ntmps16
    go_wp2_with fail
    refine HC.out.mono ?_
    rintro e w1 ⟨rfl, rfl⟩
    go_wp2_with fail
    generalize w.alloc (.cells (strs ps).toArray 9) = wa at HQ0 HB0
    go_loopw [5, 17] (fun v i wr => ∃ k : Nat, k ≤ ps.length ∧ i = .int .i64 k ∧ OwnN wr wa.heap.size v ps.length (bitsN ps k) ∧ (∀ j, j < k → goodT ps j = true) ∧ Below wa.heap.size wa wr) (fun _ i _ => ps.length - (intOf i).toNat)
    case atStart => exact ⟨0, Nat.zero_le _, rfl, OwnN.nil _ _ _, fun j h => absurd h (Nat.not_lt_zero _), Below.refl _ _⟩
    case round =>
      obtain ⟨k, hk, rfl, ho, hall, hb⟩ := hrel
      have HA := Lib.hid hall
      have HO := Lib.hid ho
      have HB := Lib.hid hb
      have hlen := bitsN_len ps k
      clear hall ho
      by_cases hlt : k < ps.length
      · have hrow := HQ0.out.below hb (Nat.le_refl _)
        obtain ⟨b, o, hbo, _⟩ := hrow.2.some (by omega)
        cases hbo
        have hcx := hrow.2.cell w.heap.size 0 rfl k hlt
        rw [Nat.zero_add] at hcx
        have hlt' : (k : Int) < (ps.length : Int) := by omega
        have HR := Lib.hid (readTable_ok (gT ps k) wr (HS.out k hlt))
        clear hrow hb
        cases ht : tvB (gT ps k) with
        | false =>
          have hg : goodT ps k = false := by
            rw [tvB, Bool.and_eq_false_iff] at ht
            rw [goodT, Bool.and_eq_false_iff]
            rcases ht with h | h
            · exact .inl h
            · refine .inr ?_
              simp only [decide_eq_false_iff_not] at h ⊢
              omega
          have HQ := Lib.hid (netB_not hlt hg)
          rw [ht, rtV_no ht] at HR
          clear ht hg
          go_wp2_with fail
          refine HR.out.mono ?_
          rintro e w2 ⟨rfl, b2⟩
          have HB2 := Lib.hid (HB.out.trans (b2.mono HB.out.size))
          have HBn := Lib.hid (Blk.new w2 66 (tabC 0 z32))
          clear b2
          go_wp2_with (first | (refine wpList_tabAlloc rfl rfl ?_) | (refine wpList_tabStore rfl _ _ rfl _ 0 z32 rfl rfl rfl _ _ HBn.out rfl ?_; intro w4 k4 g4 z4))
          have c4 : Below wa.heap.size wa w4 := (HB2.out.alloc HB2.out.size _).grown g4 (by have := HB2.out.size; simp; omega) (fun j hj => by cases hj; exact HB2.out.size)
          go_ret2
          exact ⟨_, retv HQ.out.symm, by rw [netN_no HQ.out]; exact OwnN.nil _ _ _, HB0.out.trans (c4.mono HB0.out.size)⟩
        | true =>
          have HT := Lib.hid ht
          rw [ht, rtV_yes ht] at HR
          clear ht
          by_cases he : inpV (gT ps k).size = (ps.length : Int)
          · have hg : goodT ps k = true := by
              have := HT.out
              rw [tvB, Bool.and_eq_true] at this
              rw [goodT, this.1, decide_eq_true he]; rfl
            have HG := Lib.hid hg
            have HN := Lib.hid (bitsN_next ps k)
            have hne : ((ps.length : Int) != (ps.length : Int)) = false := by simp
            rw [he] at HR
            have HL := Lib.hid (eachL_len (byD (gT ps k)) (gT ps k).size)
            generalize eachL (byD (gT ps k)) (gT ps k).size = bs at HR HN HL
            clear he hg
            go_wp2_with fail
            refine HR.out.mono ?_
            rintro e w2 ⟨rfl, b2⟩
            have HB2 := Lib.hid (HB.out.trans (b2.mono HB.out.size))
            have HO2 := Lib.hid (HO.out.below b2 (Nat.le_refl _))
            have HBn := Lib.hid (Blk.new w2 66 (tabC 0 z32))
            clear b2
            go_wp2_with (first | (refine wpList_tabAlloc rfl rfl ?_) | (refine wpList_tabStore rfl _ _ rfl _ (ps.length : Int) bs rfl rfl HL.out _ _ HBn.out rfl ?_; intro w4 k4 g4 z4; have c4 := Lib.hid ((HB2.out.alloc HB2.out.size _).grown g4 (by have := HB2.out.size; simp; omega) (fun j hj => by cases hj; exact HB2.out.size)); have o4 := Lib.hid (OwnN.grown' (HO2.out.alloc _) HO2.out g4); have hn4 := k4.cell (tabC_zero (ps.length : Int) bs); have K4 := Lib.hid k4; clear k4 g4) | (refine wpList_tabLoad rfl _ rfl _ (ps.length : Int) bs rfl HL.out _ K4.out ?_) | (refine wpList_tabSlice rfl _ rfl (ps.length : Int) bs rfl HL.out ?_) | (at_builtin; refine wpList_appN (o4.out.alloc _) HL.out (Blk.new _ _ _) rfl _ _ rfl rfl rfl (by omega) (by have := c4.out.size; simp; omega) ?_; intro v5 w5 o5 g5))
            go_roundw
            case rel => exact ⟨k + 1, by omega, by go_num, by rw [HN.out]; exact o5, fun j hj => by
                by_cases e : j = k
                · rw [e]; exact HG.out
                · exact HA.out j (by omega), (c4.out.alloc c4.out.size _).grown g5 (by have := c4.out.size; simp; omega) (fun j hj => (World.ownsRow.lt o4.out j hj).1)⟩
            case measure => simp [intOf] <;> omega
          · have hg : goodT ps k = false := by
              rw [goodT, decide_eq_false he]; simp
            have HQ := Lib.hid (netB_not hlt hg)
            have hne : (inpV (gT ps k).size != (ps.length : Int)) = true := by simp [he]
            have HL := Lib.hid (eachL_len (byD (gT ps k)) (gT ps k).size)
            generalize eachL (byD (gT ps k)) (gT ps k).size = bs at HR HL
            generalize inpV (gT ps k).size = u at HR hne
            clear he hg
            go_wp2_with fail
            refine HR.out.mono ?_
            rintro e w2 ⟨rfl, b2⟩
            have HB2 := Lib.hid (HB.out.trans (b2.mono HB.out.size))
            have HBn := Lib.hid (Blk.new w2 66 (tabC 0 z32))
            clear b2
            go_wp2_with (first | (refine wpList_tabAlloc rfl rfl ?_) | (refine wpList_tabStore rfl _ _ rfl _ u bs rfl rfl HL.out _ _ HBn.out rfl ?_; intro w4 k4 g4 z4; have c4 := Lib.hid ((HB2.out.alloc HB2.out.size _).grown g4 (by have := HB2.out.size; simp; omega) (fun j hj => by cases hj; exact HB2.out.size)); have hn4 := k4.cell (tabC_zero u bs); clear k4 g4))
            go_ret2
            exact ⟨_, retv HQ.out.symm, by rw [netN_no HQ.out]; exact OwnN.nil _ _ _, HB0.out.trans (c4.out.mono HB0.out.size)⟩
      · obtain rfl : k = ps.length := by omega
        have HQ := Lib.hid (netB_yes HA.out)
        clear hb
        go_wp2_with fail
        go_ret2
        exact ⟨_, retv HQ.out.symm, by rw [netN_yes HQ.out]; exact HO.out.base HB0.out.size, HB0.out.trans (HB.out.mono HB0.out.size)⟩

end Go.Proofs.YtcmjogojlijdgaaGreatDoor
/- Walks: a step of a network told as texts. -/
namespace Go.Proofs.YtcmjogojlijdgaaGreatDoor
open Go.RowKit

/-- The value of a switch's rule at a state. -/
def bitN (ps : List ByteArray) (k s : Nat) : Nat := (byD (gT ps k) s).toNat
theorem bitN_lt {ps : List ByteArray} {k : Nat} (h : digB (gT ps k) = true) (s : Nat) : bitN ps k s < 2 := by
  have := byD_bit h s
  unfold bitN
  omega
theorem bitN_eq {ps : List ByteArray} {k : Nat} (h : digB (gT ps k) = true) (s : Nat) : byD (gT ps k) s = (bitN ps k s : Nat) := by
  have := byD_bit h s
  unfold bitN
  omega

set_option maxHeartbeats 1000000 in
theorem l1At_ok (f : ByteArray) (s : Nat) (w : World) (hs : s < f.size) :
    Calls Tryz.prog 83 #[.string f, .int .i64 s] w fun e w' => e = .returned (.int .i64 (byD f s)) ∧ w = w' := by
  have HE := Lib.hid (byD_at f s hs)
  have hs' : (s : Int) < (f.size : Int) := by omega
  have hlt := UInt8.toNat_lt f[s]
  go_enter Tryz.func83, Tryz.ntmps83
  go_wp2
  go_ret
  exact ⟨reti HE.out.symm, rfl⟩

set_option maxHeartbeats 1000000 in
theorem l1Set_ok (s i v : Nat) (w : World) (hs : s < 32) (hi : i < 5) (hv : v < 2) :
    Calls Tryz.prog 86 #[.int .i64 s, .int .i64 i, .int .i64 v] w fun e w' => e = .returned (.int .i64 (setN s i v : Nat)) ∧ w = w' := by
  have hp : (2 ^ i : Nat) < 32 := Nat.pow_lt_pow_right (by decide) hi
  have h1 : wrap64 (2 ^ i) = ((2 ^ i : Nat) : Int) := wrap_pow_nat i (by omega)
  have h2 : wrap64 ((v : Int) * 2 ^ i) = ((v * 2 ^ i : Nat) : Int) := by
    rcases (show v = 0 ∨ v = 1 by omega) with rfl | rfl
    · simp; decide +kernel
    · simpa using h1
  have h3 := andNot_32 s (2 ^ i) hs hp
  have h4 : bits .or .i64 ((s &&& (31 - 2 ^ i) : Nat) : Int) ((v * 2 ^ i : Nat) : Int) = ((setN s i v : Nat) : Int) := or_nat _ _ (Nat.lt_of_lt_of_le (and_lt32 hs) (by decide)) (Nat.lt_of_le_of_lt (Nat.mul_le_mul (show v ≤ 1 by omega) (Nat.le_of_lt hp)) (by decide))
  generalize ((2 ^ i : Nat) : Int) = a at h1 h3
  generalize ((s &&& (31 - 2 ^ i) : Nat) : Int) = b at h3 h4
  generalize ((v * 2 ^ i : Nat) : Int) = c at h2 h4
  go_enter Tryz.func86, Tryz.ntmps86
  go_wp2
  go_ret
  exact ⟨rfl, rfl⟩

/-- A step of the first k switches, those of a set alone. -/
def stepTo (ps : List ByteArray) (s b : Nat) : Nat → Nat
  | 0 => s
  | k + 1 => if b.testBit k = true then setN (stepTo ps s b k) k (bitN ps k s) else stepTo ps s b k
theorem stepTo_hit {ps : List ByteArray} {s b k : Nat} (h : b.testBit k = true) : stepTo ps s b (k + 1) = setN (stepTo ps s b k) k (bitN ps k s) := by rw [stepTo, if_pos h]
theorem stepTo_miss {ps : List ByteArray} {s b k : Nat} (h : b.testBit k = false) : stepTo ps s b (k + 1) = stepTo ps s b k := by rw [stepTo, if_neg (by rw [h]; decide)]
theorem stepTo_inv {ps : List ByteArray} (hn : netB ps = true) (h5 : ps.length ≤ 5) {s : Nat} (b : Nat) (hs : s < 32) : ∀ k, k ≤ ps.length → stepTo ps s b k < 32 ∧ ∀ j, j < 5 → (stepTo ps s b k).testBit j = if j < k ∧ b.testBit j = true then decide (bitN ps j s = 1) else s.testBit j
  | 0, _ => ⟨hs, fun j _ => by simp [stepTo]⟩
  | k + 1, hk => by
    obtain ⟨h1, h2⟩ := stepTo_inv hn h5 b hs k (by omega)
    have hd := (netB_get hn k (by omega)).1
    by_cases hb : b.testBit k = true
    · rw [stepTo_hit hb]
      refine ⟨setN_lt h1 (by omega) (bitN_lt hd s), fun j hj => ?_⟩
      rw [setN_bit h1 (by omega) (bitN_lt hd s) hj]
      by_cases e : j = k
      · subst e
        rw [if_pos rfl, if_pos ⟨Nat.lt_succ_self _, hb⟩]
      · rw [if_neg e, h2 j hj]
        by_cases h3 : j < k
        · simp [h3, show j < k + 1 by omega]
        · simp [h3, show ¬ j < k + 1 by omega]
    · have hb' : b.testBit k = false := by simpa using hb
      rw [stepTo_miss hb']
      refine ⟨h1, fun j hj => ?_⟩
      rw [h2 j hj]
      by_cases e : j = k
      · subst e
        simp [hb']
      · by_cases h3 : j < k
        · simp [h3, show j < k + 1 by omega]
        · simp [h3, show ¬ j < k + 1 by omega]
theorem net_size {ps : List ByteArray} (hn : netB ps = true) (k : Nat) (hk : k < ps.length) : (gT ps k).size = 2 ^ ps.length := (inpV_eq (by omega) (netB_get hn k hk).2).2
theorem net_le {ps : List ByteArray} (hn : netB ps = true) (h0 : 0 < ps.length) : ps.length ≤ 5 := (inpV_eq h0 (netB_get hn 0 h0).2).1

set_option maxHeartbeats 2000000 in
theorem l3Step_ok (ao : Option Addr) (n c : Nat) (ps : List ByteArray) (s b : Nat) (w : World) (h : RowT w ao n c ps) (hn : netB ps = true) (h5 : n ≤ 5) (hs : s < 2 ^ n) (hb : b < 32) :
    Calls Tryz.prog 48 #[.slice ao n c, .int .i64 s, .int .i64 b] w fun e w' => e = .returned (.int .i64 (stepTo ps s b n : Nat)) ∧ w = w' := by
  obtain rfl := h.1
  have hp : (2 ^ ps.length : Nat) ≤ 32 := Nat.pow_le_pow_right (n := 2) (by decide) h5
  have HI := Lib.hid (stepTo_inv hn h5 b (show s < 32 by omega))
  have HN := Lib.hid hn
  have HS := Lib.hid (fun k hk => net_size hn k hk)
  have HSl := Lib.hid hs
  clear hn hs
  go_enter Tryz.func48, Tryz.ntmps48
  go_wp2
  go_loop [7, 8] (fun v i => ∃ k : Nat, k ≤ ps.length ∧ i = .int .i64 k ∧ v = .int .i64 (stepTo ps s b k : Nat)) (fun _ i => ps.length - (intOf i).toNat)
  case atStart => exact ⟨0, Nat.zero_le _, rfl, rfl⟩
  case round =>
    obtain ⟨k, hk, rfl, rfl⟩ := hrel
    by_cases hlt : k < ps.length
    · obtain ⟨q, o, rfl, hbo⟩ := h.2.some (by omega)
      have hcx := h.2.cell q o rfl k hlt
      have hlt' : (k : Int) < (ps.length : Int) := by omega
      have hL := (HI.out k hk).1
      have HD := Lib.hid (netB_get HN.out k hlt).1
      clear h
      cases hq : b.testBit k with
      | true =>
        have hb1 : ((((bN b k : Nat) : Int)) == 1) = true := by
          have : bN b k = 1 := by rw [bN, bit_test, hq]; rfl
          rw [this]; rfl
        have HH := Lib.hid (stepTo_hit (ps := ps) (s := s) hq)
        have HAt := Lib.hid (fun W => l1At_ok (gT ps k) s W (by rw [HS.out k hlt]; exact HSl.out))
        have HSet := Lib.hid (fun W => l1Set_ok (stepTo ps s b k) k (bitN ps k s) W hL (by omega) (bitN_lt HD.out s))
        rw [bitN_eq HD.out s] at HAt
        clear hq
        go_wp2_with (first | (go_at_call 85; refine (l1Bit_ok _ _ _ (by omega) (by omega) (by omega) (by omega)).mono ?_; rintro e w' ⟨rfl, rfl⟩))
        refine (HAt.out _).mono ?_
        rintro e w2 ⟨rfl, rfl⟩
        go_wp2_with fail
        refine (HSet.out _).mono ?_
        rintro e w2 ⟨rfl, rfl⟩
        go_wp2_with fail
        go_round
        case rel => exact ⟨k + 1, by omega, by go_num, by rw [HH.out]⟩
        case measure => simp [intOf]; omega
      | false =>
        have hb1 : ((((bN b k : Nat) : Int)) == 1) = false := by
          have : bN b k = 0 := by rw [bN, bit_test, hq]; rfl
          rw [this]; rfl
        have HH := Lib.hid (stepTo_miss (ps := ps) (s := s) hq)
        clear hq
        go_wp2_with (first | (go_at_call 85; refine (l1Bit_ok _ _ _ (by omega) (by omega) (by omega) (by omega)).mono ?_; rintro e w' ⟨rfl, rfl⟩))
        go_round
        case rel => exact ⟨k + 1, by omega, by go_num, by rw [HH.out]⟩
        case measure => simp [intOf]; omega
    · obtain rfl : k = ps.length := by omega
      go_wp2
      go_ret
      exact ⟨rfl, rfl⟩

end Go.Proofs.YtcmjogojlijdgaaGreatDoor
/- Walks: a step of a network, as the program does it. -/
namespace Go.Proofs.YtcmjogojlijdgaaGreatDoor
open Go.RowKit

theorem RowN.at_ {w : World} {b o l c : Nat} {n : Int} {bss : List (List Int)} (h : RowN w (Option.some ⟨b, o, none⟩) l c n bss) (k : Nat) (hk : k < l) : ∃ bs, bss[k]? = Option.some bs ∧ bs.length = 32 ∧ w.rangeAt b (o + k * 33) (tabC n bs) := by
  have hk' : k < bss.length := by rw [h.len]; exact hk
  exact ⟨bss[k], List.getElem?_eq_getElem hk', h.wide _ (List.getElem_mem _), h.range b o rfl k _ (List.getElem?_eq_getElem hk')⟩

/-- A whole table is read out of a row. -/
theorem wpList_tabLoadAt {ops : Array Oper} {rest : List Oper} {o : Oper} {a : Act} {w : World} {Q : Exit → Act → World → Prop} (hg : o.guard = none) (x : Operand) (ho : o.op = .load 66 x)
    (b off : Nat) (n : Int) (bs : List Int) (hx : a.eval x = .pointer (some ⟨b, off, none⟩)) (hl : bs.length = 32) (hr : w.rangeAt b off (tabC n bs))
    (h : wpList Tryz.prog ops Q rest (a.put o.dst (tabV n bs)) w) : wpList Tryz.prog ops Q (o :: rest) a w := by
  obtain ⟨d, hd, hd2⟩ := tab_under
  exact wpList_load_mid hg 66 x ho b off hx (tabC n bs) d hr hd hd2 (by rw [tabC_len, hl]; exact tab_size) h

set_option maxHeartbeats 1000000 in
theorem states_ok (ao : Option Addr) (l c : Nat) (w : World) (hl : l ≤ 62) :
    Calls Tryz.prog 26 #[.slice ao l c] w fun e w' => e = .returned (.int .i64 ((2 ^ l : Nat) : Int)) ∧ w = w' := by
  have HP : Hid (wrap64 (2 ^ l) = ((2 ^ l : Nat) : Int)) := wrap_pow_nat l hl
  go_enter Tryz.func26, Tryz.ntmps26
  go_wp2
  go_ret
  exact ⟨reti HP.out, rfl⟩

/-- A step of the first k switches, all of them. -/
def allTo (ps : List ByteArray) (s : Nat) : Nat → Nat
  | 0 => 0
  | k + 1 => allTo ps s k ||| (bitN ps k s * 2 ^ k)
theorem all_fin : ∀ (a : Fin 32) (i : Fin 5) (v : Fin 2), (a.val ||| (v.val * 2 ^ i.val)) < 32 ∧ ∀ j : Fin 5, (a.val ||| (v.val * 2 ^ i.val)).testBit j.val = (a.val.testBit j.val || (decide (j = i) && decide (v.val = 1))) := by decide +kernel
theorem allTo_inv {ps : List ByteArray} (hn : netB ps = true) (h5 : ps.length ≤ 5) (s : Nat) : ∀ k, k ≤ ps.length → allTo ps s k < 32 ∧ ∀ j, j < 5 → (allTo ps s k).testBit j = (decide (j < k) && decide (bitN ps j s = 1))
  | 0, _ => ⟨by show 0 < 32; decide, fun j _ => by simp [allTo]⟩
  | k + 1, hk => by
    obtain ⟨h1, h2⟩ := allTo_inv hn h5 s k (by omega)
    have hd := bitN_lt (netB_get hn k (by omega)).1 s
    obtain ⟨h3, h4⟩ := all_fin ⟨_, h1⟩ ⟨k, by omega⟩ ⟨_, hd⟩
    refine ⟨h3, fun j hj => ?_⟩
    have h6 := h4 ⟨j, hj⟩
    simp only [Fin.mk.injEq] at h6
    show (allTo ps s k ||| (bitN ps k s * 2 ^ k)).testBit j = _
    rw [h6, h2 j hj]
    by_cases e : j = k
    · subst e
      simp
    · by_cases h7 : j < k
      · simp [e, h7, show j < k + 1 by omega]
      · simp [e, h7, show ¬ j < k + 1 by omega]

theorem shl_bit (v k : Nat) (hv : v < 2) (hk : k < 5) : wrap64 ((v : Int) * 2 ^ k) = ((v * 2 ^ k : Nat) : Int) := by
  rcases (show v = 0 ∨ v = 1 by omega) with rfl | rfl
  · simp; decide +kernel
  · simpa using wrap_pow_nat k (by omega)

set_option maxHeartbeats 2000000 in
theorem step_ok (ao : Option Addr) (c : Nat) (ps : List ByteArray) (s : Nat) (w : World) (h : RowN w ao ps.length c ps.length (bitsN ps ps.length)) (hn : netB ps = true) (h5 : ps.length ≤ 5) (hs : s < 2 ^ ps.length) :
    Calls Tryz.prog 32 #[.slice ao ps.length c, .int .i64 s] w fun e w' => e = .returned (.int .i64 (allTo ps s ps.length : Nat)) ∧ Below w.heap.size w w' := by
  have hp : (2 ^ ps.length : Nat) ≤ 32 := Nat.pow_le_pow_right (n := 2) (by decide) h5
  have HI := Lib.hid (allTo_inv hn h5 s)
  have HN := Lib.hid hn
  have HS := Lib.hid (fun k hk => net_size hn k hk)
  have HSl := Lib.hid hs
  have hs32 : (s : Int) < 32 := by omega
  clear hn hs
  go_enter Tryz.func32, Tryz.ntmps32
  go_wp2
  go_loopw [5, 10] (fun v i wr => ∃ k : Nat, k ≤ ps.length ∧ i = .int .i64 k ∧ v = .int .i64 (allTo ps s k : Nat) ∧ Below w.heap.size w wr) (fun _ i _ => ps.length - (intOf i).toNat)
  case atStart => exact ⟨0, Nat.zero_le _, rfl, rfl, Below.refl _ _⟩
  case round =>
    obtain ⟨k, hk, rfl, rfl, hb⟩ := hrel
    have HB := Lib.hid hb
    by_cases hlt : k < ps.length
    · obtain ⟨q, o, rfl, hbo⟩ := h.some (by omega)
      have hrow := h.below hb (Nat.le_refl _)
      have hbs : (bitsN ps ps.length)[k]? = some (eachL (byD (gT ps k)) (gT ps k).size) := by simp [bitsN, hlt]
      have HRg := Lib.hid (hrow.range q o rfl k _ hbs)
      have hlt' : (k : Int) < (ps.length : Int) := by omega
      have hL := (HI.out k hk).1
      have HD := Lib.hid (netB_get HN.out k hlt).1
      have hbit : gI (eachL (byD (gT ps k)) (gT ps k).size) s = ((bitN ps k s : Nat) : Int) := by
        rw [eachL_get _ _ _ (by omega) (by rw [HS.out k hlt]; exact HSl.out), bitN_eq HD.out s]
      have hv := bitN_lt HD.out s
      have hsh := shl_bit (bitN ps k s) k hv (by omega)
      have hw64 : IntKind.i64.wrap ((bitN ps k s : Nat) : Int) = ((bitN ps k s : Nat) : Int) := wraps_i64 _ (by omega) (by omega)
      have hp2 : (2 ^ k : Nat) ≤ 32 := Nat.pow_le_pow_right (n := 2) (by decide) (show k ≤ 5 by omega)
      have hor : bits .or .i64 ((allTo ps s k : Nat) : Int) ((bitN ps k s * 2 ^ k : Nat) : Int) = ((allTo ps s (k + 1) : Nat) : Int) := or_nat _ _ (by omega) (Nat.lt_of_le_of_lt (Nat.mul_le_mul (show bitN ps k s ≤ 1 by omega) hp2) (by decide))
      have HL := Lib.hid (eachL_len (byD (gT ps k)) (gT ps k).size)
      have HBn := Lib.hid (Blk.new wr 66 (tabC 0 z32))
      have HGet := Lib.hid (tabC_get (ps.length : Int) (eachL (byD (gT ps k)) (gT ps k).size) s (by rw [HL.out]; omega))
      rw [hbit] at HGet
      clear hrow hbs hbit h hb
      generalize eachL (byD (gT ps k)) (gT ps k).size = bs at HRg HL HGet
      generalize ((bitN ps k s * 2 ^ k : Nat) : Int) = u at hsh hor
      have HRg2 := Lib.hid (fun (ob : Obj) => ((Below.refl wr.heap.size wr).alloc (Nat.le_refl _) ob))
      go_wp2_with (first | (refine wpList_tabLoadAt rfl _ rfl q (o + k * 33) (ps.length : Int) bs rfl HL.out HRg.out ?_) | (refine wpList_tabAlloc rfl rfl ?_) | (refine wpList_tabStore rfl _ _ rfl _ (ps.length : Int) bs rfl rfl HL.out _ _ HBn.out rfl ?_; intro w4 k4 g4 z4; have c4 := Lib.hid ((HB.out.alloc HB.out.size _).grown g4 (by have := HB.out.size; simp; omega) (fun j hj => by cases hj; exact HB.out.size)); have hx4 := k4.cell HGet.out; clear k4 g4))
      go_roundw
      case rel => exact ⟨k + 1, by omega, by go_num, rfl, c4.out⟩
      case measure => simp [intOf]; omega
    · obtain rfl : k = ps.length := by omega
      go_wp2
      go_ret
      exact ⟨rfl, hb⟩

end Go.Proofs.YtcmjogojlijdgaaGreatDoor
/- Walks: a step of each block. -/
namespace Go.Proofs.YtcmjogojlijdgaaGreatDoor
open Go.RowKit

/-- What the program makes of a state and a block. -/
def blkN (ps : List ByteArray) (s b : Nat) : Nat := (s &&& (31 - b)) ||| (allTo ps s ps.length &&& b)
/-- Both sides make the same step. -/
theorem blkN_eq {ps : List ByteArray} (hn : netB ps = true) (h5 : ps.length ≤ 5) {s b : Nat} (hs : s < 2 ^ ps.length) (hb : b < 2 ^ ps.length) : blkN ps s b = stepTo ps s b ps.length := by
  have hp : (2 ^ ps.length : Nat) ≤ 32 := Nat.pow_le_pow_right (n := 2) (by decide) h5
  obtain ⟨h1, h2⟩ := stepTo_inv hn h5 b (show s < 32 by omega) ps.length (Nat.le_refl _)
  obtain ⟨h3, h4⟩ := allTo_inv hn h5 s ps.length (Nat.le_refl _)
  refine eq_32 (or_lt32 (and_lt32 (by omega)) (and_lt32 h3)) h1 fun i hi => ?_
  rw [blkN, Nat.testBit_or, andNot_bit s b i (by omega) hi, Nat.testBit_and, h4 i hi, h2 i hi]
  by_cases hib : b.testBit i = true
  · have hil : i < ps.length := by
      rcases Nat.lt_or_ge i ps.length with h | h
      · exact h
      · have := Nat.testBit_lt_two_pow (show b < 2 ^ i from Nat.lt_of_lt_of_le hb (Nat.pow_le_pow_right (by decide) h))
        rw [this] at hib; cases hib
    simp [hib, hil]
  · have hib' : b.testBit i = false := by simpa using hib
    simp [hib']

theorem stepTo_lt {ps : List ByteArray} (hn : netB ps = true) (h5 : ps.length ≤ 5) {s : Nat} (b : Nat) (hs : s < 2 ^ ps.length) : stepTo ps s b ps.length < 2 ^ ps.length := by
  have hp : (2 ^ ps.length : Nat) ≤ 32 := Nat.pow_le_pow_right (n := 2) (by decide) h5
  obtain ⟨h1, h2⟩ := stepTo_inv hn h5 b (show s < 32 by omega) ps.length (Nat.le_refl _)
  refine Nat.lt_pow_two_of_testBit _ fun i hi => ?_
  by_cases h : i < 5
  · rw [h2 i h, if_neg (by omega)]
    exact Nat.testBit_lt_two_pow (Nat.lt_of_lt_of_le hs (Nat.pow_le_pow_right (by decide) hi))
  · exact Nat.testBit_lt_two_pow (Nat.lt_of_lt_of_le h1 (show (2:Nat) ^ 5 ≤ 2 ^ i from Nat.pow_le_pow_right (by decide) (by omega)))

/-- A step of each of the first k blocks. -/
def runTo (ps : List ByteArray) (zs : List Int) (s : Nat) : Nat → Nat
  | 0 => s
  | k + 1 => stepTo ps (runTo ps zs s k) (gI zs k).toNat ps.length
theorem runTo_lt {ps : List ByteArray} (hn : netB ps = true) (h5 : ps.length ≤ 5) (zs : List Int) {s : Nat} (hs : s < 2 ^ ps.length) : ∀ k, runTo ps zs s k < 2 ^ ps.length
  | 0 => hs
  | k + 1 => stepTo_lt hn h5 _ (runTo_lt hn h5 zs hs k)

/-- A step of all switches, on both sides. -/
theorem all_step {ps : List ByteArray} (hn : netB ps = true) (h5 : ps.length ≤ 5) {s : Nat} (hs : s < 2 ^ ps.length) : allTo ps s ps.length = stepTo ps s (2 ^ ps.length - 1) ps.length := by
  have hp : (2 ^ ps.length : Nat) ≤ 32 := Nat.pow_le_pow_right (n := 2) (by decide) h5
  obtain ⟨h1, h2⟩ := stepTo_inv hn h5 (2 ^ ps.length - 1) (show s < 32 by omega) ps.length (Nat.le_refl _)
  obtain ⟨h3, h4⟩ := allTo_inv hn h5 s ps.length (Nat.le_refl _)
  refine eq_32 h3 h1 fun i hi => ?_
  rw [h4 i hi, h2 i hi, Nat.testBit_two_pow_sub_one]
  by_cases hil : i < ps.length
  · simp [hil]
  · have := Nat.testBit_lt_two_pow (show s < 2 ^ i from Nat.lt_of_lt_of_le hs (Nat.pow_le_pow_right (by decide) (by omega)))
    simp [hil, this]

end Go.Proofs.YtcmjogojlijdgaaGreatDoor
/- Walks: a step of each block, on both sides. -/
namespace Go.Proofs.YtcmjogojlijdgaaGreatDoor
open Go.RowKit

theorem fold_all {top : Int} : ∀ (zs : List Int) (t u : Nat), zs.foldlM (addB top) t = some u → ∀ z ∈ zs, 1 ≤ z ∧ z < top
  | [], _, _, _, z, hz => by cases hz
  | x :: zs, t, u, h, z, hz => by
    rw [List.foldlM_cons] at h
    cases hx : addB top t x with
    | none => rw [hx] at h; cases h
    | some v =>
      rw [hx] at h
      rcases List.mem_cons.1 hz with rfl | hz
      · unfold addB at hx
        split at hx
        · rename_i hc; exact ⟨hc.1, hc.2.1⟩
        · cases hx
      · exact fold_all zs v u h z hz
theorem blocks_all {zs : List Int} {m : Int} (h : blocksV zs m = true) (k : Nat) (hk : k < zs.length) : 1 ≤ gI zs k ∧ gI zs k < 2 ^ m.toNat := by
  rw [← blocks_same] at h
  simp only [blocksI, Bool.and_eq_true, decide_eq_true_iff] at h
  exact fold_all zs 0 _ h.2 _ (List.mem_of_getElem? (gI_lt hk))

end Go.Proofs.YtcmjogojlijdgaaGreatDoor
/- Walks: StepBlocks on both sides. -/
namespace Go.Proofs.YtcmjogojlijdgaaGreatDoor
open Go.RowKit

/-- Whether a text is a network and sets are blocks of its switches. -/
def nbB (ps : List ByteArray) (zs : List Int) : Bool := netB ps && blocksV zs ps.length
theorem nb_no {ps : List ByteArray} {zs : List Int} (h : netB ps = false) : nbB ps zs = false := by simp [nbB, h]
theorem nb_yes {ps : List ByteArray} {zs : List Int} (h : netB ps = true) : nbB ps zs = blocksV zs ps.length := by simp [nbB, h]

end Go.Proofs.YtcmjogojlijdgaaGreatDoor
/- Walks: all switches of a network; its states. -/
namespace Go.Proofs.YtcmjogojlijdgaaGreatDoor
open Go.RowKit

theorem wrap_all (n : Nat) (h : n ≤ 5) : wrap64 (wrap64 (2 ^ n) - 1) = ((2 ^ n - 1 : Nat) : Int) := by
  rcases (show n = 0 ∨ n = 1 ∨ n = 2 ∨ n = 3 ∨ n = 4 ∨ n = 5 by omega) with rfl | rfl | rfl | rfl | rfl | rfl <;> (unfold wrap64; omega)

set_option maxHeartbeats 1000000 in
theorem l3All_ok (ao : Option Addr) (n c : Nat) (w : World) (hn : n ≤ 5) :
    Calls Tryz.prog 47 #[.slice ao n c] w fun e w' => e = .returned (.int .i64 ((2 ^ n - 1 : Nat) : Int)) ∧ w = w' := by
  have HP := Lib.hid (wrap_all n hn)
  go_enter Tryz.func47, Tryz.ntmps47
  go_wp2
  go_ret
  exact ⟨reti HP.out, rfl⟩

/-- Whether a number is a state of so many switches. -/
def stOk (n : Nat) (s : Int) : Bool := inB s 0 ((2 ^ n - 1 : Nat) : Int)
theorem stOk_iff {n : Nat} {s : Int} : stOk n s = true ↔ 0 ≤ s ∧ s < ((2 ^ n : Nat) : Int) := by
  have : 0 < 2 ^ n := Nat.two_pow_pos n
  rw [stOk, inB_iff]
  omega

theorem stOk_lt {n : Nat} {s : Int} (h : stOk n s = false) : s < 0 ∨ ((2 ^ n : Nat) : Int) ≤ s := by
  rw [Bool.eq_false_iff, Ne, stOk_iff] at h
  omega

end Go.Proofs.YtcmjogojlijdgaaGreatDoor
/- Walks: StepBlocks on both sides. -/
namespace Go.Proofs.YtcmjogojlijdgaaGreatDoor
open Go.RowKit

theorem nb_net {ps : List ByteArray} {zs : List Int} (h : nbB ps zs = true) : netB ps = true := by
  rw [nbB, Bool.and_eq_true] at h; exact h.1
theorem nb_blocks {ps : List ByteArray} {zs : List Int} (h : nbB ps zs = true) (k : Nat) (hk : k < zs.length) : 1 ≤ gI zs k ∧ gI zs k < 2 ^ ps.length := by
  rw [nbB, Bool.and_eq_true] at h
  have := blocks_all h.2 k hk
  rwa [Int.toNat_natCast] at this

/-- What StepBlocks gives. -/
def sbV (ps : List ByteArray) (zs : List Int) (s : Int) : Int := if (nbB ps zs && stOk ps.length s) = true then (runTo ps zs s.toNat zs.length : Nat) else -1
theorem sb_no {ps : List ByteArray} {zs : List Int} {s : Int} (h : nbB ps zs = false) : sbV ps zs s = -1 := by simp [sbV, h]
theorem sb_out {ps : List ByteArray} {zs : List Int} {s : Int} (h : stOk ps.length s = false) : sbV ps zs s = -1 := by simp [sbV, h]
theorem sb_yes {ps : List ByteArray} {zs : List Int} {s : Nat} (h : nbB ps zs = true) (h2 : stOk ps.length s = true) : sbV ps zs s = (runTo ps zs s zs.length : Nat) := by simp [sbV, h, h2]

end Go.Proofs.YtcmjogojlijdgaaGreatDoor
/- Walks: a state of a network; a step of all switches, by the reference. -/
namespace Go.Proofs.YtcmjogojlijdgaaGreatDoor
open Go.RowKit

/-- Whether a number is a state of a network. -/
def stB' (ps : List ByteArray) (s : Int) : Bool := netB ps && stOk ps.length s
theorem stB'_no {ps : List ByteArray} {s : Int} (h : netB ps = false) : stB' ps s = false := by simp [stB', h]
theorem stB'_in {ps : List ByteArray} {s : Int} (h : netB ps = true) : stB' ps s = stOk ps.length s := by simp [stB', h]

/-- What StepAll gives. -/
def saV (ps : List ByteArray) (s : Int) : Int := if stB' ps s = true then (stepTo ps s.toNat (2 ^ ps.length - 1) ps.length : Nat) else -1
theorem saV_no {ps : List ByteArray} {s : Int} (h : stB' ps s = false) : saV ps s = -1 := by simp [saV, h]
theorem saV_yes {ps : List ByteArray} {s : Nat} (h : stB' ps s = true) : saV ps s = (stepTo ps s (2 ^ ps.length - 1) ps.length : Nat) := by simp [saV, h]
theorem stB'_get {ps : List ByteArray} {s : Int} (h : stB' ps s = true) : netB ps = true ∧ 0 ≤ s ∧ s < ((2 ^ ps.length : Nat) : Int) := by
  rw [stB', Bool.and_eq_true] at h
  exact ⟨h.1, stOk_iff.1 h.2⟩
theorem saV_range (ps : List ByteArray) (s : Int) (hp : 0 < ps.length) : (stB' ps s = false ∧ saV ps s = -1) ∨ (stB' ps s = true ∧ 0 ≤ saV ps s ∧ saV ps s < 32) := by
  cases h : stB' ps s with
  | false => exact .inl ⟨rfl, saV_no h⟩
  | true =>
    obtain ⟨h1, h2, h3⟩ := stB'_get h
    obtain ⟨q, rfl⟩ := Int.eq_ofNat_of_zero_le h2
    have h5 := net_le h1 hp
    have hpw : (2 ^ ps.length : Nat) ≤ 32 := Nat.pow_le_pow_right (n := 2) (by decide) h5
    have := (stepTo_inv h1 h5 (s := q) (2 ^ ps.length - 1) (by omega) ps.length (Nat.le_refl _)).1
    rw [saV_yes h]
    exact .inr ⟨rfl, by omega, by omega⟩

end Go.Proofs.YtcmjogojlijdgaaGreatDoor
/- Walks: a state of a network, by the program. -/
namespace Go.Proofs.YtcmjogojlijdgaaGreatDoor
open Go.RowKit

set_option maxHeartbeats 1000000 in
theorem stateOf_ok (t : ByteArray) (s : Int) (w : World) (hs : t.size ≤ 1048576) (hm : MaxLenIs w) :
    Calls Tryz.prog 31 #[.string t, .int .i64 s] w fun e w' => ∃ v, e = .returned (.tuple #[v, .bool (stB' (cutsP 44 t) s)]) ∧ OwnN w' w.heap.size v (cutsP 44 t).length (netN (cutsP 44 t)) ∧ Below w.heap.size w w' := by
  have HO := Lib.hid (readNetwork_ok t w hs hm)
  have hp0 := cutsP_pos 44 t
  generalize cutsP 44 t = ps at HO hp0 ⊢
  cases hb : netB ps with
  | false =>
    have HV := Lib.hid (stB'_no (s := s) hb)
    rw [hb] at HO
    clear hb
    go_enter Tryz.func31, Tryz.ntmps31
    go_wp2_with fail
    refine HO.out.mono ?_
    rintro e w1 ⟨v, rfl, o1, b1⟩
    have O1 := Lib.hid o1
    clear o1
    go_wp2_with fail
    go_ret2
    exact ⟨_, retv HV.out.symm, O1.out, b1⟩
  | true =>
    have HV := Lib.hid (stB'_in (s := s) hb)
    have HN := Lib.hid (netN_yes hb)
    have h5 := net_le hb hp0
    have hlen := bitsN_len ps ps.length
    have HSts := Lib.hid (fun (ao : Option Addr) (c : Nat) W => states_ok ao ps.length c W (by omega))
    rw [hb] at HO
    clear hb
    cases hso : stOk ps.length s with
    | false =>
      have hin := stOk_lt hso
      rw [hso] at HV
      clear hso
      generalize ((2 ^ ps.length : Nat) : Int) = N at hin HSts
      by_cases hneg : s < 0
      · have hge : ¬ (0 : Int) ≤ s := by omega
        go_enter Tryz.func31, Tryz.ntmps31
        go_wp2_with fail
        refine HO.out.mono ?_
        rintro e w1 ⟨v, rfl, o1, b1⟩
        have O1 := Lib.hid o1
        clear o1
        go_wp2_with fail
        go_ret2
        exact ⟨_, retv HV.out.symm, O1.out, b1⟩
      · have hge : (0 : Int) ≤ s := by omega
        have hnl : ¬ s < N := by omega
        clear hin
        go_enter Tryz.func31, Tryz.ntmps31
        go_wp2_with fail
        refine HO.out.mono ?_
        rintro e w1 ⟨v, rfl, o1, b1⟩
        have O1 := Lib.hid o1
        rw [HN.out] at o1
        obtain ⟨a, c, rfl, r1⟩ := o1.row (bitsN_wide ps ps.length)
        rw [hlen] at O1 ⊢
        have HAa := Lib.hid (fun W => HSts.out a c W)
        clear o1 r1 hlen
        go_wp2_with (go_at_call 26; refine (HAa.out _).mono ?_; rintro e w2 ⟨rfl, rfl⟩)
        go_ret2
        exact ⟨_, retv (by rw [HV.out]; exact decide_eq_false (by omega)), O1.out, b1⟩
    | true =>
      have hin := (stOk_iff.1 hso).2
      have hge := (stOk_iff.1 hso).1
      rw [hso] at HV
      clear hso
      generalize ((2 ^ ps.length : Nat) : Int) = N at hin HSts
      go_enter Tryz.func31, Tryz.ntmps31
      go_wp2_with fail
      refine HO.out.mono ?_
      rintro e w1 ⟨v, rfl, o1, b1⟩
      have O1 := Lib.hid o1
      rw [HN.out] at o1
      obtain ⟨a, c, rfl, r1⟩ := o1.row (bitsN_wide ps ps.length)
      rw [hlen] at O1 ⊢
      have HAa := Lib.hid (fun W => HSts.out a c W)
      clear o1 r1 hlen
      go_wp2_with (go_at_call 26; refine (HAa.out _).mono ?_; rintro e w2 ⟨rfl, rfl⟩)
      go_ret2
      exact ⟨_, retv HV.out.symm, O1.out, b1⟩

end Go.Proofs.YtcmjogojlijdgaaGreatDoor
/- Walks: the program's SizeOf, NetworkValid, StepAll, RestlessOf, StepOne. -/
namespace Go.Proofs.YtcmjogojlijdgaaGreatDoor
open Go.RowKit

/-- The number of switches of a network told as a text, or -1. -/
def sizV (ps : List ByteArray) : Int := if netB ps = true then ps.length else -1
theorem sizV_no {ps : List ByteArray} (h : netB ps = false) : sizV ps = -1 := by simp [sizV, h]
theorem sizV_yes {ps : List ByteArray} (h : netB ps = true) : sizV ps = ps.length := by simp [sizV, h]

set_option maxHeartbeats 1000000 in
theorem sizeI_ok (t : ByteArray) (w : World) (hs : t.size ≤ 1048576) (hm : MaxLenIs w) :
    Calls Tryz.prog 9 #[.string t] w fun e w' => e = .returned (.int .i64 (sizV (cutsP 44 t))) ∧ Below w.heap.size w w' := by
  have HO := Lib.hid (readNetwork_ok t w hs hm)
  generalize cutsP 44 t = ps at HO ⊢
  cases hb : netB ps with
  | false =>
    have HV := Lib.hid (sizV_no hb)
    rw [hb] at HO
    clear hb
    go_enter Tryz.func9, Tryz.ntmps9
    go_wp2_with fail
    refine HO.out.mono ?_
    rintro e w1 ⟨v, rfl, o1, b1⟩
    clear o1
    go_wp2_with fail
    go_ret
    exact ⟨reti HV.out.symm, b1⟩
  | true =>
    have HV := Lib.hid (sizV_yes hb)
    have HN := Lib.hid (netN_yes hb)
    have hlen := bitsN_len ps ps.length
    rw [hb] at HO
    clear hb
    go_enter Tryz.func9, Tryz.ntmps9
    go_wp2_with fail
    refine HO.out.mono ?_
    rintro e w1 ⟨v, rfl, o1, b1⟩
    rw [HN.out] at o1
    obtain ⟨a, c, rfl, _⟩ := o1.row (bitsN_wide ps ps.length)
    rw [hlen]
    clear o1
    go_wp2_with fail
    go_ret
    exact ⟨reti HV.out.symm, b1⟩

theorem saV_all {ps : List ByteArray} {s : Nat} (h5 : ps.length ≤ 5) (h : stB' ps (s : Int) = true) : saV ps (s : Int) = (allTo ps s ps.length : Nat) := by
  obtain ⟨hn, _, h1⟩ := stB'_get h
  rw [saV_yes h, all_step hn h5 (by omega)]
/-- What RestlessOf gives. -/
def rsV (ps : List ByteArray) (s : Int) : Int := if stB' ps s = true then ((allTo ps s.toNat ps.length ^^^ s.toNat : Nat) : Int) else -1
theorem rsV_no {ps : List ByteArray} {s : Int} (h : stB' ps s = false) : rsV ps s = -1 := by simp [rsV, h]
theorem rsV_yes {ps : List ByteArray} {s : Nat} (h : stB' ps (s : Int) = true) : rsV ps (s : Int) = ((allTo ps s ps.length ^^^ s : Nat) : Int) := by simp [rsV, h]

set_option maxHeartbeats 1000000 in
theorem restlessI_ok (t : ByteArray) (s : Int) (w : World) (hs : t.size ≤ 1048576) (hm : MaxLenIs w) :
    Calls Tryz.prog 12 #[.string t, .int .i64 s] w fun e w' => e = .returned (.int .i64 (rsV (cutsP 44 t) s)) ∧ Below w.heap.size w w' := by
  have HO := Lib.hid (stateOf_ok t s w hs hm)
  have hp0 := cutsP_pos 44 t
  generalize cutsP 44 t = ps at HO hp0 ⊢
  cases hb : stB' ps s with
  | false =>
    have HV := Lib.hid (rsV_no hb)
    rw [hb] at HO
    clear hb
    go_enter Tryz.func12, Tryz.ntmps12
    go_wp2_with fail
    refine HO.out.mono ?_
    rintro e w1 ⟨v, rfl, o1, b1⟩
    clear o1
    go_wp2_with fail
    go_ret
    exact ⟨reti HV.out.symm, b1⟩
  | true =>
    obtain ⟨hn, h0, h1⟩ := stB'_get hb
    obtain ⟨m, rfl⟩ := Int.eq_ofNat_of_zero_le h0
    have h5 := net_le hn hp0
    have hlen := bitsN_len ps ps.length
    have hsm : m < 2 ^ ps.length := by omega
    have hp : (2 ^ ps.length : Nat) ≤ 32 := Nat.pow_le_pow_right (n := 2) (by decide) h5
    have HV := Lib.hid (rsV_yes hb)
    have HN := Lib.hid (netN_yes hn)
    have HS := Lib.hid (fun (ao : Option Addr) (c : Nat) W h => step_ok ao c ps m W h hn h5 hsm)
    have hl := (allTo_inv hn h5 m ps.length (Nat.le_refl _)).1
    have hx := xor_nat (allTo ps m ps.length) m (by omega) (by omega)
    rw [hb] at HO
    clear hb hn h0 h1 hsm hl
    generalize (allTo ps m ps.length ^^^ m : Nat) = u at HV hx
    generalize allTo ps m ps.length = q at HS hx
    go_enter Tryz.func12, Tryz.ntmps12
    go_wp2_with fail
    refine HO.out.mono ?_
    rintro e w1 ⟨v, rfl, o1, b1⟩
    rw [HN.out] at o1
    obtain ⟨a, c, rfl, r1⟩ := o1.row (bitsN_wide ps ps.length)
    rw [hlen] at r1 ⊢
    have HS1 := Lib.hid (HS.out _ _ _ r1)
    clear o1 r1
    go_wp2_with fail
    refine HS1.out.mono ?_
    rintro e w2 ⟨rfl, b2⟩
    go_wp2_with fail
    go_ret
    exact ⟨reti HV.out.symm, b1.trans (b2.mono b1.size)⟩

end Go.Proofs.YtcmjogojlijdgaaGreatDoor
/- Plain facts: how an input acts on a table; the set of the switches for which something holds. -/
namespace Go.Proofs.YtcmjogojlijdgaaGreatDoor
open Go.RowKit

/-- Whether an input turns a table on (off) at a state. -/
def bitU (f : Nat → Nat) (i s : Nat) : Bool := decide (f (setN s i 0) < f (setN s i 1))
def bitD (f : Nat → Nat) (i s : Nat) : Bool := decide (f (setN s i 1) < f (setN s i 0))
/-- .. at one of the first N states. -/
def anyTo (p : Nat → Bool) (N : Nat) : Bool := (List.range N).any p
theorem anyTo_zero (p : Nat → Bool) : anyTo p 0 = false := rfl
theorem anyTo_next (p : Nat → Bool) (N : Nat) : anyTo p (N + 1) = (anyTo p N || p N) := by simp [anyTo, List.range_succ]
theorem anyTo_iff (p : Nat → Bool) (N : Nat) : anyTo p N = true ↔ ∃ s, s < N ∧ p s = true := by simp [anyTo]
theorem anyTo_hit {p : Nat → Bool} {N : Nat} (h : p N = true) : anyTo p (N + 1) = true := by rw [anyTo_next, h]; simp
theorem anyTo_miss {p : Nat → Bool} {N : Nat} (h : p N = false) : anyTo p (N + 1) = anyTo p N := by rw [anyTo_next, h]; simp
def upB (f : Nat → Nat) (i n : Nat) : Bool := anyTo (bitU f i) (2 ^ n)
def dnB (f : Nat → Nat) (i n : Nat) : Bool := anyTo (bitD f i) (2 ^ n)
/-- As the program finds it: at the states where the input is 0. -/
def lowU (f : Nat → Nat) (i s : Nat) : Bool := !s.testBit i && bitU f i s
def lowD (f : Nat → Nat) (i s : Nat) : Bool := !s.testBit i && bitD f i s

theorem setN_fin : ∀ (s : Fin 32) (i : Fin 5), (∀ v : Fin 2, setN (setN s.val i.val 0) i.val v.val = setN s.val i.val v.val) ∧ (setN s.val i.val 0).testBit i.val = false ∧ setN s.val i.val 0 ≤ s.val ∧ (s.val.testBit i.val = false → setN s.val i.val 0 = s.val ∧ setN s.val i.val 1 = s.val ||| 2 ^ i.val) := by decide +kernel
theorem setN_zero {s i : Nat} (hs : s < 32) (hi : i < 5) (h : s.testBit i = false) : setN s i 0 = s := ((setN_fin ⟨s, hs⟩ ⟨i, hi⟩).2.2.2 h).1
theorem setN_one {s i : Nat} (hs : s < 32) (hi : i < 5) (h : s.testBit i = false) : setN s i 1 = s ||| 2 ^ i := ((setN_fin ⟨s, hs⟩ ⟨i, hi⟩).2.2.2 h).2
theorem low_up (f : Nat → Nat) (i n : Nat) (hi : i < 5) (hn : n ≤ 5) : anyTo (lowU f i) (2 ^ n) = upB f i n := by
  have hp : (2 ^ n : Nat) ≤ 32 := Nat.pow_le_pow_right (n := 2) (by decide) hn
  rw [Bool.eq_iff_iff, upB, anyTo_iff, anyTo_iff]
  constructor
  · rintro ⟨s, h1, h2⟩
    simp only [lowU, Bool.and_eq_true] at h2
    exact ⟨s, h1, h2.2⟩
  · rintro ⟨s, h1, h2⟩
    obtain ⟨e1, e2, e3, _⟩ := setN_fin ⟨s, by omega⟩ ⟨i, hi⟩
    refine ⟨setN s i 0, Nat.lt_of_le_of_lt e3 h1, ?_⟩
    have e4 := e1 0
    have e5 := e1 1
    simp only [Fin.isValue, Fin.val_zero, Fin.val_one] at e4 e5
    rw [lowU, bitU, e4, e5, e2]
    simpa [bitU] using h2
theorem low_dn (f : Nat → Nat) (i n : Nat) (hi : i < 5) (hn : n ≤ 5) : anyTo (lowD f i) (2 ^ n) = dnB f i n := by
  have hp : (2 ^ n : Nat) ≤ 32 := Nat.pow_le_pow_right (n := 2) (by decide) hn
  rw [Bool.eq_iff_iff, dnB, anyTo_iff, anyTo_iff]
  constructor
  · rintro ⟨s, h1, h2⟩
    simp only [lowD, Bool.and_eq_true] at h2
    exact ⟨s, h1, h2.2⟩
  · rintro ⟨s, h1, h2⟩
    obtain ⟨e1, e2, e3, _⟩ := setN_fin ⟨s, by omega⟩ ⟨i, hi⟩
    refine ⟨setN s i 0, Nat.lt_of_le_of_lt e3 h1, ?_⟩
    have e4 := e1 0
    have e5 := e1 1
    simp only [Fin.isValue, Fin.val_zero, Fin.val_one] at e4 e5
    rw [lowD, bitD, e4, e5, e2]
    simpa [bitD] using h2

/-- The sign as a number and as a text. -/
def sgV (up dn : Bool) : Nat := (if up = true then 1 else 0) + (if dn = true then 2 else 0)
def sgT (up dn : Bool) : ByteArray := if (up && dn) = true then ⟨#[42]⟩ else if up = true then ⟨#[43]⟩ else if dn = true then ⟨#[45]⟩ else ⟨#[48]⟩
theorem sgT_zero (up dn : Bool) : (sgT up dn = ⟨#[48]⟩) ↔ (up || dn) = false := by cases up <;> cases dn <;> simp [sgT]
theorem sgV_pos (up dn : Bool) : 0 < sgV up dn ↔ (up || dn) = true := by cases up <;> cases dn <;> simp [sgV]
theorem sgV_lt (up dn : Bool) : sgV up dn < 4 := by cases up <;> cases dn <;> simp [sgV]

/-- The set of those of the first k switches for which something holds. -/
def setTo (p : Nat → Bool) : Nat → Nat
  | 0 => 0
  | k + 1 => if p k = true then setTo p k ||| 2 ^ k else setTo p k
theorem setTo_hit {p : Nat → Bool} {k : Nat} (h : p k = true) : setTo p (k + 1) = setTo p k ||| 2 ^ k := by rw [setTo, if_pos h]
theorem setTo_miss {p : Nat → Bool} {k : Nat} (h : p k = false) : setTo p (k + 1) = setTo p k := by rw [setTo, if_neg (by rw [h]; decide)]
theorem setTo_lt (p : Nat → Bool) : ∀ k, setTo p k < 2 ^ k
  | 0 => by simp [setTo]
  | k + 1 => by
    have ih := setTo_lt p k
    have h2 : 2 ^ k < 2 ^ (k + 1) := Nat.pow_lt_pow_right (by decide) (by omega)
    rw [setTo]
    split
    · exact Nat.or_lt_two_pow (by omega) h2
    · omega
theorem setTo_bit (p : Nat → Bool) (j : Nat) : ∀ k, (setTo p k).testBit j = (decide (j < k) && p j)
  | 0 => by simp [setTo]
  | k + 1 => by
    have ih := setTo_bit p j k
    by_cases e : j = k
    · subst e
      cases h : p j with
      | true => rw [setTo_hit h, Nat.testBit_or, Nat.testBit_two_pow_self]; simp
      | false => rw [setTo_miss h, ih, h]; simp
    · have e2 : decide (j < k + 1) = decide (j < k) := by rw [decide_eq_decide]; omega
      rw [e2]
      cases h : p k with
      | true => rw [setTo_hit h, Nat.testBit_or, ih, Nat.testBit_two_pow_of_ne (by omega)]; simp
      | false => rw [setTo_miss h, ih]
theorem setTo_lt63 (p : Nat → Bool) (k : Nat) (h : k ≤ 62) : setTo p k < 2 ^ 63 := Nat.lt_of_lt_of_le (setTo_lt p k) (Nat.pow_le_pow_right (by decide) (by omega))
/-- Two sets have a common switch. -/
theorem and_ne (a b : Nat) : a &&& b ≠ 0 ↔ ∃ j, a.testBit j = true ∧ b.testBit j = true := by
  constructor
  · intro h
    obtain ⟨j, hj⟩ := Nat.exists_testBit_of_ne_zero h
    rw [Nat.testBit_and, Bool.and_eq_true] at hj
    exact ⟨j, hj⟩
  · rintro ⟨j, h1, h2⟩ h
    have := congrArg (·.testBit j) h
    simp [h1, h2] at this

end Go.Proofs.YtcmjogojlijdgaaGreatDoor
/- Walks: the sign of an input, on both sides. -/
namespace Go.Proofs.YtcmjogojlijdgaaGreatDoor
open Go.RowKit

/-- What a table's values are. -/
def TabIs (bs : List Int) (f : Nat → Nat) (n : Nat) : Prop := bs.length = 32 ∧ ∀ s, s < 2 ^ n → gI bs s = ((f s : Nat) : Int) ∧ f s < 2
theorem bit_case {k i : Nat} : (k.testBit i = true → (((bN k i : Nat) : Int) == 1) = true) ∧ (k.testBit i = false → (((bN k i : Nat) : Int) == 1) = false) := by
  constructor
  · intro h
    have : bN k i = 1 := by rw [bN, bit_test, h]; rfl
    rw [this]; rfl
  · intro h
    have : bN k i = 0 := by rw [bN, bit_test, h]; rfl
    rw [this]; rfl
theorem or_lt_pow {k i n : Nat} (hk : k < 2 ^ n) (hi : i < n) : k ||| 2 ^ i < 2 ^ n := Nat.or_lt_two_pow hk (Nat.pow_lt_pow_right (by decide) hi)

set_option maxHeartbeats 4000000 in
theorem sign_ok (n i : Nat) (bs : List Int) (f : Nat → Nat) (w : World) (hn : n ≤ 5) (hi : i < n) (h : TabIs bs f n) :
    Calls Tryz.prog 65 #[tabV n bs, .int .i64 i] w fun e w' => e = .returned (.string (sgT (upB f i n) (dnB f i n))) ∧ Below w.heap.size w w' := by
  have hp : (2 ^ n : Nat) ≤ 32 := Nat.pow_le_pow_right (n := 2) (by decide) hn
  have HB0 := Lib.hid (Blk.new w 66 (tabC n bs))
  have HT := Lib.hid h
  have HW := Lib.hid (fun W => width_ok n bs (by omega) W)
  have HU := Lib.hid (low_up f i n (by omega) hn)
  have HD := Lib.hid (low_dn f i n (by omega) hn)
  have HO := Lib.hid (fun k (hk : k < 2 ^ n) => or_lt_pow hk hi)
  have HL := Lib.hid h.1
  have HG := Lib.hid h.2
  clear h HT
  generalize (2 ^ n : Nat) = N at HW HU HD HO HG hp
  generalize hv : tabV n bs = v at HW ⊢
  go_enter Tryz.func65, Tryz.ntmps65
  go_wp2_with (first | (refine wpList_tabBox rfl _ rfl n bs hv.symm ?_) | (refine wpList_tabLoad rfl _ rfl _ n bs rfl HL.out _ HB0.out ?_))
  refine (HW.out _).mono ?_
  rintro e w1 ⟨rfl, b1⟩
  have HB1 := Lib.hid (HB0.out.below b1 HB0.out.lt)
  have HW1 : Hid (Below w.heap.size w w1) := ((Below.refl _ _).alloc (Nat.le_refl _) _).trans (b1.mono (by simp))
  clear HW HB0 hv
  go_wp2_with fail
  go_loopw [5, 6, 12] (fun u d q wr => ∃ k : Nat, k ≤ N ∧ q = .int .i64 k ∧ u = .bool (anyTo (lowU f i) k) ∧ d = .bool (anyTo (lowD f i) k) ∧ Below w1.heap.size w1 wr) (fun _ _ q _ => N - (intOf q).toNat)
  case atStart => exact ⟨0, Nat.zero_le _, rfl, rfl, rfl, Below.refl _ _⟩
  case round =>
    obtain ⟨k, hk, rfl, rfl, rfl, hb⟩ := hrel
    have HBe := Lib.hid hb
    by_cases hkN : k < N
    · have hkw : (k : Int) < (N : Int) := by omega
      have hB := HB1.out.below hb HB1.out.lt
      have hg := (HG.out k hkN)
      have hc := hB.cell (tabC_get n bs k (by rw [HL.out]; omega))
      rw [hg.1] at hc
      have ev : bits .and .i64 ((k : Int) / 2 ^ i) 1 = ((bN k i : Nat) : Int) := bit_int (k : Int) i (by omega) (by omega)
      have hbl := bN_lt k i
      cases hq : k.testBit i with
      | true =>
        have h1 := bit_case.1 hq
        have HU1 := Lib.hid (anyTo_miss (p := lowU f i) (N := k) (by simp [lowU, hq]))
        have HD1 := Lib.hid (anyTo_miss (p := lowD f i) (N := k) (by simp [lowD, hq]))
        clear hB hg hc hq hb
        generalize bN k i = u at ev hbl h1
        go_wp2_with fail
        go_roundw
        case rel => exact ⟨k + 1, by omega, by go_num, by rw [HU1.out], by rw [HD1.out], HBe.out⟩
        case measure => simp [intOf]; omega
      | false =>
        have h1 := bit_case.2 hq
        have hm := HO.out k hkN
        have eo := or_shl k i (by omega) (by omega)
        have hz0 := setN_zero (show k < 32 by omega) (show i < 5 by omega) hq
        have hz1 := setN_one (show k < 32 by omega) (show i < 5 by omega) hq
        have hgm := HG.out _ hm
        have hcm := hB.cell (tabC_get n bs (k ||| 2 ^ i) (by rw [HL.out]; omega))
        rw [hgm.1] at hcm
        have hU : lowU f i k = decide (f k < f (k ||| 2 ^ i)) := by rw [lowU, bitU, hz0, hz1, hq]; rfl
        have hD : lowD f i k = decide (f (k ||| 2 ^ i) < f k) := by rw [lowD, bitD, hz0, hz1, hq]; rfl
        have hx := hg.2
        have hy := hgm.2
        clear hB hg hgm hq hb hz0 hz1
        generalize k ||| 2 ^ i = m at eo hm hcm hU hD hy
        generalize f k = x at hc hU hD hx
        generalize f m = y at hcm hU hD hy
        generalize bN k i = u at ev hbl h1
        have hmw : (m : Int) < 32 := by omega
        rcases Nat.lt_trichotomy x y with hxy | hxy | hxy
        · have hxy' : (x : Int) < (y : Int) := by omega
          have hn1 : ¬ (y : Int) < (x : Int) := by omega
          have hn2 : ¬ y < x := by omega
          have HU1 := Lib.hid (anyTo_hit (p := lowU f i) (N := k) (by rw [hU]; simpa using hxy))
          have HD1 := Lib.hid (anyTo_miss (p := lowD f i) (N := k) (by rw [hD]; simpa using hn2))
          clear hU hD
          go_wp2_with fail
          go_quiet (fail)
          go_wp2_with fail
          go_roundw
          case rel => exact ⟨k + 1, by omega, by go_num, by rw [HU1.out], by rw [HD1.out], HBe.out.trans ⟨rfl, rfl, rfl, Nat.le_refl _, fun _ _ => rfl⟩⟩
          case measure => simp [intOf]; omega
        · subst hxy
          have hn1 : ¬ (x : Int) < (x : Int) := by omega
          have HU1 := Lib.hid (anyTo_miss (p := lowU f i) (N := k) (by rw [hU]; simp))
          have HD1 := Lib.hid (anyTo_miss (p := lowD f i) (N := k) (by rw [hD]; simp))
          clear hU hD
          go_wp2_with fail
          go_quiet (fail)
          go_wp2_with fail
          go_roundw
          case rel => exact ⟨k + 1, by omega, by go_num, by rw [HU1.out], by rw [HD1.out], HBe.out.trans ⟨rfl, rfl, rfl, Nat.le_refl _, fun _ _ => rfl⟩⟩
          case measure => simp [intOf]; omega
        · have hxy' : (y : Int) < (x : Int) := by omega
          have hn1 : ¬ (x : Int) < (y : Int) := by omega
          have hn2 : ¬ x < y := by omega
          have HU1 := Lib.hid (anyTo_miss (p := lowU f i) (N := k) (by rw [hU]; simpa using hn2))
          have HD1 := Lib.hid (anyTo_hit (p := lowD f i) (N := k) (by rw [hD]; simpa using hxy))
          clear hU hD
          go_wp2_with fail
          go_quiet (fail)
          go_wp2_with fail
          go_roundw
          case rel => exact ⟨k + 1, by omega, by go_num, by rw [HU1.out], by rw [HD1.out], HBe.out.trans ⟨rfl, rfl, rfl, Nat.le_refl _, fun _ _ => rfl⟩⟩
          case measure => simp [intOf]; omega
    · obtain rfl : k = N := by omega
      have HE := Lib.hid (HW1.out.trans (hb.mono HW1.out.size))
      clear hb
      cases hu : upB f i n <;> cases hd : dnB f i n
      all_goals
        simp only [HU.out, HD.out, hu, hd]
        have HU1 := Lib.hid hu
        have HD1 := Lib.hid hd
        clear hu hd
        go_wp2_with fail
        go_ret
        exact ⟨by rw [HU1.out, HD1.out]; rfl, HE.out⟩

theorem sg_or1 (a b : Bool) : bits .or .i64 ((sgV a b : Nat) : Int) 1 = ((sgV true b : Nat) : Int) := by cases a <;> cases b <;> decide +kernel
theorem sg_or2 (a b : Bool) : bits .or .i64 ((sgV a b : Nat) : Int) 2 = ((sgV a true : Nat) : Int) := by cases a <;> cases b <;> decide +kernel

set_option maxHeartbeats 4000000 in
theorem l1Sign_ok (t : ByteArray) (n i : Nat) (f : Nat → Nat) (w : World) (hn : n ≤ 5) (hi : i < n) (hz : t.size = 2 ^ n) (hf : ∀ s, s < 2 ^ n → byD t s = ((f s : Nat) : Int) ∧ f s < 2) :
    Calls Tryz.prog 112 #[.string t, .int .i64 i] w fun e w' => e = .returned (.int .i64 ((sgV (upB f i n) (dnB f i n) : Nat) : Int)) ∧ w = w' := by
  have hp : (2 ^ n : Nat) ≤ 32 := Nat.pow_le_pow_right (n := 2) (by decide) hn
  have HS := Lib.hid (fun s v (hs : s < 2 ^ n) (hv : v < 2) W => l1Set_ok s i v W (by omega) (by omega) hv)
  have HAt := Lib.hid (fun s (hs : s < 2 ^ n) W => l1At_ok t s W (by rw [hz]; exact hs))
  have HR : Hid (∀ s v, s < 2 ^ n → v < 2 → setN s i v < 2 ^ n) := fun s v hs hv => by
    have hpi : (2 : Nat) ^ i < 2 ^ n := Nat.pow_lt_pow_right (by decide) hi
    refine Nat.or_lt_two_pow (Nat.lt_of_le_of_lt Nat.and_le_left hs) ?_
    rcases (show v = 0 ∨ v = 1 by omega) with rfl | rfl
    · simpa using Nat.two_pow_pos n
    · simpa using hpi
  have HG := Lib.hid hf
  have HU : Hid (upB f i n = anyTo (bitU f i) (2 ^ n)) := rfl
  have HD : Hid (dnB f i n = anyTo (bitD f i) (2 ^ n)) := rfl
  clear hf
  generalize (2 ^ n : Nat) = N at HS HAt HR HG HU HD hz hp
  subst hz
  go_enter Tryz.func112, Tryz.ntmps112
  go_wp2_with fail
  go_loop [5, 6] (fun o q => ∃ k : Nat, k ≤ t.size ∧ q = .int .i64 k ∧ o = .int .i64 ((sgV (anyTo (bitU f i) k) (anyTo (bitD f i) k) : Nat) : Int)) (fun _ q => t.size - (intOf q).toNat)
  case atStart => exact ⟨0, Nat.zero_le _, rfl, rfl⟩
  case round =>
    obtain ⟨k, hk, rfl, rfl⟩ := hrel
    by_cases hkN : k < t.size
    · have hkw : (k : Int) < (t.size : Int) := by omega
      have hl := sgV_lt (anyTo (bitU f i) k) (anyTo (bitD f i) k)
      have S0 := Lib.hid (HS.out k 0 hkN (by decide))
      have S1 := Lib.hid (HS.out k 1 hkN (by decide))
      have A0 := Lib.hid (HAt.out _ (HR.out k 0 hkN (by decide)))
      have A1 := Lib.hid (HAt.out _ (HR.out k 1 hkN (by decide)))
      rw [(HG.out _ (HR.out k 0 hkN (by decide))).1] at A0
      rw [(HG.out _ (HR.out k 1 hkN (by decide))).1] at A1
      have hx := (HG.out _ (HR.out k 0 hkN (by decide))).2
      have hy := (HG.out _ (HR.out k 1 hkN (by decide))).2
      have hU : bitU f i k = decide (f (setN k i 0) < f (setN k i 1)) := rfl
      have hD : bitD f i k = decide (f (setN k i 1) < f (setN k i 0)) := rfl
      generalize f (setN k i 0) = x at A0 hx hU hD
      generalize f (setN k i 1) = y at A1 hy hU hD
      generalize setN k i 0 = s0 at S0 A0
      generalize setN k i 1 = s1 at S1 A1
      have o1 := sg_or1 (anyTo (bitU f i) k) (anyTo (bitD f i) k)
      have o2 := sg_or2 (anyTo (bitU f i) k) (anyTo (bitD f i) k)
      rcases Nat.lt_trichotomy x y with hxy | hxy | hxy
      · have hxy' : (x : Int) < (y : Int) := by omega
        have hn1 : ¬ (y : Int) < (x : Int) := by omega
        have hn2 : ¬ y < x := by omega
        have HU1 := Lib.hid (anyTo_hit (p := bitU f i) (N := k) (by rw [hU]; simpa using hxy))
        have HD1 := Lib.hid (anyTo_miss (p := bitD f i) (N := k) (by rw [hD]; simpa using hn2))
        clear hU hD o2
        go_wp2_with fail
        refine (S0.out _).mono ?_
        rintro e w2 ⟨rfl, rfl⟩
        go_wp2_with fail
        refine (A0.out _).mono ?_
        rintro e w2 ⟨rfl, rfl⟩
        go_wp2_with fail
        refine (S1.out _).mono ?_
        rintro e w2 ⟨rfl, rfl⟩
        go_wp2_with fail
        refine (A1.out _).mono ?_
        rintro e w2 ⟨rfl, rfl⟩
        go_wp2_with fail
        go_round
        case rel => exact ⟨k + 1, by omega, by go_num, by rw [HU1.out, HD1.out]⟩
        case measure => simp [intOf]; omega
      · subst hxy
        have hn1 : ¬ (x : Int) < (x : Int) := by omega
        have HU1 := Lib.hid (anyTo_miss (p := bitU f i) (N := k) (by rw [hU]; simp))
        have HD1 := Lib.hid (anyTo_miss (p := bitD f i) (N := k) (by rw [hD]; simp))
        clear hU hD o1 o2
        go_wp2_with fail
        refine (S0.out _).mono ?_
        rintro e w2 ⟨rfl, rfl⟩
        go_wp2_with fail
        refine (A0.out _).mono ?_
        rintro e w2 ⟨rfl, rfl⟩
        go_wp2_with fail
        refine (S1.out _).mono ?_
        rintro e w2 ⟨rfl, rfl⟩
        go_wp2_with fail
        refine (A1.out _).mono ?_
        rintro e w2 ⟨rfl, rfl⟩
        go_wp2_with fail
        go_round
        case rel => exact ⟨k + 1, by omega, by go_num, by rw [HU1.out, HD1.out]⟩
        case measure => simp [intOf]; omega
      · have hxy' : (y : Int) < (x : Int) := by omega
        have hn1 : ¬ (x : Int) < (y : Int) := by omega
        have hn2 : ¬ x < y := by omega
        have HU1 := Lib.hid (anyTo_miss (p := bitU f i) (N := k) (by rw [hU]; simpa using hn2))
        have HD1 := Lib.hid (anyTo_hit (p := bitD f i) (N := k) (by rw [hD]; simpa using hxy))
        clear hU hD o1
        go_wp2_with fail
        refine (S0.out _).mono ?_
        rintro e w2 ⟨rfl, rfl⟩
        go_wp2_with fail
        refine (A0.out _).mono ?_
        rintro e w2 ⟨rfl, rfl⟩
        go_wp2_with fail
        refine (S1.out _).mono ?_
        rintro e w2 ⟨rfl, rfl⟩
        go_wp2_with fail
        refine (A1.out _).mono ?_
        rintro e w2 ⟨rfl, rfl⟩
        go_wp2_with fail
        go_round
        case rel => exact ⟨k + 1, by omega, by go_num, by rw [HU1.out, HD1.out]⟩
        case measure => simp [intOf]; omega
    · obtain rfl : k = t.size := by omega
      go_wp2_with fail
      go_ret
      exact ⟨reti (by rw [HU.out, HD.out]), rfl⟩

end Go.Proofs.YtcmjogojlijdgaaGreatDoor
/- Walks: on which switches one acts, on both sides; CanJoin. -/
namespace Go.Proofs.YtcmjogojlijdgaaGreatDoor
open Go.RowKit

theorem tabIs_of {ps : List ByteArray} (hn : netB ps = true) (h5 : ps.length ≤ 5) {k : Nat} (hk : k < ps.length) : TabIs (eachL (byD (gT ps k)) (gT ps k).size) (bitN ps k) ps.length := by
  have hd := (netB_get hn k hk).1
  have hz := net_size hn k hk
  have hp : (2 ^ ps.length : Nat) ≤ 32 := Nat.pow_le_pow_right (n := 2) (by decide) h5
  exact ⟨eachL_len _ _, fun s hs => ⟨by rw [eachL_get _ _ _ (by omega) (by omega), bitN_eq hd s], bitN_lt hd s⟩⟩

theorem sgT_list (u d : Bool) : ((sgT u d).toList == [48]) = !(u || d) := by cases u <;> cases d <;> decide +kernel
/-- Whether a switch acts on another one. -/
def actB (ps : List ByteArray) (i k : Nat) : Bool := upB (bitN ps k) i ps.length || dnB (bitN ps k) i ps.length
def actsN (ps : List ByteArray) (i : Nat) : Nat := setTo (actB ps i) ps.length

set_option maxHeartbeats 1000000 in
theorem l7Sign_ok (ao : Option Addr) (n c : Nat) (ps : List ByteArray) (i k : Nat) (w : World) (h : RowT w ao n c ps) (hn : netB ps = true) (h5 : n ≤ 5) (hi : i < n) (hk : k < n) :
    Calls Tryz.prog 104 #[.slice ao n c, .int .i64 i, .int .i64 k] w fun e w' => e = .returned (.int .i64 ((sgV (upB (bitN ps k) i n) (dnB (bitN ps k) i n) : Nat) : Int)) ∧ w = w' := by
  obtain rfl := h.1
  have hd := (netB_get hn k hk).1
  have HS := Lib.hid (fun W => l1Sign_ok (gT ps k) ps.length i (bitN ps k) W h5 hi (net_size hn k hk) (fun s _ => ⟨bitN_eq hd s, bitN_lt hd s⟩))
  obtain ⟨q, o, rfl, hbo⟩ := h.2.some (by omega)
  have hcx := h.2.cell q o rfl k hk
  have hlt' : (k : Int) < (ps.length : Int) := by omega
  clear h hd hn
  generalize sgV (upB (bitN ps k) i ps.length) (dnB (bitN ps k) i ps.length) = v at HS ⊢
  go_enter Tryz.func104, Tryz.ntmps104
  go_wp2_with fail
  refine (HS.out _).mono ?_
  rintro e w2 ⟨rfl, rfl⟩
  go_wp2_with fail
  go_ret
  exact ⟨rfl, rfl⟩

end Go.Proofs.YtcmjogojlijdgaaGreatDoor
/- Walks: a network made of its step. -/
namespace Go.Proofs.YtcmjogojlijdgaaGreatDoor
open Go.RowKit

theorem held2b {wr W w5 : World} {q1 q2 : Nat} {v1 v2 : Value} (h : Below wr.heap.size wr W ∧ W.cell? ⟨q1, 0, none⟩ = some v1 ∧ W.cell? ⟨q2, 0, none⟩ = some v2) (b : Below W.heap.size W w5) (h1 : q1 < wr.heap.size) (h2 : q2 < wr.heap.size) :
    Below wr.heap.size wr w5 ∧ w5.cell? ⟨q1, 0, none⟩ = some v1 ∧ w5.cell? ⟨q2, 0, none⟩ = some v2 :=
  ⟨h.1.trans (b.mono h.1.size), (b.cell (p := ⟨q1, 0, none⟩) (Nat.lt_of_lt_of_le h1 h.1.size)).trans h.2.1, (b.cell (p := ⟨q2, 0, none⟩) (Nat.lt_of_lt_of_le h2 h.1.size)).trans h.2.2⟩

set_option maxHeartbeats 2000000 in
set_option maxRecDepth 100000 in
theorem fsClosure_ok (s i p3 p6 g fs : Nat) (cap : Array Value) (w : World) (hg : ∀ args W, (callFunc g args).run Tryz.prog W = .ok (.enter g args) W)
    (hf : ∀ W, Below w.heap.size w W → Calls Tryz.prog g (#[.int .i64 s] ++ cap) W fun e W' => e = .returned (.int .i64 (fs : Nat)) ∧ Below W.heap.size W W') (hfs : fs < 32) (hi : i < 5)
    (h3 : w.cell? ⟨p3, 0, none⟩ = some (.func (.func g) #[] cap)) (h6 : w.cell? ⟨p6, 0, none⟩ = some (.int .i64 i)) :
    Calls Tryz.prog 96 #[.int .i64 s, .pointer (some ⟨p3, 0, none⟩), .pointer (some ⟨p6, 0, none⟩)] w fun e w' => e = .returned (.int .u8 ((bN fs i : Nat) : Int)) ∧ Below w.heap.size w w' := by
  have l3 := World.block_lt_of_cell? w ⟨p3, 0, none⟩ h3
  have l6 := World.block_lt_of_cell? w ⟨p6, 0, none⟩ h6
  have HF := Lib.hid hf
  have ev : bits .and .i64 ((fs : Int) / 2 ^ i) 1 = ((bN fs i : Nat) : Int) := bit_int (fs : Int) i (by omega) (by omega)
  have hbl := bN_lt fs i
  have hw1 : IntKind.u8.wrap ((bN fs i : Nat) : Int) = ((bN fs i : Nat) : Int) := by rw [IntKind.wrap_u8]; omega
  clear hf
  generalize bN fs i = u at ev hbl hw1 ⊢
  go_enter Tryz.func96, Tryz.ntmps96
  go_wp2_with fail
  go_region_held3 (fun w' => Below w.heap.size w w' ∧ w'.cell? ⟨p3, 0, none⟩ = some (.func (.func g) #[] cap) ∧ w'.cell? ⟨p6, 0, none⟩ = some (.int .i64 i))
    (first | exact ⟨⟨rfl, rfl, rfl, Nat.le_refl _, fun _ _ => rfl⟩, h3, h6⟩ | exact held2b (by assumption) b5 l3 l6)
    ((refine (HF.out _ ?_).mono ?_; (exact (by assumption : _ ∧ _ ∧ _).1); rintro e w5 ⟨rfl, b5⟩))
  have HB5 : Hid (Below w.heap.size w w5) := (by assumption : Below w.heap.size w w5 ∧ _ ∧ _).1
  go_wp2_with fail
  go_ret
  exact ⟨rfl, HB5.out⟩

/-- The tables of a step. -/
def fromL (f : Nat → Nat) (n k : Nat) : List (List Int) := (List.range k).map fun i => eachL (fun s => ((bN (f s) i : Nat) : Int)) (2 ^ n)
theorem fromL_next (f : Nat → Nat) (n k : Nat) : fromL f n (k + 1) = fromL f n k ++ [eachL (fun s => ((bN (f s) k : Nat) : Int)) (2 ^ n)] := by simp [fromL, List.range_succ]
theorem fromL_len (f : Nat → Nat) (n k : Nat) : (fromL f n k).length = k := by simp [fromL]
theorem fromL_wide (f : Nat → Nat) (n k : Nat) : W32 (fromL f n k) := fun bs hb => by
  simp only [fromL, List.mem_map] at hb
  obtain ⟨i, _, rfl⟩ := hb
  exact eachL_len _ _

set_option maxRecDepth 100000 in
set_option maxHeartbeats 4000000 in
theorem fromStep_ok (n : Nat) (hn : n ≤ 5) (g : Nat) (cap : Array Value) (f : Nat → Nat) (w : World) (hg : ∀ args W, (callFunc g args).run Tryz.prog W = .ok (.enter g args) W)
    (hf : ∀ s, s < 2 ^ n → ∀ W, Below w.heap.size w W → Calls Tryz.prog g (#[.int .i64 s] ++ cap) W fun e W' => e = .returned (.int .i64 (f s : Nat)) ∧ Below W.heap.size W W') (hf2 : ∀ s, s < 2 ^ n → f s < 32) :
    Calls Tryz.prog 66 #[.int .i64 n, .func (.func g) #[] cap] w fun e w' => ∃ v, e = .returned v ∧ OwnN w' w.heap.size v n (fromL f n n) ∧ Below w.heap.size w w' := by
  have HF := Lib.hid hf
  have HF2 := Lib.hid hf2
  have HG := Lib.hid hg
  have b0 : Below w.heap.size w (w.alloc (.cells #[.func (.func g) #[] cap] 57)) := (Below.refl _ _).alloc (Nat.le_refl _) _
  have c0 : (w.alloc (.cells #[.func (.func g) #[] cap] 57)).cell? ⟨w.heap.size, 0, none⟩ = some (.func (.func g) #[] cap) := (Blk.new w 57 [.func (.func g) #[] cap]).cell (i := 0) rfl
  have s0 : (w.alloc (.cells #[.func (.func g) #[] cap] 57)).heap.size = w.heap.size + 1 := by simp
  have B0 := Lib.hid b0
  have C0 := Lib.hid c0
  have S0 := Lib.hid s0
  clear hf hf2 hg b0 c0 s0
  go_enter Tryz.func66, Tryz.ntmps66
  go_wp2_with fail
  generalize w.alloc (.cells #[.func (.func g) #[] cap] 57) = w0 at B0 C0 S0 ⊢
  go_loopw [5, 8] (fun v q wr => ∃ k : Nat, k ≤ n ∧ q = .int .i64 k ∧ OwnN wr w0.heap.size v n (fromL f n k) ∧ Below w0.heap.size w0 wr) (fun _ q _ => n - (intOf q).toNat)
  case atStart => exact ⟨0, Nat.zero_le _, rfl, OwnN.nil _ _ _, Below.refl _ _⟩
  case round =>
    obtain ⟨k, hk, rfl, ho, hb⟩ := hrel
    have HO := Lib.hid ho
    have HB := Lib.hid hb
    have hlen := fromL_len f n k
    clear ho hb
    by_cases hlt : k < n
    · have hlt' : (k : Int) < (n : Int) := by omega
      have HN := Lib.hid (fromL_next f n k)
      have HL := Lib.hid (eachL_len (fun s => ((bN (f s) k : Nat) : Int)) (2 ^ n))
      have d1 : (wr.alloc (.cells #[.int .i64 k] 3)).cell? ⟨wr.heap.size, 0, none⟩ = some (.int .i64 k) := (Blk.new wr 3 [.int .i64 k]).cell (i := 0) rfl
      have e1 : Below w0.heap.size w0 (wr.alloc (.cells #[.int .i64 k] 3)) := HB.out.alloc HB.out.size _
      have o1 : OwnN (wr.alloc (.cells #[.int .i64 k] 3)) w0.heap.size (Value.slice none 0 0) n [] := OwnN.nil _ _ _
      have hbel : Below wr.heap.size wr (wr.alloc (.cells #[.int .i64 k] 3)) := (Below.refl _ _).alloc (Nat.le_refl _) _
      have O1 := Lib.hid (HO.out.below hbel (Nat.le_refl _))
      have c3 : (wr.alloc (.cells #[.int .i64 k] 3)).cell? ⟨w.heap.size, 0, none⟩ = some (.func (.func g) #[] cap) := (e1.cell (p := ⟨w.heap.size, 0, none⟩) (by show w.heap.size < w0.heap.size; rw [S0.out]; omega)).trans C0.out
      have E1 := Lib.hid e1
      have D1 := Lib.hid d1
      have C3 := Lib.hid c3
      have HE := Lib.hid (fun (W1 : World) (q : Nat) (E1 : Below w0.heap.size w0 W1) (D1 : W1.cell? ⟨q, 0, none⟩ = some (.int .i64 k)) (C3 : W1.cell? ⟨w.heap.size, 0, none⟩ = some (.func (.func g) #[] cap)) =>
        each_ok n hn 96 #[.pointer (some ⟨w.heap.size, 0, none⟩), .pointer (some ⟨q, 0, none⟩)] (fun s => ((bN (f s) k : Nat) : Int)) W1 (fun _ _ => by kernel_rfl)
          (fun s hs W hW => fsClosure_ok s k w.heap.size q g (f s) cap W HG.out (fun W' hW' => HF.out s hs W' (B0.out.trans ((E1.trans ((hW.mono E1.size).trans (hW'.mono (Nat.le_trans E1.size hW.size)))).mono B0.out.size))) (HF2.out s hs) (by omega)
            ((hW.cell (p := ⟨w.heap.size, 0, none⟩) (World.block_lt_of_cell? W1 ⟨w.heap.size, 0, none⟩ C3)).trans C3) ((hW.cell (p := ⟨q, 0, none⟩) (World.block_lt_of_cell? W1 ⟨q, 0, none⟩ D1)).trans D1)))
      have HEk := Lib.hid (HE.out _ _ E1.out D1.out C3.out)
      clear d1 e1 o1 hbel c3 HE
      generalize eachL (fun s => ((bN (f s) k : Nat) : Int)) (2 ^ n) = bs at HN HL HEk
      go_wp2_with fail
      refine HEk.out.mono ?_
      rintro e w5 ⟨rfl, b5⟩
      have C5 := Lib.hid (E1.out.trans (b5.mono E1.out.size))
      have O5 := Lib.hid (O1.out.below b5 (Nat.le_refl _))
      clear b5
      go_wp2_with (first | (refine wpList_tabSlice rfl _ rfl (n : Int) bs rfl HL.out ?_) | (at_builtin; refine wpList_appN (O5.out.alloc _) HL.out (Blk.new _ _ _) rfl _ _ rfl rfl rfl (by omega) (by have := C5.out.size; simp; omega) ?_; intro v6 w6 o6 g6))
      go_roundw
      case rel => exact ⟨k + 1, by omega, by go_num, by rw [HN.out]; exact o6, (C5.out.alloc C5.out.size _).grown g6 (by have := C5.out.size; simp; omega) (fun j hj => (World.ownsRow.lt O5.out j hj).1)⟩
      case measure => simp [intOf] <;> omega
    · obtain rfl : k = n := by omega
      have hkw : ¬ (k : Int) < (k : Int) := by omega
      go_wp2_with fail
      go_ret
      exact ⟨_, rfl, HO.out.base B0.out.size, B0.out.trans (HB.out.mono B0.out.size)⟩

end Go.Proofs.YtcmjogojlijdgaaGreatDoor
/- Walks: a network as a text, by the program. -/
namespace Go.Proofs.YtcmjogojlijdgaaGreatDoor
open Go.RowKit

/-- The tables of n switches by their values. -/
def tabsL (F : Nat → Nat → Nat) (n k : Nat) : List (List Int) := (List.range k).map fun i => eachL (fun s => ((F i s : Nat) : Int)) (2 ^ n)
theorem tabsL_len (F : Nat → Nat → Nat) (n k : Nat) : (tabsL F n k).length = k := by simp [tabsL]
theorem tabsL_wide (F : Nat → Nat → Nat) (n k : Nat) : W32 (tabsL F n k) := fun bs hb => by
  simp only [tabsL, List.mem_map] at hb
  obtain ⟨i, _, rfl⟩ := hb
  exact eachL_len _ _
theorem tabsL_get (F : Nat → Nat → Nat) (n m k : Nat) (h : k < m) : (tabsL F n m)[k]? = some (eachL (fun s => ((F k s : Nat) : Int)) (2 ^ n)) := by simp [tabsL, h]
/-- The text of one of them. -/
def digF (F : Nat → Nat → Nat) (n k : Nat) : ByteArray := digT ((List.range (2 ^ n)).map fun s => ((F k s : Nat) : Int))
theorem digF_size (F : Nat → Nat → Nat) (n k : Nat) : (digF F n k).size = 2 ^ n := by simp [digF, digT_size]
/-- The text of all. -/
def netT (F : Nat → Nat → Nat) (n : Nat) : ByteArray := joinF (digF F n) ⟨#[44]⟩ n

set_option maxHeartbeats 4000000 in
theorem netText_ok (ao : Option Addr) (n c : Nat) (F : Nat → Nat → Nat) (w : World) (h : RowN w ao n c n (tabsL F n n)) (hn : 1 ≤ n ∧ n ≤ 5) (hF : ∀ k s, k < n → s < 2 ^ n → F k s < 2) :
    Calls Tryz.prog 25 #[.slice ao n c] w fun e w' => e = .returned (.string (netT F n)) ∧ Below w.heap.size w w' := by
  have hp : (2 ^ n : Nat) ≤ 32 := Nat.pow_le_pow_right (n := 2) (by decide) hn.2
  have HT := Lib.hid (fun k (hk : k < n) W => text_ok n (eachL (fun s => ((F k s : Nat) : Int)) (2 ^ n)) hn.2 (eachL_len _ _) (fun j hj => by rw [eachL_get _ _ _ (by omega) hj]; have := hF k j hk hj; omega) W)
  have HB := Lib.hid (fun k (hk : k < n) => bitT_each (fun s => ((F k s : Nat) : Int)) (2 ^ n) hp (fun j => by omega))
  have HEnd : Hid (netT F n = joinF (digF F n) ⟨#[44]⟩ n) := rfl
  have HDz := Lib.hid (fun k => digF_size F n k)
  have HDf : Hid (∀ k, digF F n k = digT ((List.range (2 ^ n)).map fun s => ((F k s : Nat) : Int))) := fun k => rfl
  have HLen := Lib.hid (fun k => eachL_len (fun s => ((F k s : Nat) : Int)) (2 ^ n))
  have HGet := Lib.hid (fun k (hk : k < n) => tabsL_get F n n k hk)
  clear hF
  go_enter Tryz.func25, Tryz.ntmps25
  go_wp2
  go_loopw [3, 8] (fun v q wr => ∃ k : Nat, k ≤ n ∧ q = .int .i64 k ∧ OwnT wr w.heap.size v (listF (digF F n) k) ∧ Below w.heap.size w wr) (fun _ q _ => n - (intOf q).toNat)
  case atStart => exact ⟨0, Nat.zero_le _, rfl, OwnT.nil _ _, Below.refl _ _⟩
  case round =>
    obtain ⟨k, hk, rfl, ho, hb⟩ := hrel
    have HO := Lib.hid ho
    have HBe := Lib.hid hb
    have hlen := listF_len (digF F n) k
    clear ho
    by_cases hlt : k < n
    · obtain ⟨q, o, rfl, hbo⟩ := h.some (by omega)
      have HRg := Lib.hid ((h.below hb (Nat.le_refl _)).range q o rfl k _ (HGet.out k hlt))
      have hlt' : (k : Int) < (n : Int) := by omega
      have HTk := Lib.hid (HT.out k hlt)
      have HTe := HB.out k hlt
      have HL := Lib.hid (HLen.out k)
      have HBn := Lib.hid (Blk.new wr 66 (tabC 0 z32))
      have HN := Lib.hid (listF_next (digF F n) k)
      have hsz := HDz.out k
      have hsz2 : (digF F n k).size ≤ 32 := by omega
      rw [HTe, ← HDf.out k] at HTk
      clear hb h HTe hsz
      generalize eachL (fun s => ((F k s : Nat) : Int)) (2 ^ n) = bs at HRg HTk HL
      generalize digF F n k = dt at HTk HN hsz2
      go_wp2_with (first | (refine wpList_tabLoadAt rfl _ rfl q (o + k * 33) (n : Int) bs rfl HL.out HRg.out ?_) | (refine wpList_tabAlloc rfl rfl ?_) | (refine wpList_tabStore rfl _ _ rfl _ (n : Int) bs rfl rfl HL.out _ _ HBn.out rfl ?_; intro w4 k4 g4 z4; have c4 := Lib.hid ((HBe.out.alloc HBe.out.size _).grown g4 (by have := HBe.out.size; simp; omega) (fun j hj => by cases hj; exact HBe.out.size)); have b4 := Lib.hid (((Below.refl wr.heap.size wr).alloc (Nat.le_refl _) (.cells (tabC 0 z32).toArray 66)).grown g4 (by simp) (fun j hj => by cases hj; exact Nat.le_refl _)); have K4 := Lib.hid k4; clear k4 g4) | (refine wpList_tabLoad rfl _ rfl _ (n : Int) bs rfl HL.out _ K4.out ?_))
      refine (HTk.out _).mono ?_
      rintro e w5 ⟨rfl, b5⟩
      have C5 := Lib.hid (c4.out.trans (b5.mono c4.out.size))
      have O5 := Lib.hid ((HO.out.below b4.out (Nat.le_refl _)).below b5 (Nat.le_refl _))
      have HCe := Lib.hid ((Blk.new w5 9 [.string dt]).cell (i := 0) rfl)
      clear b5
      go_wp2_with (at_builtin; go_must (refine wpList_appT (OwnT.alloc O5.out _) HCe.out rfl _ _ rfl rfl rfl (by omega) (by have := C5.out.size; simp; omega) ?_); intro v6 w6 o6 g6)
      go_roundw
      case rel => exact ⟨k + 1, by omega, by go_num, by rw [HN.out]; exact o6, (C5.out.alloc C5.out.size _).grown g6 (by have := C5.out.size; simp; omega) (fun j hj => (World.ownsRow.lt O5.out j hj).1)⟩
      case measure => simp [intOf] <;> omega
    · obtain rfl : k = n := by omega
      obtain ⟨a, cp, rfl, q⟩ := HO.out.row
      rw [hlen] at q ⊢
      obtain ⟨bk, off, rfl, hbk⟩ := q.2.some (by omega)
      have hz := joinF_size (digF F k) ⟨#[44]⟩ 32 (by decide) (fun i => by rw [HDz.out i]; exact hp) k
      have hz2 : k * (32 + 1) ≤ 5 * (32 + 1) := Nat.mul_le_mul_right _ hn.2
      have HJ := Lib.hid (Tryz.strings_Join bk off cp (listF (digF F k) k) ⟨#[44]⟩ wr (fun j x hj => by
        have hjl : j < (listF (digF F k) k).length := (List.getElem?_eq_some_iff.1 hj).1
        rw [q.2.cell bk off rfl j (by omega)]
        have := gT_lt hjl
        rw [hj] at this
        cases this
        rfl) hbk (by omega) (by rw [hlen]; exact q.2.le) (by rw [join_len _ _ _ (by omega)]; omega))
      rw [hlen, join_eq _ _ _ (by omega), ← HEnd.out] at HJ
      clear q hz hz2 hlen h
      go_wp2_with fail
      refine HJ.out.mono ?_
      rintro e w1 ⟨rfl, b1⟩
      go_wp2_with fail
      go_ret
      exact ⟨rfl, HBe.out.trans (b1.mono HBe.out.size)⟩

end Go.Proofs.YtcmjogojlijdgaaGreatDoor
