/- Walks: tables and networks that are drawn. -/
import Derived.Test.YtlfeipibhdggcaaR2
import Derived.Test.YtlfeipibhdggcaaTx
import Derived.Test.YtlfeipibhdggcaaN3
import Derived.Test.YtlfeipibhdggcaaM4
namespace Go.Proofs.Ytlfeipibhdggcaa
open Go.RowKit

/-- What lay below B is as it was, but for the source. -/
structure DrB (g B : Nat) (w w' : World) : Prop where
  os : w'.os = w.os
  tape : w'.tape = w.tape
  output : w'.output = w.output
  size : w.heap.size ≤ w'.heap.size
  block : ∀ i, i < B → i ≠ g → w'.heap[i]? = w.heap[i]?
theorem DrB.refl (g B : Nat) (w : World) : DrB g B w w := ⟨rfl, rfl, rfl, Nat.le_refl _, fun _ _ _ => rfl⟩
theorem DrB.trans {g B : Nat} {w w1 w2 : World} (h : DrB g B w w1) (k : DrB g B w1 w2) : DrB g B w w2 := ⟨k.os.trans h.os, k.tape.trans h.tape, k.output.trans h.output, Nat.le_trans h.size k.size, fun i a b => (k.block i a b).trans (h.block i a b)⟩
theorem DrB.mono {g B C : Nat} {w w' : World} (h : DrB g C w w') (hB : B ≤ C) : DrB g B w w' := ⟨h.os, h.tape, h.output, h.size, fun i a b => h.block i (by omega) b⟩
theorem DrB.ofB {g B : Nat} {w w' : World} (h : Below B w w') : DrB g B w w' := ⟨h.os, h.tape, h.output, h.size, fun i a _ => h.block i a⟩
theorem DrB.ofG {g : Nat} {w w' : World} (h : w.grownBy w' (some g)) : DrB g w.heap.size w w' := ⟨h.os, h.tape, h.output, h.size, fun i a b => h.block i a (fun e => b (Option.some.inj e))⟩
theorem DrB.grown {g B : Nat} {a w w' : World} {row : Option Nat} (h : DrB g B a w) (hg : w.grownBy w' row) (hB : B ≤ w.heap.size) (hr : ∀ k, row = some k → B ≤ k) : DrB g B a w' :=
  h.trans ⟨hg.os, hg.tape, hg.output, hg.size, fun i x _ => hg.block i (by omega) (fun e => by have := hr i (by rw [e]); omega)⟩
theorem DrB.alloc {g B : Nat} {a w : World} (h : DrB g B a w) (hB : B ≤ w.heap.size) (o : Obj) : DrB g B a (w.alloc o) := h.trans (DrB.ofB ((Below.refl B w).alloc hB o))
theorem DrB.below {g B : Nat} {w w' : World} (h : DrB g B w w') (hg : B ≤ g) : Below B w w' := ⟨h.os, h.tape, h.output, h.size, fun i a => h.block i a (by omega)⟩
theorem OwnI.dr {w w' : World} {B g C : Nat} {v : Value} {zs : List Int} (h : OwnI w B v zs) (hb : DrB g C w w') (hC : w.heap.size ≤ C) (hg : g < B) : OwnI w' B v zs := by
  obtain ⟨h0, h1 | ⟨q, cap, cur, e, hq, hh, h2⟩⟩ := h
  · exact ⟨h0, .inl h1⟩
  · exact ⟨h0, .inr ⟨q, cap, cur, e, hq, by rw [hb.block q (by have := lt_of_block hh; omega) (by omega)]; exact hh, h2⟩⟩
theorem OwnT.dr {w w' : World} {B g C : Nat} {v : Value} {ts : List ByteArray} (h : OwnT w B v ts) (hb : DrB g C w w') (hC : w.heap.size ≤ C) (hg : g < B) : OwnT w' B v ts := by
  obtain ⟨h0, h1 | ⟨q, cap, cur, e, hq, hh, h2⟩⟩ := h
  · exact ⟨h0, .inl h1⟩
  · exact ⟨h0, .inr ⟨q, cap, cur, e, hq, by rw [hb.block q (by have := lt_of_block hh; omega) (by omega)]; exact hh, h2⟩⟩

/-- A text of n inputs' digits. -/
def DT (n : Nat) (t : ByteArray) : Prop := digB t = true ∧ t.size = 2 ^ n
def bitsL (zs : List Int) : Prop := ∀ i, i < zs.length → gI zs i = 0 ∨ gI zs i = 1
theorem bitsL.nil : bitsL [] := fun i h => absurd h (by simp)
theorem bitsL.snoc {zs : List Int} {v : Int} (h : bitsL zs) (hv : v = 0 ∨ v = 1) : bitsL (zs ++ [v]) := fun i hi => by
  by_cases e : i < zs.length
  · have : gI (zs ++ [v]) i = gI zs i := by rw [gI, gI, List.getD_eq_getElem?_getD, List.getElem?_append_left e, ← List.getD_eq_getElem?_getD]
    rw [this]; exact h i e
  · have e2 : i = zs.length := by simp at hi; omega
    have : gI (zs ++ [v]) i = v := by simp [gI, List.getD, e2]
    rw [this]; exact hv
theorem digT_dig {zs : List Int} (h : bitsL zs) : digB (digT zs) = true := by
  rw [digB, List.all_eq_true]
  intro b hb
  simp only [digT] at hb
  obtain ⟨v, hv, rfl⟩ := List.mem_map.1 hb
  obtain ⟨i, hi, rfl⟩ := List.getElem_of_mem hv
  rw [gI_eq hi]
  rcases h i hi with e | e <;> rw [e] <;> rfl

/-- A text is drawn. -/
def TextP (g P : Nat) (Q : ByteArray → Prop) (w : World) (e : Ending) (w' : World) : Prop := ∃ t, e = .returned (.string t) ∧ Q t ∧ Rd w' g P ∧ DrB g w.heap.size w w'

theorem OwnI.oneApp {w w' : World} {B g P : Nat} {v : Value} {zs : List Int} {x : Int} {t : TypeId} (h : OwnI w B v zs) (hg : g < B) (hr : Rd w g P) (g5 : (w.alloc (.cells #[.int .i64 x] t)).grownBy w' v.ownBlock) : Rd w' g P :=
  (hr.below ((Below.refl _ _).alloc (Nat.le_refl _) _) (Nat.le_refl _)).grown g5 (fun j hj => by have := (World.ownsRow.lt h j hj).1; omega)

set_option maxHeartbeats 8000000 in
theorem l1Draw_ok (g P n : Nat) (w : World) (h : Rd w g P) (hn : 1 ≤ n ∧ n ≤ 5) (hP : P ≤ 900000) :
    Calls Try.prog 67 #[.pointer (some ⟨g, 0, none⟩), .int .i64 n] w (TextP g (P + 40) (DT n) w) := by
  have hgw := h.lt
  have hp : (2 ^ n : Nat) ≤ 32 := Nat.pow_le_pow_right (n := 2) (by decide) hn.2
  have hpw : wrap64 (2 ^ n) = ((2 ^ n : Nat) : Int) := wrap_pow_nat n (by omega)
  have HD : Hid (∀ zs, zs.length = 2 ^ n → bitsL zs → DT n (digT zs)) := fun zs h1 h2 => ⟨digT_dig h2, by rw [digT_size, h1]⟩
  generalize (2 ^ n : Nat) = N at hp hpw HD
  have HK := Lib.hid (fun Q m W (h : Rd W g Q) (hQ : Q ≤ 1000000) (hm : m ≤ 1048576) => pick_ok g Q m W h hQ hm)
  have b0 : Below w.heap.size w (w.alloc (.cells #[] 3)) := (Below.refl _ _).alloc (Nat.le_refl _) _
  have R0 := Lib.hid (h.below b0 (Nat.le_refl _))
  have D0 := Lib.hid (DrB.ofB (g := g) b0)
  have O0 := Lib.hid (OwnI.lit w w.heap.size [] (Nat.le_refl _) (by decide))
  have hs0 : (w.alloc (.cells #[] 3)).heap.size = w.heap.size + 1 := by simp
  clear h b0
  go_enter Try.func67, Try.ntmps67
  go_wp2_with fail
  refine (HK.out P n _ R0.out (by omega) (by omega)).mono ?_
  rintro e w1 ⟨a, rfl, ha, r1, g1⟩
  have R1 := Lib.hid r1
  have D1 := Lib.hid (D0.out.trans ((DrB.ofG g1).mono (by rw [hs0]; omega)))
  have O1 := Lib.hid (O0.out.dr (DrB.ofG g1) (Nat.le_refl _) hgw)
  clear r1 g1
  go_wp2_with fail
  refine (HK.out (P + 1) n _ R1.out (by omega) (by omega)).mono ?_
  rintro e w2 ⟨b, rfl, hb, r2, g2⟩
  have R2 := Lib.hid r2
  have D2 := Lib.hid (D1.out.trans ((DrB.ofG g2).mono D1.out.size))
  have O2 := Lib.hid (O1.out.dr (DrB.ofG g2) (Nat.le_refl _) hgw)
  clear r2 g2
  go_wp2_with fail
  refine (HK.out (P + 2) 7 _ R2.out (by omega) (by omega)).mono ?_
  rintro e w3 ⟨kd, rfl, hk, r3, g3⟩
  have R3 := Lib.hid r3
  have D3 := Lib.hid (D2.out.trans ((DrB.ofG g3).mono D2.out.size))
  have O3 := Lib.hid (O2.out.dr (DrB.ofG g3) (Nat.le_refl _) hgw)
  clear r3 g3
  go_wp2_with fail
  refine (HK.out (P + 3) 2 _ R3.out (by omega) (by omega)).mono ?_
  rintro e w4 ⟨sg, rfl, hsg, r4, g4⟩
  have R4 := Lib.hid r4
  have D4 := Lib.hid (D3.out.trans ((DrB.ofG g4).mono D3.out.size))
  have O4 := Lib.hid (O3.out.dr (DrB.ofG g4) (Nat.le_refl _) hgw)
  clear r4 g4 hs0
  have hsg2 : sg < 2 := by omega
  go_wp2_with fail
  go_loopw [5, 10] (fun v q wr => ∃ (k : Nat) (zs : List Int), k ≤ N ∧ q = .int .i64 k ∧ zs.length = k ∧ OwnI wr w.heap.size v zs ∧ bitsL zs ∧ Rd wr g (P + 4 + k) ∧ DrB g w.heap.size w wr) (fun _ q _ => N - (intOf q).toNat)
  case atStart => exact ⟨0, [], Nat.zero_le _, rfl, rfl, O4.out, bitsL.nil, R4.out, D4.out⟩
  case round =>
    obtain ⟨k, zs, hk, rfl, hl, ho, hbl, hr, hd⟩ := hrel
    have HO := Lib.hid ho
    have HBl := Lib.hid hbl
    have HR := Lib.hid hr
    have HDr := Lib.hid hd
    have HL := Lib.hid hl
    clear ho hbl hr hd hl
    by_cases hkN : k < N
    · have hkw : (k : Int) < (N : Int) := by omega
      have hx : bits .xor .i64 ((bN k a : Nat) : Int) (sg : Int) = ((bN k a ^^^ sg : Nat) : Int) := xor_nat _ _ (by have := bN_lt k a; omega) (by omega)
      have hx2 : bN k a ^^^ sg < 2 := Nat.xor_lt_two_pow (n := 1) (bN_lt k a) hsg2
      have hy2 := bN_lt k b
      have hBa := Lib.hid (fun W => l1Bit_ok (k : Int) (a : Int) W (by omega) (by omega) (by omega) (by omega))
      have hBb := Lib.hid (fun W => l1Bit_ok (k : Int) (b : Int) W (by omega) (by omega) (by omega) (by omega))
      rw [Int.toNat_natCast, Int.toNat_natCast] at hBa hBb
      generalize bN k a = xa at hx hx2 hBa
      generalize bN k b = y at hy2 hBb
      generalize xa ^^^ sg = x at hx hx2
      have fin : ∀ (v' : Value) (w' W : World) (v : Nat) (vv : Value) (Q : Nat), v < 2 → OwnI W w.heap.size vv zs → Rd W g Q → Q ≤ P + 4 + k + 1 → DrB g w.heap.size w W → OwnI w' w.heap.size v' (zs ++ [(v : Int)]) → (W.alloc (.cells #[.int .i64 v] 3)).grownBy w' vv.ownBlock →
          (zs ++ [(v : Int)]).length = k + 1 ∧ OwnI w' w.heap.size v' (zs ++ [(v : Int)]) ∧ bitsL (zs ++ [(v : Int)]) ∧ Rd w' g (P + 4 + (k + 1)) ∧ DrB g w.heap.size w w' := fun v' w' W v vv Q hv hO hR hQ hD o5 g5 =>
        ⟨by simp [HL.out], o5, HBl.out.snoc (by omega), (hO.oneApp hgw hR g5).more (by omega), (hD.alloc hD.size _).grown g5 (by have := hD.size; simp; omega) (fun j hj => (World.ownsRow.lt hO j hj).1)⟩
      have HF := Lib.hid fin
      clear fin
      by_cases k0 : kd = 0
      · have t0 : ((kd : Int) == 0) = true := by rw [k0]; rfl
        clear hk k0
        go_wp2_with fail
        refine (hBa.out _).mono ?_
        rintro e w5 ⟨rfl, rfl⟩
        go_wp2_with fail
        refine (hBb.out _).mono ?_
        rintro e w5 ⟨rfl, rfl⟩
        go_wp2_with (at_builtin; refine wpList_appI (OwnI.alloc HO.out _) (RowI.one _ _) rfl _ _ rfl rfl rfl (by have := HL.out; omega) (by have := HDr.out.size; simp; omega) ?_; intro v6 w6 o6 g6)
        go_roundw
        case rel => exact ⟨k + 1, _, by omega, by go_num, HF.out _ _ _ x _ _ hx2 HO.out HR.out (by omega) HDr.out o6 g6⟩
        case measure => simp [intOf] <;> omega
      by_cases k1 : kd = 1
      · have t0 : ((kd : Int) == 0) = false := by rw [k1]; rfl
        have t1 : ((kd : Int) == 1) = true := by rw [k1]; rfl
        clear hk k1
        have hv : bits .and .i64 (x : Int) (y : Int) = ((x &&& y : Nat) : Int) := and_nat _ _ (by omega) (by omega)
        have hv2 : x &&& y < 2 := Nat.lt_of_le_of_lt Nat.and_le_left hx2
        generalize (x &&& y : Nat) = z at hv hv2
        go_wp2_with fail
        refine (hBa.out _).mono ?_
        rintro e w5 ⟨rfl, rfl⟩
        go_wp2_with fail
        refine (hBb.out _).mono ?_
        rintro e w5 ⟨rfl, rfl⟩
        go_wp2_with (at_builtin; refine wpList_appI (OwnI.alloc HO.out _) (RowI.one _ _) rfl _ _ rfl rfl rfl (by have := HL.out; omega) (by have := HDr.out.size; simp; omega) ?_; intro v6 w6 o6 g6)
        go_roundw
        case rel => exact ⟨k + 1, _, by omega, by go_num, HF.out _ _ _ z _ _ hv2 HO.out HR.out (by omega) HDr.out o6 g6⟩
        case measure => simp [intOf] <;> omega
      by_cases k2 : kd = 2
      · have t0 : ((kd : Int) == 0) = false := by rw [k2]; rfl
        have t1 : ((kd : Int) == 1) = false := by rw [k2]; rfl
        have t2 : ((kd : Int) == 2) = true := by rw [k2]; rfl
        clear hk k2
        have hv : bits .or .i64 (x : Int) (y : Int) = ((x ||| y : Nat) : Int) := or_nat _ _ (by omega) (by omega)
        have hv2 : x ||| y < 2 := Nat.or_lt_two_pow (n := 1) hx2 hy2
        generalize (x ||| y : Nat) = z at hv hv2
        go_wp2_with fail
        refine (hBa.out _).mono ?_
        rintro e w5 ⟨rfl, rfl⟩
        go_wp2_with fail
        refine (hBb.out _).mono ?_
        rintro e w5 ⟨rfl, rfl⟩
        go_wp2_with (at_builtin; refine wpList_appI (OwnI.alloc HO.out _) (RowI.one _ _) rfl _ _ rfl rfl rfl (by have := HL.out; omega) (by have := HDr.out.size; simp; omega) ?_; intro v6 w6 o6 g6)
        go_roundw
        case rel => exact ⟨k + 1, _, by omega, by go_num, HF.out _ _ _ z _ _ hv2 HO.out HR.out (by omega) HDr.out o6 g6⟩
        case measure => simp [intOf] <;> omega
      by_cases k3 : kd = 3
      · have t0 : ((kd : Int) == 0) = false := by rw [k3]; rfl
        have t1 : ((kd : Int) == 1) = false := by rw [k3]; rfl
        have t2 : ((kd : Int) == 2) = false := by rw [k3]; rfl
        have t3 : ((kd : Int) == 3) = true := by rw [k3]; rfl
        clear hk k3
        have hv : bits .xor .i64 (x : Int) (y : Int) = ((x ^^^ y : Nat) : Int) := xor_nat _ _ (by omega) (by omega)
        have hv2 : x ^^^ y < 2 := Nat.xor_lt_two_pow (n := 1) hx2 hy2
        generalize (x ^^^ y : Nat) = z at hv hv2
        go_wp2_with fail
        refine (hBa.out _).mono ?_
        rintro e w5 ⟨rfl, rfl⟩
        go_wp2_with fail
        refine (hBb.out _).mono ?_
        rintro e w5 ⟨rfl, rfl⟩
        go_wp2_with (at_builtin; refine wpList_appI (OwnI.alloc HO.out _) (RowI.one _ _) rfl _ _ rfl rfl rfl (by have := HL.out; omega) (by have := HDr.out.size; simp; omega) ?_; intro v6 w6 o6 g6)
        go_roundw
        case rel => exact ⟨k + 1, _, by omega, by go_num, HF.out _ _ _ z _ _ hv2 HO.out HR.out (by omega) HDr.out o6 g6⟩
        case measure => simp [intOf] <;> omega
      by_cases k4 : kd = 4
      · have t0 : ((kd : Int) == 0) = false := by rw [k4]; rfl
        have t1 : ((kd : Int) == 1) = false := by rw [k4]; rfl
        have t2 : ((kd : Int) == 2) = false := by rw [k4]; rfl
        have t3 : ((kd : Int) == 3) = false := by rw [k4]; rfl
        have t4 : ((kd : Int) == 4) = true := by rw [k4]; rfl
        clear hk k4
        go_wp2_with fail
        refine (hBa.out _).mono ?_
        rintro e w5 ⟨rfl, rfl⟩
        go_wp2_with fail
        refine (hBb.out _).mono ?_
        rintro e w5 ⟨rfl, rfl⟩
        go_wp2_with (at_builtin; refine wpList_appI (OwnI.alloc HO.out _) (RowI.one _ _) rfl _ _ rfl rfl rfl (by have := HL.out; omega) (by have := HDr.out.size; simp; omega) ?_; intro v6 w6 o6 g6)
        go_roundw
        case rel => exact ⟨k + 1, _, by omega, by go_num, HF.out _ _ _ sg _ _ hsg2 HO.out HR.out (by omega) HDr.out o6 g6⟩
        case measure => simp [intOf] <;> omega
      · have t0 : ((kd : Int) == 0) = false := by rw [beq_eq_false_iff_ne]; omega
        have t1 : ((kd : Int) == 1) = false := by rw [beq_eq_false_iff_ne]; omega
        have t2 : ((kd : Int) == 2) = false := by rw [beq_eq_false_iff_ne]; omega
        have t3 : ((kd : Int) == 3) = false := by rw [beq_eq_false_iff_ne]; omega
        have t4 : ((kd : Int) == 4) = false := by rw [beq_eq_false_iff_ne]; omega
        clear hk k0 k1 k2 k3 k4
        go_wp2_with fail
        refine (hBa.out _).mono ?_
        rintro e w5 ⟨rfl, rfl⟩
        go_wp2_with fail
        refine (hBb.out _).mono ?_
        rintro e w5 ⟨rfl, rfl⟩
        go_wp2_with fail
        refine (HK.out _ 2 _ HR.out (by omega) (by omega)).mono ?_
        rintro e w5 ⟨z, rfl, hz, r5, g5⟩
        have hz2 : z < 2 := by omega
        have R5 := Lib.hid r5
        have D5 := Lib.hid (HDr.out.trans ((DrB.ofG g5).mono HDr.out.size))
        have O5 := Lib.hid (HO.out.dr (DrB.ofG g5) (Nat.le_refl _) hgw)
        clear r5 g5 hz
        go_wp2_with (at_builtin; refine wpList_appI (OwnI.alloc O5.out _) (RowI.one _ _) rfl _ _ rfl rfl rfl (by have := HL.out; omega) (by have := D5.out.size; simp; omega) ?_; intro v6 w6 o6 g6)
        go_roundw
        case rel => exact ⟨k + 1, _, by omega, by go_num, HF.out _ _ _ z _ _ hz2 O5.out R5.out (by omega) D5.out o6 g6⟩
        case measure => simp [intOf] <;> omega
    · obtain rfl : k = N := by omega
      obtain ⟨ao, c, rfl, q⟩ := HO.out.out
      have hlk := HL.out
      have HT := Lib.hid (l1Text_ok ao _ c zs wr q.rowI HBl.out (by omega))
      have HDT := Lib.hid (HD.out zs HL.out HBl.out)
      rw [hlk] at HT ⊢
      clear q hlk
      go_wp2_with fail
      refine HT.out.mono ?_
      rintro e w5 ⟨rfl, b5⟩
      have R5 := Lib.hid (HR.out.below b5 (Nat.le_refl _))
      have D5 := Lib.hid (HDr.out.trans ((DrB.ofB b5).mono HDr.out.size))
      clear b5
      go_wp2_with fail
      go_ret
      exact ⟨_, rfl, HDT.out, R5.out.more (by omega), D5.out⟩

end Go.Proofs.Ytlfeipibhdggcaa
