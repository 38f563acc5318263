/- Walks: networks that are drawn. -/
import Derived.Test.YtlfeipibhdggcaaR4
import Derived.Deep.RegionHeld3
namespace Go.Proofs.Ytlfeipibhdggcaa
open Go.RowKit

theorem OwnT.oneApp {w w' : World} {B g P : Nat} {v : Value} {zs : List ByteArray} {x : ByteArray} {t : TypeId} (h : OwnT w B v zs) (hg : g < B) (hr : Rd w g P) (g5 : (w.alloc (.cells #[.string x] t)).grownBy w' v.ownBlock) : Rd w' g P :=
  (hr.below ((Below.refl _ _).alloc (Nat.le_refl _) _) (Nat.le_refl _)).grown g5 (fun j hj => by have := (World.ownsRow.lt h j hj).1; omega)
def allDT (n : Nat) (ts : List ByteArray) : Prop := ∀ i, i < ts.length → DT n (gT ts i)
theorem allDT.nil (n : Nat) : allDT n [] := fun i h => absurd h (by simp)
theorem allDT.snoc {n : Nat} {ts : List ByteArray} {v : ByteArray} (h : allDT n ts) (hv : DT n v) : allDT n (ts ++ [v]) := fun i hi => by
  by_cases e : i < ts.length
  · have : gT (ts ++ [v]) i = gT ts i := by rw [gT, gT, List.getD_eq_getElem?_getD, List.getElem?_append_left e, ← List.getD_eq_getElem?_getD]
    rw [this]; exact h i e
  · have e2 : i = ts.length := by simp at hi; omega
    have : gT (ts ++ [v]) i = v := by simp [gT, List.getD, e2]
    rw [this]; exact hv
theorem RowT.ofBlk {w : World} {g : Nat} {t : TypeId} {ts : List ByteArray} (h : Blk w g t (strs ts)) (hm : ts.length ≤ maxLen) : RowT w (some ⟨g, 0, none⟩) ts.length ts.length ts :=
  ⟨rfl, Nat.le_refl _, hm, fun e => (by cases e), fun _ => ⟨g, 0, rfl, h.lt⟩, fun b o e i hi => by
    cases e
    rw [Nat.zero_add]
    exact h.cell (strs_get ts i hi)⟩
/-- A text that is neither empty nor long. -/
def Wt (M : Nat) (t : ByteArray) : Prop := 1 ≤ t.size ∧ t.size ≤ M
theorem gT_out {ts : List ByteArray} {i : Nat} (h : ¬ i < ts.length) : gT ts i = ⟨#[]⟩ := by
  rw [gT, List.getD_eq_getElem?_getD, List.getElem?_eq_none (by omega)]; rfl
theorem allDT.size {n : Nat} {ts : List ByteArray} (h : allDT n ts) (hn : n ≤ 5) (i : Nat) : (gT ts i).size ≤ 32 := by
  by_cases e : i < ts.length
  · rw [(h i e).2]; exact Nat.pow_le_pow_right (n := 2) (by decide) hn
  · rw [gT_out e]; exact Nat.zero_le _
theorem joinF_pos (f : Nat → ByteArray) (sep : ByteArray) (h : 0 < (f 0).size) : ∀ k, 0 < k → 0 < (joinF f sep k).size
  | 1, _ => by rw [joinF_one, ByteArray.size_append]; omega
  | k + 2, _ => by
    have := joinF_pos f sep h (k + 1) (by omega)
    rw [joinF_next f sep (k + 1) (by omega), ByteArray.size_append, ByteArray.size_append]
    omega
theorem join_wt {n : Nat} {ts : List ByteArray} (h : allDT n ts) (hn : n ≤ 5) (h0 : 0 < ts.length) (h5 : ts.length ≤ 5) : Wt 165 (joinF (gT ts) ⟨#[44]⟩ ts.length) := by
  refine ⟨joinF_pos _ _ (by rw [(h 0 h0).2]; exact Nat.two_pow_pos n) _ h0, ?_⟩
  have := joinF_size (gT ts) ⟨#[44]⟩ 32 (by decide) (fun i => h.size hn i) ts.length
  have : ts.length * (32 + 1) ≤ 5 * (32 + 1) := Nat.mul_le_mul_right _ h5
  omega

set_option maxHeartbeats 2000000 in
theorem l3Draw_ok (g P n : Nat) (w : World) (h : Rd w g P) (hn : 1 ≤ n ∧ n ≤ 5) (hP : P ≤ 800000) :
    Calls Try.prog 62 #[.pointer (some ⟨g, 0, none⟩), .int .i64 n] w (TextP g (P + 200) (Wt 165) w) := by
  have hgw := h.lt
  have HK := Lib.hid (fun Q W (h : Rd W g Q) (hQ : Q ≤ 900000) => l1Draw_ok g Q n W h hn hQ)
  have b0 : Below w.heap.size w (w.alloc (.cells #[] 9)) := (Below.refl _ _).alloc (Nat.le_refl _) _
  have R0 := Lib.hid (h.below b0 (Nat.le_refl _))
  have D0 := Lib.hid (DrB.ofB (g := g) b0)
  have O0 := Lib.hid (OwnT.lit w w.heap.size [] (Nat.le_refl _) (by decide))
  clear h b0
  go_enter Try.func62, Try.ntmps62
  go_wp2_with fail
  go_loopw [5, 6] (fun v q wr => ∃ (k : Nat) (ts : List ByteArray), k ≤ n ∧ q = .int .i64 k ∧ ts.length = k ∧ OwnT wr w.heap.size v ts ∧ allDT n ts ∧ Rd wr g (P + 40 * k) ∧ DrB g w.heap.size w wr) (fun _ q _ => n - (intOf q).toNat)
  case atStart => exact ⟨0, [], Nat.zero_le _, rfl, rfl, O0.out, allDT.nil n, R0.out, D0.out⟩
  case round =>
    obtain ⟨k, ts, hk, rfl, hl, ho, hbl, hr, hd⟩ := hrel
    have HO := Lib.hid ho
    have HBl := Lib.hid hbl
    have HR := Lib.hid hr
    have HDr := Lib.hid hd
    have HL := Lib.hid hl
    clear ho hbl hr hd hl
    by_cases hkN : k < n
    · have hkw : (k : Int) < (n : Int) := by omega
      go_wp2_with fail
      refine (HK.out _ _ HR.out (by omega)).mono ?_
      rintro e w5 ⟨t, rfl, ht, r5, d5⟩
      have HT := Lib.hid ht
      have hz : t.size ≤ 32 := by rw [ht.2]; exact Nat.pow_le_pow_right (n := 2) (by decide) hn.2
      have R5 := Lib.hid r5
      have O5 := Lib.hid (HO.out.dr d5 (Nat.le_refl _) hgw)
      have D5 := Lib.hid (HDr.out.trans (d5.mono HDr.out.size))
      have HCe := Lib.hid (fun (W : World) => (Blk.new W 9 [.string t]).cell (i := 0) rfl)
      clear ht r5 d5
      go_wp2_with (at_builtin; refine wpList_appT (OwnT.alloc O5.out _) (HCe.out _) rfl _ _ rfl rfl rfl (by have := HL.out; omega) (by have := D5.out.size; simp; omega) ?_; intro v6 w6 o6 g6)
      go_roundw
      case rel => exact ⟨k + 1, _, by omega, by go_num, by simp [HL.out], o6, HBl.out.snoc HT.out, (O5.out.oneApp hgw R5.out g6).more (by omega), (D5.out.alloc D5.out.size _).grown g6 (by have := D5.out.size; simp; omega) (fun j hj => (World.ownsRow.lt O5.out j hj).1)⟩
      case measure => simp [intOf] <;> omega
    · obtain rfl : k = n := by omega
      obtain ⟨ao, c, rfl, q⟩ := HO.out.row
      have hlk := HL.out
      have HT := Lib.hid (l3Text_ok ao _ c ts (gT ts) wr q (fun _ _ => rfl) (fun i => Nat.le_trans (HBl.out.size hn.2 i) (by decide)) (by omega))
      have HW := Lib.hid (join_wt HBl.out hn.2 (by omega) (by omega))
      rw [hlk] at HT HW ⊢
      clear q hlk
      go_wp2_with fail
      refine HT.out.mono ?_
      rintro e w5 ⟨rfl, rfl⟩
      go_wp2_with fail
      go_ret
      exact ⟨_, rfl, HW.out, HR.out.more (by omega), HDr.out⟩

theorem of_three {x : Nat} (hx : x < [(⟨#[]⟩ : ByteArray), ⟨#[44]⟩, ⟨#[50]⟩].length) : (gT [⟨#[]⟩, ⟨#[44]⟩, ⟨#[50]⟩] x).size ≤ 1 := by
  have : x = 0 ∨ x = 1 ∨ x = 2 := by simp at hx; omega
  rcases this with rfl | rfl | rfl <;> decide
/-- A short text. -/
def Short (M : Nat) (t : ByteArray) : Prop := t.size ≤ M
set_option maxHeartbeats 4000000 in
theorem l3Bad_ok (g P : Nat) (t : ByteArray) (w : World) (h : Rd w g P) (ht : Wt 165 t) (hP : P ≤ 900000) :
    Calls Try.prog 57 #[.pointer (some ⟨g, 0, none⟩), .string t] w (TextP g (P + 3) (Short 200) w) := by
  have hgw := h.lt
  have HK := Lib.hid (fun Q m W (h : Rd W g Q) (hQ : Q ≤ 1000000) (hm : m ≤ 1048576) => pick_ok g Q m W h hQ hm)
  have HOf := Lib.hid (fun Q n (ts : List ByteArray) W q (h : Rd W g Q) (hW : Blk W q 9 (strs ts)) (hq : q ≠ g) (hn : ts.length = n) (hn0 : 0 < n) (hn1 : n ≤ 100) (hQ : Q ≤ 1000000) => of_ok g Q n n (some ⟨q, 0, none⟩) ts W h (by subst hn; exact RowT.ofBlk hW (by unfold maxLen; omega)) hn0 (by omega) (fun a e => by cases e; exact hq) hQ)
  have R0 := Lib.hid h
  have hz1 := ht.1
  have hz2 := ht.2
  clear h ht
  go_enter Try.func57, Try.ntmps57
  go_wp2_with fail
  refine (HK.out P 30 _ R0.out (by omega) (by omega)).mono ?_
  rintro e w1 ⟨a, rfl, ha, r1, g1⟩
  have R1 := Lib.hid r1
  have D1 := Lib.hid (DrB.ofG g1)
  clear r1 g1
  by_cases a0 : a = 0
  · have t0 : ((a : Int) == 0) = true := by rw [a0]; rfl
    have hb : Blk (w1.alloc (.cells (strs [⟨#[44]⟩, ⟨#[48]⟩, ⟨#[44, 48, 49]⟩, ⟨#[120]⟩]).toArray 9)) w1.heap.size 9 (strs [⟨#[44]⟩, ⟨#[48]⟩, ⟨#[44, 48, 49]⟩, ⟨#[120]⟩]) := Blk.new _ _ _
    have bb : Below w1.heap.size w1 (w1.alloc (.cells (strs [⟨#[44]⟩, ⟨#[48]⟩, ⟨#[44, 48, 49]⟩, ⟨#[120]⟩]).toArray 9)) := (Below.refl _ _).alloc (Nat.le_refl _) _
    have HX := Lib.hid (HOf.out (P + 1) 4 _ _ _ (R1.out.below bb (Nat.le_refl _)) hb (by have := R1.out.lt; omega) rfl (by omega) (by omega) (by omega))
    have D2 := Lib.hid (D1.out.trans (DrB.ofB (g := g) (bb.mono D1.out.size)))
    have hs := bb.size
    clear hb bb a0 ha
    go_wp2_with fail
    refine HX.out.mono ?_
    rintro e w3 ⟨x, hx, rfl, r3, g3⟩
    have hxs : (gT [⟨#[44]⟩, ⟨#[48]⟩, ⟨#[44, 48, 49]⟩, ⟨#[120]⟩] x).size ≤ 3 := by
      have : x = 0 ∨ x = 1 ∨ x = 2 ∨ x = 3 := by simp at hx; omega
      rcases this with rfl | rfl | rfl | rfl <;> decide
    generalize gT [⟨#[44]⟩, ⟨#[48]⟩, ⟨#[44, 48, 49]⟩, ⟨#[120]⟩] x = u at hxs
    have R3 := Lib.hid r3
    have D3 := Lib.hid (D2.out.trans ((DrB.ofG g3).mono D2.out.size))
    clear r3 g3 hx
    go_wp2_with fail
    go_ret
    exact ⟨_, rfl, by unfold Short; rw [ByteArray.size_append]; omega, R3.out.more (by omega), D3.out⟩
  · have t0 : ((a : Int) == 0) = false := by rw [beq_eq_false_iff_ne]; omega
    by_cases a1 : a = 1
    · have t1 : ((a : Int) == 1) = true := by rw [a1]; rfl
      clear a0 a1 ha
      go_wp2_with fail
      refine (HK.out (P + 1) t.size _ R1.out (by omega) (by omega)).mono ?_
      rintro e w2 ⟨k, rfl, hk, r2, g2⟩
      have hk2 : k < t.size := by omega
      have R2 := Lib.hid r2
      have D2 := Lib.hid (D1.out.trans ((DrB.ofG g2).mono D1.out.size))
      clear r2 g2 hk
      have hb : Blk (w2.drew.alloc (.cells (strs [⟨#[]⟩, ⟨#[44]⟩, ⟨#[50]⟩]).toArray 9)) w2.heap.size 9 (strs [⟨#[]⟩, ⟨#[44]⟩, ⟨#[50]⟩]) := Blk.new w2.drew _ _
      have bb : Below w2.heap.size w2 (w2.drew.alloc (.cells (strs [⟨#[]⟩, ⟨#[44]⟩, ⟨#[50]⟩]).toArray 9)) := (show Below w2.heap.size w2 w2.drew from ⟨rfl, rfl, rfl, Nat.le_refl _, fun _ _ => rfl⟩).trans ((Below.refl w2.heap.size w2.drew).alloc (Nat.le_refl _) _)
      have HX := Lib.hid (HOf.out (P + 2) 3 _ _ _ (R2.out.below bb (Nat.le_refl _)) hb (by have := R2.out.lt; omega) rfl (by omega) (by omega) (by omega))
      have D3 := Lib.hid (D2.out.trans (DrB.ofB (g := g) (bb.mono D2.out.size)))
      have hk0 : (0 : Int) ≤ (k : Int) := by omega
      have hk1 : (k : Int) ≤ (t.size : Int) := by omega
      have hkw : IntKind.i64.wrap ((k : Int) + 1) = (k : Int) + 1 := wraps_i64 _ (by omega) (by omega)
      have hk10 : (0 : Int) ≤ (k : Int) + 1 := by omega
      have hk1n : ((k : Int) + 1).toNat = k + 1 := by omega
      have hk11 : (k : Int) + 1 ≤ (t.size : Int) := by omega
      obtain ⟨p1, hp1, hq1⟩ : ∃ p, t.extract 0 k = p ∧ p.size ≤ k := ⟨_, rfl, by simp; omega⟩
      obtain ⟨p2, hp2, hq2⟩ : ∃ p, t.extract (k + 1) t.size = p ∧ p.size ≤ t.size - (k + 1) := ⟨_, rfl, by simp⟩
      clear hb bb
      go_wp2_with fail
      go_region_with (go_at_call 63; refine HX.out.mono ?_; rintro e w3 ⟨x, hx, rfl, r3, g3⟩; have hxs := of_three hx; generalize gT [⟨#[]⟩, ⟨#[44]⟩, ⟨#[50]⟩] x = u at hxs; clear hx)
      have R3 := Lib.hid r3
      have D4 := Lib.hid (D3.out.trans ((DrB.ofG g3).mono D3.out.size))
      clear r3 g3
      go_wp2_with fail
      go_ret
      exact ⟨_, rfl, by unfold Short; rw [ByteArray.size_append, ByteArray.size_append]; omega, R3.out.more (by omega), D4.out⟩
    · have t1 : ((a : Int) == 1) = false := by rw [beq_eq_false_iff_ne]; omega
      clear a0 a1 ha
      go_wp2_with fail
      go_ret
      exact ⟨t, rfl, by unfold Short; omega, R1.out.more (by omega), D1.out⟩

/-- The number of switches of a network told as a text, or -1. -/
def szV (ps : List ByteArray) : Int := if netB ps = true then ps.length else -1
set_option maxHeartbeats 1000000 in
theorem sizeOf_ok (t : ByteArray) (w : World) (hs : t.size ≤ 1048576) :
    Calls Try.prog 46 #[.string t] w fun e w' => e = .returned (.int .i64 (szV (cutsP 44 t))) ∧ Below w.heap.size w w' := by
  have HO := Lib.hid (l3Open_ok t w hs)
  generalize cutsP 44 t = ps at HO
  cases hb : netB ps with
  | false =>
    have HV : Hid (szV ps = -1) := by unfold Hid szV; rw [hb]; rfl
    rw [hb] at HO
    clear hb
    go_enter Try.func46, Try.ntmps46
    go_wp2_with fail
    refine HO.out.mono ?_
    rintro e w1 ⟨v, rfl, o1, b1⟩
    clear o1
    go_wp2_with fail
    go_ret
    exact ⟨reti HV.out.symm, b1⟩
  | true =>
    have HV : Hid (szV ps = ps.length) := by unfold Hid szV; rw [hb]; rfl
    have HN := Lib.hid (netL_yes hb)
    rw [hb] at HO
    clear hb
    go_enter Try.func46, Try.ntmps46
    go_wp2_with fail
    refine HO.out.mono ?_
    rintro e w1 ⟨v, rfl, o1, b1⟩
    rw [HN.out] at o1
    obtain ⟨a, c, rfl, _⟩ := o1.row
    clear o1
    go_wp2_with fail
    go_ret
    exact ⟨reti HV.out.symm, b1⟩
theorem szV_range (t : ByteArray) : szV (cutsP 44 t) = -1 ∨ ∃ n : Nat, szV (cutsP 44 t) = n ∧ 1 ≤ n ∧ n ≤ 5 ∧ (cutsP 44 t).length = n := by
  unfold szV
  split
  · rename_i h
    exact .inr ⟨_, rfl, cutsP_pos 44 t, net_le h (cutsP_pos 44 t), rfl⟩
  · exact .inl rfl

/-- A text and a number are drawn. -/
def TextNP (g P : Nat) (Q : ByteArray → Prop) (w : World) (e : Ending) (w' : World) : Prop := ∃ t, ∃ s : Int, e = .returned (.tuple #[.string t, .int .i64 s]) ∧ Q t ∧ Rd w' g P ∧ DrB g w.heap.size w w'
theorem RowI.ofBlk {w : World} {g : Nat} {zs : List Int} (h : Blk w g 3 (ints zs)) (hm : zs.length ≤ maxLen) : RowI w (some ⟨g, 0, none⟩) zs.length zs.length zs := (OutI.of_blk h (Nat.zero_le _) (Nat.le_refl _) hm).rowI

/-- 'r.num' of a list that was just made. -/
theorem num_lit (g Q n : Nat) (zs : List Int) (W : World) (q : Nat) (h : Rd W g Q) (hW : Blk W q 3 (ints zs)) (hq : q ≠ g) (hn : zs.length = n) (hn0 : 0 < n) (hn1 : n ≤ 100) (hQ : Q ≤ 1000000) :
    Calls Try.prog 24 #[.pointer (some ⟨g, 0, none⟩), .slice (some ⟨q, 0, none⟩) n n] W (NumP g (Q + 1) zs W) :=
  num_ok g Q n n (some ⟨q, 0, none⟩) zs W h (by subst hn; exact RowI.ofBlk hW (by unfold maxLen; omega)) hn0 (by omega) (fun a e => by cases e; exact hq) hQ

set_option maxHeartbeats 4000000 in
theorem l5Small_ok (g P : Nat) (w : World) (h : Rd w g P) (hP : P ≤ 700000) :
    Calls Try.prog 56 #[.pointer (some ⟨g, 0, none⟩)] w (TextNP g (P + 300) (Short 200) w) := by
  have hgw := h.lt
  have b0 : Below w.heap.size w (w.alloc (.cells (ints [3, 2, 3, 1, 2]).toArray 3)) := (Below.refl _ _).alloc (Nat.le_refl _) _
  have HX := Lib.hid (num_lit g P 5 [3, 2, 3, 1, 2] _ _ (h.below b0 (Nat.le_refl _)) (Blk.new w 3 (ints [3, 2, 3, 1, 2])) (by omega) rfl (by omega) (by omega) (by omega))
  have D0 := Lib.hid (DrB.ofB (g := g) b0)
  have hs := b0.size
  have HK := Lib.hid (fun Q m W (h : Rd W g Q) (hQ : Q ≤ 1000000) (hm : m ≤ 1048576) => pick_ok g Q m W h hQ hm)
  clear h b0
  go_enter Try.func56, Try.ntmps56
  go_wp2_with fail
  refine HX.out.mono ?_
  rintro e w1 ⟨x, hx, rfl, r1, g1⟩
  have hn : ∃ n : Nat, gI [3, 2, 3, 1, 2] x = n ∧ 1 ≤ n ∧ n ≤ 5 := by
    have : x = 0 ∨ x = 1 ∨ x = 2 ∨ x = 3 ∨ x = 4 := by simp at hx; omega
    rcases this with rfl | rfl | rfl | rfl | rfl
    · exact ⟨3, rfl, by omega, by omega⟩
    · exact ⟨2, rfl, by omega, by omega⟩
    · exact ⟨3, rfl, by omega, by omega⟩
    · exact ⟨1, rfl, by omega, by omega⟩
    · exact ⟨2, rfl, by omega, by omega⟩
  obtain ⟨n, hnv, hn1, hn5⟩ := hn
  rw [hnv]
  have R1 := Lib.hid r1
  have D1 := Lib.hid (D0.out.trans ((DrB.ofG g1).mono (by omega)))
  clear r1 g1 hx hnv hs
  go_wp2_with fail
  refine (l3Draw_ok g _ n _ R1.out ⟨hn1, hn5⟩ (by omega)).mono ?_
  rintro e w2 ⟨t, rfl, ht, r2, d2⟩
  have R2 := Lib.hid r2
  have HT := Lib.hid ht
  have D2 := Lib.hid (D1.out.trans (d2.mono D1.out.size))
  clear r2 d2 ht
  go_wp2_with fail
  refine (l3Bad_ok g _ t _ R2.out HT.out (by omega)).mono ?_
  rintro e w3 ⟨u, rfl, hu, r3, d3⟩
  have R3 := Lib.hid r3
  have HU := Lib.hid hu
  have D3 := Lib.hid (D2.out.trans (d3.mono D2.out.size))
  clear r3 d3 hu
  go_wp2_with fail
  refine (sizeOf_ok u _ (Nat.le_trans HU.out (by decide))).mono ?_
  rintro e w4 ⟨rfl, b4⟩
  have R4 := Lib.hid (R3.out.below b4 (Nat.le_refl _))
  have D4 := Lib.hid (D3.out.trans ((DrB.ofB b4).mono D3.out.size))
  clear b4
  have R4' : Hid (Rd w4 g (P + 204)) := R4.out.more (by omega)
  rcases szV_range u with hz | ⟨m, hz, hm1, hm5, _⟩
  · rw [hz]
    clear hz
    have bb : Below w4.heap.size w4 (w4.alloc (.cells (ints [0, -1, 32, 9223372036854775807]).toArray 3)) := (Below.refl _ _).alloc (Nat.le_refl _) _
    have HY := Lib.hid (num_lit g (P + 204) 4 [0, -1, 32, 9223372036854775807] _ _ (R4'.out.below bb (Nat.le_refl _)) (Blk.new w4 3 (ints [0, -1, 32, 9223372036854775807])) (by have := R4'.out.lt; omega) rfl (by omega) (by omega) (by omega))
    have E5 := Lib.hid (D4.out.trans (DrB.ofB (g := g) (bb.mono D4.out.size)))
    have hs5 := bb.size
    clear bb
    go_wp2_with fail
    refine HY.out.mono ?_
    rintro e w6 ⟨x, hx, rfl, r6, g6⟩
    generalize gI [0, -1, 32, 9223372036854775807] x = y
    have R6 := Lib.hid r6
    have D6 := Lib.hid (E5.out.trans ((DrB.ofG g6).mono E5.out.size))
    clear r6 g6 hx
    go_wp2_with fail
    go_ret2
    exact ⟨_, _, rfl, HU.out, R6.out.more (by omega), D6.out⟩
  · rw [hz]
    clear hz
    have hm0 : (0 : Int) < (m : Int) := by omega
    have hpw : wrap64 (2 ^ m) = ((2 ^ m : Nat) : Int) := wrap_pow_nat m (by omega)
    have hp : (2 ^ m : Nat) ≤ 32 := Nat.pow_le_pow_right (n := 2) (by decide) hm5
    generalize (2 ^ m : Nat) = N at hpw hp
    go_wp2_with fail
    refine (HK.out _ 16 _ R4'.out (by omega) (by omega)).mono ?_
    rintro e w5 ⟨y, rfl, hy, r5, g5⟩
    have R5 := Lib.hid r5
    have D5 := Lib.hid (D4.out.trans ((DrB.ofG g5).mono D4.out.size))
    clear r5 g5 hy
    by_cases y0 : 0 < y
    · have hy0 : (0 : Int) < (y : Int) := by omega
      go_wp2_with fail
      refine (HK.out _ N _ R5.out (by omega) (by omega)).mono ?_
      rintro e w6 ⟨z, rfl, hz, r6, g6⟩
      have R6 := Lib.hid r6
      have D6 := Lib.hid (D5.out.trans ((DrB.ofG g6).mono D5.out.size))
      clear r6 g6 hz
      go_wp2_with fail
      go_ret2
      exact ⟨_, _, rfl, HU.out, R6.out.more (by omega), D6.out⟩
    · obtain rfl : y = 0 := by omega
      have bb : Below w5.heap.size w5 (w5.alloc (.cells (ints [0, -1, 32, 9223372036854775807]).toArray 3)) := (Below.refl _ _).alloc (Nat.le_refl _) _
      have HY := Lib.hid (num_lit g (P + 204 + 1) 4 [0, -1, 32, 9223372036854775807] _ _ (R5.out.below bb (Nat.le_refl _)) (Blk.new w5 3 (ints [0, -1, 32, 9223372036854775807])) (by have := R5.out.lt; omega) rfl (by omega) (by omega) (by omega))
      have E5 := Lib.hid (D5.out.trans (DrB.ofB (g := g) (bb.mono D5.out.size)))
      have hs5 := bb.size
      clear bb
      go_wp2_with fail
      refine HY.out.mono ?_
      rintro e w6 ⟨x, hx, rfl, r6, g6⟩
      generalize gI [0, -1, 32, 9223372036854775807] x = y
      have R6 := Lib.hid r6
      have D6 := Lib.hid (E5.out.trans ((DrB.ofG g6).mono E5.out.size))
      clear r6 g6 hx
      go_wp2_with fail
      go_ret2
      exact ⟨_, _, rfl, HU.out, R6.out.more (by omega), D6.out⟩
end Go.Proofs.Ytlfeipibhdggcaa
