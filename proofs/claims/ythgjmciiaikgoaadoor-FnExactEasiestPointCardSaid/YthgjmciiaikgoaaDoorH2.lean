/- Walks: the states of a term, on both sides. -/
import Derived.Test.YthgjmciiaikgoaaDoorH1
import Derived.Test.YthgjmciiaikgoaaDoorM5
import Derived.Test.YthgjmciiaikgoaaDoorP1
namespace Go.Proofs.YthgjmciiaikgoaaDoor
open Go.RowKit

/-- The states of a term among the first k. -/
def stL (l : List UInt8) (k : Nat) : List Int := ((List.range k).filter (hasT l)).map fun s : Nat => (s : Int)
theorem stL_skip {l : List UInt8} {k : Nat} (h : hasT l k = false) : stL l (k + 1) = stL l k := by simp [stL, List.range_succ, List.filter_append, h]
theorem stL_take {l : List UInt8} {k : Nat} (h : hasT l k = true) : stL l (k + 1) = stL l k ++ [(k : Int)] := by simp [stL, List.range_succ, List.filter_append, h]
theorem stL_len (l : List UInt8) (k : Nat) : (stL l k).length ≤ k := by
  rw [stL, List.length_map]
  exact Nat.le_trans (List.length_filter_le _ _) (by simp)
theorem stL_get {l : List UInt8} {k i : Nat} (h : i < (stL l k).length) : ∃ s : Nat, gI (stL l k) i = s ∧ s < k ∧ hasT l s = true := by
  have := List.mem_of_getElem? (gI_lt h)
  simp only [stL, List.mem_map, List.mem_filter, List.mem_range] at this
  obtain ⟨s, ⟨h1, h2⟩, h3⟩ := this
  exact ⟨s, h3.symm, h1, h2⟩
theorem stL_mem {l : List UInt8} {k s : Nat} (h : s < k) (hs : hasT l s = true) : ∃ i, i < (stL l k).length ∧ gI (stL l k) i = s := by
  have : (s : Int) ∈ stL l k := List.mem_map.2 ⟨s, List.mem_filter.2 ⟨List.mem_range.2 h, hs⟩, rfl⟩
  obtain ⟨i, hi, e⟩ := List.getElem_of_mem this
  exact ⟨i, hi, by rw [← gI_eq hi]; exact e⟩

set_option maxHeartbeats 1000000 in
theorem ClipI_ok (ao : Option Addr) (n c : Nat) (w : World) (hn : n ≤ c) (hc : c ≤ maxLen) (ha : ao = none → c = 0) (hs : ∀ a, ao = some a → ∃ b o, a = ⟨b, o, none⟩) :
    Calls Tryd.prog 79 #[.slice ao n c] w fun e w' => e = .returned (.slice ao n n) ∧ w = w' := by
  unfold maxLen at hc
  cases ao with
  | none =>
    obtain rfl := ha rfl
    obtain rfl : n = 0 := by omega
    go_enter Tryd.func79, Tryd.ntmps79
    go_wp2
    go_ret
    exact ⟨rfl, rfl⟩
  | some a =>
    obtain ⟨b, o, rfl⟩ := hs a rfl
    go_enter Tryd.func79, Tryd.ntmps79
    go_wp2
    go_ret
    exact ⟨rfl, rfl⟩
theorem OwnI.outC {w : World} {B : Nat} {v : Value} {zs : List Int} (h : OwnI w B v zs) : ∃ ao c, v = .slice ao zs.length c ∧ OutI w B ao zs.length c zs ∧ (∀ a, ao = some a → ∃ b o, a = ⟨b, o, none⟩) := by
  have h0 := h
  obtain ⟨_, ⟨rfl, hn⟩ | ⟨g, cap, cur, rfl, hg, hh, hle, hm, hs, ht⟩⟩ := h
  · obtain ⟨ao, c, e, ho⟩ := h0.out
    injection e with e1 e2 e3
    exact ⟨ao, c, by rw [← e1, ← e2, ← e3], ho, fun a ha => by rw [← e1] at ha; cases ha⟩
  · obtain ⟨ao, c, e, ho⟩ := h0.out
    injection e with e1 e2 e3
    exact ⟨ao, c, by rw [← e1, ← e3], ho, fun a ha => by rw [← e1] at ha; cases ha; exact ⟨_, _, rfl⟩⟩
theorem OutI.clipC {w : World} {B : Nat} {ao : Option Addr} {n c : Nat} {zs : List Int} (h : OutI w B ao n c zs) : OutI w B ao n n zs :=
  ⟨h.1, ⟨Nat.le_refl _, Nat.le_trans h.2.row.le h.2.row.cap, fun e => by have := h.2.row.nil e; have := h.2.row.le; omega, h.2.row.some, h.2.row.cell⟩, h.2.own, h.2.lt, h.2.free⟩
theorem OwnI.belowD {w w' : World} {B B' : Nat} {v : Value} {zs : List Int} (h : OwnI w B v zs) (hb : Below B' w w') (hB : w.heap.size ≤ B') : OwnI w' B v zs := by
  obtain ⟨h0, h1 | ⟨g, cap, cur, e, hg, hh, h2⟩⟩ := h
  · exact ⟨h0, .inl h1⟩
  · exact ⟨h0, .inr ⟨g, cap, cur, e, hg, by rw [hb.block g (by have := lt_of_block hh; omega)]; exact hh, h2⟩⟩

set_option maxHeartbeats 2000000 in
theorem statesOf_ok (t : ByteArray) (w : World) (ht : t.data.toList.all isT = true) (h5 : t.size ≤ 5) :
    Calls Tryd.prog 101 #[.string t] w fun e w' => ∃ a l, e = .returned (.slice a l l) ∧ OutI w' w.heap.size a l l (stL t.data.toList (2 ^ t.size)) ∧ Below w.heap.size w w' := by
  have hp : (2 ^ t.size : Nat) ≤ 32 := Nat.pow_le_pow_right (n := 2) (by decide) h5
  have hpw : wrap64 (2 ^ t.size) = ((2 ^ t.size : Nat) : Int) := wrap_pow_nat t.size (by omega)
  have HH := Lib.hid (fun s W (hs : s < 32) => hasI_ok t s W ht h5 hs)
  have HP := Lib.hid hpw
  clear ht hpw
  generalize (2 ^ t.size : Nat) = N at hp HP ⊢
  go_enter Tryd.func101, Tryd.ntmps101
  go_wp2_with fail
  rw [HP.out]
  go_loopw [3, 8] (fun v q wr => ∃ k : Nat, k ≤ N ∧ q = .int .i64 k ∧ OwnI wr w.heap.size v (stL t.data.toList k) ∧ Below w.heap.size w wr) (fun _ q _ => N - (intOf q).toNat)
  case atStart => exact ⟨0, Nat.zero_le _, rfl, OwnI.nil _ _, Below.refl _ _⟩
  case round =>
    obtain ⟨k, hk, rfl, ho, hb⟩ := hrel
    have HO := Lib.hid ho
    have HB := Lib.hid hb
    have hlen := stL_len t.data.toList k
    clear ho hb
    by_cases hlt : k < N
    · have hlt' : (k : Int) < (N : Int) := by omega
      have HHk := Lib.hid (HH.out k wr (by omega))
      cases hh : hasT t.data.toList k with
      | false =>
        have HN := Lib.hid (stL_skip hh)
        rw [hh] at HHk
        clear hh
        go_wp2_with fail
        refine HHk.out.mono ?_
        rintro e w2 ⟨rfl, b2⟩
        have C2 := Lib.hid (HB.out.trans (b2.mono HB.out.size))
        have O2 := Lib.hid (HO.out.belowD b2 (Nat.le_refl _))
        clear b2
        go_wp2_with fail
        go_roundw
        case rel => exact ⟨k + 1, by omega, by go_num, by rw [HN.out]; exact O2.out, C2.out⟩
        case measure => simp [intOf]; omega
      | true =>
        have HN := Lib.hid (stL_take hh)
        rw [hh] at HHk
        clear hh
        go_wp2_with fail
        refine HHk.out.mono ?_
        rintro e w2 ⟨rfl, b2⟩
        have C2 := Lib.hid (HB.out.trans (b2.mono HB.out.size))
        have O2 := Lib.hid (HO.out.belowD b2 (Nat.le_refl _))
        clear b2
        go_wp2_with (at_builtin; refine wpList_appI (OwnI.alloc O2.out _) (RowI.one _ _) rfl _ _ rfl rfl rfl (by omega) (by have := C2.out.size; simp; omega) ?_; intro v6 w6 o6 g6)
        go_roundw
        case rel => exact ⟨k + 1, by omega, by go_num, by rw [HN.out]; exact o6, (C2.out.alloc C2.out.size _).grown g6 (by have := C2.out.size; simp; omega) (fun j hj => (World.ownsRow.lt O2.out j hj).1)⟩
        case measure => simp [intOf] <;> omega
    · obtain rfl : k = N := by omega
      obtain ⟨a, c, rfl, q, hs⟩ := HO.out.outC
      have HC := Lib.hid (fun W => ClipI_ok a (stL t.data.toList k).length c W q.2.row.le q.2.row.cap q.2.row.nil hs)
      have HQ := Lib.hid q
      clear q hs
      go_wp2_with fail
      refine (HC.out _).mono ?_
      rintro e w2 ⟨rfl, rfl⟩
      go_wp2_with fail
      go_ret
      exact ⟨a, _, rfl, HQ.out.clipC, HB.out⟩

set_option maxHeartbeats 2000000 in
theorem l6States_ok (t : ByteArray) (w : World) (ht : t.data.toList.all isT = true) (h5 : t.size ≤ 5) :
    Calls Tryd.prog 124 #[.string t] w fun e w' => ∃ v, e = .returned v ∧ OwnI w' w.heap.size v (stL t.data.toList (2 ^ t.size)) ∧ Below w.heap.size w w' := by
  have hp : (2 ^ t.size : Nat) ≤ 32 := Nat.pow_le_pow_right (n := 2) (by decide) h5
  have hpw : wrap64 (2 ^ t.size) = ((2 ^ t.size : Nat) : Int) := wrap_pow_nat t.size (by omega)
  have HH := Lib.hid (fun s W (hs : s < 32) => hasS_ok t s W ht h5 hs)
  have b0 : Below w.heap.size w (w.alloc (.cells #[] 3)) := (Below.refl _ _).alloc (Nat.le_refl _) _
  have B0 := Lib.hid b0
  have O0 := Lib.hid (OwnI.lit w w.heap.size [] (Nat.le_refl _) (by decide))
  clear ht b0
  generalize (2 ^ t.size : Nat) = N at hp hpw ⊢
  go_enter Tryd.func124, Tryd.ntmps124
  go_wp2_with fail
  go_loopw [3, 4] (fun v q wr => ∃ k : Nat, k ≤ N ∧ q = .int .i64 k ∧ OwnI wr w.heap.size v (stL t.data.toList k) ∧ Below w.heap.size w wr) (fun _ q _ => N - (intOf q).toNat)
  case atStart => exact ⟨0, Nat.zero_le _, rfl, O0.out, B0.out⟩
  case round =>
    obtain ⟨k, hk, rfl, ho, hb⟩ := hrel
    have HO := Lib.hid ho
    have HB := Lib.hid hb
    have hlen := stL_len t.data.toList k
    clear ho hb
    by_cases hlt : k < N
    · have hlt' : (k : Int) < (N : Int) := by omega
      have HHk := Lib.hid (HH.out k wr (by omega))
      cases hh : hasT t.data.toList k with
      | false =>
        have HN := Lib.hid (stL_skip hh)
        rw [hh] at HHk
        clear hh
        go_wp2_with fail
        refine HHk.out.mono ?_
        rintro e w2 ⟨rfl, b2⟩
        have C2 := Lib.hid (HB.out.trans (b2.mono HB.out.size))
        have O2 := Lib.hid (HO.out.belowD b2 (Nat.le_refl _))
        clear b2
        go_wp2_with fail
        go_roundw
        case rel => exact ⟨k + 1, by omega, by go_num, by rw [HN.out]; exact O2.out, C2.out⟩
        case measure => simp [intOf]; omega
      | true =>
        have HN := Lib.hid (stL_take hh)
        rw [hh] at HHk
        clear hh
        go_wp2_with fail
        refine HHk.out.mono ?_
        rintro e w2 ⟨rfl, b2⟩
        have C2 := Lib.hid (HB.out.trans (b2.mono HB.out.size))
        have O2 := Lib.hid (HO.out.belowD b2 (Nat.le_refl _))
        clear b2
        go_wp2_with (at_builtin; refine wpList_appI (OwnI.alloc O2.out _) (RowI.one _ _) rfl _ _ rfl rfl rfl (by omega) (by have := C2.out.size; simp; omega) ?_; intro v6 w6 o6 g6)
        go_roundw
        case rel => exact ⟨k + 1, by omega, by go_num, by rw [HN.out]; exact o6, (C2.out.alloc C2.out.size _).grown g6 (by have := C2.out.size; simp; omega) (fun j hj => (World.ownsRow.lt O2.out j hj).1)⟩
        case measure => simp [intOf] <;> omega
    · obtain rfl : k = N := by omega
      go_wp2_with fail
      go_ret
      exact ⟨_, rfl, HO.out, HB.out⟩

end Go.Proofs.YthgjmciiaikgoaaDoor
