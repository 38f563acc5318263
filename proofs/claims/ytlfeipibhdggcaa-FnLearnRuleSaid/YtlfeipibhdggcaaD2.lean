/- Walks: UnseenOf of the program. -/
import Derived.Test.YtlfeipibhdggcaaD1
namespace Go.Proofs.Ytlfeipibhdggcaa
open Go.RowKit

set_option maxHeartbeats 1000000 in
theorem unClosure_ok (x y s : Int) (pb : Nat) (w : World) (hc : w.cell? ⟨pb, 0, none⟩ = some (.int .i64 s)) (hp : pb < w.heap.size) :
    Calls Try.prog 39 #[.agg #[.int .i64 x, .int .i64 y], .pointer (some ⟨pb, 0, none⟩)] w fun e w' => e = .returned (.bool (x == s)) ∧ Below w.heap.size w w' := by
  have hca : ∀ o, (w.alloc o).cell? ⟨pb, 0, none⟩ = some (.int .i64 s) := fun o => ((((Below.refl w.heap.size w).alloc (Nat.le_refl _) o).cell (p := ⟨pb, 0, none⟩) hp)).trans hc
  clear hc
  go_enter Try.func39, Try.ntmps39
  go_wp2
  go_ret
  exact ⟨rfl, (Below.refl _ _).alloc (Nat.le_refl _) _⟩

set_option maxHeartbeats 1000000 in
theorem Clip_ok (ao : Option Addr) (n c : Nat) (w : World) (hn : n ≤ c) (hc : c ≤ maxLen) (ha : ao = none → c = 0) (hs : ∀ a, ao = some a → ∃ b o, a = ⟨b, o, none⟩) :
    Calls Try.prog 40 #[.slice ao n c] w fun e w' => e = .returned (.slice ao n n) ∧ w = w' := by
  unfold maxLen at hc
  cases ao with
  | none =>
    obtain rfl := ha rfl
    obtain rfl : n = 0 := by omega
    go_enter Try.func40, Try.ntmps40
    go_wp2
    go_ret
    exact ⟨rfl, rfl⟩
  | some a =>
    obtain ⟨b, o, rfl⟩ := hs a rfl
    go_enter Try.func40, Try.ntmps40
    go_wp2
    go_ret
    exact ⟨rfl, rfl⟩


theorem OwnI.below {w w' : World} {B B' : Nat} {v : Value} {zs : List Int} (h : OwnI w B v zs) (hb : Below B' w w') (hB : w.heap.size ≤ B') : OwnI w' B v zs := by
  obtain ⟨h0, h1 | ⟨g, cap, cur, e, hg, hh, h2⟩⟩ := h
  · exact ⟨h0, .inl h1⟩
  · exact ⟨h0, .inr ⟨g, cap, cur, e, hg, by rw [hb.block g (by have := lt_of_block hh; omega)]; exact hh, h2⟩⟩

/-- What Clip asks of a slice value. -/
theorem Out.spot {w : World} {B : Nat} {ao : Option Addr} {n c : Nat} {zs : List Int} (h : OutI w B ao n c zs) (hn : 0 < n) : ∀ a, ao = some a → ∃ b o, a = ⟨b, o, none⟩ := fun a e => by
  obtain ⟨b, o, e', _⟩ := h.2.row.some hn
  rw [e] at e'
  cases e'
  exact ⟨b, o, rfl⟩
theorem OutI.clip {w : World} {B : Nat} {ao : Option Addr} {n c : Nat} {zs : List Int} (h : OutI w B ao n c zs) : OutI w B ao n n zs :=
  ⟨h.1, ⟨Nat.le_refl _, Nat.le_trans h.2.row.le h.2.row.cap, fun e => by have := h.2.row.nil e; have := h.2.row.le; omega, h.2.row.some, h.2.row.cell⟩, h.2.own, h.2.lt, h.2.free⟩

/-- The slice of an own row, and where it lies. -/
theorem OwnI.out' {w : World} {B : Nat} {v : Value} {zs : List Int} (h : OwnI w B v zs) : ∃ ao c, v = .slice ao zs.length c ∧ OutI w B ao zs.length c zs ∧ (∀ a, ao = some a → ∃ b o, a = ⟨b, o, none⟩) := by
  have h0 := h
  obtain ⟨_, ⟨rfl, hn⟩ | ⟨g, cap, cur, rfl, hg, hh, hle, hm, hs, ht⟩⟩ := h
  · obtain ⟨ao, c, e, ho⟩ := h0.out
    injection e with e1 e2 e3
    exact ⟨ao, c, by rw [← e1, ← e2, ← e3], ho, fun a ha => by rw [← e1] at ha; cases ha⟩
  · obtain ⟨ao, c, e, ho⟩ := h0.out
    injection e with e1 e2 e3
    exact ⟨ao, c, by rw [← e1, ← e3], ho, fun a ha => by rw [← e1] at ha; cases ha; exact ⟨_, _, rfl⟩⟩

set_option maxHeartbeats 2000000 in
theorem unI_ok (ao : Option Addr) (n c : Nat) (zs : List (Int × Int)) (m : Int) (w : World) (h : RowS w ao n c zs) :
    Calls Try.prog 16 #[.slice ao n c, .int .i64 m] w fun e w' => ∃ a l, e = .returned (.slice a l l) ∧ OutI w' w.heap.size a l l (unV zs m) ∧ Below w.heap.size w w' := by
  have HV := Lib.hid (svI_ok ao n c zs m w h)
  cases hs : seenB zs m with
  | false =>
    have H := Lib.hid hs
    go_enter Try.func16, Try.ntmps16
    go_wp2_with fail
    refine HV.out.mono ?_
    rintro e w1 ⟨rfl, b1⟩
    go_wp2
    go_ret
    refine ⟨none, 0, rfl, ?_, b1⟩
    rw [unV_no H.out]
    exact ⟨rfl, ⟨Nat.le_refl _, Nat.zero_le _, fun _ => rfl, fun h => absurd h (by omega), fun b o e => by cases e⟩, fun a e => (by cases e), fun a e => (by cases e), fun b o e => by cases e⟩
  | true =>
    have H := Lib.hid hs
    obtain ⟨hm, hl, hz, hlt⟩ := seen_parts hs
    obtain ⟨p, rfl⟩ := Int.eq_ofNat_of_zero_le (show 0 ≤ m by omega)
    have HP : Hid (wrap64 (2 ^ p) = ((2 ^ p : Nat) : Int)) := wrap_pow_nat p (by omega)
    have hp32 : (2 ^ p : Nat) ≤ 32 := Nat.pow_le_pow_right (n := 2) (by decide) (show p ≤ 5 by omega)
    have HU := Lib.hid (unV_yes hs)
    clear hz hlt
    generalize hN : (2 ^ p : Nat) = N at hp32 HP HU
    clear hN
    go_enter Try.func16, Try.ntmps16
    go_wp2_with fail
    refine HV.out.mono ?_
    rintro e w0 ⟨rfl, b0⟩
    go_wp2_with fail
    rw [HP.out]
    go_loopw [5, 13] (fun v s wr => ∃ k : Nat, k ≤ N ∧ s = .int .i64 k ∧ OwnI wr w.heap.size v (unTo zs k) ∧ Below w.heap.size w wr) (fun _ s _ => N - (intOf s).toNat)
    case atStart => exact ⟨0, Nat.zero_le _, rfl, OwnI.nil _ _, b0⟩
    case round =>
      obtain ⟨k, hk, rfl, ho, hb⟩ := hrel
      have hr := h.below hb (Nat.le_refl _)
      have HC := Lib.hid h
      have HO := Lib.hid ho
      have HL := Lib.hid (unTo_len zs k)
      clear h
      by_cases hkN : k < N
      · have hkw : (k : Int) < (N : Int) := by omega
        have hb1 : Below w.heap.size w (wr.alloc (.cells #[.int .i64 k] 3)) := hb.alloc hb.size _
        have hcell : (wr.alloc (.cells #[.int .i64 k] 3)).cell? ⟨wr.heap.size, 0, none⟩ = some (.int .i64 k) := (Blk.new wr 3 [.int .i64 k]).cell (i := 0) rfl
        have HCF := Lib.hid (ContainsFuncS_ok ao n c zs 39 #[.pointer (some ⟨wr.heap.size, 0, none⟩)] (fun p => p.1 == (k : Int)) _ (hr.below ((Below.refl _ _).alloc (Nat.le_refl _) _) (Nat.le_refl _)) (fun _ _ => by kernel_rfl) (fun j hj W hB => unClosure_ok _ _ k wr.heap.size W ((hB.cell (p := ⟨wr.heap.size, 0, none⟩) (by simp)).trans hcell) (Nat.lt_of_lt_of_le (by simp) hB.size)))
        have HCell := Lib.hid hcell
        clear hr ho
        cases hh : hasB zs k with
        | true =>
          have HH := Lib.hid hh
          go_wp2_with fail
          refine HCF.out.mono ?_
          rintro e w1 ⟨rfl, b1⟩
          rw [show (zs.any fun p => p.1 == (k : Int)) = true from hh]
          go_wp2_with fail
          go_roundw
          case rel => exact ⟨k + 1, by omega, by go_num, by rw [unTo_skip HH.out]; exact OwnI.below (OwnI.alloc HO.out _) b1 (Nat.le_refl _), hb1.trans (b1.mono hb1.size)⟩
          case measure => simp [intOf] <;> omega
        | false =>
          have HH := Lib.hid hh
          go_wp2_with fail
          refine HCF.out.mono ?_
          rintro e w1 ⟨rfl, b1⟩
          rw [show (zs.any fun p => p.1 == (k : Int)) = false from hh]
          have hc1 : w1.cell? ⟨wr.heap.size, 0, none⟩ = some (.int .i64 k) := (b1.cell (p := ⟨wr.heap.size, 0, none⟩) (by simp)).trans HCell.out
          have HO1 := Lib.hid (OwnI.below (OwnI.alloc HO.out _) b1 (Nat.le_refl _))
          have HB1 := Lib.hid (hb1.trans (b1.mono hb1.size))
          go_wp2_with (at_builtin; go_must (refine wpList_appI (OwnI.alloc HO1.out _) (RowI.one _ _) rfl _ _ rfl rfl rfl (by have := HL.out; omega) (by have := HB1.out.size; simp; omega) ?_); intro v2 w2 o2 g2)
          go_roundw
          case rel => exact ⟨k + 1, by omega, by go_num, by rw [unTo_take HH.out]; exact o2, (HB1.out.alloc HB1.out.size _).grown g2 (by have := HB1.out.size; simp; omega) (fun j hj => (World.ownsRow.lt HO1.out j hj).1)⟩
          case measure => simp [intOf] <;> omega
      · obtain rfl : k = N := by omega
        obtain ⟨a, cp, rfl, q, sp⟩ := ho.out'
        have HQ := Lib.hid q
        have HCl := Lib.hid (Clip_ok a (unTo zs k).length cp wr q.2.row.le q.2.row.cap q.2.row.nil sp)
        clear sp q ho hr
        go_wp2_with fail
        refine HCl.out.mono ?_
        rintro e w' ⟨rfl, rfl⟩
        go_wp2_with fail
        go_ret
        exact ⟨a, _, rfl, by rw [HU.out]; exact HQ.out.clip, hb⟩

end Go.Proofs.Ytlfeipibhdggcaa
