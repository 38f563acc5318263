/- Walks and plain facts of one law: several of my texts in one. -/
import Derived.Test.YtklegalmacekcaaGreatDoorGrB
import Derived.Test.YtklegalmacekcaaGreatDoorGrD
import Derived.Test.YtklegalmacekcaaGreatDoorGrF
import Derived.Test.YtklegalmacekcaaGreatDoorGrG
import Derived.Test.YtklegalmacekcaaGreatDoorGrJ
import Derived.Test.YtklegalmacekcaaGreatDoorGrA
import Derived.Maps.OwnSet
import Derived.Maps.RangeWalk
import Derived.Laws.EntriesVeiled
import Derived.Test.YtklegalmacekcaaGreatDoorGrE
/- Walks: the orbit of a state; the longest tail. -/
namespace Go.Proofs.YtklegalmacekcaaGreatDoor
open Go.RowKit

/-- Marks: which of the first states a state is, counted from 1. -/
def mkN (f : Nat → Nat) (s : Nat) : Nat → Nat → Nat
  | 0, _ => 0
  | L + 1, x => if itN f s L = x then L + 1 else mkN f s L x
theorem mkN_zero {f : Nat → Nat} {s x : Nat} : ∀ {L}, mkN f s L x = 0 → ∀ i, i < L → itN f s i ≠ x
  | 0, _, i, hi => absurd hi (Nat.not_lt_zero _)
  | L + 1, h, i, hi => by
    rw [mkN] at h
    split at h
    · cases h
    · rename_i hne
      by_cases e : i = L
      · rw [e]; exact hne
      · exact mkN_zero h i (by omega)
theorem mkN_pos {f : Nat → Nat} {s x : Nat} : ∀ {L t}, mkN f s L x = t + 1 → t < L ∧ itN f s t = x
  | 0, t, h => by cases h
  | L + 1, t, h => by
    rw [mkN] at h
    split at h
    · rename_i he
      have : t = L := by omega
      subst this
      exact ⟨Nat.lt_succ_self _, he⟩
    · have := mkN_pos h
      exact ⟨by omega, this.2⟩
theorem mkN_le (f : Nat → Nat) (s x : Nat) : ∀ L, mkN f s L x ≤ L
  | 0 => Nat.le_refl _
  | L + 1 => by
    rw [mkN]
    split
    · exact Nat.le_refl _
    · have := mkN_le f s x L; omega
def mkL (f : Nat → Nat) (s L : Nat) : List Int := (List.range 32).map fun x => ((mkN f s L x : Nat) : Int)
theorem mkL_len (f : Nat → Nat) (s L : Nat) : (mkL f s L).length = 32 := by simp [mkL]
theorem mkL_get {f : Nat → Nat} {s L x : Nat} (h : x < 32) : gI (mkL f s L) x = ((mkN f s L x : Nat) : Int) := by simp [mkL, gI, List.getD, h]
theorem mkL_zero (f : Nat → Nat) (s : Nat) : mkL f s 0 = List.replicate 32 0 := by simp [mkL, mkN, List.map_const']
theorem mkL_set {f : Nat → Nat} {s L x : Nat} (h : itN f s L = x) : (mkL f s L).set x ((L + 1 : Nat) : Int) = mkL f s (L + 1) := by
  apply List.ext_getElem?
  intro i
  by_cases hi : i < 32
  · rw [List.getElem?_set]
    by_cases e : x = i
    · subst e
      rw [if_pos rfl, if_pos (by rw [mkL_len]; exact hi)]
      simp [mkL, hi, mkN, h]
    · rw [if_neg e]
      have : ¬ itN f s L = i := fun h2 => e (h.symm.trans h2)
      simp [mkL, hi, mkN, this]
  · rw [List.getElem?_eq_none (by simp [mkL]; omega), List.getElem?_eq_none (by simp [mkL]; omega)]
def orL (f : Nat → Nat) (s L : Nat) : List Int := (List.range L).map fun i => ((itN f s i : Nat) : Int)
theorem orL_len (f : Nat → Nat) (s L : Nat) : (orL f s L).length = L := by simp [orL]
theorem orL_next (f : Nat → Nat) (s L : Nat) : orL f s (L + 1) = orL f s L ++ [((itN f s L : Nat) : Int)] := by simp [orL, List.range_succ]
theorem orL_get {f : Nat → Nat} {s L i : Nat} (h : i < L) : gI (orL f s L) i = ((itN f s i : Nat) : Int) := by simp [orL, gI, List.getD, h]
def lenV : Value → Nat | .slice _ n _ => n | _ => 0
/-- The states from one on, until one comes again: so many, and where it comes again. -/
def Orb (f : Nat → Nat) (s L t : Nat) : Prop := t < L ∧ itN f s L = itN f s t ∧ ∀ i j, i < j → j < L → itN f s i ≠ itN f s j
/-- So many different states. -/
def DisN (f : Nat → Nat) (s L : Nat) : Prop := ∀ i j, i < j → j < L → itN f s i ≠ itN f s j
theorem DisN.next {f : Nat → Nat} {s L : Nat} (h : DisN f s L) (h0 : mkN f s L (itN f s L) = 0) : DisN f s (L + 1) := fun i j hij hj => by
  by_cases e : j = L
  · subst e; exact mkN_zero h0 i hij
  · exact h i j hij (by omega)
theorem DisN.le {f : Nat → Nat} {n s L : Nat} (hf : ∀ k, k < n → f k < n) (hs : s < n) (h : DisN f s L) : L ≤ n := by
  have := nodup_le n ((List.range L).map (itN f s)) (map_nodup L fun i j hi hj => h i j hi hj) (fun x hx => by
    obtain ⟨i, _, rfl⟩ := List.mem_map.1 hx
    exact itN_lt hf hs i)
  simpa using this

theorem Blk.grownLow {w w1 : World} {g : Nat} {t : TypeId} {cs : List Value} {row : Option Nat} (h : Blk w g t cs) (hg : w.grownBy w1 row) (hne : some g ≠ row) : Blk w1 g t cs := by
  have := h.lt
  unfold Blk at h ⊢
  rw [hg.block g this hne]
  exact h
theorem OwnI.setLow {w : World} {B : Nat} {v : Value} {zs : List Int} {p : Addr} (h : OwnI w B v zs) (hp : p.block < B) (u : Value) : OwnI (w.setCell p u) B v zs := by
  obtain ⟨h0, h1 | ⟨g, cap, cur, e, hg, hh, h2⟩⟩ := h
  · exact ⟨h0, .inl h1⟩
  · exact ⟨h0, .inr ⟨g, cap, cur, e, hg, (Below.heap_setCell _ _ _ _ (by omega)).trans hh, h2⟩⟩
theorem outI_base {w : World} {B B' : Nat} {ao : Option Addr} {n c : Nat} {zs : List Int} (h : OutI w B ao n c zs) (hB : B' ≤ B) : OutI w B' ao n c zs := ⟨h.1, h.2.row, fun a e => Nat.le_trans hB (h.2.own a e), h.2.lt, h.2.free⟩
theorem outI_drewN {w : World} {B : Nat} {ao : Option Addr} {n c : Nat} {zs : List Int} (h : OutI w B ao n c zs) (k : Nat) : OutI (w.drewN k) B ao n c zs := ⟨h.1, ⟨h.2.row.le, h.2.row.cap, h.2.row.nil, h.2.row.some, h.2.row.cell⟩, h.2.own, h.2.lt, h.2.free⟩
theorem below_dn {B : Nat} {a w : World} (h : Below B a w) (n : Nat) : Below B a (w.drewN n) := ⟨h.os, h.tape, h.output, h.size, h.block⟩
theorem ints_set (zs : List Int) (i : Nat) (x : Int) : (ints zs).set i (.int .i64 x) = ints (zs.set i x) := by simp [ints, List.map_set]
set_option maxRecDepth 100000 in
set_option maxHeartbeats 4000000 in
theorem orbit_ok (ao : Option Addr) (c : Nat) (ps : List ByteArray) (s : Nat) (w : World) (h : RowN w ao ps.length c ps.length (bitsN ps ps.length)) (hn : netB ps = true) (h5 : ps.length ≤ 5) (hs : s < 2 ^ ps.length) :
    Calls Tryz.prog 31 #[.slice ao ps.length c, .int .i64 s] w fun e w' => ∃ a L t, e = .returned (.tuple #[.slice a L L, .int .i64 (t : Nat)]) ∧ Orb (fun s => allTo ps s ps.length) s L t ∧ L ≤ 2 ^ ps.length ∧ OutI w' w.heap.size a L L (orL (fun s => allTo ps s ps.length) s L) ∧ Below w.heap.size w w' := by
  have hp : (2 ^ ps.length : Nat) ≤ 32 := Nat.pow_le_pow_right (n := 2) (by decide) h5
  have HSt := Lib.hid (fun s W (hW : Below w.heap.size w W) (hs : s < 2 ^ ps.length) => step_ok ao c ps s W (h.below hW (Nat.le_refl _)) hn h5 hs)
  have HLt := Lib.hid (fun i => itN_lt (f := fun s => allTo ps s ps.length) (n := 2 ^ ps.length) (fun k _ => allTo_lt hn h5 k) hs i)
  have HDi := Lib.hid (fun L (hd : DisN (fun s => allTo ps s ps.length) s L) => hd.le (n := 2 ^ ps.length) (fun k _ => allTo_lt hn h5 k) hs)
  have HNx := Lib.hid (fun L => show allTo ps (itN (fun s => allTo ps s ps.length) s L) ps.length = itN (fun s => allTo ps s ps.length) s (L + 1) from rfl)
  clear h hn h5
  generalize (2 ^ ps.length : Nat) = N at hp HSt HLt HDi hs
  go_enter Tryz.func31, Tryz.ntmps31
  go_wp2_with fail
  go_loopw [1, 7] (fun x v wr => ∃ L : Nat, x = .int .i64 (itN (fun s => allTo ps s ps.length) s L : Nat) ∧ DisN (fun s => allTo ps s ps.length) s L ∧ lenV v = L ∧ OwnI wr (w.heap.size + 1) v (orL (fun s => allTo ps s ps.length) s L) ∧ Blk wr w.heap.size 87 (ints (mkL (fun s => allTo ps s ps.length) s L)) ∧ Below w.heap.size w wr) (fun _ v _ => 33 - lenV v)
  case atStart => exact ⟨0, rfl, fun i j _ hj => absurd hj (Nat.not_lt_zero _), rfl, OwnI.nil _ _, by rw [mkL_zero]; exact Blk.new w 87 (ints (List.replicate 32 0)), (Below.refl _ _).alloc (Nat.le_refl _) _⟩
  case round =>
    obtain ⟨L, rfl, hd, hv, ho, hk, hb⟩ := hrel
    have HD := Lib.hid hd
    have HB := Lib.hid hb
    have HK := Lib.hid hk
    have hLN := HDi.out L hd
    have hx := HLt.out L
    have hmk := mkN_le (fun s => allTo ps s ps.length) s (itN (fun s => allTo ps s ps.length) s L) L
    have HM0 := Lib.hid (fun h => hd.next h)
    have HMp := Lib.hid (fun t => mkN_pos (f := fun s => allTo ps s ps.length) (s := s) (x := itN (fun s => allTo ps s ps.length) s L) (L := L) (t := t))
    have hcx := hk.cell (i := itN (fun s => allTo ps s ps.length) s L) (ints_get _ _ (by rw [mkL_len]; omega))
    rw [mkL_get (by omega)] at hcx
    have HSet := Lib.hid (mkL_set (f := fun s => allTo ps s ps.length) (s := s) (L := L) rfl)
    have HNxL := Lib.hid (orL_next (fun s => allTo ps s ps.length) s L)
    have HSx := Lib.hid (fun W hW => HSt.out (itN (fun s => allTo ps s ps.length) s L) W hW hx)
    rw [HNx.out L] at HSx
    have hlw := HK.out.lt
    obtain ⟨oa, oc, e, q, hsp⟩ := ho.outC
    have hol := orL_len (fun s => allTo ps s ps.length) s L
    rw [hol] at e q
    subst e
    have HO := Lib.hid ho
    have HQ := Lib.hid q
    have HSp := Lib.hid hsp
    have hzw : (((orL (fun s => allTo ps s ps.length) s L).length + 1) * 8 : Nat) ≤ 140737488355328 := by rw [hol]; omega
    have HZw := Lib.hid hzw
    have hxl : itN (fun s => allTo ps s ps.length) s L < 32 := by omega
    clear hd ho hk hb hv q hsp hzw hol
    by_cases h0 : mkN (fun s => allTo ps s ps.length) s L (itN (fun s => allTo ps s ps.length) s L) = 0
    · rw [h0] at hcx
      have HD1 := Lib.hid (HM0.out h0)
      have hL1 := HDi.out (L + 1) HD1.out
      have HZl : Hid ((orL (fun s => allTo ps s ps.length) s L ++ [((itN (fun s => allTo ps s ps.length) s L : Nat) : Int)]).length = L + 1) := by unfold Hid; simp [orL_len]
      have HGx : Hid ((ints (mkL (fun s => allTo ps s ps.length) s L))[itN (fun s => allTo ps s ps.length) s L]? = some (.int .i64 (0 : Nat))) := by
        unfold Hid
        rw [ints_get _ _ (by rw [mkL_len]; exact hxl), mkL_get hxl, h0]
      clear hmk h0 HM0 HMp
      obtain ⟨y, hy⟩ : ∃ y, itN (fun s => allTo ps s ps.length) s (L + 1) = y := ⟨_, rfl⟩
      rw [hy] at HSx
      have HY := Lib.hid hy
      clear hy
      generalize itN (fun s => allTo ps s ps.length) s L = x at *
      have hxw : (x : Int) < 32 := by omega
      generalize orL (fun s => allTo ps s ps.length) s L = zs at *
      go_wp2_with (at_builtin; refine wpList_appI (OwnI.alloc HO.out _) (RowI.one _ _) rfl _ _ rfl rfl rfl HZw.out (by have := HB.out.size; simp; omega) ?_; intro v6 w6 o6 g6; obtain ⟨a6, c6, e6, q6, sp6⟩ := o6.outC; rw [HZl.out] at e6 q6; subst e6; have k6 := (HK.out.alloc (.cells #[.int .i64 (x : Int)] 3)).grownLow g6 (fun e2 => by have := (World.ownsRow.lt HO.out _ e2.symm).1; omega); have hc6 := k6.cell (i := x) (HGx.out); have hf6 := k6.free x; have C6 := Lib.hid ((HB.out.alloc HB.out.size (.cells #[.int .i64 (x : Int)] 3)).grown g6 (by have := HB.out.size; simp; omega) (fun j hj => by have := (World.ownsRow.lt HO.out j hj).1; omega)); have K6 := Lib.hid k6; have O6 := Lib.hid o6; clear k6 g6 o6 q6 sp6)
      have D6 := Lib.hid (C6.out.setCell (p := ⟨w.heap.size, x, none⟩) (Nat.le_refl _) (.int .i64 ((L : Int) + 1)))
      refine (HSx.out _ D6.out).mono ?_
      rintro e w7 ⟨rfl, b7⟩
      have K7 := Lib.hid ((K6.out.set x (.int .i64 ((L : Int) + 1))).below b7 (K6.out.set x _).lt)
      have O7 := Lib.hid ((O6.out.setLow (p := ⟨w.heap.size, x, none⟩) (Nat.lt_succ_self _) (.int .i64 ((L : Int) + 1))).belowD b7 (Nat.le_refl _))
      have B7 := Lib.hid (D6.out.trans (b7.mono D6.out.size))
      clear b7
      go_wp2_with fail
      go_roundw
      case rel => exact ⟨L + 1, by rw [HY.out], HD1.out, rfl, by rw [HNxL.out]; exact O7.out, by have := K7.out; rw [ints_set, show ((L : Int) + 1) = ((L + 1 : Nat) : Int) by omega, HSet.out] at this; exact this, B7.out⟩
      case measure => simp [lenV]; omega
    · have hp1 : 0 < mkN (fun s => allTo ps s ps.length) s L (itN (fun s => allTo ps s ps.length) s L) := by omega
      obtain ⟨t, ht⟩ : ∃ t, mkN (fun s => allTo ps s ps.length) s L (itN (fun s => allTo ps s ps.length) s L) = t + 1 := ⟨_, (Nat.succ_pred_eq_of_pos hp1).symm⟩
      have hm := HMp.out t ht
      have HOb : Hid (Orb (fun s => allTo ps s ps.length) s L t) := ⟨hm.1, hm.2.symm, HD.out⟩
      rw [ht] at hcx
      clear hmk h0 HM0 HMp hm ht hp1
      generalize itN (fun s => allTo ps s ps.length) s L = x at hcx hxl hx ⊢
      have hxw : (x : Int) < 32 := by omega
      have hne : (((t + 1 : Nat) : Int) == 0) = false := by rw [beq_eq_false_iff_ne]; omega
      have htl : t < L := HOb.out.1
      have hwt : IntKind.i64.wrap (t : Int) = (t : Int) := wraps_i64 _ (by omega) (by omega)
      have HClp := Lib.hid (fun W => ClipI_ok oa L oc W HQ.out.2.row.le HQ.out.2.row.cap HQ.out.2.row.nil HSp.out)
      go_wp2_with fail
      go_quiet ((go_at_call 61; exact Calls.quiet_of_same (sameW (HClp.out _))))
      go_wp2_with fail
      go_ret2
      exact ⟨oa, L, t, rfl, HOb.out, hLN, outI_drewN ((outI_base HQ.out (Nat.le_succ _)).clipC) _, below_dn HB.out _⟩

set_option maxHeartbeats 2000000 in
theorem ltI_ok (t : ByteArray) (w : World) (hs : t.size ≤ 1048576) (hm : MaxLenIs w) (hb : netB (cutsP 44 t) = true) :
    Calls Tryz.prog 11 #[.string t] w fun e w' => ∃ m : Nat, e = .returned (.int .i64 m) ∧ (∀ b, (∀ s L t', s < 2 ^ (cutsP 44 t).length → Orb (fun s => allTo (cutsP 44 t) s (cutsP 44 t).length) s L t' → t' ≤ b) → m ≤ b) ∧ Below w.heap.size w w' := by
  have HO := Lib.hid (readNetwork_ok t w hs hm)
  have hp0 := cutsP_pos 44 t
  generalize cutsP 44 t = ps at HO hp0 hb ⊢
  have HN := Lib.hid (netN_yes hb)
  have h5 := net_le hb hp0
  have hlen := bitsN_len ps ps.length
  have hp : (2 ^ ps.length : Nat) ≤ 32 := Nat.pow_le_pow_right (n := 2) (by decide) h5
  have HF := Lib.hid (fun ao c s W (h : RowN W ao ps.length c ps.length (bitsN ps ps.length)) (hs : s < 2 ^ ps.length) => orbit_ok ao c ps s W h hb h5 hs)
  have HSt := Lib.hid (fun ao c W => states_ok ao ps.length c W (by omega))
  rw [hb] at HO
  clear hb hm
  generalize (2 ^ ps.length : Nat) = N at hp HF HSt ⊢
  go_enter Tryz.func11, Tryz.ntmps11
  go_wp2_with fail
  refine HO.out.mono ?_
  rintro e w1 ⟨v, rfl, o1, b1⟩
  rw [HN.out] at o1
  obtain ⟨a, c, rfl, r1⟩ := o1.row (bitsN_wide ps ps.length)
  rw [hlen] at r1 ⊢
  have HF1 := Lib.hid (fun s W (hW : Below w1.heap.size w1 W) hs => HF.out a c s W (r1.below hW (Nat.le_refl _)) hs)
  have B1 := Lib.hid b1
  clear o1 r1 hlen b1
  go_wp2_with fail
  refine (HSt.out _ _ _).mono ?_
  rintro e w2 ⟨rfl, rfl⟩
  go_wp2_with fail
  go_loopw [5, 18] (fun m q wr => ∃ k a : Nat, k ≤ N ∧ q = .int .i64 k ∧ m = .int .i64 a ∧ a ≤ 32 ∧ (∀ b, (∀ s L t', s < N → Orb (fun s => allTo ps s ps.length) s L t' → t' ≤ b) → a ≤ b) ∧ Below w1.heap.size w1 wr) (fun _ q _ => N - (intOf q).toNat)
  case atStart => exact ⟨0, 0, Nat.zero_le _, rfl, rfl, Nat.zero_le _, fun _ _ => Nat.zero_le _, Below.refl _ _⟩
  case round =>
    obtain ⟨k, x, hk, rfl, rfl, hx, hxb, hbb⟩ := hrel
    have HB := Lib.hid hbb
    have HX := Lib.hid hxb
    clear hbb hxb
    by_cases hlt : k < N
    · have hlt' : (k : Int) < (N : Int) := by omega
      have HSk := Lib.hid (HF1.out k wr HB.out hlt)
      go_wp2_with fail
      refine HSk.out.mono ?_
      rintro e w3 ⟨za, L, t', rfl, ho, hL, _, b3⟩
      have C3 := Lib.hid (HB.out.trans (b3.mono HB.out.size))
      have HOb := Lib.hid ho
      have ht1 := ho.1
      clear b3 ho
      by_cases hxt : x ≤ t'
      · have hm1 : max (x : Int) (t' : Int) = (t' : Int) := by omega
        go_wp2_with fail
        go_roundw
        case rel => exact ⟨k + 1, t', by omega, by go_num, by first | rfl | (rw [hm1]), by omega, fun b h => h k L t' hlt HOb.out, C3.out⟩
        case measure => simp [intOf] <;> omega
      · have hm1 : max (x : Int) (t' : Int) = (x : Int) := by omega
        go_wp2_with fail
        go_roundw
        case rel => exact ⟨k + 1, x, by omega, by go_num, by first | rfl | (rw [hm1]), by omega, HX.out, C3.out⟩
        case measure => simp [intOf] <;> omega
    · obtain rfl : k = N := by omega
      go_wp2_with fail
      go_ret
      exact ⟨x, rfl, HX.out, B1.out.trans (HB.out.mono B1.out.size)⟩

end Go.Proofs.YtklegalmacekcaaGreatDoor
/- LeastHold of the program. -/
namespace Go.Proofs.YtklegalmacekcaaGreatDoor
open Go.RowKit

theorem Best.some9 (E : Nat → Prop) : ∀ N, ∃ b, Best E 0 N b
  | 0 => ⟨-1, Best.start E 0⟩
  | N + 1 => by
    obtain ⟨b, h⟩ := Best.some9 E N
    by_cases hE : E N
    · by_cases hp : ∀ s : Nat, b = s → popN N < popN s
      · exact ⟨_, h.take (Nat.zero_le _) hE hp⟩
      · have ⟨s, hs⟩ : ∃ s : Nat, ¬ (b = s → popN N < popN s) := Classical.not_forall.1 hp
        have ⟨h1, h2⟩ : b = s ∧ ¬ popN N < popN s := Classical.not_imp.1 hs
        exact ⟨b, h.skip (.inr ⟨s, h1, by omega⟩)⟩
    · exact ⟨b, h.skip (.inl hE)⟩
theorem lhS_range (ps : List ByteArray) (s : Nat) : lhS ps s < 2 ^ ps.length := by
  obtain ⟨b, h⟩ := Best.some9 (lhE ps s) (2 ^ ps.length)
  exact lhS_lt ps s b h
theorem all_bit {n i : Nat} (h : i < n) : bN (2 ^ n - 1) i = 1 := by
  have := Nat.testBit_two_pow_sub_one n i
  rw [Nat.testBit_eq_decide_div_mod_eq] at this
  simpa [h, bN] using this
theorem digS_hl (s n : Nat) : digS (bitL s n) = ⟨(hlT s (2 ^ n - 1) n).toArray⟩ := by
  apply ByteArray.ext
  apply Array.ext'
  show ((bitL s n).map (48 + ·)).map (fun n => UInt8.ofNat n.toNat) = hlT s (2 ^ n - 1) n
  unfold bitL hlT
  rw [List.map_map, List.map_map]
  apply List.map_congr_left
  intro i hi
  rw [hlC_held (all_bit (by simpa using hi))]
  show UInt8.ofNat (48 + ((bN s i : Nat) : Int)).toNat = _
  congr 1
/-- The letters while the first k are done. -/
def hmL (s set n k : Nat) : List Int := (List.range n).map fun j => (((if j < k then hlC s set j else UInt8.ofNat (48 + bN s j)).toNat : Nat) : Int)
theorem hmL_len (s set n k : Nat) : (hmL s set n k).length = n := by simp [hmL]
theorem hmL_zero (s set n : Nat) : byZ (digS (bitL s n)) = hmL s set n 0 := by
  rw [digS_hl]
  show (hlT s (2 ^ n - 1) n).map (fun b => ((b.toNat : Nat) : Int)) = _
  unfold hmL hlT
  rw [List.map_map]
  apply List.map_congr_left
  intro i hi
  simp [hlC_held (all_bit (by simpa using hi))]
theorem hmL_set {s set n k : Nat} (h : k < n) (h0 : bN set k = 0) : (hmL s set n k).set k 42 = hmL s set n (k + 1) := by
  apply List.ext_getElem?
  intro i
  by_cases hi : i < n
  · have h2 : (hmL s set n (k + 1))[i]? = some (((if i < k + 1 then hlC s set i else UInt8.ofNat (48 + bN s i)).toNat : Nat) : Int) := by simp only [hmL, List.getElem?_map, List.getElem?_range hi]; rfl
    rw [h2]
    by_cases e : i = k
    · subst e
      rw [List.getElem?_set_self (by rw [hmL_len]; exact hi), if_pos (by omega), hlC_free h0]
      rfl
    · have h1 : (hmL s set n k)[i]? = some (((if i < k then hlC s set i else UInt8.ofNat (48 + bN s i)).toNat : Nat) : Int) := by simp only [hmL, List.getElem?_map, List.getElem?_range hi]; rfl
      rw [List.getElem?_set_ne (fun e2 => e e2.symm), h1]
      have : (i < k + 1) = (i < k) := by apply propext; omega
      simp only [this]
  · rw [List.getElem?_eq_none (by simp [hmL_len]; omega), List.getElem?_eq_none (by rw [hmL_len]; omega)]
theorem hmL_same {s set n k : Nat} (h1 : bN set k = 1) : hmL s set n (k + 1) = hmL s set n k := by
  unfold hmL
  apply List.map_congr_left
  intro j _
  by_cases e : j = k
  · subst e
    rw [if_pos (by omega), if_neg (by omega), hlC_held h1]
  · have : (j < k + 1) = (j < k) := by apply propext; omega
    simp only [this]
theorem hmL_end (s set n : Nat) : strOfNums (hmL s set n n) = ⟨(hlT s set n).toArray⟩ := by
  apply ByteArray.ext
  apply Array.ext'
  show (hmL s set n n).map (fun n => UInt8.ofNat n.toNat) = hlT s set n
  unfold hmL hlT
  rw [List.map_map]
  apply List.map_congr_left
  intro j hj
  have hj' : j < n := by simpa using hj
  simp [hj']

end Go.Proofs.YtklegalmacekcaaGreatDoor
/- Plain: what a term spreads to, and what that forces. -/
namespace Go.Proofs.YtklegalmacekcaaGreatDoor
open Go.RowKit

/-- The letter of a state's switch. -/
def letN (s i : Nat) : UInt8 := UInt8.ofNat (48 + bN s i)
theorem letN_cases (s i : Nat) : (bN s i = 0 ∧ letN s i = 48) ∨ (bN s i = 1 ∧ letN s i = 49) := by
  have := bN_lt s i
  unfold letN
  rcases (show bN s i = 0 ∨ bN s i = 1 by omega) with e | e <;> rw [e]
  · exact .inl ⟨rfl, rfl⟩
  · exact .inr ⟨rfl, rfl⟩
theorem letN_ne (s i : Nat) : letN s i ≠ 42 := by
  rcases letN_cases s i with ⟨_, e⟩ | ⟨_, e⟩ <;> rw [e] <;> decide
theorem letN_eq {s t i : Nat} (h : letN s i = letN t i) : bN s i = bN t i := by
  rcases letN_cases s i with ⟨a, e⟩ | ⟨a, e⟩ <;> rcases letN_cases t i with ⟨b, f⟩ | ⟨b, f⟩
  · omega
  · rw [e, f] at h; exact absurd h (by decide)
  · rw [e, f] at h; exact absurd h (by decide)
  · omega
theorem ltr_let {l : List UInt8} {s i : Nat} (h : l.getD i 42 = letN s i) : ltr l i = bN s i := by
  rw [ltr, if_neg (by rw [h]; exact letN_ne s i), h]
  rcases letN_cases s i with ⟨a, e⟩ | ⟨a, e⟩ <;> rw [e, a] <;> rfl
theorem getD_ext {l m : List UInt8} {n : Nat} (hl : l.length = n) (hm : m.length = n) (h : ∀ i, i < n → l.getD i 42 = m.getD i 42) : l = m := by
  apply List.ext_getElem?
  intro i
  by_cases hi : i < n
  · have := h i hi
    rw [List.getD_eq_getElem?_getD, List.getD_eq_getElem?_getD, List.getElem?_eq_getElem (by omega), List.getElem?_eq_getElem (by omega)] at this
    rw [List.getElem?_eq_getElem (by omega), List.getElem?_eq_getElem (by omega)]
    exact congrArg some this
  · rw [List.getElem?_eq_none (by omega), List.getElem?_eq_none (by omega)]
/-- When a term forces a state. -/
theorem fsQ_iff {ps : List ByteArray} {l : List UInt8} {s : Nat} (hz : l.length = ps.length) : fsQ ps l s = true ↔ ∀ i, i < ps.length → (spL ps l).getD i 42 = letN s i := by
  have hb : ∀ i, i < ps.length → (hlT s (2 ^ ps.length - 1) ps.length).getD i 42 = letN s i := fun i hi => by
    rw [hlT_get hi, hlC_held (all_bit hi)]; rfl
  rw [fsQ, beq_iff_eq, ByteArray.toList_eq, ByteArray.toList_eq, digS_hl]
  show spL ps l = hlT s (2 ^ ps.length - 1) ps.length ↔ _
  constructor
  · intro h i hi
    rw [h, hb i hi]
  · intro h
    exact getD_ext (by rw [spL_len, hz]) (hlT_len _ _ _) fun i hi => by rw [h i hi, hb i hi]

section
variable {ps : List ByteArray} {l : List UInt8}
theorem sp_keep {k i : Nat} (hi : i < l.length) (h : (spN ps l k).getD i 42 ≠ 42) : (spN ps l (k + 1)).getD i 42 = (spN ps l k).getD i 42 := by
  rw [spN, spR_get (by rw [spN_len]; exact hi), spC, if_neg h]
theorem sp_keeps {k i : Nat} (hi : i < l.length) (h : (spN ps l k).getD i 42 ≠ 42) : ∀ d, (spN ps l (k + d)).getD i 42 = (spN ps l k).getD i 42
  | 0 => rfl
  | d + 1 => by
    have ih := sp_keeps hi h d
    rw [show k + (d + 1) = (k + d) + 1 by omega, sp_keep hi (by rw [ih]; exact h), ih]
theorem sp_star {k i : Nat} (hi : i < l.length) (h : (spN ps l (k + 1)).getD i 42 = 42) : (spN ps l k).getD i 42 = 42 := by
  refine Classical.byContradiction fun hne => ?_
  rw [sp_keep hi hne] at h
  exact hne h
/-- A state of a later round's term is one of an earlier round's. -/
theorem sp_weak {k x : Nat} (h : hasT (spN ps l (k + 1)) x = true) : hasT (spN ps l k) x = true := by
  rw [hasT_iff] at h ⊢
  intro i hi
  rw [spN_len] at hi
  have h1 := h i (by rw [spN_len]; exact hi)
  by_cases hs : (spN ps l k).getD i 42 = 42
  · exact .inl (ltr_star hs)
  · have e := sp_keep (k := k) hi hs
    rw [ltr, e, ← ltr] at h1
    exact h1
theorem sp_weaks {k x : Nat} : ∀ d, hasT (spN ps l (k + d)) x = true → hasT (spN ps l k) x = true
  | 0, h => h
  | d + 1, h => sp_weaks d (sp_weak h)
/-- What a round lays down is what all states of the term lead to. -/
theorem sp_forced {k i : Nat} (hn : netB ps = true) (hz : l.length = ps.length) (hi : i < l.length) (h0 : (spN ps l k).getD i 42 = 42) (h1 : (spN ps l (k + 1)).getD i 42 ≠ 42) :
    ∀ x, x < 2 ^ ps.length → hasT (spN ps l k) x = true → (spN ps l (k + 1)).getD i 42 = UInt8.ofNat (48 + bitN ps i x) := by
  intro x hx hh
  have hb := bitN_lt (netB_get hn i (by omega)).1 x
  have hy := toB_yes (ps := ps) (l := spN ps l k) (i := i) (s := x) (by rw [spN_len, hz]; exact hx) hh rfl
  rw [spN, spR_get (by rw [spN_len]; exact hi), spC, if_pos h0] at h1 ⊢
  rcases (show bitN ps i x = 0 ∨ bitN ps i x = 1 by omega) with e | e
  · rw [e] at hy ⊢
    rw [if_neg (by rw [hy]; decide)] at h1 ⊢
    split at h1
    · rename_i h2; rw [if_pos h2]; rfl
    · exact absurd rfl h1
  · rw [e] at hy ⊢
    split at h1
    · rename_i h2; rw [if_pos h2]; rfl
    · split at h1
      · rename_i h2; rw [hy] at h2; cases h2
      · exact absurd rfl h1
/-- The round that lays a letter down. -/
theorem sp_when {i : Nat} (hi : i < l.length) (h0 : l.getD i 42 = 42) : ∀ k, (spN ps l k).getD i 42 ≠ 42 → ∃ j, j < k ∧ (spN ps l j).getD i 42 = 42 ∧ (spN ps l (j + 1)).getD i 42 ≠ 42
  | 0, h => absurd h0 h
  | k + 1, h => by
    by_cases hk : (spN ps l k).getD i 42 = 42
    · exact ⟨k, Nat.lt_succ_self _, hk, h⟩
    · obtain ⟨j, hj, h1, h2⟩ := sp_when hi h0 k hk
      exact ⟨j, by omega, h1, h2⟩
end
section
variable {ps : List ByteArray} {l : List UInt8} {s : Nat} (hn : netB ps = true) (hz : l.length = ps.length) (hs : s < 2 ^ ps.length) (hf : fsQ ps l s = true)
include hz hf
theorem frc_let {k i : Nat} (hk : k ≤ 5) (hi : i < l.length) (h : (spN ps l k).getD i 42 ≠ 42) : (spN ps l k).getD i 42 = letN s i := by
  have h1 := sp_keeps hi h (5 - k)
  rw [show k + (5 - k) = 5 by omega] at h1
  rw [← h1]
  exact (fsQ_iff hz).1 hf i (by omega)
/-- The state lies in the terms of all rounds. -/
theorem frc_has {k : Nat} (hk : k ≤ 5) : hasT (spN ps l k) s = true := by
  rw [hasT_iff]
  intro i hi
  rw [spN_len] at hi
  by_cases h : (spN ps l k).getD i 42 = 42
  · exact .inl (ltr_star h)
  · exact .inr (ltr_let (frc_let hz hf hk hi h))
theorem frc_held : hasT l s = true := frc_has (k := 0) hz hf (by omega)
include hn hs
/-- No free switch is restless in a state that is forced. -/
theorem frc_rest {i : Nat} (hi : i < ps.length) (h0 : l.getD i 42 = 42) : bitN ps i s = bN s i := by
  have h5 := (fsQ_iff hz).1 hf i hi
  obtain ⟨j, hj, h1, h2⟩ := sp_when (ps := ps) (l := l) (i := i) (by omega) h0 5 (by show (spL ps l).getD i 42 ≠ 42; rw [h5]; exact letN_ne s i)
  have h3 := sp_forced hn hz (by omega) h1 h2 s hs (frc_has hz hf (by omega))
  have h4 := frc_let hz hf (show j + 1 ≤ 5 by omega) (by omega) h2
  rw [h3] at h4
  have hb := bitN_lt (netB_get hn i hi).1 s
  rcases letN_cases s i with ⟨a, e⟩ | ⟨a, e⟩ <;> rcases (show bitN ps i s = 0 ∨ bitN ps i s = 1 by omega) with f | f
  · omega
  · rw [e, f] at h4; exact absurd h4 (by decide)
  · rw [e, f] at h4; exact absurd h4 (by decide)
  · omega
end
/-- A step of the held network goes a round further. -/
theorem sp_step {ps : List ByteArray} {l : List UInt8} (h0 : 0 < ps.length) (h5 : ps.length ≤ 5) (ht : htB ps l = true) {k x : Nat} (hx : x < 2 ^ ps.length) (h : hasT (spN ps l k) x = true) : hasT (spN ps l (k + 1)) (hsS ps l x) = true := by
  obtain ⟨hn, hz, hl⟩ := ht_len ht
  rw [hasT_iff]
  intro i hi
  rw [spN_len] at hi
  by_cases hs : (spN ps l (k + 1)).getD i 42 = 42
  · exact .inl (ltr_star hs)
  · refine .inr ?_
    by_cases hl0 : l.getD i 42 = 42
    · obtain ⟨j, hj, h1, h2⟩ := sp_when (ps := ps) hi hl0 (k + 1) hs
      have hxj : hasT (spN ps l j) x = true := sp_weaks (k := j) (k - j) (by rw [show j + (k - j) = k by omega]; exact h)
      have h3 := sp_forced hn hz hi h1 h2 x hx hxj
      have h4 := sp_keeps hi h2 (k - j)
      rw [show j + 1 + (k - j) = k + 1 by omega] at h4
      have hfr := hsS_free h0 h5 ht hx (show i < ps.length by omega) (ltr_star hl0)
      have hb := bN_bit_eq hn h5 (s := x) (show i < ps.length by omega)
      have hbit : bN (hsS ps l x) i = bitN ps i x := by rw [← hb]; exact bN_of hfr
      rw [hbit]
      rw [ltr, if_neg hs, h4, h3]
      have hlt := bitN_lt (netB_get hn i (by omega)).1 x
      rcases (show bitN ps i x = 0 ∨ bitN ps i x = 1 by omega) with f | f <;> rw [f] <;> rfl
    · have h4 := sp_keeps (ps := ps) (k := 0) hi hl0 (k + 1)
      rw [Nat.zero_add] at h4
      have h6 := hasT_iff.1 (hsS_has h0 h5 ht hx) i hi
      rcases h6 with h6 | h6
      · exact absurd ((ltr_two hl).1 h6) hl0
      · rw [ltr, h4, ← ltr]
        exact h6
where
  bN_of {a b i : Nat} (h : a.testBit i = b.testBit i) : bN a i = bN b i := by
    have e1 := bit_test a i
    have e2 := bit_test b i
    rw [show a / 2 ^ i % 2 = bN a i from rfl] at e1
    rw [show b / 2 ^ i % 2 = bN b i from rfl] at e2
    rw [e1, e2, h]
  bN_bit_eq {ps : List ByteArray} (hn : netB ps = true) (h5 : ps.length ≤ 5) {s i : Nat} (hi : i < ps.length) : bN (allTo ps s ps.length) i = bitN ps i s := by
    have hl := bitN_lt (netB_get hn i hi).1 s
    have e1 := bit_test (allTo ps s ps.length) i
    rw [show allTo ps s ps.length / 2 ^ i % 2 = bN (allTo ps s ps.length) i from rfl, allTo_bit hn h5 hi] at e1
    rw [e1]
    by_cases h : bitN ps i s = 1
    · simp [h]
    · simp [h]; omega

end Go.Proofs.YtklegalmacekcaaGreatDoor
/- Plain: a network held by a term that forces a state: all ways lead to that state. -/
namespace Go.Proofs.YtklegalmacekcaaGreatDoor
open Go.RowKit
set_option linter.unusedSectionVars false

/-- How many of the first numbers are so. -/
def cntB (p : Nat → Bool) : Nat → Nat
  | 0 => 0
  | k + 1 => cntB p k + if p k = true then 1 else 0
theorem cntB_le {p q : Nat → Bool} : ∀ n, (∀ i, i < n → p i = true → q i = true) → cntB p n ≤ cntB q n ∧ (cntB p n = cntB q n → ∀ i, i < n → p i = q i)
  | 0, _ => ⟨Nat.le_refl _, fun _ i hi => absurd hi (Nat.not_lt_zero _)⟩
  | n + 1, h => by
    obtain ⟨h1, h2⟩ := cntB_le n fun i hi => h i (by omega)
    have h3 := h n (Nat.lt_succ_self _)
    rw [cntB, cntB]
    cases hp : p n with
    | true =>
      rw [h3 hp]
      refine ⟨by simp; omega, fun e i hi => ?_⟩
      simp at e
      by_cases e2 : i = n
      · rw [e2, hp, h3 hp]
      · exact h2 (by omega) i (by omega)
    | false =>
      cases hq : q n with
      | true =>
        refine ⟨by simp; omega, fun e i hi => ?_⟩
        simp at e
        omega
      | false =>
        refine ⟨by simpa using h1, fun e i hi => ?_⟩
        simp at e
        by_cases e2 : i = n
        · rw [e2, hp, hq]
        · exact h2 e i (by omega)
theorem cntB_all : ∀ n, cntB (fun _ => true) n = n
  | 0 => rfl
  | n + 1 => by rw [cntB, cntB_all n]; rfl
theorem cntB_none {p : Nat → Bool} : ∀ n, cntB p n = 0 → ∀ i, i < n → p i = false
  | 0, _, i, hi => absurd hi (Nat.not_lt_zero _)
  | n + 1, h, i, hi => by
    rw [cntB] at h
    by_cases e : i = n
    · subst e
      cases hp : p i with
      | false => rfl
      | true => rw [hp] at h; simp at h
    · exact cntB_none n (by omega) i (by omega)

/-- Whether a letter is still open after so many rounds. -/
def stB9 (ps : List ByteArray) (l : List UInt8) (k i : Nat) : Bool := (spN ps l k).getD i 42 == 42
theorem stB9_iff {ps : List ByteArray} {l : List UInt8} {k i : Nat} : stB9 ps l k i = true ↔ (spN ps l k).getD i 42 = 42 := beq_iff_eq
section
variable {ps : List ByteArray} {l : List UInt8} {s : Nat}
theorem sp_stay {k : Nat} (h : spN ps l (k + 1) = spN ps l k) : ∀ d, spN ps l (k + d) = spN ps l k
  | 0 => rfl
  | d + 1 => by
    have ih := sp_stay h d
    show spR ps (spN ps l (k + d)) = _
    rw [ih]
    exact h
/-- After as many rounds as there are open letters none is open. -/
theorem sp_done (hz : l.length = ps.length) (hf : fsQ ps l s = true) : ∀ k, (∀ i, i < l.length → stB9 ps l k i = false) ∨ cntB (stB9 ps l k) l.length + k ≤ cntB (stB9 ps l 0) l.length
  | 0 => .inr (Nat.le_refl _)
  | k + 1 => by
    have hkeep : ∀ i, i < l.length → stB9 ps l (k + 1) i = true → stB9 ps l k i = true := fun i hi h => stB9_iff.2 (sp_star hi (stB9_iff.1 h))
    rcases sp_done hz hf k with h | h
    · refine .inl fun i hi => ?_
      have h1 := h i hi
      cases h2 : stB9 ps l (k + 1) i with
      | false => rfl
      | true => rw [hkeep i hi h2] at h1; cases h1
    · obtain ⟨h1, h2⟩ := cntB_le l.length hkeep
      by_cases e : cntB (stB9 ps l (k + 1)) l.length = cntB (stB9 ps l k) l.length
      · refine .inl fun i hi => ?_
        have hsame : spN ps l (k + 1) = spN ps l k := by
          refine getD_ext (n := l.length) (spN_len _ _ _) (spN_len _ _ _) fun i hi => ?_
          by_cases hs : (spN ps l k).getD i 42 = 42
          · rw [hs]
            have := h2 e i hi
            rw [stB9_iff.2 hs] at this
            exact stB9_iff.1 this
          · exact sp_keep hi hs
        have h5 : (spN ps l 5).getD i 42 ≠ 42 := by
          have := (fsQ_iff hz).1 hf i (by omega)
          show (spL ps l).getD i 42 ≠ 42
          rw [this]
          exact letN_ne s i
        rw [stB9, hsame, beq_eq_false_iff_ne]
        by_cases hk : k ≤ 5
        · have := sp_stay hsame (5 - k)
          rw [show k + (5 - k) = 5 by omega] at this
          rw [← this]
          exact h5
        · have := sp_keeps (ps := ps) hi h5 (k - 5)
          rw [show 5 + (k - 5) = k by omega] at this
          rw [this]
          exact h5
      · exact .inr (by omega)
theorem sp_none (hz : l.length = ps.length) (hf : fsQ ps l s = true) : ∀ i, i < l.length → stB9 ps l (cntB (stB9 ps l 0) l.length) i = false := by
  rcases sp_done hz hf (cntB (stB9 ps l 0) l.length) with h | h
  · exact h
  · exact cntB_none _ (by omega)
/-- Where no letter is open, one state is left. -/
theorem frc_one (hz : l.length = ps.length) (hf : fsQ ps l s = true) {k x : Nat} (hk : k ≤ 5) (hno : ∀ i, i < l.length → stB9 ps l k i = false) (hx : x < 2 ^ ps.length) (hs : s < 2 ^ ps.length) (h : hasT (spN ps l k) x = true) : x = s := by
  refine eq_pow hx hs fun i hi => ?_
  have hi' : i < l.length := by omega
  have h1 : (spN ps l k).getD i 42 ≠ 42 := fun e => by
    have := hno i hi'
    rw [stB9_iff.2 e] at this
    cases this
  have h2 := ltr_let (frc_let hz hf hk hi' h1)
  have h3 := hasT_iff.1 h i (by rw [spN_len]; exact hi')
  rw [h2] at h3
  have h4 := bN_lt s i
  have e1 := bit_test x i
  have e2 := bit_test s i
  rw [show x / 2 ^ i % 2 = bN x i from rfl] at e1
  rw [show s / 2 ^ i % 2 = bN s i from rfl] at e2
  rcases h3 with h3 | h3
  · omega
  · rw [h3, e1] at e2
    cases h6 : x.testBit i <;> cases h7 : s.testBit i <;> simp_all
end

theorem itN_fr (f : Nat → Nat) (x k : Nat) : itN f x (k + 1) = itN f (f x) k := by
  rw [show k + 1 = 1 + k by omega, itN_add]; rfl
theorem itN_fix {f : Nat → Nat} {x b s : Nat} (h : itN f x b = s) (hf : f s = s) : ∀ d, itN f x (b + d) = s
  | 0 => h
  | d + 1 => by
    show f (itN f x (b + d)) = s
    rw [itN_fix h hf d, hf]
/-- An orbit that comes to a state that stays ends there. -/
theorem orb_end {f : Nat → Nat} {x L t b s : Nat} (h : Orb f x L t) (hb : itN f x b = s) (hf : f s = s) : itN f x t = s ∧ L = t + 1 ∧ t ≤ b := by
  obtain ⟨h1, h2, h3⟩ := h
  have hper : ∀ k, itN f x (t + k * (L - t)) = itN f x t := by
    intro k
    induction k with
    | zero => rw [Nat.zero_mul]; rfl
    | succ k ih => rw [Nat.succ_mul, ← Nat.add_assoc, itN_add, ih, ← itN_add, show t + (L - t) = L by omega, h2]
  have ht : itN f x t = s := by
    have h4 : b ≤ t + b * (L - t) := by
      have : b * 1 ≤ b * (L - t) := Nat.mul_le_mul_left _ (by omega)
      omega
    rw [← hper b, show t + b * (L - t) = b + (t + b * (L - t) - b) by omega, itN_fix hb hf]
  refine ⟨ht, ?_, ?_⟩
  · refine Classical.byContradiction fun hne => ?_
    refine h3 t (t + 1) (Nat.lt_succ_self _) (by omega) ?_
    show itN f x t = f (itN f x t)
    rw [ht, hf]
  · refine Classical.byContradiction fun hne => ?_
    refine h3 b t (by omega) h1 ?_
    rw [hb, ht]

/-- What single steps lead to. -/
inductive Rch (nx : Nat → Nat → Nat) (n x : Nat) : Nat → Prop
  | here : Rch nx n x x
  | step {y i : Nat} : Rch nx n x y → i < n → Rch nx n x (nx y i)
theorem Rch.trans {nx : Nat → Nat → Nat} {n x y z : Nat} (h : Rch nx n x y) (h' : Rch nx n y z) : Rch nx n x z := by
  induction h' with
  | here => exact h
  | step _ hi ih => exact ih.step hi
/-- A step of one switch. -/
def nxN (qs : List ByteArray) (y i : Nat) : Nat := setN y i (bitN qs i y)

section
variable {ps : List ByteArray} {l : List UInt8} (h0 : 0 < ps.length) (h5 : ps.length ≤ 5) (ht : htB ps l = true)
include h0 h5 ht
theorem nx_lt {y i : Nat} (hi : i < ps.length) (hy : y < 2 ^ ps.length) : nxN (hsP ps l) y i < 2 ^ ps.length := by
  obtain ⟨hn, _, hl⟩ := ht_len ht
  refine setN_pow hy hi ?_
  rw [hsP_bit hn hl hi hy]
  exact hsF_lt hn hl hi
theorem nx_bit {y i j : Nat} (hi : i < ps.length) (hj : j < ps.length) (hy : y < 2 ^ ps.length) : (nxN (hsP ps l) y i).testBit j = if j = i then (hsS ps l y).testBit i else y.testBit j := by
  obtain ⟨hn, _, hl⟩ := ht_len ht
  have hp := pow_32 h5
  have hb := hsP_bit hn hl hi hy
  have hv := hsF_lt (s := y) hn hl hi
  rw [nxN, setN_bit (by omega) (by omega) (by rw [hb]; exact hv) (by omega), hb, hsS_bit hn hl h0 h5 hi hy]
theorem letB_of {m : List UInt8} {a b i : Nat} (h : a.testBit i = b.testBit i) : letB m a i = letB m b i := by
  have e1 := bit_test a i
  have e2 := bit_test b i
  rw [show a / 2 ^ i % 2 = bN a i from rfl] at e1
  rw [show b / 2 ^ i % 2 = bN b i from rfl] at e2
  rw [letB, letB, e1, e2, h]
theorem hasT_let {m : List UInt8} {x : Nat} : hasT m x = true ↔ ∀ i, i < m.length → letB m x i = true := by
  rw [hasT, List.all_eq_true]
  exact ⟨fun h i hi => h i (List.mem_range.2 hi), fun h i hi => h i (List.mem_range.1 hi)⟩
/-- One step of each switch in turn goes as far as a step of all. -/
theorem sweep {m0 m1 : List UInt8} (hz0 : m0.length = ps.length) (hz1 : m1.length = ps.length) (hgo : ∀ z, z < 2 ^ ps.length → hasT m0 z = true → hasT m1 (hsS ps l z) = true) (hw : ∀ z, hasT m1 z = true → hasT m0 z = true)
    {y : Nat} (hy : y < 2 ^ ps.length) (h : hasT m0 y = true) : ∀ j, j ≤ ps.length → ∃ z, z < 2 ^ ps.length ∧ Rch (nxN (hsP ps l)) ps.length y z ∧ hasT m0 z = true ∧ ∀ i, i < j → letB m1 z i = true
  | 0, _ => ⟨y, hy, .here, h, fun i hi => absurd hi (Nat.not_lt_zero _)⟩
  | j + 1, hj => by
    obtain ⟨z, hz, hr, hm, hl⟩ := sweep hz0 hz1 hgo hw hy h j (by omega)
    have hjn : j < ps.length := by omega
    have h1 := hgo z hz hm
    have h2 := hw _ h1
    refine ⟨_, nx_lt h0 h5 ht hjn hz, hr.step hjn, (hasT_let h0 h5 ht).2 fun i hi => ?_, fun i hi => ?_⟩
    · have hb := nx_bit h0 h5 ht hjn (show i < ps.length by omega) hz
      by_cases e : i = j
      · rw [if_pos e, ← e] at hb
        rw [e] at hb ⊢
        rw [letB_of h0 h5 ht hb]
        exact (hasT_let h0 h5 ht).1 h2 j (by omega)
      · rw [if_neg e] at hb
        rw [letB_of h0 h5 ht hb]
        exact (hasT_let h0 h5 ht).1 hm i hi
    · have hb := nx_bit h0 h5 ht hjn (show i < ps.length by omega) hz
      by_cases e : i = j
      · rw [if_pos e, ← e] at hb
        rw [e] at hb ⊢
        rw [letB_of h0 h5 ht hb]
        exact (hasT_let h0 h5 ht).1 h1 j (by omega)
      · rw [if_neg e] at hb
        rw [letB_of h0 h5 ht hb]
        exact hl i (by omega)
theorem sweep_all {m0 m1 : List UInt8} (hz0 : m0.length = ps.length) (hz1 : m1.length = ps.length) (hgo : ∀ z, z < 2 ^ ps.length → hasT m0 z = true → hasT m1 (hsS ps l z) = true) (hw : ∀ z, hasT m1 z = true → hasT m0 z = true)
    {y : Nat} (hy : y < 2 ^ ps.length) (h : hasT m0 y = true) : ∃ z, z < 2 ^ ps.length ∧ Rch (nxN (hsP ps l)) ps.length y z ∧ hasT m1 z = true := by
  obtain ⟨z, h1, h2, _, h3⟩ := sweep h0 h5 ht hz0 hz1 hgo hw hy h ps.length (Nat.le_refl _)
  exact ⟨z, h1, h2, (hasT_let h0 h5 ht).2 fun i hi => h3 i (by omega)⟩
theorem reach_sp {y : Nat} (hy : y < 2 ^ ps.length) : ∀ k, ∃ z, z < 2 ^ ps.length ∧ Rch (nxN (hsP ps l)) ps.length y z ∧ hasT (spN ps l k) z = true
  | 0 => by
    obtain ⟨hn, hz, hl⟩ := ht_len ht
    have hst : ∀ z, hasT (List.replicate ps.length 42) z = true := fun z => (hasT_iff).2 fun i hi => .inl (ltr_star (by rw [List.getD_eq_getElem?_getD, List.getElem?_replicate]; split <;> rfl))
    exact sweep_all h0 h5 ht (m0 := List.replicate ps.length 42) (m1 := l) (by simp) hz (fun z hz _ => hsS_has h0 h5 ht hz) (fun z _ => hst z) hy (hst y)
  | k + 1 => by
    obtain ⟨hn, hz, hl⟩ := ht_len ht
    obtain ⟨z, h1, h2, h3⟩ := reach_sp hy k
    obtain ⟨z', h4, h6, h7⟩ := sweep_all h0 h5 ht (m0 := spN ps l k) (m1 := spN ps l (k + 1)) (by rw [spN_len, hz]) (by rw [spN_len, hz]) (fun z hz h => sp_step h0 h5 ht hz h) (fun z h => sp_weak h) h1 h3
    exact ⟨z', h4, h2.trans h6, h7⟩
variable {s : Nat} (hs : s < 2 ^ ps.length) (hf : fsQ ps l s = true)
include hs hf
theorem fs_none : ∀ i, i < l.length → stB9 ps l 5 i = false := fun i hi => by
  obtain ⟨_, hz, _⟩ := ht_len ht
  have := (fsQ_iff hz).1 hf i (by omega)
  rw [stB9, beq_eq_false_iff_ne]
  show (spL ps l).getD i 42 ≠ 42
  rw [this]
  exact letN_ne s i
/-- Single steps lead there. -/
theorem fs_reach {x : Nat} (hx : x < 2 ^ ps.length) : Rch (nxN (hsP ps l)) ps.length x s := by
  obtain ⟨_, hz, _⟩ := ht_len ht
  obtain ⟨z, h1, h2, h3⟩ := reach_sp h0 h5 ht hx 5
  have := frc_one hz hf (Nat.le_refl 5) (fs_none h0 h5 ht hs hf) h1 hs h3
  rw [← this]
  exact h2
theorem fs_go {x : Nat} (hx : x < 2 ^ ps.length) (h : hasT l x = true) : ∀ k, hasT (spN ps l k) (itN (hsS ps l) x k) = true ∧ itN (hsS ps l) x k < 2 ^ ps.length
  | 0 => ⟨h, hx⟩
  | k + 1 => by
    obtain ⟨hn, hz, hl⟩ := ht_len ht
    obtain ⟨h1, h2⟩ := fs_go hx h k
    exact ⟨sp_step h0 h5 ht h2 h1, hsS_lt hn hl h0 h5 _⟩
/-- Steps of all switches lead there, in no more steps than there are switches. -/
theorem fs_tail : ∃ b, b ≤ ps.length ∧ ∀ x, x < 2 ^ ps.length → itN (hsS ps l) x b = s := by
  obtain ⟨hn, hz, hl⟩ := ht_len ht
  have hno := sp_none hz hf
  obtain ⟨c1, c2⟩ := cntB_le (p := stB9 ps l 0) (q := fun _ => true) l.length (fun _ _ _ => rfl)
  rw [cntB_all] at c1 c2
  by_cases e : cntB (stB9 ps l 0) l.length = l.length
  · refine ⟨l.length, by omega, fun x hx => ?_⟩
    have hx0 : hasT l x = true := hasT_iff.2 fun i hi => .inl (ltr_star (stB9_iff.1 (c2 e i hi)))
    obtain ⟨h1, h2⟩ := fs_go h0 h5 ht hs hf hx hx0 l.length
    rw [e] at hno
    exact frc_one hz hf (by omega) hno h2 hs h1
  · refine ⟨cntB (stB9 ps l 0) l.length + 1, by omega, fun x hx => ?_⟩
    rw [itN_fr]
    obtain ⟨h1, h2⟩ := fs_go h0 h5 ht hs hf (hsS_lt hn hl h0 h5 x) (hsS_has h0 h5 ht hx) (cntB (stB9 ps l 0) l.length)
    exact frc_one hz hf (by omega) hno h2 hs h1
theorem fs_fix : hsS ps l s = s := by
  obtain ⟨hn, hz, hl⟩ := ht_len ht
  obtain ⟨b, hb, h⟩ := fs_tail h0 h5 ht hs hf
  have h1 := h s hs
  have h2 := h _ (hsS_lt hn hl h0 h5 s)
  rw [← itN_fr] at h2
  have h3 : itN (hsS ps l) s (b + 1) = hsS ps l (itN (hsS ps l) s b) := rfl
  rw [h2, h1] at h3
  exact h3.symm
theorem fs_stay {y : Nat} (h : Rch (nxN (hsP ps l)) ps.length s y) : y = s := by
  obtain ⟨hn, hz, hl⟩ := ht_len ht
  have hp := pow_32 h5
  induction h with
  | here => rfl
  | step _ hi ih =>
    rename_i y' i' _
    rw [ih]
    refine eq_pow (nx_lt h0 h5 ht hi hs) hs fun j hj => ?_
    rw [nx_bit h0 h5 ht hi hj hs, fs_fix h0 h5 ht hs hf]
    split
    · rename_i e; rw [e]
    · rfl
end

end Go.Proofs.YtklegalmacekcaaGreatDoor
/- Walks: the states after one step of one switch; the states that are chosen. -/
namespace Go.Proofs.YtklegalmacekcaaGreatDoor
open Go.RowKit

/-- The states that steps of the first switches lead to. -/
def nxL (qs : List ByteArray) (s : Nat) : Nat → List Int
  | 0 => []
  | k + 1 => if nxN qs s k = s then nxL qs s k else nxL qs s k ++ [((nxN qs s k : Nat) : Int)]
theorem nxL_len (qs : List ByteArray) (s : Nat) : ∀ k, (nxL qs s k).length ≤ k
  | 0 => Nat.le_refl _
  | k + 1 => by
    have := nxL_len qs s k
    rw [nxL]
    split
    · omega
    · simp; omega
theorem nxL_skip {qs : List ByteArray} {s k : Nat} (h : nxN qs s k = s) : nxL qs s (k + 1) = nxL qs s k := by rw [nxL, if_pos h]
theorem nxL_take {qs : List ByteArray} {s k : Nat} (h : ¬ nxN qs s k = s) : nxL qs s (k + 1) = nxL qs s k ++ [((nxN qs s k : Nat) : Int)] := by rw [nxL, if_neg h]

set_option maxHeartbeats 2000000 in
theorem next_ok (ao : Option Addr) (c : Nat) (ps : List ByteArray) (s : Nat) (w : World) (h : RowN w ao ps.length c ps.length (bitsN ps ps.length)) (hn : netB ps = true) (h5 : ps.length ≤ 5) (hs : s < 2 ^ ps.length) :
    Calls Tryz.prog 79 #[.slice ao ps.length c, .int .i64 s] w fun e w' => ∃ a L, e = .returned (.slice a L L) ∧ OutI w' w.heap.size a L L (nxL ps s ps.length) ∧ Below w.heap.size w w' := by
  have HS := Lib.hid (fun i W (hb : Below w.heap.size w W) (hi : i < ps.length) => stepOne_ok ao c ps s i W (h.below hb (Nat.le_refl _)) hn h5 hs hi)
  have HNx : Hid (∀ i, setN s i (bitN ps i s) = nxN ps s i) := fun i => rfl
  have HTk := Lib.hid (fun k => nxL_take (qs := ps) (s := s) (k := k))
  have HSk := Lib.hid (fun k => nxL_skip (qs := ps) (s := s) (k := k))
  have HLn := Lib.hid (fun k => nxL_len ps s k)
  clear hn h hs
  generalize ps.length = n at HS h5 ⊢
  go_enter Tryz.func79, Tryz.ntmps79
  go_wp2_with fail
  go_loopw [5, 10] (fun v q wr => ∃ k : Nat, k ≤ n ∧ q = .int .i64 k ∧ OwnI wr w.heap.size v (nxL ps s k) ∧ Below w.heap.size w wr) (fun _ q _ => n - (intOf q).toNat)
  case atStart => exact ⟨0, Nat.zero_le _, rfl, OwnI.nil _ _, Below.refl _ _⟩
  case round =>
    obtain ⟨k, hk, rfl, ho, hb⟩ := hrel
    have HO := Lib.hid ho
    have HB := Lib.hid hb
    have hlen := HLn.out k
    clear ho hb
    by_cases hlt : k < n
    · have hlt' : (k : Int) < (n : Int) := by omega
      have HSt := Lib.hid (HS.out k wr HB.out hlt)
      rw [HNx.out k] at HSt
      have HT := Lib.hid (HTk.out k)
      have HK := Lib.hid (HSk.out k)
      generalize nxN ps s k = u at HSt HT HK
      by_cases hu : u = s
      · subst hu
        go_wp2_with fail
        refine HSt.out.mono ?_
        rintro e w2 ⟨rfl, b2⟩
        have C2 := Lib.hid (HB.out.trans (b2.mono HB.out.size))
        have O2 := Lib.hid (HO.out.belowD b2 (Nat.le_refl _))
        clear b2
        go_wp2_with fail
        go_roundw
        case rel => exact ⟨k + 1, by omega, by go_num, by rw [HK.out trivial]; exact O2.out, C2.out⟩
        case measure => simp [intOf]; omega
      · have hne : ((u : Int) == (s : Int)) = false := by rw [beq_eq_false_iff_ne]; omega
        have HU := Lib.hid hu
        clear hu
        go_wp2_with fail
        refine HSt.out.mono ?_
        rintro e w2 ⟨rfl, b2⟩
        have C2 := Lib.hid (HB.out.trans (b2.mono HB.out.size))
        have O2 := Lib.hid (HO.out.belowD b2 (Nat.le_refl _))
        clear b2
        go_wp2_with (at_builtin; refine wpList_appI (OwnI.alloc O2.out _) (RowI.one _ _) rfl _ _ rfl rfl rfl (by omega) (by have := C2.out.size; simp; omega) ?_; intro v6 w6 o6 g6)
        go_roundw
        case rel => exact ⟨k + 1, by omega, by go_num, by rw [HT.out HU.out]; exact o6, (C2.out.alloc C2.out.size _).grown g6 (by have := C2.out.size; simp; omega) (fun j hj => (World.ownsRow.lt O2.out j hj).1)⟩
        case measure => simp [intOf] <;> omega
    · obtain rfl : k = n := by omega
      obtain ⟨oa, oc, rfl, q, hsp⟩ := HO.out.outC
      have hlen' := hlen
      obtain ⟨zs, hzs⟩ : ∃ zs, nxL ps s k = zs := ⟨_, rfl⟩
      rw [hzs] at q hlen ⊢
      have HZ := Lib.hid hzs
      clear hzs
      have HClp := Lib.hid (fun W => ClipI_ok oa zs.length oc W q.2.row.le q.2.row.cap q.2.row.nil hsp)
      have HQ := Lib.hid q
      clear hlen' q hsp
      go_wp2_with fail
      refine (HClp.out _).mono ?_
      rintro e w3 ⟨rfl, rfl⟩
      go_wp2_with fail
      go_ret
      exact ⟨oa, _, rfl, by rw [HZ.out]; exact HQ.out.clipC, HB.out⟩

/-- The numbers below k that are chosen. -/
def whL (f : Nat → Bool) (k : Nat) : List Int := ((List.range k).filter f).map fun i => ((i : Nat) : Int)
theorem whL_skip {f : Nat → Bool} {k : Nat} (h : f k = false) : whL f (k + 1) = whL f k := by simp [whL, List.range_succ, h]
theorem whL_take {f : Nat → Bool} {k : Nat} (h : f k = true) : whL f (k + 1) = whL f k ++ [((k : Nat) : Int)] := by simp [whL, List.range_succ, h]
theorem whL_len (f : Nat → Bool) (k : Nat) : (whL f k).length ≤ k := by
  rw [whL, List.length_map]
  have := List.length_filter_le f (List.range k)
  simpa using this

set_option maxHeartbeats 2000000 in
theorem which_ok (ao : Option Addr) (n c g : Nat) (cap : Array Value) (f : Nat → Bool) (w : World) (h5 : n ≤ 5) (hg : ∀ args W, (callFunc g args).run Tryz.prog W = .ok (.enter g args) W)
    (hf : ∀ s, s < 2 ^ n → ∀ W, Below w.heap.size w W → Calls Tryz.prog g (#[.int .i64 s] ++ cap) W fun e W' => e = .returned (.bool (f s)) ∧ Below W.heap.size W W') :
    Calls Tryz.prog 55 #[.slice ao n c, .func (.func g) #[] cap] w fun e w' => ∃ a L, e = .returned (.slice a L L) ∧ OutI w' w.heap.size a L L (whL f (2 ^ n)) ∧ Below w.heap.size w w' := by
  have hp : (2 ^ n : Nat) ≤ 32 := Nat.pow_le_pow_right (n := 2) (by decide) h5
  have HSt := Lib.hid (fun W => states_ok ao n c W (by omega))
  have HF := Lib.hid hf
  have HLn := Lib.hid (fun k => whL_len f k)
  clear hf
  generalize (2 ^ n : Nat) = N at hp HF HSt ⊢
  go_enter Tryz.func55, Tryz.ntmps55
  go_wp2_with fail
  refine (HSt.out _).mono ?_
  rintro e w1 ⟨rfl, rfl⟩
  go_wp2_with fail
  go_loopw [5, 9] (fun v q wr => ∃ k : Nat, k ≤ N ∧ q = .int .i64 k ∧ OwnI wr w.heap.size v (whL f k) ∧ Below w.heap.size w wr) (fun _ q _ => N - (intOf q).toNat)
  case atStart => exact ⟨0, Nat.zero_le _, rfl, OwnI.nil _ _, Below.refl _ _⟩
  case round =>
    obtain ⟨k, hk, rfl, ho, hb⟩ := hrel
    have HO := Lib.hid ho
    have HB := Lib.hid hb
    have hlen := HLn.out k
    clear ho hb
    by_cases hlt : k < N
    · have hlt' : (k : Int) < (N : Int) := by omega
      have HSk := Lib.hid (HF.out k hlt wr HB.out)
      cases hh : f k with
      | false =>
        have HN := Lib.hid (whL_skip hh)
        rw [hh] at HSk
        clear hh
        go_wp2_with fail
        refine HSk.out.mono ?_
        rintro e w2 ⟨rfl, b2⟩
        have C2 := Lib.hid (HB.out.trans (b2.mono HB.out.size))
        have O2 := Lib.hid (HO.out.belowD b2 (Nat.le_refl _))
        clear b2
        go_wp2_with fail
        go_roundw
        case rel => exact ⟨k + 1, by omega, by go_num, by rw [HN.out]; exact O2.out, C2.out⟩
        case measure => simp [intOf]; omega
      | true =>
        have HN := Lib.hid (whL_take hh)
        rw [hh] at HSk
        clear hh
        go_wp2_with fail
        refine HSk.out.mono ?_
        rintro e w2 ⟨rfl, b2⟩
        have C2 := Lib.hid (HB.out.trans (b2.mono HB.out.size))
        have O2 := Lib.hid (HO.out.belowD b2 (Nat.le_refl _))
        clear b2
        go_wp2_with (at_builtin; refine wpList_appI (OwnI.alloc O2.out _) (RowI.one _ _) rfl _ _ rfl rfl rfl (by omega) (by have := C2.out.size; simp; omega) ?_; intro v6 w6 o6 g6)
        go_roundw
        case rel => exact ⟨k + 1, by omega, by go_num, by rw [HN.out]; exact o6, (C2.out.alloc C2.out.size _).grown g6 (by have := C2.out.size; simp; omega) (fun j hj => (World.ownsRow.lt O2.out j hj).1)⟩
        case measure => simp [intOf] <;> omega
    · obtain rfl : k = N := by omega
      obtain ⟨oa, oc, rfl, q, hsp⟩ := HO.out.outC
      obtain ⟨zs, hzs⟩ : ∃ zs, whL f k = zs := ⟨_, rfl⟩
      rw [hzs] at q hlen ⊢
      have HZ := Lib.hid hzs
      clear hzs
      have HClp := Lib.hid (fun W => ClipI_ok oa zs.length oc W q.2.row.le q.2.row.cap q.2.row.nil hsp)
      have HQ := Lib.hid q
      clear q hsp
      go_wp2_with fail
      refine (HClp.out _).mono ?_
      rintro e w3 ⟨rfl, rfl⟩
      go_wp2_with fail
      go_ret
      exact ⟨oa, _, rfl, by rw [HZ.out]; exact HQ.out.clipC, HB.out⟩

end Go.Proofs.YtklegalmacekcaaGreatDoor
/- A set of ints: a map to bools that the call itself makes, told by a function; a range over it. -/
namespace Go.Proofs.YtklegalmacekcaaGreatDoor
open Go.RowKit Go.Maps

theorem lawInt' : Keyed Tryz.prog 3 := int_keyed Tryz.underlying3
theorem zeroBool (w : World) : (zeroValue 4).run Tryz.prog w = .ok (.bool false) w := by kernel_rfl
theorem wf_key' (x : Int) (h : -9223372036854775808 ≤ x ∧ x ≤ 9223372036854775807) : keyOf Tryz.prog 3 (.int .i64 x) = some (.int .i64 x) := keyOf_int_mk Tryz.underlying3 (WalkArith.wf_i64 h)

/-- What a map reads as is this set. -/
def SetD (D : DataW Unit) (F : Int → Bool) : Prop := ∀ x, Maps.has D (.int .i64 x) = F x ∧ (F x = true → ∀ z, D.atKey (.int .i64 x) z = .lit (.bool true))
/-- Block b is a map of at most n entries, all true, at just the x of F. -/
def MapB (w : World) (b n : Nat) (F : Int → Bool) : Prop := ∃ D : DataW Unit, w.ownsMap Tryz.prog 3 (plainElem Tryz.prog 4) b n D ∧ SetD D F

theorem MapB.lt {w : World} {b n : Nat} {F : Int → Bool} (h : MapB w b n F) : b < w.heap.size := let ⟨_, h1, _⟩ := h; h1.lt
theorem MapB.made (w : World) : MapB (w.alloc (.map #[] 0)) w.heap.size 0 fun _ => false :=
  ⟨.map [], World.ownsMap_made _ _ _ _, fun x => ⟨rfl, fun h => by cases h⟩⟩
theorem MapB.of_block {w w' : World} {b n : Nat} {F : Int → Bool} (h : MapB w b n F) (hb : w'.heap[b]? = w.heap[b]?) : MapB w' b n F := by
  obtain ⟨D, ⟨es, clock, h1, h2⟩, h3⟩ := h
  exact ⟨D, ⟨es, clock, hb.trans h1, h2⟩, h3⟩
theorem MapB.below {w w' : World} {B b n : Nat} {F : Int → Bool} (h : MapB w b n F) (hb : Below B w w') (hB : b < B) : MapB w' b n F := h.of_block (hb.block b hB)
theorem MapB.drewN {w : World} {b n : Nat} {F : Int → Bool} (h : MapB w b n F) (k : Nat) : MapB (w.drewN k) b n F := h.of_block rfl
theorem MapB.alloc {w : World} {b n : Nat} {F : Int → Bool} (h : MapB w b n F) (o : Obj) : MapB (w.alloc o) b n F := h.of_block (Below.heap_alloc _ _ _ h.lt)
theorem MapB.grown {w w' : World} {b n : Nat} {F : Int → Bool} {row : Option Nat} (h : MapB w b n F) (hg : w.grownBy w' row) (hne : some b ≠ row) : MapB w' b n F := by
  obtain ⟨D, h1, h2⟩ := h
  exact ⟨D, h1.kept hg hne, h2⟩
theorem MapB.mono {w : World} {b n m : Nat} {F : Int → Bool} (h : MapB w b n F) (hm : n ≤ m) : MapB w b m F := by
  obtain ⟨D, h1, h2⟩ := h
  exact ⟨D, h1.mono hm, h2⟩

theorem plainElem_bool_invP {P : Program} {e : TypeId} (he : P.underlying e = some .bool) {v : Value} {z : DataW Unit × List MemPlace} (h : plainElem P e v = some z) : ∃ a : Bool, v = .bool a ∧ z = (.lit (.bool a), []) := by
  unfold plainElem at h
  rw [he] at h
  cases v <;> simp at h
  exact ⟨_, rfl, h.symm⟩
theorem plainElem_bool_inv {v : Value} {z : DataW Unit × List MemPlace} (h : plainElem Tryz.prog 4 v = some z) : ∃ a : Bool, v = .bool a ∧ z = (.lit (.bool a), []) := plainElem_bool_invP Tryz.underlying4 h

theorem MapB.look {w : World} {b n : Nat} {F : Int → Bool} (h : MapB w b n F) (x : Int) (hx : -9223372036854775808 ≤ x ∧ x ≤ 9223372036854775807) :
    (Instr.lookup 81 (.map (some b)) (.int .i64 x) false).run Tryz.prog w = .ok (.bool (F x)) w := by
  obtain ⟨D, h1, h2⟩ := h
  obtain ⟨v, ps, hrun, hv⟩ := h1.lookup lawInt' Tryz.underlying81 (zeroBool w) (zd := .lit (.bool false)) (zp := []) (plainElem_bool Tryz.underlying4 _) (wf_key' x hx)
  obtain ⟨c, rfl, hc⟩ := plainElem_bool_inv hv
  have hat : D.atKey (.int .i64 x) (.lit (.bool false)) = .lit (.bool c) := congrArg Prod.fst hc
  obtain ⟨e1, e2⟩ := h2 x
  rw [hrun]
  cases hF : F x with
  | false =>
    rw [hF] at e1
    rw [atKey_of_not_has e1] at hat
    cases hat
    rfl
  | true =>
    rw [e2 hF] at hat
    cases hat
    rfl

/-- F with x. -/
def addF (F : Int → Bool) (x : Int) : Int → Bool := fun y => F y || (y == x)
theorem SetD.put {D : DataW Unit} {F : Int → Bool} (h : SetD D F) (hD : IsMap D) (k : Int) : SetD (D.put (.int .i64 k) (.lit (.bool true))) (addF F k) := by
  intro y
  obtain ⟨e1, e2⟩ := h y
  by_cases hy : y = k
  · subst hy
    simp only [addF, beq_self_eq_true, Bool.or_true]
    exact ⟨has_put_same hD (by trivial) _, fun _ z => atKey_put_same hD (by trivial) _ _⟩
  · have hne : (Lit.int .i64 y) ≠ (.int .i64 k) := fun e => hy (by cases e; rfl)
    have hb : (y == k) = false := by rw [beq_eq_false_iff_ne]; exact hy
    simp only [addF, hb, Bool.or_false]
    exact ⟨by rw [has_put_other hne]; exact e1, fun h z => by rw [atKey_put_other hne]; exact e2 h z⟩

theorem wpList_mapB {w : World} {ops : Array Oper} {rest : List Oper} {o : Oper} {a : Act} {Q : Exit → Act → World → Prop} {b n : Nat} {F : Int → Bool} (h : MapB w b n F)
    (hg : o.guard = none) (m x v : Operand) (hop : o.op = Op.mapUpdate 81 m x v) (hm : a.eval m = .map (some b)) (hn : n < maxLen) (k : Int) (hx : a.eval x = .int .i64 k) (hv : a.eval v = .bool true)
    (hk : -9223372036854775808 ≤ k ∧ k ≤ 9223372036854775807)
    (hK : ∀ w', MapB w' b (n + 1) (addF F k) → Below b w w' → w.grownBy w' (some b) → wpList Tryz.prog ops Q rest (a.put o.dst undef) w') : wpList Tryz.prog ops Q (o :: rest) a w := by
  obtain ⟨D, h1, h2⟩ := h
  refine wpList_mapUpdate_own w hg m x v _ hop 3 4 lawInt' Tryz.underlying81 _ b n D hm h1 hn _ _ _ hx hv (wf_key' k hk) _ [] (plainElem_bool Tryz.underlying4 _) ?_
  intro w' r1 r2
  have hlt := h1.lt
  exact hK w' ⟨_, r1, h2.put h1.isMap k⟩ ⟨r2.os, r2.tape, r2.output, r2.size, fun i hi => r2.block i (by omega) (by simp; omega)⟩ r2

/-- A range over the set under way: left: the numbers still to come. -/
def RngB (w : World) (b r n : Nat) (F left : Int → Bool) (cnt : Nat) : Prop :=
  ∃ (D : DataW Unit) (L : Lit → Bool), w.ranges Tryz.prog 3 (plainElem Tryz.prog 4) b r n D L cnt ∧ SetD D F ∧ ∀ x, L (.int .i64 x) = left x
theorem RngB.map {w : World} {b r n : Nat} {F left : Int → Bool} {cnt : Nat} (h : RngB w b r n F left cnt) : MapB w b n F := let ⟨D, _, h1, h2, _⟩ := h; ⟨D, h1.owns, h2⟩
theorem RngB.lt {w : World} {b r n : Nat} {F left : Int → Bool} {cnt : Nat} (h : RngB w b r n F left cnt) : r < w.heap.size ∧ b < w.heap.size := ⟨let ⟨_, _, h1, _⟩ := h; h1.lt, h.map.lt⟩
theorem RngB.left_eq {w : World} {b r n : Nat} {F left : Int → Bool} {cnt : Nat} (h : RngB w b r n F left cnt) : w.rangeLeft b r = cnt := let ⟨_, _, h1, _⟩ := h; h1.left_eq
theorem RngB.kept {w w' : World} {b r n : Nat} {F left : Int → Bool} {cnt : Nat} {row : Option Nat} (h : RngB w b r n F left cnt) (hg : w.grownBy w' row) (hb : some b ≠ row) (hr : some r ≠ row) : RngB w' b r n F left cnt := by
  obtain ⟨D, L, h1, h2, h3⟩ := h
  exact ⟨D, L, h1.kept hg hb hr, h2, h3⟩
theorem RngB.of_blocks {w w' : World} {b r n : Nat} {F left : Int → Bool} {cnt : Nat} (h : RngB w b r n F left cnt) (hb : w'.heap[b]? = w.heap[b]?) (hr : w'.heap[r]? = w.heap[r]?) : RngB w' b r n F left cnt := by
  obtain ⟨D, L, ⟨es, clock, since, seen, c0, h1, h2, h3, h4, h5, h6⟩, h7, h8⟩ := h
  exact ⟨D, L, ⟨es, clock, since, seen, c0, hb.trans h1, h2, h3, h4, hr.trans h5, h6⟩, h7, h8⟩
theorem RngB.below {w w' : World} {B b r n : Nat} {F left : Int → Bool} {cnt : Nat} (h : RngB w b r n F left cnt) (hw : Below B w w') (hb : b < B) (hr : r < B) : RngB w' b r n F left cnt := h.of_blocks (hw.block b hb) (hw.block r hr)

theorem wpList_rangeB {w : World} {ops : Array Oper} {rest : List Oper} {o : Oper} {a : Act} {Q : Exit → Act → World → Prop} {b n : Nat} {F : Int → Bool} (h : MapB w b n F)
    (hg : o.guard = none) (m : Operand) (hop : o.op = Op.range 81 m) (hm : a.eval m = .map (some b))
    (hK : ∀ w' cnt, RngB w' b w.heap.size n F F cnt → Below w.heap.size w w' → w'.heap.size = w.heap.size + 1 → wpList Tryz.prog ops Q rest (a.put o.dst (.pointer (some ⟨w.heap.size, 0, none⟩))) w') : wpList Tryz.prog ops Q (o :: rest) a w := by
  obtain ⟨D, h1, h2⟩ := h
  refine wpList_range_own w hg m _ hop 3 4 lawInt' Tryz.underlying81 _ b n D hm h1 ?_
  intro w' r1 r2 r3
  exact hK w' _ ⟨D, _, r1, h2, fun x => (h2 x).1⟩ ⟨r2.os, r2.tape, r2.output, r2.size, fun i hi => r2.block i hi (by simp)⟩ r3

/-- All that a key of an int's type can be. -/
theorem sameKey_int (x y : Int) : (Lit.int .i64 x).sameKey (.int .i64 y) = (x == y) := by
  by_cases e : x = y
  · subst e
    rw [beq_self_eq_true]
    exact WideAt.sameKey_self (by trivial)
  · have : (x == y) = false := by rw [beq_eq_false_iff_ne]; exact e
    rw [this]
    exact Maps.sameKey_ne fun h => e (by cases h; rfl)

theorem wpList_nextB {w : World} {ops : Array Oper} {rest : List Oper} {o : Oper} {a : Act} {Q : Exit → Act → World → Prop} {b r n cnt : Nat} {F left : Int → Bool} (h : RngB w b r n F left cnt)
    (hg : o.guard = none) (it : Operand) (hop : o.op = Op.next it false) (hit : a.eval it = .pointer (some ⟨r, 0, none⟩))
    (hDone : (∀ x, left x = false) → wpList Tryz.prog ops Q rest (a.put o.dst (.tuple #[.bool false])) w)
    (hMore : ∀ (x : Int) (cv : Value) (w' : World) (cnt' : Nat), -9223372036854775808 ≤ x → x ≤ 9223372036854775807 → left x = true → RngB w' b r n F (fun z => left z && !(z == x)) cnt' → cnt' < cnt → w.grownBy w' (some r) → w'.heap.size = w.heap.size →
      (Instr.entry (.pointer (some ⟨r, 0, none⟩))).run Tryz.prog w' = .ok (.tuple #[.int .i64 x, cv]) w' → wpList Tryz.prog ops Q rest (a.put o.dst (.tuple #[.bool true, .int .i64 x, cv])) w') :
    wpList Tryz.prog ops Q (o :: rest) a w := by
  obtain ⟨D, L, h1, h2, h3⟩ := h
  refine wpList_next_ranges w hg it hop 3 lawInt' (plainElem Tryz.prog 4) (Value.int .i64) Value.bool (fun key kl hkey => by obtain ⟨x, rfl, _⟩ := Maps.keyOf_int_inv Tryz.underlying3 hkey; exact ⟨x, rfl⟩) (fun v y hv => by obtain ⟨c, rfl, _⟩ := plainElem_bool_inv hv; exact ⟨c, rfl⟩)
    b r n D L cnt hit h1 (fun _ hl => hDone fun x => by rw [← h3]; exact hl _) (fun x c kl y w' cnt' hkey hlk hv hat hrg hlt hgr hsz hen => ?_)
  obtain ⟨x', ex, rfl, hwx⟩ := Maps.keyOf_int_inv Tryz.underlying3 hkey
  cases ex
  have hwb : -9223372036854775808 ≤ x ∧ x ≤ 9223372036854775807 := by simpa [Lit.wf, IntKind.min, IntKind.max, IntKind.signed, IntKind.bits] using hwx
  refine hMore x (.bool c) w' cnt' hwb.1 hwb.2 (by rw [← h3]; exact hlk) ⟨D, _, hrg, h2, fun z => ?_⟩ hlt hgr hsz hen
  show (L (.int .i64 z) && !(Lit.int .i64 z).sameKey (.int .i64 x)) = _
  rw [h3, sameKey_int]

/-- A map literal's entry. -/
theorem wpList_insB {w : World} {ops : Array Oper} {rest : List Oper} {o : Oper} {a : Act} {Q : Exit → Act → World → Prop} {b n : Nat} {F : Int → Bool} (h : MapB w b n F)
    (hg : o.guard = none) (m x v : Operand) (hop : o.op = Op.insert 81 m x v) (hm : a.eval m = .map (some b)) (hn : n < maxLen) (k : Int) (hx : a.eval x = .int .i64 k) (hv : a.eval v = .bool true)
    (hk : -9223372036854775808 ≤ k ∧ k ≤ 9223372036854775807)
    (hK : ∀ w', MapB w' b (n + 1) (addF F k) → Below b w w' → w.grownBy w' (some b) → wpList Tryz.prog ops Q rest (a.put o.dst undef) w') : wpList Tryz.prog ops Q (o :: rest) a w := by
  obtain ⟨D, h1, h2⟩ := h
  have hlt := h1.lt
  refine wpList_plain hg fun K' hK' => ?_
  obtain ⟨w', hrun, r1, r2⟩ := h1.update lawInt' Tryz.underlying81 hn (wf_key' k hk) (plainElem_bool Tryz.underlying4 true)
  have hKw := hK w' ⟨_, r1, h2.put h1.isMap k⟩ ⟨r2.os, r2.tape, r2.output, r2.size, fun i hi => r2.block i (by omega) (by simp; omega)⟩ r2
  unfold Oper.wp
  simp [execOp, hop, hm, hx, hv, hrun, Result.andThen]
  exact hK' _ _ hKw

/-- The set that a block holds: it is one. -/
theorem MapB.uniq {w : World} {b n m : Nat} {F G : Int → Bool} (h : MapB w b n F) (h' : MapB w b m G) : F = G := by
  obtain ⟨D, ⟨es, clock, h1, _, _, h2⟩, h3⟩ := h
  obtain ⟨D', ⟨es', clock', h1', _, _, h2'⟩, h3'⟩ := h'
  rw [h1] at h1'
  cases h1'
  funext x
  rw [← (h3 x).1, ← (h3' x).1, h2, h2']
open Classical in
/-- The set in a block, for a loop's measure. -/
noncomputable def setAt (w : World) (b : Nat) : Int → Bool := if h : ∃ F n, MapB w b n F then Classical.choose h else fun _ => false
theorem setAt_eq {w : World} {b n : Nat} {F : Int → Bool} (h : MapB w b n F) : setAt w b = F := by
  have hx : ∃ F n, MapB w b n F := ⟨F, n, h⟩
  unfold setAt
  rw [dif_pos hx]
  obtain ⟨m, hm⟩ := Classical.choose_spec hx
  exact hm.uniq h

end Go.Proofs.YtklegalmacekcaaGreatDoor
/- Plain: a set that grows along steps of single switches. -/
namespace Go.Proofs.YtklegalmacekcaaGreatDoor
open Go.RowKit

def natI (tl : List Nat) : List Int := tl.map fun m => ((m : Nat) : Int)
theorem natI_snoc (tl : List Nat) (t : Nat) : natI (tl ++ [t]) = natI tl ++ [((t : Nat) : Int)] := by simp [natI]
theorem natI_len (tl : List Nat) : (natI tl).length = tl.length := by simp [natI]
theorem natI_last (tl : List Nat) (t : Nat) : gI (natI (tl ++ [t])) tl.length = ((t : Nat) : Int) := by
  rw [natI_snoc, gI, List.getD_eq_getElem?_getD, List.getElem?_append_right (by rw [natI_len]; exact Nat.le_refl _), natI_len]
  simp
/-- How many numbers are not in the set. -/
def unN (F : Int → Bool) (N : Nat) : Nat := cntB (fun y => !F (y : Nat)) N
theorem unN_le (F : Int → Bool) (N : Nat) : unN F N ≤ N := by
  have := (cntB_le (p := fun y => !F (y : Nat)) (q := fun _ => true) N (fun _ _ _ => rfl)).1
  rw [cntB_all] at this
  exact this
theorem unN_add {F : Int → Bool} {N u : Nat} (hu : u < N) (h : F (u : Nat) = false) : unN (addF F (u : Nat)) N + 1 ≤ unN F N := by
  obtain ⟨h1, h2⟩ := cntB_le (p := fun y => !addF F (u : Nat) (y : Nat)) (q := fun y => !F (y : Nat)) N (fun i _ hi => by
    simp only [addF] at hi
    revert hi
    cases F ((i : Nat) : Int) <;> simp)
  have h3 : cntB (fun y => !addF F (u : Nat) (y : Nat)) N ≠ cntB (fun y => !F (y : Nat)) N := fun e => by
    have := h2 e u hu
    simp [addF, h] at this
  have h4 : cntB (fun y => !addF F (u : Nat) (y : Nat)) N < cntB (fun y => !F (y : Nat)) N := Nat.lt_of_le_of_ne h1 h3
  exact h4
theorem addF_get {F : Int → Bool} {u y : Int} : addF F u y = true ↔ F y = true ∨ y = u := by simp [addF]

/-- The set while it grows: tl: what is still to be followed; P: what is being followed. -/
def RI (nx : Nat → Nat → Nat) (n N x : Nat) (F : Int → Bool) (tl : List Nat) (P : Nat → Prop) : Prop :=
  F (x : Nat) = true ∧ (∀ y : Int, F y = true → ∃ m : Nat, y = m ∧ m < N ∧ Rch nx n x m) ∧ (∀ m ∈ tl, F (m : Nat) = true) ∧ ∀ m : Nat, F (m : Nat) = true → m ∈ tl ∨ P m ∨ ∀ i, i < n → F (nx m i : Nat) = true
section
variable {nx : Nat → Nat → Nat} {n N x : Nat} {F : Int → Bool} {tl : List Nat} {P : Nat → Prop} {t u : Nat}
theorem RI.start (hx : x < N) : RI nx n N x (addF (fun _ => false) (x : Nat)) [x] fun _ => False := by
  refine ⟨addF_get.2 (.inr rfl), fun y hy => ?_, fun m hm => addF_get.2 (.inr (by simp at hm; rw [hm])), fun m hm => .inl ?_⟩
  · rcases addF_get.1 hy with h | h
    · cases h
    · exact ⟨x, h, hx, .here⟩
  · rcases addF_get.1 hm with h | h
    · cases h
    · simp; omega
theorem RI.pop (h : RI nx n N x F (tl ++ [t]) fun _ => False) : RI nx n N x F tl (fun m => m = t) ∧ F (t : Nat) = true ∧ t < N ∧ Rch nx n x t := by
  obtain ⟨h1, h2, h3, h4⟩ := h
  have ht := h3 t (by simp)
  obtain ⟨m, e, hm, hr⟩ := h2 _ ht
  obtain rfl : t = m := by omega
  refine ⟨⟨h1, h2, fun m hm => h3 m (by simp [hm]), fun m hm => ?_⟩, ht, hm, hr⟩
  rcases h4 m hm with h | h | h
  · rcases List.mem_append.1 h with h | h
    · exact .inl h
    · exact .inr (.inl (by simpa using h))
  · exact absurd h id
  · exact .inr (.inr h)
theorem RI.push (h : RI nx n N x F tl P) (hu : u < N) (hr : Rch nx n x u) : RI nx n N x (addF F (u : Nat)) (tl ++ [u]) P := by
  obtain ⟨h1, h2, h3, h4⟩ := h
  refine ⟨addF_get.2 (.inl h1), fun y hy => ?_, fun m hm => ?_, fun m hm => ?_⟩
  · rcases addF_get.1 hy with h | h
    · exact h2 y h
    · exact ⟨u, h, hu, hr⟩
  · rcases List.mem_append.1 hm with h | h
    · exact addF_get.2 (.inl (h3 m h))
    · exact addF_get.2 (.inr (by simp at h; rw [h]))
  · rcases addF_get.1 hm with h | h
    · rcases h4 m h with h | h | h
      · exact .inl (by simp [h])
      · exact .inr (.inl h)
      · exact .inr (.inr fun i hi => addF_get.2 (.inl (h i hi)))
    · exact .inl (by simp; exact .inr (by omega))
theorem RI.done (h : RI nx n N x F tl (fun m => m = t)) (ht : ∀ i, i < n → F (nx t i : Nat) = true) : RI nx n N x F tl fun _ => False := by
  obtain ⟨h1, h2, h3, h4⟩ := h
  refine ⟨h1, h2, h3, fun m hm => ?_⟩
  rcases h4 m hm with h | h | h
  · exact .inl h
  · subst h; exact .inr (.inr ht)
  · exact .inr (.inr h)
/-- What a set of all that can be reached is. -/
def IsRch (nx : Nat → Nat → Nat) (n x : Nat) (F : Int → Bool) : Prop := ∀ y : Int, F y = true ↔ ∃ m : Nat, y = m ∧ Rch nx n x m
theorem RI.fin (h : RI nx n N x F [] fun _ => False) : IsRch nx n x F := by
  obtain ⟨h1, h2, h3, h4⟩ := h
  intro y
  constructor
  · intro hy
    obtain ⟨m, e, _, hr⟩ := h2 y hy
    exact ⟨m, e, hr⟩
  · rintro ⟨m, rfl, hr⟩
    induction hr with
    | here => exact h1
    | step _ hi ih =>
      rcases h4 _ ih with h | h | h
      · cases h
      · exact absurd h id
      · exact h _ hi
end
theorem nxL_mem {qs : List ByteArray} {s : Nat} : ∀ {k i : Nat}, i < k → nxN qs s i = s ∨ ((nxN qs s i : Nat) : Int) ∈ nxL qs s k
  | 0, i, hi => absurd hi (Nat.not_lt_zero _)
  | k + 1, i, hi => by
    by_cases e : i = k
    · subst e
      by_cases h : nxN qs s i = s
      · exact .inl h
      · rw [nxL_take h]
        exact .inr (by simp)
    · rcases nxL_mem (k := k) (i := i) (by omega) with h | h
      · exact .inl h
      · refine .inr ?_
        rw [nxL]
        split
        · exact h
        · simp [h]
theorem nxL_from {qs : List ByteArray} {s : Nat} : ∀ {k : Nat} {z : Int}, z ∈ nxL qs s k → ∃ i, i < k ∧ z = ((nxN qs s i : Nat) : Int)
  | 0, z, h => by cases h
  | k + 1, z, h => by
    rw [nxL] at h
    split at h
    · obtain ⟨i, hi, e⟩ := nxL_from h
      exact ⟨i, by omega, e⟩
    · rcases List.mem_append.1 h with h | h
      · obtain ⟨i, hi, e⟩ := nxL_from h
        exact ⟨i, by omega, e⟩
      · exact ⟨k, Nat.lt_succ_self _, by simpa using h⟩
theorem nxL_get {qs : List ByteArray} {s n k : Nat} (h : k < (nxL qs s n).length) : ∃ i, i < n ∧ gI (nxL qs s n) k = ((nxN qs s i : Nat) : Int) := by
  have : gI (nxL qs s n) k ∈ nxL qs s n := by
    have e : gI (nxL qs s n) k = (nxL qs s n)[k] := by simp [gI, List.getD, h]
    rw [e]
    exact List.getElem_mem _
  exact nxL_from this
/-- All that is next is in the set, once the whole list was gone through. -/
theorem nxL_all {qs : List ByteArray} {s n : Nat} {F : Int → Bool} (hs : F (s : Nat) = true) (h : ∀ j, j < (nxL qs s n).length → F (gI (nxL qs s n) j) = true) : ∀ i, i < n → F (nxN qs s i : Nat) = true := fun i hi => by
  rcases nxL_mem (qs := qs) (s := s) hi with e | e
  · rw [e]; exact hs
  · obtain ⟨j, hj, ej⟩ := List.getElem_of_mem e
    have := h j hj
    rwa [show gI (nxL qs s n) j = (nxL qs s n)[j] by simp [gI, List.getD, hj], ej] at this
theorem nx_ltN {qs : List ByteArray} (hn : netB qs = true) {s i : Nat} (hi : i < qs.length) (hs : s < 2 ^ qs.length) : nxN qs s i < 2 ^ qs.length :=
  setN_pow hs hi (bitN_lt (netB_get hn i hi).1 s)

theorem OwnI.pop {w : World} {B g cc : Nat} {zs : List Int} {x : Int} {m : Nat} (h : OwnI w B (.slice (some ⟨g, 0, none⟩) m cc) (zs ++ [x])) : OwnI w B (.slice (some ⟨g, 0, none⟩) zs.length cc) zs := by
  obtain ⟨h0, h1 | ⟨g', cap, cur, e, hg, hh, hn, hm, hsz, htk⟩⟩ := h
  · cases h1.1
  · cases e
    refine ⟨by simp [ints], .inr ⟨g, cc, cur, rfl, hg, hh, ?_, hm, hsz, ?_⟩⟩
    · have : (zs ++ [x]).length = zs.length + 1 := by simp
      omega
    · have e1 : cur.toList.take (zs.length * 1) = (cur.toList.take ((zs ++ [x]).length * 1)).take zs.length := by
        rw [List.take_take]
        congr 1
        simp
      rw [e1, htk]
      have e2 : ints (zs ++ [x]) = ints zs ++ ints [x] := by simp [ints]
      rw [e2]
      have e3 : (ints zs).length = zs.length := by simp [ints]
      rw [← e3, List.take_left']
      rfl
theorem OwnI.grownR {w w' : World} {B : Nat} {v : Value} {zs : List Int} {row : Option Nat} (h : OwnI w B v zs) (hg : w.grownBy w' row) (hne : ∀ j, v.ownBlock = some j → some j ≠ row) : OwnI w' B v zs := by
  have hlt := World.ownsRow.lt h
  obtain ⟨h0, h1 | ⟨g, cap, cur, e, hB, hh, h2⟩⟩ := h
  · exact ⟨h0, .inl h1⟩
  · subst e
    refine ⟨h0, .inr ⟨g, cap, cur, rfl, hB, ?_, h2⟩⟩
    rw [hg.block g (hlt g rfl).2 (hne g rfl)]
    exact hh

end Go.Proofs.YtklegalmacekcaaGreatDoor
/- Walks: all states that single steps lead to. -/
namespace Go.Proofs.YtklegalmacekcaaGreatDoor
open Go.RowKit

theorem lenV_own {w : World} {B : Nat} {v : Value} {zs : List Int} (h : OwnI w B v zs) : lenV v = zs.length := by
  obtain ⟨a, c, rfl, _⟩ := h.out
  rfl
theorem sep_app {w : World} {v v' : Value} {a2 : Option Addr} (h : ∀ j, v.ownBlock = some j → ∀ a, a2 = some a → j ≠ a.block) (hl : ∀ a, a2 = some a → a.block < w.heap.size) (p : v'.ownBlock = v.ownBlock ∨ v'.ownBlock = some w.heap.size) :
    ∀ j, v'.ownBlock = some j → ∀ a, a2 = some a → j ≠ a.block := by
  intro j hj a ea
  rcases p with p | p
  · exact h j (p.symm.trans hj) a ea
  · rw [p] at hj
    have := Option.some.inj hj
    have := hl a ea
    omega

set_option maxRecDepth 100000 in
set_option maxHeartbeats 4000000 in
theorem reach_ok (ao : Option Addr) (c : Nat) (ps : List ByteArray) (s : Nat) (w : World) (h : RowN w ao ps.length c ps.length (bitsN ps ps.length)) (hn : netB ps = true) (h5 : ps.length ≤ 5) (hs : s < 2 ^ ps.length) :
    Calls Tryz.prog 54 #[.slice ao ps.length c, .int .i64 s] w fun e w' => ∃ F nn, e = .returned (.map (some w.heap.size)) ∧ MapB w' w.heap.size nn F ∧ nn ≤ 40 ∧ IsRch (nxN ps) ps.length s F ∧ Below w.heap.size w w' := by
  have hp : (2 ^ ps.length : Nat) ≤ 32 := Nat.pow_le_pow_right (n := 2) (by decide) h5
  have HNx := Lib.hid (fun t W (hb : Below w.heap.size w W) (ht : t < 2 ^ ps.length) => next_ok ao c ps t W (h.below hb (Nat.le_refl _)) hn h5 ht)
  have HLt := Lib.hid (fun t i (hi : i < ps.length) (ht : t < 2 ^ ps.length) => nx_ltN hn hi ht)
  have HGt := Lib.hid (fun t k (hk : k < (nxL ps t ps.length).length) => nxL_get hk)
  have HAll := Lib.hid (fun t F (ht : F (t : Nat) = true) hh => nxL_all (qs := ps) (s := t) (n := ps.length) (F := F) ht hh)
  have HLn := Lib.hid (fun t => nxL_len ps t ps.length)
  clear hn h
  generalize (2 ^ ps.length : Nat) = N at hp HNx HLt hs
  generalize ps.length = n at HNx HLt HGt HAll HLn h5 ⊢
  have hmm := @run_makeMap Tryz.prog
  have HS0 := Lib.hid (RI.start (nx := nxN ps) (n := n) hs)
  go_enter Tryz.func54, Tryz.ntmps54
  go_wp2_with (first | (refine wpList_insB (MapB.made w) rfl _ _ _ rfl rfl (by unfold maxLen; omega) _ rfl rfl (by omega) ?_; intro w1 m1 b1 g1))
  have M1 := Lib.hid m1
  have hz1 : w.heap.size < w1.heap.size := m1.lt
  have B1 := Lib.hid (((Below.refl w.heap.size w).alloc (Nat.le_refl _) (.map #[] 0)).trans b1)
  clear m1 b1 g1
  go_wp2_with fail
  go_loopw [6] (fun v wr => ∃ (F : Int → Bool) (tl : List Nat) (nn : Nat), OwnI wr (w.heap.size + 1) v (natI tl) ∧ MapB wr w.heap.size nn F ∧ nn + unN F N ≤ 40 ∧ tl.length ≤ nn ∧ RI (nxN ps) n N s F tl (fun _ => False) ∧ Below w.heap.size w wr) (fun v wr => 2 * unN (setAt wr w.heap.size) N + lenV v)
  case atStart => exact ⟨_, [s], 1, OwnI.lit w1 (w.heap.size + 1) [((s : Nat) : Int)] hz1 (by show 1 ≤ maxLen; decide), M1.out.alloc _, by have := unN_le (addF (fun _ => false) (s : Nat)) N; omega, Nat.le_refl 1, HS0.out, B1.out.alloc B1.out.size _⟩
  case round =>
    obtain ⟨F, tl, nn, ho, hm, hnn, htn, hri, hb⟩ := hrel
    have HB := Lib.hid hb
    have HM := Lib.hid hm
    clear hb hm
    rcases List.eq_nil_or_concat tl with rfl | ⟨tl, t, rfl⟩
    · obtain ⟨oa, oc, rfl, q⟩ := ho.out
      have HRi := Lib.hid hri.fin
      clear ho hri q
      have hl0 : (natI []).length = 0 := rfl
      rw [hl0]
      clear hl0
      go_wp2_with fail
      go_ret
      exact ⟨F, nn, rfl, HM.out, by omega, HRi.out, HB.out⟩
    · rw [List.concat_eq_append] at *
      obtain ⟨g, cc, rfl, hBg, hgl, hrow⟩ := ho.form (by rw [natI_len]; simp)
      have hl1 : (natI (tl ++ [t])).length = tl.length + 1 := by rw [natI_len]; simp
      have hcx := hrow.2.cell g 0 rfl tl.length (by rw [hl1]; omega)
      rw [natI_last, Nat.zero_add] at hcx
      have hcap := hrow.2.le
      have hcap2 := hrow.2.cap
      obtain ⟨hri2, hFt, htN, hrt⟩ := hri.pop
      have hO := ho
      rw [natI_snoc] at hO
      have HOp := Lib.hid hO.pop
      rw [hl1] at hcap hrow
      have hme : 2 * unN (setAt wr w.heap.size) N = 2 * unN F N := by rw [setAt_eq HM.out]
      have HMe := Lib.hid hme
      have HRi := Lib.hid hri2
      have HFt := Lib.hid hFt
      have HRt := Lib.hid hrt
      have HNt := Lib.hid (HNx.out t wr HB.out htN)
      have hln := HLn.out t
      have HGt' := HGt.out t
      have HAll' := HAll.out t
      have hls : (natI tl).length = tl.length := natI_len tl
      rw [hls] at HOp
      have htn1 : tl.length + 1 ≤ nn := by simpa using htn
      rw [hl1]
      clear ho hri hri2 htn hFt hrt hO hrow hl1 hme hls
      generalize hm : tl.length = m at *
      have Hm := Lib.hid hm
      clear hm
      unfold maxLen at hcap2
      go_wp2_with fail
      refine HNt.out.mono ?_
      rintro e w2 ⟨a2, L2, rfl, q2, b2⟩
      have hL2 := q2.1
      have Q2 := Lib.hid q2
      have B2 := Lib.hid (HB.out.trans (b2.mono HB.out.size))
      have O2 := Lib.hid (HOp.out.belowD b2 (Nat.le_refl _))
      have hml := HM.out.lt
      have M2 := Lib.hid (HM.out.below b2 hml)
      have HSep : Hid (∀ j, (Value.slice (some ⟨g, 0, none⟩) m cc).ownBlock = some j → ∀ a, a2 = some a → j ≠ a.block) := fun j hj a ea => by
        have := q2.2.own a ea
        simp [Value.ownBlock] at hj
        omega
      obtain ⟨M0, hM00⟩ : ∃ M0, M0 = 2 * unN F N + m := ⟨_, rfl⟩
      have HM00 := Lib.hid hM00
      have HM0 : Hid (2 * unN F N + tl.length ≤ M0) := by have := Hm.out; show _ ≤ _; omega
      clear hM00
      have HMb := Lib.hid (fun a (ea : a2 = some a) => show w.heap.size ≠ a.block by have := q2.2.own a ea; omega)
      have hln2 : L2 ≤ n := by omega
      have HG2 := Lib.hid HGt'
      have HA2 := Lib.hid HAll'
      have HL2 := Lib.hid hL2
      clear HGt' HAll' hL2 hln
      clear q2 b2 hcx
      go_wp2_with fail
      obtain ⟨wo, hwo⟩ : ∃ wo : World, wo = wr := ⟨_, rfl⟩
      rw [← hwo] at HMe Q2 hml
      go_loopw [6, 33] (fun v q wi => ∃ (k : Nat) (F : Int → Bool) (tl : List Nat) (nn : Nat), k ≤ L2 ∧ q = .int .i64 k ∧ OwnI wi (w.heap.size + 1) v (natI tl) ∧ MapB wi w.heap.size nn F ∧ nn + unN F N ≤ 40 ∧ tl.length ≤ nn ∧ 2 * unN F N + tl.length ≤ M0 ∧ RI (nxN ps) n N s F tl (fun x => x = t) ∧ F (t : Nat) = true ∧ (∀ j, j < k → F (gI (nxL ps t n) j) = true) ∧
          OutI wi wo.heap.size a2 L2 L2 (nxL ps t n) ∧ (∀ j, v.ownBlock = some j → ∀ a, a2 = some a → j ≠ a.block) ∧ Below w.heap.size w wi) (fun _ q _ => L2 - (intOf q).toNat)
      case atStart => exact ⟨0, F, tl, nn, Nat.zero_le _, rfl, O2.out, M2.out, hnn, by have := Hm.out; omega, HM0.out, HRi.out, HFt.out, fun j hj => absurd hj (Nat.not_lt_zero _), Q2.out, HSep.out, B2.out⟩
      case round =>
        obtain ⟨k, F, tl, nn, hk, rfl, ho, hmp, hnn, htn, hM0, hri, hFt, hall, hq, hsep, hb⟩ := hrel
        have HO := Lib.hid ho
        have HMp := Lib.hid hmp
        have HRi := Lib.hid hri
        have HFt := Lib.hid hFt
        have HAl := Lib.hid hall
        have HQ := Lib.hid hq
        have HSp := Lib.hid hsep
        have HB := Lib.hid hb
        have HM1 := Lib.hid hM0
        clear ho hmp hri hFt hall hq hsep hb hM0
        by_cases hlt : k < L2
        · have hkw : (k : Int) < (L2 : Int) := by omega
          obtain ⟨i, hi, hgi⟩ := HG2.out k (by rw [HL2.out]; exact hlt)
          obtain ⟨qb, qo, rfl, hqb⟩ := HQ.out.2.row.some (by omega)
          have hcx := HQ.out.2.row.cell qb qo rfl k hlt
          have HGi := Lib.hid hgi
          rw [hgi] at hcx
          have huN := HLt.out t i hi htN
          have HRu := Lib.hid (HRt.out.step hi)
          generalize nxN ps t i = u at hcx HGi huN HRu
          have hlk := HMp.out.look (u : Int) (by omega)
          clear hgi
          cases hF : F ((u : Nat) : Int) with
          | true =>
            rw [hF] at hlk
            have HF := Lib.hid hF
            clear hF
            go_wp2_with fail
            go_roundw
            case rel => exact ⟨k + 1, F, tl, nn, by omega, by go_num, HO.out, HMp.out, hnn, htn, HM1.out, HRi.out, HFt.out, fun j hj => by
                by_cases e : j = k
                · rw [e, HGi.out]; exact HF.out
                · exact HAl.out j (by omega), HQ.out, HSp.out, HB.out⟩
            case measure => simp [intOf]; omega
          | false =>
            rw [hF] at hlk
            have HF := Lib.hid hF
            have hun := unN_add huN hF
            have HRn := Lib.hid (HRi.out.push huN HRu.out)
            have hl1 := natI_len tl
            have hs1 := HB.out.size
            clear hF
            go_wp2_with (first
              | (at_mapUpdate; refine wpList_mapB HMp.out rfl _ _ _ rfl rfl (by unfold maxLen; omega) _ rfl rfl (by omega) ?_; intro w3 m3 b3 g3; have M3 := Lib.hid m3; have O3 := Lib.hid (HO.out.grownR g3 (fun j hj e => by have h1 := (World.ownsRow.lt HO.out j hj).1; have h2 := Option.some.inj e; omega)); have Q3 := Lib.hid (HQ.out.grown g3 (fun a ea e => by have h1 := HMb.out a ea; have h2 := Option.some.inj e; omega)); have B3 := Lib.hid (HB.out.grown g3 HB.out.size (fun j hj => by cases hj; exact Nat.le_refl _)); have hz3 := B3.out.size; have hz4 := m3.lt; clear m3 b3 g3)
              | (at_builtin; refine wpList_appI1 (OwnI.alloc O3.out _) (RowI.one _ _) rfl _ _ rfl rfl rfl (by rw [hl1]; omega) (by simp; omega) ?_; intro v6 w6 o6 g6 p6))
            go_roundw
            case rel => exact ⟨k + 1, addF F ((u : Nat) : Int), tl ++ [u], nn + 1, by omega, by go_num, by rw [natI_snoc]; exact o6, (M3.out.alloc _).grown g6 (fun e => by have := (World.ownsRow.lt O3.out _ e.symm).1; omega), by omega, by simp; omega, by have := HM1.out; simp; omega, HRn.out, addF_get.2 (.inl HFt.out), fun j hj => by
                by_cases e : j = k
                · rw [e, HGi.out]; exact addF_get.2 (.inr rfl)
                · exact addF_get.2 (.inl (HAl.out j (by omega))),
                (Q3.out.below ((Below.refl _ _).alloc (Nat.le_refl _) _) (Nat.le_refl _)).grown g6 (fun a ea e => HSp.out a.block e.symm a ea rfl), sep_app HSp.out (fun a ea => by have := Q3.out.2.lt a ea; simp; omega) p6, (B3.out.alloc B3.out.size _).grown g6 (by simp; omega) (fun j hj => by have := (World.ownsRow.lt O3.out j hj).1; omega)⟩
            case measure => simp [intOf]; omega
        · obtain rfl : k = L2 := by omega
          have HRd := Lib.hid (HRi.out.done (HA2.out F HFt.out (fun j hj => HAl.out j (by rw [← HL2.out]; exact hj))))
          go_wp2_with fail
          go_roundw
          case rel => exact ⟨F, tl, nn, HO.out, HMp.out, hnn, htn, HRd.out, HB.out⟩
          case measure =>
            have h1 := lenV_own HO.out
            rw [natI_len] at h1
            have h2 := HM1.out
            have h3 := HMe.out
            have h4 := HM00.out
            rw [setAt_eq HMp.out]
            rw [hwo] at h3
            have h5 : lenV (Value.slice (some ⟨g, 0, none⟩) (m + 1) cc) = m + 1 := rfl
            first
              | (rw [h5]; omega)
              | (rw [← hwo] at h3 ⊢; rw [h5]; omega)
              | (trace_state; simp only [hwo] at h3 ⊢; rw [h5]; omega)


end Go.Proofs.YtklegalmacekcaaGreatDoor
/- Walks: whether a state can be reached from each one that it reaches. -/
namespace Go.Proofs.YtklegalmacekcaaGreatDoor
open Go.RowKit

theorem Rch.lt {qs : List ByteArray} (hn : netB qs = true) {s t : Nat} (h : Rch (nxN qs) qs.length s t) (hs : s < 2 ^ qs.length) : t < 2 ^ qs.length := by
  induction h with
  | here => exact hs
  | step _ hi ih => exact nx_ltN hn hi ih
/-- Whether all that can be reached leads back. -/
def Stdy (nx : Nat → Nat → Nat) (n s : Nat) : Prop := ∀ t, Rch nx n s t → Rch nx n t s

set_option maxRecDepth 100000 in
set_option maxHeartbeats 4000000 in
theorem steady_ok (ao : Option Addr) (c : Nat) (ps : List ByteArray) (s : Nat) (w : World) (h : RowN w ao ps.length c ps.length (bitsN ps ps.length)) (hn : netB ps = true) (h5 : ps.length ≤ 5) (hs : s < 2 ^ ps.length) :
    Calls Tryz.prog 53 #[.slice ao ps.length c, .int .i64 s] w fun e w' => ∃ b : Bool, e = .returned (.bool b) ∧ (b = true ↔ Stdy (nxN ps) ps.length s) ∧ Below w.heap.size w w' := by
  have hp : (2 ^ ps.length : Nat) ≤ 32 := Nat.pow_le_pow_right (n := 2) (by decide) h5
  have HR := Lib.hid (fun t W (hb : Below w.heap.size w W) (ht : t < 2 ^ ps.length) => reach_ok ao c ps t W (h.below hb (Nat.le_refl _)) hn h5 ht)
  have HLt := Lib.hid (fun t (ht : Rch (nxN ps) ps.length s t) => ht.lt hn hs)
  clear hn h
  generalize (2 ^ ps.length : Nat) = N at hp HR HLt hs
  generalize ps.length = n at HR HLt h5 ⊢
  go_enter Tryz.func53, Tryz.ntmps53
  go_wp2_with fail
  refine (HR.out s w (Below.refl _ _) hs).mono ?_
  rintro e w1 ⟨F, nn, rfl, m1, hnn, hr1, b1⟩
  have B1 := Lib.hid b1
  have HI := Lib.hid hr1
  have hbm := m1.lt
  clear b1 hr1
  go_wp2_with (first | (at_range; refine wpList_rangeB m1 rfl _ rfl rfl ?_; intro w2 cnt2 rg2 b2 hs2))
  go_frame
  go_loopw [5] (fun _ wr => ∃ (left : Int → Bool) (cnt : Nat), RngB wr w.heap.size w1.heap.size nn F left cnt ∧ (∀ x, left x = true → F x = true) ∧ (∀ x : Int, F x = true → left x = false → ∀ m : Nat, x = m → Rch (nxN ps) n m s) ∧ Below w1.heap.size w1 wr) (fun _ wr => wr.rangeLeft w.heap.size w1.heap.size)
  case atStart => exact ⟨F, cnt2, rg2, fun _ hx => hx, fun x h1 h2 => (by rw [h1] at h2; cases h2), b2⟩
  case round =>
    obtain ⟨left, cnt, hrg, hsub, hdone, hb⟩ := hrel
    have HSub := Lib.hid hsub
    have HDn := Lib.hid hdone
    have HB := Lib.hid hb
    clear hsub hdone hb
    go_wp2_with (first | (at_next; refine wpList_nextB hrg rfl _ rfl rfl ?_ ?_))
    · intro hl0
      go_wp2_with fail
      go_ret
      exact ⟨true, rfl, ⟨fun _ t ht => HDn.out (t : Nat) ((HI.out _).2 ⟨t, rfl, ht⟩) (hl0 _) t rfl, fun _ => rfl⟩, B1.out.trans (HB.out.mono B1.out.size)⟩
    · intro x cv w3 cnt3 _ _ hlx rg3 hlt hg3 hs3 hen
      obtain ⟨t, rfl, htr⟩ := (HI.out x).1 (HSub.out x hlx)
      have htN := HLt.out t htr
      have B3 := Lib.hid (HB.out.grown hg3 HB.out.size (fun j hj => by have := Option.some.inj hj; omega))
      have HTr := Lib.hid htr
      have HRt := Lib.hid (HR.out t w3 (B1.out.trans (B3.out.mono B1.out.size)) htN)
      have RG3 := Lib.hid rg3
      have hr3 := rg3.lt
      have HLe : Hid (wr.rangeLeft w.heap.size w1.heap.size = cnt) := hrg.left_eq
      clear rg3 hg3 htr hrg hs3 hs2
      go_wp2_with fail
      refine HRt.out.mono ?_
      rintro e w4 ⟨F4, nn4, rfl, m4, _, hr4, b4⟩
      have hlk := m4.look (s : Int) (by omega)
      have HI4 := Lib.hid hr4
      have B4 := Lib.hid (B3.out.trans (b4.mono B3.out.size))
      have RG4 := Lib.hid (RG3.out.below b4 hr3.2 hr3.1)
      clear m4 hr4 b4
      cases hF : F4 (s : Nat) with
      | false =>
        rw [hF] at hlk
        have HF := Lib.hid hF
        clear hF
        go_wp2_with fail
        go_ret
        refine ⟨false, rfl, ⟨fun h => (by cases h), fun hst => ?_⟩, B1.out.trans (B4.out.mono B1.out.size)⟩
        have := (HI4.out (s : Nat)).2 ⟨s, rfl, hst t HTr.out⟩
        rw [HF.out] at this
        cases this
      | true =>
        rw [hF] at hlk
        have HF := Lib.hid hF
        clear hF
        go_wp2_with fail
        go_roundw
        case rel => exact ⟨_, cnt3, RG4.out, fun x hx => HSub.out x (by simp at hx; exact hx.1), fun x h1 h2 m e => by
            subst e
            simp at h2
            by_cases e2 : ((m : Nat) : Int) = (t : Nat)
            · obtain rfl : m = t := by omega
              obtain ⟨m', e3, h3⟩ := (HI4.out (s : Nat)).1 HF.out
              obtain rfl : s = m' := by omega
              exact h3
            · refine HDn.out _ h1 ?_ m rfl
              cases h4 : left ((m : Nat) : Int) with
              | false => rfl
              | true => exact absurd (h2 h4) (by omega), B4.out⟩
        case measure => rw [RG4.out.left_eq]; have := HLe.out; omega

end Go.Proofs.YtklegalmacekcaaGreatDoor
/- Rows of rows of ints that the call itself makes; the chooser by a set. -/
namespace Go.Proofs.YtklegalmacekcaaGreatDoor
open Go.RowKit

theorem iV : (Tryz.prog.info? 28).map (fun i => (i.zero, i.size, i.bytes)) = some (some (.slice none 0 0), 1, 24) := by kernel_rfl
def OwnV (w : World) (B : Nat) (v : Value) (xs : List Value) : Prop := w.ownsRow B 28 1 v xs.length xs
theorem OwnV.nil (w : World) (B : Nat) : OwnV w B (.slice none 0 0) [] := World.ownsRow_nil _ _ _ _
theorem OwnV.alloc {w : World} {B : Nat} {v : Value} {xs : List Value} (h : OwnV w B v xs) (o : Obj) : OwnV (w.alloc o) B v xs := World.ownsRow.alloc h o
theorem OwnV.lt {w : World} {B : Nat} {v : Value} {xs : List Value} (h : OwnV w B v xs) : ∀ k, v.ownBlock = some k → B ≤ k ∧ k < w.heap.size := World.ownsRow.lt h
theorem OwnV.of {w w' : World} {B : Nat} {v : Value} {xs : List Value} (h : OwnV w B v xs) (hb : ∀ k, v.ownBlock = some k → w'.heap[k]? = w.heap[k]?) : OwnV w' B v xs := by
  obtain ⟨h0, h1 | ⟨g, cap, cur, e, hg, hh, h2⟩⟩ := h
  · exact ⟨h0, .inl h1⟩
  · exact ⟨h0, .inr ⟨g, cap, cur, e, hg, by rw [hb g (by rw [e]; rfl)]; exact hh, h2⟩⟩
theorem OwnV.below {w w' : World} {B B' : Nat} {v : Value} {xs : List Value} (h : OwnV w B v xs) (hb : Below B' w w') (hB : w.heap.size ≤ B') : OwnV w' B v xs := h.of fun k hk => hb.block k (Nat.lt_of_lt_of_le (h.lt k hk).2 hB)
theorem OwnV.grown {w w' : World} {B : Nat} {v : Value} {xs : List Value} {row : Option Nat} (h : OwnV w B v xs) (hg : w.grownBy w' row) (hne : ∀ j, v.ownBlock = some j → some j ≠ row) : OwnV w' B v xs := h.of fun k hk => hg.block k (h.lt k hk).2 (hne k hk)
theorem OwnV.drewN {w : World} {B : Nat} {v : Value} {xs : List Value} (h : OwnV w B v xs) (n : Nat) : OwnV (w.drewN n) B v xs := h
theorem OwnV.base {w : World} {B B' : Nat} {v : Value} {xs : List Value} (h : OwnV w B v xs) (hB : B' ≤ B) : OwnV w B' v xs := by
  obtain ⟨h0, h1 | ⟨g, cap, cur, e, hg, h2⟩⟩ := h
  · exact ⟨h0, .inl h1⟩
  · exact ⟨h0, .inr ⟨g, cap, cur, e, Nat.le_trans hB hg, h2⟩⟩
theorem OwnV.one {w : World} {B : Nat} {v u : Value} (h : OwnV w B v [u]) : ∃ g c, v = .slice (some ⟨g, 0, none⟩) 1 c ∧ w.cell? ⟨g, 0, none⟩ = some u ∧ g < w.heap.size := by
  have hlt := h.lt
  obtain ⟨h0, ⟨_, h1⟩ | ⟨g, cap, cur, rfl, hg, hh, hn, hm, hsz, htk⟩⟩ := h
  · cases h1
  · refine ⟨g, cap, rfl, ?_, (hlt g rfl).2⟩
    rw [cell_of_row w g 0 cur 28 (0, 0) hh]
    have e : (cur.toList.take (1 * 1))[0]? = some u := by
      have : cur.toList.take ([u].length * 1) = [u] := htk
      rw [show ([u].length * 1) = 1 * 1 from rfl] at this
      rw [this]; rfl
    rw [List.getElem?_take] at e
    simpa using e

/-- 'append(out, row)'. -/
theorem wpList_appV {w : World} {ops : Array Oper} {rest : List Oper} {o : Oper} {a : Act} {Q : Exit → Act → World → Prop} {B : Nat} {v u : Value} {xs : List Value} {g : Nat} (hown : OwnV w B v xs) (hr : w.cell? ⟨g, 0, none⟩ = some u) (hu : u.oneCell' = true)
    (hgd : o.guard = none) (s x : Operand) (ho : o.op = .call { callee := .builtin .append, args := #[s, x], argTypes := #[30, 30] }) (hs : a.eval s = v) (hx : a.eval x = .slice (some ⟨g, 0, none⟩) 1 1)
    (hbytes : xs.length + 1 ≤ 1048576) (hB : B ≤ w.heap.size)
    (h : ∀ v' w', OwnV w' B v' (xs ++ [u]) → w.grownBy w' v.ownBlock → wpList Tryz.prog ops Q rest (a.put o.dst v') w') : wpList Tryz.prog ops Q (o :: rest) a w := by
  obtain ⟨i, hi, hz, hsz, hby⟩ := info_parts iV
  have e1 : xs.length + 1 = (xs ++ [u]).length := by simp
  refine wpList_append_own w hgd s x _ ho B 28 i (.slice none 0 0) 1 24 Tryz.underlying30 hi hz hsz hby rfl (by decide) v _ _ hs hown ⟨g, 0, none⟩ 1 1 [u] hx rfl (fun j y hj => ?_) (fun y hy => by simp at hy; subst hy; exact hu) (by unfold maxLen; omega) (by omega) hB ?_
  · cases j with
    | zero => simp at hj; subst hj; exact hr
    | succ j => simp at hj
  · intro v' w' r1 r2 _
    exact h v' w' (by unfold OwnV; rw [← e1]; exact r1) r2

theorem clo_ok (s p b nn : Nat) (F : Int → Bool) (w : World) (hc : w.cell? ⟨p, 0, none⟩ = some (.map (some b))) (hm : MapB w b nn F) (hs : s < 32) :
    Calls Tryz.prog 56 #[.int .i64 s, .pointer (some ⟨p, 0, none⟩)] w fun e w' => e = .returned (.bool (F (s : Nat))) ∧ Below w.heap.size w w' := by
  have hlk := hm.look (s : Int) (by omega)
  go_enter Tryz.func56, Tryz.ntmps56
  go_wp2
  go_ret
  exact ⟨rfl, Below.refl _ _⟩

theorem whL_one {F : Nat → Bool} {c N : Nat} (hc : c < N) (h : ∀ y, y < N → (F y = true ↔ y = c)) : whL F N = [((c : Nat) : Int)] := by
  have key : ∀ M, M ≤ N → (M ≤ c → whL F M = []) ∧ (c < M → whL F M = [((c : Nat) : Int)]) := by
    intro M
    induction M with
    | zero => intro _; exact ⟨fun _ => rfl, fun h => absurd h (Nat.not_lt_zero _)⟩
    | succ M ih =>
      intro hM
      obtain ⟨h1, h2⟩ := ih (by omega)
      by_cases e : M = c
      · subst e
        rw [whL_take ((h M (by omega)).2 rfl), h1 (Nat.le_refl _)]
        exact ⟨fun h => by omega, fun _ => rfl⟩
      · have : F M = false := by
          cases hF : F M with
          | false => rfl
          | true => exact absurd ((h M (by omega)).1 hF) e
        rw [whL_skip this]
        exact ⟨fun h => h1 (by omega), fun h => h2 (by omega)⟩
  exact (key N (Nat.le_refl _)).2 hc

end Go.Proofs.YtklegalmacekcaaGreatDoor
/- Walks: the attractors of a network in which all ways lead to one state. -/
namespace Go.Proofs.YtklegalmacekcaaGreatDoor
open Go.RowKit

/-- All ways lead to c, and none leads away. -/
def OneSt (nx : Nat → Nat → Nat) (n N c : Nat) : Prop := c < N ∧ (∀ x, x < N → Rch nx n x c) ∧ ∀ y, Rch nx n c y → y = c
theorem OneSt.stdy {nx : Nat → Nat → Nat} {n N c x : Nat} (h : OneSt nx n N c) (hx : x < N) : Stdy nx n x ↔ x = c := by
  obtain ⟨_, h2, h3⟩ := h
  constructor
  · intro hs
    exact h3 x (hs c (h2 x hx))
  · rintro rfl t ht
    rw [h3 t ht]
    exact .here
theorem OneSt.set {nx : Nat → Nat → Nat} {n N c : Nat} {F : Int → Bool} (h : OneSt nx n N c) (hF : IsRch nx n c F) (y : Int) : F y = true ↔ y = (c : Nat) := by
  rw [hF]
  constructor
  · rintro ⟨m, e, hm⟩
    rw [e, h.2.2 m hm]
  · intro e
    exact ⟨c, e, .here⟩
def noneF : Int → Bool := fun _ => false

set_option maxRecDepth 100000 in
set_option maxHeartbeats 8000000 in
theorem attr_ok (ao : Option Addr) (c : Nat) (ps : List ByteArray) (s : Nat) (w : World) (h : RowN w ao ps.length c ps.length (bitsN ps ps.length)) (hn : netB ps = true) (h5 : ps.length ≤ 5) (h1 : OneSt (nxN ps) ps.length (2 ^ ps.length) s) :
    Calls Tryz.prog 29 #[.slice ao ps.length c] w fun e w' => ∃ v a, e = .returned v ∧ OwnV w' w.heap.size v [.slice a 1 1] ∧ Below w.heap.size w w' := by
  have hp : (2 ^ ps.length : Nat) ≤ 32 := Nat.pow_le_pow_right (n := 2) (by decide) h5
  have HR := Lib.hid (fun t W (hb : Below w.heap.size w W) (ht : t < 2 ^ ps.length) => reach_ok ao c ps t W (h.below hb (Nat.le_refl _)) hn h5 ht)
  have HSy := Lib.hid (fun t W (hb : Below w.heap.size w W) (ht : t < 2 ^ ps.length) => steady_ok ao c ps t W (h.below hb (Nat.le_refl _)) hn h5 ht)
  have HSt := Lib.hid (fun W => states_ok ao ps.length c W (by omega))
  have HWh := Lib.hid (fun p W f hf => which_ok ao ps.length c 56 #[.pointer (some ⟨p, 0, none⟩)] f W h5 (fun _ _ => by kernel_rfl) hf)
  clear hn h
  generalize (2 ^ ps.length : Nat) = N at hp HR HSy HSt HWh h1
  generalize ps.length = n at HR HSy HSt HWh h1 h5 ⊢
  have hsN := h1.1
  have HEq := Lib.hid (fun x (hx : x < N) => h1.stdy hx)
  have HSe := Lib.hid (fun F hF => h1.set (F := F) hF)
  have hmm := @run_makeMap Tryz.prog
  have hmf : ∀ (fn : Fn) (first cap : Array Value) (w : World), (Instr.makeFunc fn first cap).run Tryz.prog w = .ok (.func fn first cap) w := fun _ _ _ _ => rfl
  clear h1
  have M0 := Lib.hid (MapB.made w)
  have B0 := Lib.hid ((Below.refl w.heap.size w).alloc (Nat.le_refl _) (.map #[] 0))
  have hz0 : w.heap.size < (w.alloc (.map #[] 0)).heap.size := by simp
  have HZ0 := Lib.hid hz0
  clear hz0
  go_enter Tryz.func29, Tryz.ntmps29
  go_wp2_with fail
  refine (HSt.out _).mono ?_
  rintro e w1 ⟨rfl, rfl⟩
  go_wp2_with fail
  go_loopw [3, 11] (fun v q wr => ∃ k : Nat, k ≤ N ∧ q = .int .i64 k ∧ ((k ≤ s ∧ v = .slice none 0 0 ∧ MapB wr w.heap.size 0 noneF) ∨ (s < k ∧ (∃ a, OwnV wr (w.heap.size + 1) v [.slice a 1 1]) ∧ MapB wr w.heap.size 1 (addF noneF (s : Nat)))) ∧ Below w.heap.size w wr) (fun _ q _ => N - (intOf q).toNat)
  case atStart => exact ⟨0, Nat.zero_le _, rfl, .inl ⟨Nat.zero_le _, rfl, M0.out⟩, B0.out⟩
  case round =>
    obtain ⟨k, hk, rfl, hcase, hb⟩ := hrel
    have HB := Lib.hid hb
    clear hb
    by_cases hlt : k < N
    · have hlt' : (k : Int) < (N : Int) := by omega
      have HSk := Lib.hid (HSy.out k wr HB.out hlt)
      have HEk := Lib.hid (HEq.out k hlt)
      rcases hcase with ⟨hks, rfl, hm⟩ | ⟨hks, ⟨a, ho⟩, hm⟩
      · have hlk : (Instr.lookup 81 (.map (some w.heap.size)) (.int .i64 (k : Nat)) false).run Tryz.prog wr = .ok (.bool false) wr := hm.look (k : Int) (by omega)
        have HM := Lib.hid hm
        have hml := hm.lt
        clear hm
        by_cases e : k = s
        · subst e
          go_wp2_with fail
          refine HSk.out.mono ?_
          rintro e1 w2 ⟨b, rfl, hbb, b2⟩
          obtain rfl : b = true := hbb.2 (HEk.out.2 trivial)
          have C2 := Lib.hid (HB.out.trans (b2.mono HB.out.size))
          have M2 := Lib.hid (HM.out.below b2 hml)
          have HRk := Lib.hid (HR.out k w2 C2.out hlt)
          clear b2 hbb HSk hlk
          go_wp2_with fail
          refine HRk.out.mono ?_
          rintro e1 w3 ⟨F3, nn, rfl, m3, hnn, hr3, b3⟩
          have C3 := Lib.hid (C2.out.trans (b3.mono C2.out.size))
          have hml2 := M2.out.lt
          have M3 := Lib.hid (M2.out.below b3 hml2)
          have HF3 := Lib.hid (HSe.out F3 hr3)
          have hm3 := m3.lt
          clear b3 hr3
          go_wp2_with (first | (at_range; refine wpList_rangeB (m3.alloc _) rfl _ rfl rfl ?_; intro w4 cnt4 rg4 b4 hs4))
          go_frame
          have e1 : (w3.alloc (.cells #[.map (some w2.heap.size)] 81)).heap.size = w3.heap.size + 1 := by simp
          rw [e1] at rg4 b4 hs4 ⊢
          have hz3 := C3.out.size
          have c4 : w4.cell? ⟨w3.heap.size, 0, none⟩ = some (.map (some w2.heap.size)) := (b4.cell (p := ⟨w3.heap.size, 0, none⟩) (Nat.lt_succ_self _)).trans ((Blk.new w3 81 [.map (some w2.heap.size)]).cell (i := 0) rfl)
          have M4 := Lib.hid ((M3.out.alloc (.cells #[.map (some w2.heap.size)] 81)).below b4 (by omega))
          have C4 := Lib.hid ((C3.out.alloc C3.out.size (.cells #[.map (some w2.heap.size)] 81)).trans (b4.mono (by omega)))
          have RG4 := Lib.hid rg4
          have CC4 := Lib.hid c4
          have hFk : F3 (k : Nat) = true := (HF3.out _).2 rfl
          have HFk := Lib.hid hFk
          have h23 := M3.out.lt
          clear rg4 b4 hs4 c4 e1 hFk m3
          go_loopw [7] (fun _ wi => ∃ (left : Int → Bool) (cnt : Nat), RngB wi w2.heap.size (w3.heap.size + 1) nn F3 left cnt ∧ (∀ x, left x = true → F3 x = true) ∧ ((left (k : Nat) = true ∧ MapB wi w.heap.size 0 noneF) ∨ (left (k : Nat) = false ∧ MapB wi w.heap.size 1 (addF noneF (k : Nat)))) ∧ wi.cell? ⟨w3.heap.size, 0, none⟩ = some (.map (some w2.heap.size)) ∧ Below w.heap.size w wi) (fun _ wi => wi.rangeLeft w2.heap.size (w3.heap.size + 1))
          case atStart => exact ⟨F3, cnt4, RG4.out, fun _ hx => hx, .inl ⟨HFk.out, M4.out⟩, CC4.out, C4.out⟩
          case round =>
            obtain ⟨left, cnt, hrg, hsub, hor, hcc, hbi⟩ := hrel
            have HSub := Lib.hid hsub
            have HOr := Lib.hid hor
            have HCc := Lib.hid hcc
            have HBi := Lib.hid hbi
            have HLe : Hid (wr.rangeLeft w2.heap.size (w3.heap.size + 1) = cnt) := hrg.left_eq
            have HRg := Lib.hid hrg
            clear hsub hor hbi
            go_wp2_with (first | (at_next; refine wpList_nextB hrg rfl _ rfl rfl ?_ ?_))
            · intro hl0
              have HMd : Hid (MapB wr w.heap.size 1 (addF noneF (k : Nat))) := by
                rcases HOr.out with ⟨h1, _⟩ | ⟨_, h2⟩
                · rw [hl0] at h1; cases h1
                · exact h2
              have HMm := Lib.hid HRg.out.map
              have HWi := Lib.hid (HWh.out w3.heap.size wr (fun s => F3 (s : Nat)) (fun s hs W hW => clo_ok s w3.heap.size w2.heap.size nn F3 W ((hW.cell (p := ⟨w3.heap.size, 0, none⟩) (World.block_lt_of_cell? _ ⟨w3.heap.size, 0, none⟩ HCc.out)).trans HCc.out) (HMm.out.below hW HMm.out.lt) (by omega)))
              rw [whL_one (F := fun s => F3 (s : Nat)) hlt (fun y _ => by rw [HF3.out]; omega)] at HWi
              clear hrg hcc hl0
              go_wp2_with fail
              refine HWi.out.mono ?_
              rintro e6 w6 ⟨a6, L6, rfl, q6, b6⟩
              obtain rfl : 1 = L6 := q6.1
              have B6 := Lib.hid (HBi.out.trans (b6.mono HBi.out.size))
              have M6 := Lib.hid (HMd.out.below b6 HMd.out.lt)
              have hz6 := M6.out.lt
              have hz7 := B6.out.size
              clear q6 b6
              go_wp2_with (at_builtin; refine wpList_appV (OwnV.nil _ (w.heap.size + 1)) ((Blk.new w6 28 [.slice a6 1 1]).cell (i := 0) rfl) rfl rfl _ _ rfl rfl rfl (by decide) (by simp; omega) ?_; intro v7 w7 o7 g7)
              go_roundw
              case rel => exact ⟨k + 1, by omega, by go_num, .inr ⟨by omega, ⟨a6, o7⟩, (M6.out.alloc _).grown g7 (by simp [Value.ownBlock])⟩, (B6.out.alloc B6.out.size _).grown g7 (by simp; omega) (fun j hj => by simp [Value.ownBlock] at hj)⟩
              case measure => simp [intOf]; omega
            · intro x cv w5 cnt5 _ _ hlx rg5 hlt5 hg5 hs5 hen
              obtain rfl : x = ((k : Nat) : Int) := (HF3.out x).1 (HSub.out x hlx)
              have HMd : Hid (MapB wr w.heap.size 0 noneF) := by
                rcases HOr.out with ⟨_, h1⟩ | ⟨h2, _⟩
                · exact h1
                · rw [hlx] at h2; cases h2
              have M5 := Lib.hid (HMd.out.grown hg5 (fun e => by have := Option.some.inj e; omega))
              have B5 := Lib.hid (HBi.out.grown hg5 HBi.out.size (fun j hj => by have := Option.some.inj hj; omega))
              have h35 : w3.heap.size < w5.heap.size := by
                have := hrg.lt
                omega
              have C5 : Hid (w5.cell? ⟨w3.heap.size, 0, none⟩ = some (.map (some w2.heap.size))) := (World.cell?_of_block (hg5.block w3.heap.size (by omega) (by simp))).trans HCc.out
              have RG5 := Lib.hid rg5
              clear hs5 hg5 rg5 hrg hcc
              go_wp2_with (first | (at_mapUpdate; refine wpList_mapB M5.out rfl _ _ _ rfl rfl (by unfold maxLen; omega) _ rfl rfl (by omega) ?_; intro w6 m6 b6 g6; go_frame))
              go_roundw
              case rel => exact ⟨_, cnt5, RG5.out.kept g6 (fun e => by have := Option.some.inj e; omega) (fun e => by have := Option.some.inj e; omega), fun x hx => HSub.out x (by simp at hx; exact hx.1), .inr ⟨by simp, m6⟩, (World.cell?_of_block (g6.block w3.heap.size (by omega) (fun e => by have := Option.some.inj e; omega))).trans C5.out, B5.out.grown g6 B5.out.size (fun j hj => by have := Option.some.inj hj; omega)⟩
              case measure => rw [(RG5.out.kept g6 (fun e => by have := Option.some.inj e; omega) (fun e => by have := Option.some.inj e; omega)).left_eq]; have := HLe.out; omega
        · go_wp2_with fail
          refine HSk.out.mono ?_
          rintro e1 w2 ⟨b, rfl, hbb, b2⟩
          have hbf : b = false := by
            cases b with
            | false => rfl
            | true => exact absurd (HEk.out.1 (hbb.1 rfl)) e
          subst hbf
          have C2 := Lib.hid (HB.out.trans (b2.mono HB.out.size))
          have M2 := Lib.hid (HM.out.below b2 hml)
          clear b2 hbb
          go_wp2_with fail
          go_roundw
          case rel => exact ⟨k + 1, by omega, by go_num, .inl ⟨by omega, rfl, M2.out⟩, C2.out⟩
          case measure => simp [intOf]; omega
      · have hlk : (Instr.lookup 81 (.map (some w.heap.size)) (.int .i64 (k : Nat)) false).run Tryz.prog wr = .ok (.bool false) wr := by
          have := hm.look (k : Int) (by omega)
          have e : addF noneF (s : Nat) (k : Nat) = false := by
            rw [Bool.eq_false_iff]
            intro h
            rcases addF_get.1 h with h | h
            · cases h
            · omega
          rw [e] at this
          exact this
        have HM := Lib.hid hm
        have HO := Lib.hid ho
        have hml := hm.lt
        clear hm ho
        go_wp2_with fail
        refine HSk.out.mono ?_
        rintro e1 w2 ⟨b, rfl, hbb, b2⟩
        have hbf : b = false := by
          cases b with
          | false => rfl
          | true => have := HEk.out.1 (hbb.1 rfl); omega
        subst hbf
        have C2 := Lib.hid (HB.out.trans (b2.mono HB.out.size))
        have M2 := Lib.hid (HM.out.below b2 hml)
        have O2 := Lib.hid (HO.out.below b2 (Nat.le_refl _))
        clear b2 hbb
        go_wp2_with fail
        go_roundw
        case rel => exact ⟨k + 1, by omega, by go_num, .inr ⟨by omega, ⟨a, O2.out⟩, M2.out⟩, C2.out⟩
        case measure => simp [intOf]; omega
    · obtain rfl : k = N := by omega
      rcases hcase with ⟨hks, _⟩ | ⟨hks, ⟨a, ho⟩, hm⟩
      · omega
      · go_wp2_with fail
        go_ret
        exact ⟨_, a, rfl, ho.base (Nat.le_succ _), HB.out⟩

end Go.Proofs.YtklegalmacekcaaGreatDoor
/- Walks: slices.Grow at nil, slices.Concat, the program's JoinBlocks. -/
namespace Go.Proofs.YtklegalmacekcaaGreatDoor
open Go.RowKit

set_option maxRecDepth 100000 in
set_option maxHeartbeats 1000000 in
theorem Grow_nil (n : Nat) (w : World) (hn : n ≤ 1099511627776) :
    Calls Tryz.prog 80 #[.slice none 0 0, .int .i64 n] w fun e w' => ∃ v, e = .returned v ∧ OwnI w' w.heap.size v [] ∧ Below w.heap.size w w' := by
  by_cases h0 : n = 0
  · subst h0
    go_enter Tryz.func80, Tryz.ntmps80
    go_wp2
    go_ret
    exact ⟨_, rfl, OwnI.nil _ _, Below.refl _ _⟩
  · obtain ⟨i, hi, hz, hsz, hby⟩ := info_parts i3
    have hp : 0 < (n : Int) := by omega
    have hrun := fun ty => Lib.run_append_nil_zeros (P := Tryz.prog) w 28 3 ty 3 i (.int .i64 0) .i64 .i64 Tryz.underlying28 Tryz.underlying3 hi hz n (by omega) (by omega) (by omega) (by rw [hby]; omega)
    have HR := Lib.hid hrun
    have hge := grownCap_ge w n 0 3
    have hcm := grownCap_le_maxLen w n 0 3 (by unfold maxLen; omega)
    clear hrun
    go_enter Tryz.func80, Tryz.ntmps80
    go_wp2_with (at_builtin; refine Lib.wpList_append_run _ rfl _ _ _ _ rfl _ _ rfl rfl _ _ (HR.out _) ?_)
    go_ret
    refine ⟨_, rfl, ?_, ?_⟩
    · refine ⟨rfl, .inr ⟨w.heap.size, _, _, rfl, Nat.le_refl _, heap_alloc_new w.drew _, Nat.zero_le _, hcm, ?_, by simp [ints]⟩⟩
      simp only [Array.size_append, size_zeroCells]
      simp
      omega
    · exact ((Below.refl _ _).drew).alloc (Nat.le_refl _) _

/-- What was joined of k rows. -/
def joinTo (Z : Nat → List Int) (k : Nat) : List Int := (List.range k).flatMap Z
theorem joinTo_succ (Z : Nat → List Int) (k : Nat) : joinTo Z (k + 1) = joinTo Z k ++ Z k := by simp [joinTo, List.range_succ]

theorem joinTo_len (Z : Nat → List Int) (T : Nat) (m : Nat) (hT : (joinTo Z m).length ≤ T) (k : Nat) (hk : k ≤ m) : (joinTo Z k).length ≤ T := by
  induction m with
  | zero => rw [show k = 0 by omega]; exact hT
  | succ m ih =>
    by_cases e : k = m + 1
    · rw [e]; exact hT
    · exact ih (by rw [joinTo_succ, List.length_append] at hT; omega) (by omega)

set_option maxHeartbeats 1000000 in
theorem Concat_ok (g m : Nat) (A : Nat → Option Addr) (N C : Nat → Nat) (Z : Nat → List Int) (w : World) (hg : g < w.heap.size) (hcell : ∀ i, i < m → w.cell? ⟨g, i, none⟩ = some (.slice (A i) (N i) (C i))) (hr : ∀ i, i < m → RowI w (A i) (N i) (C i) (Z i)) (hm : m ≤ 1000)
    (hlen : (joinTo Z m).length ≤ 1099511627776) :
    Calls Tryz.prog 59 #[.slice (some ⟨g, 0, none⟩) m m] w fun e w' => ∃ v, e = .returned v ∧ OwnI w' w.heap.size v (joinTo Z m) ∧ Below w.heap.size w w' := by
  go_enter Tryz.func59, Tryz.ntmps59
  go_wp2
  go_loop [3, 11] (fun s i => ∃ k : Nat, k ≤ m ∧ i = .int .i64 k ∧ s = .int .i64 ((joinTo Z k).length : Nat)) (fun _ i => m - (intOf i).toNat)
  case atStart => exact ⟨0, Nat.zero_le _, rfl, rfl⟩
  case round =>
    obtain ⟨k, hk, rfl, rfl⟩ := hrel
    have hjl := joinTo_len Z _ m hlen k hk
    by_cases hlt : k < m
    · have hx := hcell k hlt
      have hrl := (hr k hlt).1
      have HS : Hid ((joinTo Z (k + 1)).length = (joinTo Z k).length + N k) := by unfold Hid; rw [joinTo_succ, List.length_append, hrl]
      have hjl2 := joinTo_len Z _ m hlen (k + 1) hlt
      have hnk : N k ≤ 1099511627776 := by have := HS.out; omega
      have hlt' : (k : Int) < (m : Int) := by omega
      clear hrl hcell hr hjl2
      go_wp2
      go_round
      case rel => exact ⟨k + 1, by omega, by go_num, by rw [HS.out]; go_num⟩
      case measure => simp [intOf]; omega
    · obtain rfl : k = m := by omega
      have HJ := Lib.hid hlen
      clear hlen
      go_wp2_with (go_at_call 80; refine (Grow_nil _ _ hjl).mono ?_; rintro e w1 ⟨v1, rfl, o1, b1⟩)
      go_loopw [6, 27] (fun v i wr => ∃ j : Nat, j ≤ k ∧ i = .int .i64 j ∧ OwnI wr w.heap.size v (joinTo Z j) ∧ Below w.heap.size w wr) (fun _ i _ => k - (intOf i).toNat)
      case atStart => exact ⟨0, Nat.zero_le _, rfl, o1, b1⟩
      case round =>
        obtain ⟨j, hj, rfl, oj, bj⟩ := hrel
        by_cases hjk : j < k
        · have hx : wr.cell? ⟨g, j, none⟩ = some (.slice (A j) (N j) (C j)) := (bj.cell (by exact hg)).trans (hcell j hjk)
          have hrj := (hr j hjk).below bj (Nat.le_refl _)
          have hjl2 := joinTo_len Z _ k HJ.out (j + 1) hjk
          have HB : Hid (((joinTo Z j).length + N j) * 8 ≤ 140737488355328) := by unfold Hid; rw [joinTo_succ, List.length_append, hrj.1] at hjl2; omega
          have hjk' : (j : Int) < (k : Int) := by omega
          clear hcell hr hjl2 o1
          go_wp2_with (at_builtin; refine wpList_appI oj hrj rfl _ _ rfl rfl rfl HB.out bj.size ?_; intro v5 w5 o5 g5)
          go_roundw
          case rel => exact ⟨j + 1, by omega, by go_num, by rw [joinTo_succ]; exact o5, bj.grown g5 bj.size (fun q hq => (World.ownsRow.lt oj q hq).1)⟩
          case measure => simp [intOf]; omega
        · obtain rfl : j = k := by omega
          go_wp2
          go_ret
          exact ⟨_, rfl, oj, bj⟩

end Go.Proofs.YtklegalmacekcaaGreatDoor
/- Walks: the program's JoinBlocks; the law on JoinBlocks. -/
namespace Go.Proofs.YtklegalmacekcaaGreatDoor
open Go.RowKit

theorem OwnI.base {w : World} {B B' : Nat} {v : Value} {zs : List Int} (h : OwnI w B v zs) (hB : B' ≤ B) : OwnI w B' v zs := by
  obtain ⟨h1, h2 | ⟨g, cap, cur, e, hg, r⟩⟩ := h
  · exact ⟨h1, .inl h2⟩
  · exact ⟨h1, .inr ⟨g, cap, cur, e, Nat.le_trans hB hg, r⟩⟩

/-- Three rows: two that were there, a new one of one number between them. -/
theorem concat3 (w0 w1 : World) (hb : Below w0.heap.size w0 w1) (a0 a2 : Option Addr) (n0 c0 n2 c2 : Nat) (z0 z2 : List Int) (h0 : RowI w1 a0 n0 c0 z0) (h2 : RowI w1 a2 n2 c2 z2) (x : Int) (hl : z0.length + z2.length ≤ 1099511627775) :
    Calls Tryz.prog 59 #[.slice (some ⟨w1.heap.size + 1, 0, none⟩) 3 3]
      ((w1.alloc (.cells #[.int .i64 x] 3)).alloc (.cells #[.slice a0 n0 c0, .slice (some ⟨w1.heap.size, 0, none⟩) 1 1, .slice a2 n2 c2] 28)).drew
      fun e w' => ∃ v, e = .returned v ∧ OwnI w' w0.heap.size v (z0 ++ [x] ++ z2) ∧ Below w0.heap.size w0 w' := by
  let W := ((w1.alloc (.cells #[.int .i64 x] 3)).alloc (.cells #[.slice a0 n0 c0, .slice (some ⟨w1.heap.size, 0, none⟩) 1 1, .slice a2 n2 c2] 28)).drew
  have hW : W.heap.size = w1.heap.size + 2 := by simp [W]
  have hbl : Blk W (w1.heap.size + 1) 28 [.slice a0 n0 c0, .slice (some ⟨w1.heap.size, 0, none⟩) 1 1, .slice a2 n2 c2] := by
    have := Blk.new (w1.alloc (.cells #[.int .i64 x] 3)) 28 [.slice a0 n0 c0, .slice (some ⟨w1.heap.size, 0, none⟩) 1 1, .slice a2 n2 c2]
    rw [show (w1.alloc (.cells #[.int .i64 x] 3)).heap.size = w1.heap.size + 1 by simp] at this
    exact this
  have b1 : Below w1.heap.size w1 W := (((Below.refl _ _).alloc (Nat.le_refl _) _).alloc (by simp) _).drew
  have r1 : RowI W (some ⟨w1.heap.size, 0, none⟩) 1 1 [x] := by
    have := RowI.one w1 x
    exact (this.below ((Below.refl (w1.heap.size + 1) _).alloc (by simp) (.cells #[.slice a0 n0 c0, .slice (some ⟨w1.heap.size, 0, none⟩) 1 1, .slice a2 n2 c2] 28)).drew (by simp))
  have hws := hb.size
  refine (Concat_ok (w1.heap.size + 1) 3 (fun | 0 => a0 | 1 => some ⟨w1.heap.size, 0, none⟩ | _ => a2) (fun | 0 => n0 | 1 => 1 | _ => n2) (fun | 0 => c0 | 1 => 1 | _ => c2) (fun | 0 => z0 | 1 => [x] | _ => z2) W (by omega) ?_ ?_ (by decide) ?_).mono ?_
  · intro i hi
    match i, hi with
    | 0, _ => exact hbl.cell rfl
    | 1, _ => exact hbl.cell rfl
    | 2, _ => exact hbl.cell rfl
  · intro i hi
    match i, hi with
    | 0, _ => exact h0.below b1 (Nat.le_refl _)
    | 1, _ => exact r1
    | 2, _ => exact h2.below b1 (Nat.le_refl _)
  · simp [joinTo, List.range_succ]; omega
  · rintro e w' ⟨v, rfl, o, b⟩
    refine ⟨v, rfl, ?_, ?_⟩
    · have o' := o.base (show w0.heap.size ≤ W.heap.size by have := hb.size; omega)
      simpa [joinTo, List.range_succ] using o'
    · exact (hb.trans (b1.mono hb.size)).trans (b.mono (by have := hb.size; omega))

end Go.Proofs.YtklegalmacekcaaGreatDoor
/- Walks: the cycle of a state, where the orbit ends in one state. -/
namespace Go.Proofs.YtklegalmacekcaaGreatDoor
open Go.RowKit

theorem RowI.cell1 {w : World} {q o : Nat} {x : Int} (h : w.cell? ⟨q, o, none⟩ = some (.int .i64 x)) (hq : q < w.heap.size) : RowI w (some ⟨q, o, none⟩) 1 1 [x] := by
  refine ⟨rfl, ⟨Nat.le_refl _, by unfold maxLen; decide, fun e => (by cases e), fun _ => ⟨_, _, rfl, hq⟩, fun b o' e i hi => ?_⟩⟩
  obtain rfl : i = 0 := by omega
  cases e
  exact h
theorem min1_ok (q o : Nat) (x : Int) (w : World) (h : RowI w (some ⟨q, o, none⟩) 1 1 [x]) :
    Calls Tryz.prog 58 #[.slice (some ⟨q, o, none⟩) 1 1] w fun e w' => e = .returned (.int .i64 x) ∧ w = w' := by
  have hcx : w.cell? ⟨q, o, none⟩ = some (.int .i64 x) := h.2.cell q o rfl 0 (by decide)
  clear h
  go_enter Tryz.func58, Tryz.ntmps58
  go_wp2
  go_loopw [3, 4] (fun v i wr => v = .int .i64 x ∧ i = .int .i64 1 ∧ wr = w) (fun _ _ _ => 0)
  case atStart => exact ⟨rfl, rfl, rfl⟩
  case round =>
    obtain ⟨rfl, rfl, rfl⟩ := hrel
    go_wp2
    go_ret
    exact ⟨rfl, rfl⟩
theorem index1_ok (q o : Nat) (x : Int) (w : World) (h : RowI w (some ⟨q, o, none⟩) 1 1 [x]) :
    Calls Tryz.prog 57 #[.slice (some ⟨q, o, none⟩) 1 1, .int .i64 x] w fun e w' => e = .returned (.int .i64 0) ∧ w = w' := by
  have hcx : w.cell? ⟨q, o, none⟩ = some (.int .i64 x) := h.2.cell q o rfl 0 (by decide)
  clear h
  go_enter Tryz.func57, Tryz.ntmps57
  go_wp2
  go_loopw [8] (fun i wr => i = .int .i64 0 ∧ wr = w) (fun _ _ => 0)
  case atStart => exact ⟨rfl, rfl⟩
  case round =>
    obtain ⟨rfl, rfl⟩ := hrel
    go_wp2
    go_ret
    exact ⟨rfl, rfl⟩

theorem concat2_ok (g q o : Nat) (x : Int) (W : World) (hb : Blk W g 28 [.slice (some ⟨q, o, none⟩) 1 1, .slice (some ⟨q, o, none⟩) 0 1]) (h : RowI W (some ⟨q, o, none⟩) 1 1 [x]) :
    Calls Tryz.prog 59 #[.slice (some ⟨g, 0, none⟩) 2 2] W fun e w' => ∃ v, e = .returned v ∧ OwnI w' W.heap.size v [x] ∧ Below W.heap.size W w' := by
  have h0 : RowI W (some ⟨q, o, none⟩) 0 1 [] := h.take 0 (Nat.zero_le _)
  refine (Concat_ok g 2 (fun _ => some ⟨q, o, none⟩) (fun | 0 => 1 | _ => 0) (fun _ => 1) (fun | 0 => [x] | _ => []) W hb.lt ?_ ?_ (by decide) (by show 1 ≤ 1099511627776; decide)).mono ?_
  · intro i hi
    match i, hi with
    | 0, _ => exact hb.cell rfl
    | 1, _ => exact hb.cell rfl
  · intro i hi
    match i, hi with
    | 0, _ => exact h
    | 1, _ => exact h0
  · rintro e w' ⟨v, rfl, o', b⟩
    exact ⟨v, rfl, by simpa [joinTo, List.range_succ] using o', b⟩

set_option maxRecDepth 100000 in
set_option maxHeartbeats 4000000 in
theorem cycle_ok (ao : Option Addr) (c : Nat) (ps : List ByteArray) (x b s : Nat) (w : World) (h : RowN w ao ps.length c ps.length (bitsN ps ps.length)) (hn : netB ps = true) (h5 : ps.length ≤ 5) (hx : x < 2 ^ ps.length)
    (hb : itN (fun s => allTo ps s ps.length) x b = s) (hf : allTo ps s ps.length = s) :
    Calls Tryz.prog 30 #[.slice ao ps.length c, .int .i64 x] w fun e w' => ∃ v, e = .returned v ∧ OwnI w' w.heap.size v [((s : Nat) : Int)] ∧ Below w.heap.size w w' := by
  have HO := Lib.hid (orbit_ok ao c ps x w h hn h5 hx)
  have hp : (2 ^ ps.length : Nat) ≤ 32 := Nat.pow_le_pow_right (n := 2) (by decide) h5
  have HE := Lib.hid (fun L t (ho : Orb (fun s => allTo ps s ps.length) x L t) => orb_end ho hb hf)
  clear h hn hb hf
  go_enter Tryz.func30, Tryz.ntmps30
  go_wp2_with fail
  refine HO.out.mono ?_
  rintro e w1 ⟨a, L, t, rfl, ho, hL, q, b1⟩
  obtain ⟨e1, rfl, _⟩ := HE.out L t ho
  obtain ⟨qb, qo, rfl, hqb⟩ := q.2.row.some (by omega)
  have hcx := q.2.row.cell qb qo rfl t (by omega)
  rw [orL_get (by omega), e1] at hcx
  have R1 := Lib.hid (RowI.cell1 hcx hqb)
  have B1 := Lib.hid b1
  have HMn := Lib.hid (min1_ok _ _ _ _ R1.out)
  have HIx := Lib.hid (index1_ok _ _ _ _ R1.out)
  have ht : t < 32 := by omega
  clear ho q b1 hcx
  go_wp2_with fail
  refine HMn.out.mono ?_
  rintro e w2 ⟨rfl, rfl⟩
  go_wp2_with fail
  refine HIx.out.mono ?_
  rintro e w2 ⟨rfl, rfl⟩
  go_wp2_with fail
  have hbk : Blk (w1.alloc (.cells #[.slice (some ⟨qb, qo + t, none⟩) 1 1, .slice (some ⟨qb, qo + t, none⟩) 0 1] 28)) w1.heap.size 28 [.slice (some ⟨qb, qo + t, none⟩) 1 1, .slice (some ⟨qb, qo + t, none⟩) 0 1] := Blk.new w1 28 [.slice (some ⟨qb, qo + t, none⟩) 1 1, .slice (some ⟨qb, qo + t, none⟩) 0 1]
  have hbw : Below w1.heap.size w1 ((w1.alloc (.cells #[.slice (some ⟨qb, qo + t, none⟩) 1 1, .slice (some ⟨qb, qo + t, none⟩) 0 1] 28)).drew) := ((Below.refl _ _).alloc (Nat.le_refl _) _).drew
  have HC := Lib.hid (concat2_ok w1.heap.size qb (qo + t) (s : Nat) ((w1.alloc (.cells #[.slice (some ⟨qb, qo + t, none⟩) 1 1, .slice (some ⟨qb, qo + t, none⟩) 0 1] 28)).drew) hbk (R1.out.below hbw (Nat.le_refl _)))
  have HBw := Lib.hid (B1.out.trans (hbw.mono B1.out.size))
  clear hbk hbw
  go_region_with (go_at_call 59; refine HC.out.mono ?_; rintro e w2 ⟨v2, rfl, o2, b2⟩)
  all_goals
    go_wp2_with fail
    go_ret
    exact ⟨v2, rfl, o2.base HBw.out.size, HBw.out.trans (b2.mono HBw.out.size)⟩

/-- Where all orbits end in one state, that is the only cycle. -/
def OneEnd (ps : List ByteArray) (s : Nat) : Prop := s < 2 ^ ps.length ∧ allTo ps s ps.length = s ∧ ∃ b, b ≤ ps.length ∧ ∀ x, x < 2 ^ ps.length → itN (fun s => allTo ps s ps.length) x b = s

set_option maxRecDepth 100000 in
set_option maxHeartbeats 4000000 in
theorem cyclesI_ok (t : ByteArray) (s : Nat) (w : World) (hs : t.size ≤ 1048576) (hm : MaxLenIs w) (hb : netB (cutsP 44 t) = true) (h1 : OneEnd (cutsP 44 t) s) :
    Calls Tryz.prog 10 #[.string t] w fun e w' => ∃ v u, e = .returned v ∧ OwnV w' w.heap.size v [u] ∧ Below w.heap.size w w' := by
  have HO := Lib.hid (readNetwork_ok t w hs hm)
  have hp0 := cutsP_pos 44 t
  generalize cutsP 44 t = ps at HO hp0 hb h1 ⊢
  obtain ⟨hsN, hfix, b, _, hall⟩ := h1
  have HN := Lib.hid (netN_yes hb)
  have h5 := net_le hb hp0
  have hlen := bitsN_len ps ps.length
  have hp : (2 ^ ps.length : Nat) ≤ 32 := Nat.pow_le_pow_right (n := 2) (by decide) h5
  have HF := Lib.hid (fun ao c x W (h : RowN W ao ps.length c ps.length (bitsN ps ps.length)) (hx : x < 2 ^ ps.length) => cycle_ok ao c ps x b s W h hb h5 hx (hall x hx) hfix)
  have HSt := Lib.hid (fun ao c W => states_ok ao ps.length c W (by omega))
  rw [hb] at HO
  clear hb hm hall hfix
  generalize (2 ^ ps.length : Nat) = N at hp HF HSt hsN
  go_enter Tryz.func10, Tryz.ntmps10
  go_wp2_with fail
  refine HO.out.mono ?_
  rintro e w1 ⟨v, rfl, o1, b1⟩
  rw [HN.out] at o1
  obtain ⟨a, c, rfl, r1⟩ := o1.row (bitsN_wide ps ps.length)
  rw [hlen] at r1 ⊢
  have HF1 := Lib.hid (fun x W (hW : Below w1.heap.size w1 W) hx => HF.out a c x W (r1.below hW (Nat.le_refl _)) hx)
  have B1 := Lib.hid b1
  clear o1 r1 hlen b1
  go_wp2_with fail
  refine (HSt.out _ _ _).mono ?_
  rintro e w2 ⟨rfl, rfl⟩
  go_wp2_with fail
  go_loopw [5, 17] (fun v q wr => ∃ k : Nat, k ≤ N ∧ q = .int .i64 k ∧ ((k ≤ s ∧ v = .slice none 0 0) ∨ (s < k ∧ ∃ u, OwnV wr w1.heap.size v [u])) ∧ Below w1.heap.size w1 wr) (fun _ q _ => N - (intOf q).toNat)
  case atStart => exact ⟨0, Nat.zero_le _, rfl, .inl ⟨Nat.zero_le _, rfl⟩, Below.refl _ _⟩
  case round =>
    obtain ⟨k, hk, rfl, hor, hbb⟩ := hrel
    have HB := Lib.hid hbb
    clear hbb
    by_cases hlt : k < N
    · have hlt' : (k : Int) < (N : Int) := by omega
      have HFk := Lib.hid (HF1.out k wr HB.out hlt)
      by_cases e : s = k
      · subst e
        rcases hor with ⟨_, rfl⟩ | ⟨h, _⟩
        · go_wp2_with fail
          refine HFk.out.mono ?_
          rintro e w3 ⟨v3, rfl, o3, b3⟩
          obtain ⟨g3, c3, rfl, _, _, r3⟩ := o3.form (by simp)
          have hcx := r3.2.cell g3 0 rfl 0 (by simp)
          rw [Nat.zero_add] at hcx
          have hcx2 : w3.cell? ⟨g3, 0, none⟩ = some (.int .i64 (s : Nat)) := hcx
          have C3 := Lib.hid (HB.out.trans (b3.mono HB.out.size))
          clear b3 o3 r3 hcx
          have hl1 : [((s : Nat) : Int)].length = 1 := rfl
          rw [hl1]
          clear hl1
          go_wp2_with (at_builtin; refine wpList_appV (OwnV.nil _ w1.heap.size) ((Blk.new w3 28 [.slice (some ⟨g3, 0, none⟩) 1 c3]).cell (i := 0) rfl) rfl rfl _ _ rfl rfl rfl (by decide) (by have := C3.out.size; simp; omega) ?_; intro v7 w7 o7 g7)
          go_roundw
          case rel => exact ⟨s + 1, by omega, by go_num, .inr ⟨by omega, _, o7⟩, (C3.out.alloc C3.out.size _).grown g7 (by have := C3.out.size; simp; omega) (fun j hj => by simp [Value.ownBlock] at hj)⟩
          case measure => simp [intOf]; omega
        · omega
      · have hne : ((s : Int) == (k : Int)) = false := by rw [beq_eq_false_iff_ne]; omega
        have HOr := Lib.hid hor
        clear hor
        go_wp2_with fail
        refine HFk.out.mono ?_
        rintro e w3 ⟨v3, rfl, o3, b3⟩
        obtain ⟨g3, c3, rfl, _, _, r3⟩ := o3.form (by simp)
        have hcx := r3.2.cell g3 0 rfl 0 (by simp)
        rw [Nat.zero_add] at hcx
        have hcx2 : w3.cell? ⟨g3, 0, none⟩ = some (.int .i64 (s : Nat)) := hcx
        have C3 := Lib.hid (HB.out.trans (b3.mono HB.out.size))
        have B3 := Lib.hid b3
        clear b3 o3 r3 hcx
        have hl1 : [((s : Nat) : Int)].length = 1 := rfl
        rw [hl1]
        clear hl1
        go_wp2_with fail
        go_roundw
        case rel => exact ⟨k + 1, by omega, by go_num, (by
          rcases HOr.out with ⟨h1, h2⟩ | ⟨h1, u, h2⟩
          · exact .inl ⟨by omega, h2⟩
          · exact .inr ⟨by omega, u, h2.below B3.out (Nat.le_refl _)⟩), C3.out⟩
        case measure => simp [intOf]; omega
    · obtain rfl : k = N := by omega
      rcases hor with ⟨h, _⟩ | ⟨h, u, ho⟩
      · omega
      · go_wp2_with fail
        go_ret
        exact ⟨_, u, rfl, ho.base B1.out.size, B1.out.trans (HB.out.mono B1.out.size)⟩

set_option maxHeartbeats 2000000 in
theorem attrI_ok (t : ByteArray) (s : Nat) (w : World) (hs : t.size ≤ 1048576) (hm : MaxLenIs w) (hb : netB (cutsP 44 t) = true) (h1 : OneSt (nxN (cutsP 44 t)) (cutsP 44 t).length (2 ^ (cutsP 44 t).length) s) :
    Calls Tryz.prog 9 #[.string t] w fun e w' => ∃ v a, e = .returned v ∧ OwnV w' w.heap.size v [.slice a 1 1] ∧ Below w.heap.size w w' := by
  have HO := Lib.hid (readNetwork_ok t w hs hm)
  have hp0 := cutsP_pos 44 t
  generalize cutsP 44 t = ps at HO hp0 hb h1 ⊢
  have HN := Lib.hid (netN_yes hb)
  have h5 := net_le hb hp0
  have hlen := bitsN_len ps ps.length
  have HF := Lib.hid (fun ao c W (h : RowN W ao ps.length c ps.length (bitsN ps ps.length)) => attr_ok ao c ps s W h hb h5 h1)
  rw [hb] at HO
  clear hb hm h1
  go_enter Tryz.func9, Tryz.ntmps9
  go_wp2_with fail
  refine HO.out.mono ?_
  rintro e w1 ⟨v, rfl, o1, b1⟩
  rw [HN.out] at o1
  obtain ⟨a, c, rfl, r1⟩ := o1.row (bitsN_wide ps ps.length)
  rw [hlen] at r1 ⊢
  have HF1 := Lib.hid (HF.out a c w1 r1)
  have B1 := Lib.hid b1
  clear o1 r1 hlen b1
  go_wp2_with fail
  refine HF1.out.mono ?_
  rintro e w2 ⟨v2, a2, rfl, o2, b2⟩
  go_wp2_with fail
  go_ret
  exact ⟨_, a2, rfl, o2.base B1.out.size, B1.out.trans (b2.mono B1.out.size)⟩

end Go.Proofs.YtklegalmacekcaaGreatDoor
/- The law FnForcesState. -/
namespace Go.Proofs.YtklegalmacekcaaGreatDoor
open Go.RowKit

theorem tail_le {f : Nat → Nat} {x L t b s : Nat} (h : Orb f x L t) (hb : itN f x b = s) (hf : f s = s) : t ≤ b := (orb_end h hb hf).2.2
/-- What the law asks of the held network, where the term forces the state. -/
theorem forces_all {ps : List ByteArray} {l : List UInt8} {x : Int} (h0 : 0 < ps.length) (h : fsV ps l x = true) :
    htB ps l = true ∧ netB ps = true ∧ ps.length ≤ 5 ∧ cutsP 44 (hsT ps l) = hsP ps l ∧ netB (hsP ps l) = true ∧ hpV ps l = [x] ∧ ∃ s : Nat, x = (s : Int) ∧ OneEnd (hsP ps l) s ∧ OneSt (nxN (hsP ps l)) (hsP ps l).length (2 ^ (hsP ps l).length) s ∧
      ∀ s' L t', s' < 2 ^ (hsP ps l).length → Orb (fun s => allTo (hsP ps l) s (hsP ps l).length) s' L t' → t' ≤ ps.length := by
  rw [fsV, Bool.and_eq_true, Bool.and_eq_true] at h
  obtain ⟨ht, hst, hf⟩ := h
  rw [stOk_iff] at hst
  obtain ⟨s, rfl⟩ : ∃ s : Nat, x = (s : Int) := ⟨x.toNat, by omega⟩
  have hs : s < 2 ^ ps.length := by omega
  rw [Int.toNat_natCast] at hf
  obtain ⟨hn, hz, hl⟩ := ht_len ht
  have h5 := net_le hn h0
  have hq := hsP_net hn hl h0 h5
  have hlq := hsP_len ps l
  have hcu := hs_cuts h0 ht
  have hfx := fs_fix h0 h5 ht hs hf
  obtain ⟨b, hb, hall⟩ := fs_tail h0 h5 ht hs hf
  have hE : OneEnd (hsP ps l) s := by
    unfold OneEnd
    rw [hlq]
    exact ⟨hs, hfx, b, hb, hall⟩
  refine ⟨ht, hn, h5, hcu, hq, ?_, s, rfl, hE, ?_, ?_⟩
  · rw [hpV_yes ht, hcu, fpV_yes hq, hlq]
    have : fpL (hsP ps l) (2 ^ ps.length) = whL (fpB (hsP ps l)) (2 ^ ps.length) := rfl
    rw [this, whL_one hs]
    intro y hy
    rw [fpB, hlq, decide_eq_true_iff]
    constructor
    · intro e
      have h1 := itN_fix (f := hsS ps l) (x := y) (b := 0) rfl e b
      rw [Nat.zero_add, hall y hy] at h1
      exact h1.symm
    · rintro rfl
      exact hfx
  · rw [hlq]
    exact ⟨hs, fun x hx => fs_reach h0 h5 ht hs hf hx, fun y hy => fs_stay h0 h5 ht hs hf hy⟩
  · rw [hlq]
    intro s' L t' hs' ho
    exact Nat.le_trans (tail_le ho (hall s' hs') hfx) hb

/-- A network's text, a term and a state are drawn. -/
def DrawFC (w : World) (e : Ending) (w' : World) : Prop := ∃ (u t : ByteArray) (s : Int), e = .returned (.tuple #[.string u, .string t, .int .i64 s]) ∧ u.size ≤ 1048576 ∧ t.size ≤ 1048576 ∧ Below w.heap.size w w'
set_option maxHeartbeats 2000000 in
theorem drawFC_ok (ao : Option Addr) (l c : Nat) (cs : List Int) (w : World) (h : RowU w ao l c cs) (hl : l ≤ 1048576) :
    Calls Tryz.prog 4 #[.slice ao l c] w (DrawFC w) := by
  have HO := Lib.hid (l14Open_ok ao l c cs w h hl)
  clear h
  go_enter Tryz.func4, Tryz.ntmps4
  go_wp2_with fail
  refine HO.out.mono ?_
  rintro e w1 ⟨g, rfl, hg, r1, b1⟩
  have B1 := Lib.hid b1
  have R1 := Lib.hid r1
  clear r1 b1
  go_wp2_with fail
  refine (l10Case_ok g 0 _ R1.out (by omega)).mono ?_
  rintro e w2 ⟨u, t, s, rfl, hu, ht, r2, d2⟩
  have D2 := Lib.hid ((DrB.ofB (g := g) B1.out).trans (d2.mono B1.out.size))
  clear r2 d2
  go_wp2_with fail
  refine bodyPost_ret (v := .tuple #[.string u, .string t, .int .i64 s]) (by simp [results, Tryz.results4, go_sem]) rfl ⟨u, t, s, rfl, hu, ht, D2.out.below hg⟩

set_option maxRecDepth 100000 in
set_option maxHeartbeats 4000000 in
theorem FnForcesState_ok (ao : Option Addr) (l c : Nat) (cs : List Int) (w : World) (h : RowU w ao l c cs) (hm : MaxLenIs w) :
    Calls Tryz.prog 3 #[.slice ao l c] w fun e w' => e = .returned (.bool true) ∧ Below w.heap.size w w' := by
  go_enter Tryz.func3, Tryz.ntmps3
  by_cases hbig : 1048576 < l
  · have hbig' : (1048576 : Int) < (l : Int) := by omega
    go_wp2_with fail
    go_ret
    exact ⟨rfl, Below.refl _ _⟩
  · have hbig' : ¬ (1048576 : Int) < (l : Int) := by omega
    have HD := Lib.hid (drawFC_ok ao l c cs w h (by omega))
    have HM := Lib.hid (fun W (hW : Below w.heap.size w W) => hm.below hW (Nat.le_refl _))
    clear h hm
    go_wp2_with fail
    refine HD.out.mono ?_
    rintro e w1 ⟨u, t, x, rfl, hu, ht, b1⟩
    have B1 := Lib.hid b1
    have hp0 := cutsP_pos 44 u
    have HFi := Lib.hid (fscI_ok u t x w1 hu ht (HM.out _ b1))
    have HFs := Lib.hid (fun W => fscS_ok u t x W hu ht)
    have HHo := Lib.hid (fun W (hW : Below w.heap.size w W) => hsI_ok u t W hu ht (HM.out W hW))
    have HHp := Lib.hid (fun W (hW : Below w.heap.size w W) => hpI_ok u t W hu ht (HM.out W hW))
    have HSz := Lib.hid (fun W (hW : Below w.heap.size w W) => sizeI_ok u W hu (HM.out W hW))
    clear b1 HD
    cases hf : fsV (cutsP 44 u) t.data.toList x with
    | false =>
      rw [hf] at HFi HFs
      clear hf
      go_wp2_with fail
      refine HFi.out.mono ?_
      rintro e w2 ⟨rfl, b2⟩
      have B2 := Lib.hid (B1.out.trans (b2.mono B1.out.size))
      clear b2
      go_wp2_with fail
      refine (HFs.out _).mono ?_
      rintro e w3 ⟨rfl, b3⟩
      have B3 := Lib.hid (B2.out.trans (b3.mono B2.out.size))
      clear b3
      go_wp2_with fail
      refine (HFs.out _).mono ?_
      rintro e w4 ⟨rfl, b4⟩
      go_wp2_with fail
      go_ret
      exact ⟨rfl, B3.out.trans (b4.mono B3.out.size)⟩
    | true =>
      obtain ⟨hht, hn, h5, hcu, hq, hhp, s, rfl, hE, hS, hT⟩ := forces_all hp0 hf
      have hks := hsT_size (cutsP 44 u) t.data.toList hp0
      rw [hf] at HFi HFs
      rw [hht] at HHo
      rw [hhp] at HHp
      rw [sizV_yes hn] at HSz
      generalize hsT (cutsP 44 u) t.data.toList = k at HHo hcu hks
      rw [← hcu] at hq hE hS hT
      have HCy := Lib.hid (fun W (hW : Below w.heap.size w W) => cyclesI_ok k s W hks (HM.out W hW) hq hE)
      have HAt := Lib.hid (fun W (hW : Below w.heap.size w W) => attrI_ok k s W hks (HM.out W hW) hq hS)
      have HLt := Lib.hid (fun W (hW : Below w.heap.size w W) => ltI_ok k W hks (HM.out W hW) hq)
      have HTb := Lib.hid hT
      clear hht hn hcu hq hhp hE hS hT hf hks
      go_wp2_with fail
      refine HFi.out.mono ?_
      rintro e w2 ⟨rfl, b2⟩
      have B2 := Lib.hid (B1.out.trans (b2.mono B1.out.size))
      clear b2
      go_wp2_with fail
      refine (HFs.out _).mono ?_
      rintro e w3 ⟨rfl, b3⟩
      have B3 := Lib.hid (B2.out.trans (b3.mono B2.out.size))
      clear b3
      go_wp2_with fail
      refine (HHo.out _ B3.out).mono ?_
      rintro e w4 ⟨rfl, b4⟩
      have B4 := Lib.hid (B3.out.trans (b4.mono B3.out.size))
      clear b4
      go_wp2_with fail
      refine (HHp.out _ B4.out).mono ?_
      rintro e w5 ⟨v5, rfl, o5, b5⟩
      have B5 := Lib.hid (B4.out.trans (b5.mono B4.out.size))
      obtain ⟨g5, c5, rfl, _, hg5, r5⟩ := o5.form (by simp)
      have hc5 : w5.cell? ⟨g5, 0, none⟩ = some (.int .i64 (s : Nat)) := r5.2.cell g5 0 rfl 0 (by simp)
      have HC5 := Lib.hid hc5
      have hl1 : [((s : Nat) : Int)].length = 1 := rfl
      rw [hl1]
      clear b5 o5 r5 hc5 hl1
      go_wp2_with fail
      refine (HAt.out _ B5.out).mono ?_
      rintro e w6 ⟨v6, a6, rfl, o6, b6⟩
      have B6 := Lib.hid (B5.out.trans (b6.mono B5.out.size))
      have O6 := Lib.hid o6
      obtain ⟨g6, c6, rfl, _, _⟩ := o6.one
      have hc5 := (b6.cell (p := ⟨g5, 0, none⟩) hg5).trans HC5.out
      clear b6 o6
      go_wp2_with fail
      refine (HCy.out _ B6.out).mono ?_
      rintro e w7 ⟨v7, u7, rfl, o7, b7⟩
      have B7 := Lib.hid (B6.out.trans (b7.mono B6.out.size))
      have O7 := Lib.hid (O6.out.below b7 (Nat.le_refl _))
      obtain ⟨g7, c7, rfl, _, _⟩ := o7.one
      obtain ⟨g6', c6', e6, hc7, _⟩ := O7.out.one
      cases e6
      clear b7 o7 hc5
      go_wp2_with fail
      refine (HLt.out _ B7.out).mono ?_
      rintro e w8 ⟨m, rfl, hmb, b8⟩
      have hmn := hmb _ HTb.out
      have B8 := Lib.hid (B7.out.trans (b8.mono B7.out.size))
      have hmi : (m : Int) ≤ ((cutsP 44 u).length : Int) := by omega
      clear b8 hmb
      go_wp2_with fail
      refine (HSz.out _ B8.out).mono ?_
      rintro e w9 ⟨rfl, b9⟩
      go_wp2_with fail
      go_ret
      exact ⟨rfl, B8.out.trans (b9.mono B8.out.size)⟩

end Go.Proofs.YtklegalmacekcaaGreatDoor
