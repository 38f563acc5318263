/- Walks and plain facts: several of my texts in one. -/
import Derived.Test.YtcmjogojlijdgaaGreatDoorGrA
import Derived.Test.YtcmjogojlijdgaaGreatDoorGrB
/- Walks: which states a term has, on both sides. -/
namespace Go.Proofs.YtcmjogojlijdgaaGreatDoor
open Go.RowKit

/-- The value that a term's letter holds: 0 or 1, or 2 for a star. -/
def ltr (l : List UInt8) (i : Nat) : Nat := if l.getD i 42 = 42 then 2 else (l.getD i 42).toNat - 48
theorem ltr_lt {l : List UInt8} (h : l.all isT = true) (i : Nat) : ltr l i < 3 := by
  unfold ltr
  split
  · decide
  · rename_i hne
    by_cases hi : i < l.length
    · have := List.all_eq_true.1 h _ (List.getElem_mem hi)
      have e : l.getD i 42 = l[i] := by simp [List.getD, hi]
      rw [e] at hne ⊢
      rcases (isT_iff _).1 this with h1 | h1 | h1
      · exact absurd ((star_iff _).2 h1) hne
      · omega
      · omega
    · rw [List.getD_eq_getElem?_getD, List.getElem?_eq_none (by omega)] at hne
      exact absurd rfl hne
/-- Whether a term's letter lets a state by. -/
def letB (l : List UInt8) (s i : Nat) : Bool := ltr l i == 2 || ltr l i == bN s i
def hasT (l : List UInt8) (s : Nat) : Bool := (List.range l.length).all (letB l s)
theorem hasT_no {l : List UInt8} {s i : Nat} (hi : i < l.length) (h : letB l s i = false) : hasT l s = false := by
  rw [hasT, List.all_eq_false]
  exact ⟨i, List.mem_range.2 hi, by simp [h]⟩
theorem hasT_yes {l : List UInt8} {s : Nat} (h : ∀ i, i < l.length → letB l s i = true) : hasT l s = true := by
  rw [hasT, List.all_eq_true]
  exact fun i hi => h i (List.mem_range.1 hi)

theorem ltr_star {l : List UInt8} {i : Nat} (h : l.getD i 42 = 42) : ltr l i = 2 := by rw [ltr, if_pos h]
theorem ltr_dig {l : List UInt8} {i : Nat} (hl : l.all isT = true) (hi : i < l.length) (h : l.getD i 42 ≠ 42) : ((((l.getD i 42).toNat : Nat) : Int)) = 48 + (ltr l i : Nat) ∧ ltr l i < 2 := by
  have e : l.getD i 42 = l[i] := by simp [List.getD, hi]
  have hT := List.all_eq_true.1 hl _ (List.getElem_mem hi)
  rw [ltr, if_neg h]
  rw [e] at h ⊢
  rcases (isT_iff _).1 hT with h1 | h1 | h1
  · exact absurd ((star_iff _).2 h1) h
  · omega
  · omega
theorem bytes_get (t : ByteArray) (k : Nat) (h : k < t.size) : (((t[k].toNat : Nat) : Int)) = (((t.data.toList.getD k 42).toNat : Nat) : Int) := by rw [at_getD t k h]

theorem sameW {P : Program} {f : FuncId} {args : Array Value} {w : World} {v : Value} (h : Calls P f args w fun e w' => e = .returned v ∧ w = w') : Calls P f args w fun e w' => e = .returned v ∧ w' = w :=
  h.mono fun _ _ ⟨a, b⟩ => ⟨a, b.symm⟩

end Go.Proofs.YtcmjogojlijdgaaGreatDoor
/- Walks: the states of a term, on both sides. -/
namespace Go.Proofs.YtcmjogojlijdgaaGreatDoor
open Go.RowKit

/-- The states of a term among the first k. -/
def stL (l : List UInt8) (k : Nat) : List Int := ((List.range k).filter (hasT l)).map fun s : Nat => (s : Int)
theorem stL_skip {l : List UInt8} {k : Nat} (h : hasT l k = false) : stL l (k + 1) = stL l k := by simp [stL, List.range_succ, List.filter_append, h]
theorem stL_take {l : List UInt8} {k : Nat} (h : hasT l k = true) : stL l (k + 1) = stL l k ++ [(k : Int)] := by simp [stL, List.range_succ, List.filter_append, h]
theorem stL_len (l : List UInt8) (k : Nat) : (stL l k).length ≤ k := by
  rw [stL, List.length_map]
  exact Nat.le_trans (List.length_filter_le _ _) (by simp)
theorem stL_get {l : List UInt8} {k i : Nat} (h : i < (stL l k).length) : ∃ s : Nat, gI (stL l k) i = s ∧ s < k ∧ hasT l s = true := by
  have := List.mem_of_getElem? (gI_lt h)
  simp only [stL, List.mem_map, List.mem_filter, List.mem_range] at this
  obtain ⟨s, ⟨h1, h2⟩, h3⟩ := this
  exact ⟨s, h3.symm, h1, h2⟩
theorem stL_mem {l : List UInt8} {k s : Nat} (h : s < k) (hs : hasT l s = true) : ∃ i, i < (stL l k).length ∧ gI (stL l k) i = s := by
  have : (s : Int) ∈ stL l k := List.mem_map.2 ⟨s, List.mem_filter.2 ⟨List.mem_range.2 h, hs⟩, rfl⟩
  obtain ⟨i, hi, e⟩ := List.getElem_of_mem this
  exact ⟨i, hi, by rw [← gI_eq hi]; exact e⟩

set_option maxHeartbeats 1000000 in
theorem ClipI_ok (ao : Option Addr) (n c : Nat) (w : World) (hn : n ≤ c) (hc : c ≤ maxLen) (ha : ao = none → c = 0) (hs : ∀ a, ao = some a → ∃ b o, a = ⟨b, o, none⟩) :
    Calls Tryz.prog 21 #[.slice ao n c] w fun e w' => e = .returned (.slice ao n n) ∧ w = w' := by
  unfold maxLen at hc
  cases ao with
  | none =>
    obtain rfl := ha rfl
    obtain rfl : n = 0 := by omega
    go_enter Tryz.func21, Tryz.ntmps21
    go_wp2
    go_ret
    exact ⟨rfl, rfl⟩
  | some a =>
    obtain ⟨b, o, rfl⟩ := hs a rfl
    go_enter Tryz.func21, Tryz.ntmps21
    go_wp2
    go_ret
    exact ⟨rfl, rfl⟩
theorem OwnI.outC {w : World} {B : Nat} {v : Value} {zs : List Int} (h : OwnI w B v zs) : ∃ ao c, v = .slice ao zs.length c ∧ OutI w B ao zs.length c zs ∧ (∀ a, ao = some a → ∃ b o, a = ⟨b, o, none⟩) := by
  have h0 := h
  obtain ⟨_, ⟨rfl, hn⟩ | ⟨g, cap, cur, rfl, hg, hh, hle, hm, hs, ht⟩⟩ := h
  · obtain ⟨ao, c, e, ho⟩ := h0.out
    injection e with e1 e2 e3
    exact ⟨ao, c, by rw [← e1, ← e2, ← e3], ho, fun a ha => by rw [← e1] at ha; cases ha⟩
  · obtain ⟨ao, c, e, ho⟩ := h0.out
    injection e with e1 e2 e3
    exact ⟨ao, c, by rw [← e1, ← e3], ho, fun a ha => by rw [← e1] at ha; cases ha; exact ⟨_, _, rfl⟩⟩
theorem OutI.clipC {w : World} {B : Nat} {ao : Option Addr} {n c : Nat} {zs : List Int} (h : OutI w B ao n c zs) : OutI w B ao n n zs :=
  ⟨h.1, ⟨Nat.le_refl _, Nat.le_trans h.2.row.le h.2.row.cap, fun e => by have := h.2.row.nil e; have := h.2.row.le; omega, h.2.row.some, h.2.row.cell⟩, h.2.own, h.2.lt, h.2.free⟩
theorem OwnI.belowD {w w' : World} {B B' : Nat} {v : Value} {zs : List Int} (h : OwnI w B v zs) (hb : Below B' w w') (hB : w.heap.size ≤ B') : OwnI w' B v zs := by
  obtain ⟨h0, h1 | ⟨g, cap, cur, e, hg, hh, h2⟩⟩ := h
  · exact ⟨h0, .inl h1⟩
  · exact ⟨h0, .inr ⟨g, cap, cur, e, hg, by rw [hb.block g (by have := lt_of_block hh; omega)]; exact hh, h2⟩⟩

end Go.Proofs.YtcmjogojlijdgaaGreatDoor
/- Walks: fixed points on both sides. -/
namespace Go.Proofs.YtcmjogojlijdgaaGreatDoor
open Go.RowKit

theorem own_ne {w : World} {B B' : Nat} {e e' : TypeId} {s s' : Nat} {v u : Value} {n m : Nat} {xs ys : List Value} (he : e ≠ e') (h : w.ownsRow B e s v n xs) (h' : w.ownsRow B' e' s' u m ys) : v.ownBlock = none ∨ v.ownBlock ≠ u.ownBlock := by
  obtain ⟨_, ⟨rfl, _⟩ | ⟨g, cap, cur, rfl, _, hg, _⟩⟩ := h
  · exact .inl rfl
  · obtain ⟨_, ⟨rfl, _⟩ | ⟨g', cap', cur', rfl, _, hg', _⟩⟩ := h'
    · exact .inr (by simp [Value.ownBlock])
    · refine .inr fun hh => ?_
      have : g = g' := by simpa [Value.ownBlock] using hh
      subst this
      rw [hg] at hg'
      injection hg' with e1
      injection e1 with _ e2
      exact he e2

theorem OwnI.base' {w : World} {B B' : Nat} {v : Value} {zs : List Int} (h : OwnI w B v zs) (hB : B' ≤ B) : OwnI w B' v zs := by
  obtain ⟨h0, h1 | ⟨g, cap, cur, e, hg, h2⟩⟩ := h
  · exact ⟨h0, .inl h1⟩
  · exact ⟨h0, .inr ⟨g, cap, cur, e, Nat.le_trans hB hg, h2⟩⟩

/-- Whether a step of all switches leaves a state. -/
def fpB (ps : List ByteArray) (s : Nat) : Bool := decide (allTo ps s ps.length = s)
/-- The fixed points among the first k states. -/
def fpL (ps : List ByteArray) (k : Nat) : List Int := ((List.range k).filter (fpB ps)).map fun s : Nat => (s : Int)
theorem fpL_skip {ps : List ByteArray} {k : Nat} (h : fpB ps k = false) : fpL ps (k + 1) = fpL ps k := by simp [fpL, List.range_succ, List.filter_append, h]
theorem fpL_take {ps : List ByteArray} {k : Nat} (h : fpB ps k = true) : fpL ps (k + 1) = fpL ps k ++ [(k : Int)] := by simp [fpL, List.range_succ, List.filter_append, h]
theorem fpL_len (ps : List ByteArray) (k : Nat) : (fpL ps k).length ≤ k := by
  rw [fpL, List.length_map]
  exact Nat.le_trans (List.length_filter_le _ _) (by simp)
theorem fpL_get {ps : List ByteArray} {k i : Nat} (h : i < (fpL ps k).length) : ∃ s : Nat, gI (fpL ps k) i = s ∧ s < k ∧ fpB ps s = true := by
  have := List.mem_of_getElem? (gI_lt h)
  simp only [fpL, List.mem_map, List.mem_filter, List.mem_range] at this
  obtain ⟨s, ⟨h1, h2⟩, h3⟩ := this
  exact ⟨s, h3.symm, h1, h2⟩
/-- What FixedPoints gives. -/
def fpV (ps : List ByteArray) : List Int := if netB ps = true then fpL ps (2 ^ ps.length) else []
theorem fpV_no {ps : List ByteArray} (h : netB ps = false) : fpV ps = [] := by simp [fpV, h]
theorem fpV_yes {ps : List ByteArray} (h : netB ps = true) : fpV ps = fpL ps (2 ^ ps.length) := by simp [fpV, h]
theorem fpV_len (ps : List ByteArray) (hp : 0 < ps.length) : (fpV ps).length ≤ 32 := by
  cases h : netB ps with
  | false => rw [fpV_no h]; decide
  | true =>
    rw [fpV_yes h]
    have := net_le h hp
    have h2 : (2 ^ ps.length : Nat) ≤ 32 := Nat.pow_le_pow_right (n := 2) (by decide) this
    have := fpL_len ps (2 ^ ps.length)
    omega
theorem fp_in {a k : Nat} (h : decide (a = k) = true) : ((a : Int) == (k : Int)) = true := by
  have : a = k := by simpa using h
  simp [this]
theorem fp_out {a k : Nat} (h : decide (a = k) = false) : ((a : Int) == (k : Int)) = false := by
  have : ¬ a = k := by simpa using h
  rw [beq_eq_false_iff_ne]; omega

set_option maxHeartbeats 2000000 in
theorem fixed_ok (ao : Option Addr) (c : Nat) (ps : List ByteArray) (w : World) (h : RowN w ao ps.length c ps.length (bitsN ps ps.length)) (hn : netB ps = true) (h5 : ps.length ≤ 5) :
    Calls Tryz.prog 18 #[.slice ao ps.length c] w fun e w' => ∃ v, e = .returned v ∧ OwnI w' w.heap.size v (fpL ps (2 ^ ps.length)) ∧ Below w.heap.size w w' := by
  have hp : (2 ^ ps.length : Nat) ≤ 32 := Nat.pow_le_pow_right (n := 2) (by decide) h5
  have HS := Lib.hid (fun s W (hs : s < 2 ^ ps.length) (hb : Below w.heap.size w W) => step_ok ao c ps s W (h.below hb (Nat.le_refl _)) hn h5 hs)
  have HSt := Lib.hid (fun W => states_ok ao ps.length c W (by omega))
  have HFd : Hid (∀ k, fpB ps k = decide (allTo ps k ps.length = k)) := fun k => rfl
  clear hn h
  generalize (2 ^ ps.length : Nat) = N at hp HS HSt ⊢
  go_enter Tryz.func18, Tryz.ntmps18
  go_wp2_with fail
  refine (HSt.out _).mono ?_
  rintro e w1 ⟨rfl, rfl⟩
  go_wp2_with fail
  go_loopw [3, 7] (fun v q wr => ∃ k : Nat, k ≤ N ∧ q = .int .i64 k ∧ OwnI wr w.heap.size v (fpL ps k) ∧ Below w.heap.size w wr) (fun _ q _ => N - (intOf q).toNat)
  case atStart => exact ⟨0, Nat.zero_le _, rfl, OwnI.nil _ _, Below.refl _ _⟩
  case round =>
    obtain ⟨k, hk, rfl, ho, hb⟩ := hrel
    have HO := Lib.hid ho
    have HB := Lib.hid hb
    have hlen := fpL_len ps k
    clear ho hb
    by_cases hlt : k < N
    · have hlt' : (k : Int) < (N : Int) := by omega
      have HSk := Lib.hid (HS.out k wr hlt HB.out)
      have HFk := Lib.hid (HFd.out k)
      cases hh : fpB ps k with
      | false =>
        have HN := Lib.hid (fpL_skip hh)
        have hne := fp_out (HFk.out.symm.trans hh)
        clear hh HFk
        generalize allTo ps k ps.length = u at HSk hne
        go_wp2_with fail
        refine HSk.out.mono ?_
        rintro e w2 ⟨rfl, b2⟩
        have C2 := Lib.hid (HB.out.trans (b2.mono HB.out.size))
        have O2 := Lib.hid (HO.out.belowD b2 (Nat.le_refl _))
        clear b2
        go_wp2_with fail
        go_roundw
        case rel => exact ⟨k + 1, by omega, by go_num, by rw [HN.out]; exact O2.out, C2.out⟩
        case measure => simp [intOf]; omega
      | true =>
        have HN := Lib.hid (fpL_take hh)
        have hne := fp_in (HFk.out.symm.trans hh)
        clear hh HFk
        generalize allTo ps k ps.length = u at HSk hne
        go_wp2_with fail
        refine HSk.out.mono ?_
        rintro e w2 ⟨rfl, b2⟩
        have C2 := Lib.hid (HB.out.trans (b2.mono HB.out.size))
        have O2 := Lib.hid (HO.out.belowD b2 (Nat.le_refl _))
        clear b2
        go_wp2_with (at_builtin; refine wpList_appI (OwnI.alloc O2.out _) (RowI.one _ _) rfl _ _ rfl rfl rfl (by omega) (by have := C2.out.size; simp; omega) ?_; intro v6 w6 o6 g6)
        go_roundw
        case rel => exact ⟨k + 1, by omega, by go_num, by rw [HN.out]; exact o6, (C2.out.alloc C2.out.size _).grown g6 (by have := C2.out.size; simp; omega) (fun j hj => (World.ownsRow.lt O2.out j hj).1)⟩
        case measure => simp [intOf] <;> omega
    · obtain rfl : k = N := by omega
      go_wp2_with fail
      go_ret
      exact ⟨_, rfl, HO.out, HB.out⟩

set_option maxHeartbeats 1000000 in
theorem fpI_ok (s : ByteArray) (w : World) (hs : s.size ≤ 1048576) (hm : MaxLenIs w) :
    Calls Tryz.prog 13 #[.string s] w fun e w' => ∃ v, e = .returned v ∧ OwnI w' w.heap.size v (fpV (cutsP 44 s)) ∧ Below w.heap.size w w' := by
  have HO := Lib.hid (readNetwork_ok s w hs hm)
  have hp0 := cutsP_pos 44 s
  generalize cutsP 44 s = ps at HO hp0 ⊢
  cases hb : netB ps with
  | false =>
    have HV := Lib.hid (fpV_no hb)
    rw [hb] at HO
    clear hb
    go_enter Tryz.func13, Tryz.ntmps13
    go_wp2_with fail
    refine HO.out.mono ?_
    rintro e w1 ⟨v, rfl, o1, b1⟩
    clear o1
    go_wp2_with fail
    go_ret
    exact ⟨_, rfl, by rw [HV.out]; exact OwnI.nil _ _, b1⟩
  | true =>
    have HV := Lib.hid (fpV_yes hb)
    have HN := Lib.hid (netN_yes hb)
    have h5 := net_le hb hp0
    have hlen := bitsN_len ps ps.length
    have HF := Lib.hid (fun ao c W (h : RowN W ao ps.length c ps.length (bitsN ps ps.length)) => fixed_ok ao c ps W h hb h5)
    rw [hb] at HO
    clear hb
    go_enter Tryz.func13, Tryz.ntmps13
    go_wp2_with fail
    refine HO.out.mono ?_
    rintro e w1 ⟨v, rfl, o1, b1⟩
    rw [HN.out] at o1
    obtain ⟨a, c, rfl, r1⟩ := o1.row (bitsN_wide ps ps.length)
    rw [hlen] at r1 ⊢
    have HF1 := Lib.hid (HF.out _ _ _ r1)
    have B1 := Lib.hid b1
    clear o1 r1 hlen b1
    go_wp2_with fail
    refine HF1.out.mono ?_
    rintro e w2 ⟨v2, rfl, o2, b2⟩
    go_wp2_with fail
    go_ret
    exact ⟨_, rfl, by rw [HV.out]; exact OwnI.base' o2 B1.out.size, B1.out.trans (b2.mono B1.out.size)⟩

set_option maxHeartbeats 2000000 in
theorem fpS_ok (s : ByteArray) (w : World) (hs : s.size ≤ 1048576) :
    Calls Tryz.prog 23 #[.string s] w fun e w' => ∃ v, e = .returned v ∧ OwnI w' w.heap.size v (fpV (cutsP 44 s)) ∧ Below w.heap.size w w' := by
  have b0 : Below w.heap.size w (w.alloc (.cells #[] 3)) := (Below.refl _ _).alloc (Nat.le_refl _) _
  have B0 := Lib.hid b0
  have O0 := Lib.hid (OwnI.lit w w.heap.size [] (Nat.le_refl _) (by decide))
  have s0 : (w.alloc (.cells #[] 3)).heap.size = w.heap.size + 1 := by simp
  have S0 := Lib.hid s0
  have HO := Lib.hid (l3Open_ok s (w.alloc (.cells #[] 3)) hs)
  have hp0 := cutsP_pos 44 s
  clear b0 s0
  generalize cutsP 44 s = ps at HO hp0 ⊢
  cases hb : netB ps with
  | false =>
    have HV := Lib.hid (fpV_no hb)
    rw [hb] at HO
    clear hb
    go_enter Tryz.func23, Tryz.ntmps23
    go_wp2_with fail
    refine HO.out.mono ?_
    rintro e w1 ⟨v, rfl, o1, b1⟩
    have O1 := Lib.hid (O0.out.belowD b1 (Nat.le_refl _))
    have B1 := Lib.hid (B0.out.trans (b1.mono B0.out.size))
    clear o1 b1
    go_wp2_with fail
    go_loopw [3, 6] (fun v q wr => q = .int .i64 0 ∧ OwnI wr w.heap.size v [] ∧ Below w.heap.size w wr) (fun _ q _ => 0)
    case atStart => exact ⟨rfl, O1.out, B1.out⟩
    case round =>
      obtain ⟨rfl, ho, hb⟩ := hrel
      go_wp2_with fail
      go_ret
      exact ⟨_, rfl, by rw [HV.out]; exact ho, hb⟩
  | true =>
    have HV := Lib.hid (fpV_yes hb)
    have HN := Lib.hid (netL_yes hb)
    have h5 := net_le hb hp0
    have hp : (2 ^ ps.length : Nat) ≤ 32 := Nat.pow_le_pow_right (n := 2) (by decide) h5
    have hp1 : 0 < (2 ^ ps.length : Nat) := Nat.pow_pos (by decide)
    have HA := Lib.hid (fun (ao : Option Addr) (c : Nat) W => l3All_ok ao ps.length c W h5)
    have HS := Lib.hid (fun ao c s W (hs : s < 2 ^ ps.length) (h : RowT W ao ps.length c ps) => l3Step_ok ao ps.length c ps s (2 ^ ps.length - 1) W h hb h5 hs (by omega))
    have HE := Lib.hid (fun s (hs : s < 2 ^ ps.length) => (all_step hb h5 hs).symm)
    have HFd : Hid (∀ k, fpB ps k = decide (allTo ps k ps.length = k)) := fun k => rfl
    rw [hb] at HO
    clear hb
    generalize (2 ^ ps.length : Nat) = N at hp hp1 HE HS HA HV
    go_enter Tryz.func23, Tryz.ntmps23
    go_wp2_with fail
    refine HO.out.mono ?_
    rintro e w1 ⟨v, rfl, o1, b1⟩
    rw [HN.out] at o1
    have L1 := Lib.hid o1
    obtain ⟨a, c, rfl, r1⟩ := o1.row
    have O1 := Lib.hid (O0.out.belowD b1 (Nat.le_refl _))
    have B1 := Lib.hid (B0.out.trans (b1.mono B0.out.size))
    have HSa := Lib.hid (fun s W (hs : s < N) (h : RowT W a ps.length c ps) => HS.out a c s W hs h)
    have HAa := Lib.hid (fun W => HA.out a c W)
    clear o1 b1 r1 HS HA
    go_wp2_with fail
    go_loopw [3, 6] (fun v q wr => ∃ k : Nat, k ≤ N ∧ q = .int .i64 k ∧ OwnI wr w.heap.size v (fpL ps k) ∧ OwnT wr (w.alloc (.cells #[] 3)).heap.size (.slice a ps.length c) ps ∧ Below w.heap.size w wr) (fun _ q _ => N - (intOf q).toNat)
    case atStart => exact ⟨0, Nat.zero_le _, rfl, O1.out, L1.out, B1.out⟩
    case round =>
      obtain ⟨k, hk, rfl, ho, hL, hb⟩ := hrel
      have HOk := Lib.hid ho
      have HL := Lib.hid hL
      have HB := Lib.hid hb
      have hlen := fpL_len ps k
      have R : Hid (RowT wr a ps.length c ps) := by
        obtain ⟨a', c', e', r'⟩ := hL.row
        injection e' with e1 e2 e3
        subst e1 e3
        exact r'
      clear ho hb hL
      by_cases hlt : k < N
      · have hle : (k : Int) ≤ ((N - 1 : Nat) : Int) := by omega
        have HSk := Lib.hid (HSa.out k wr hlt R.out)
        have HFk := Lib.hid (HFd.out k)
        rw [HE.out k hlt] at HSk
        cases hh : fpB ps k with
        | false =>
          have HN := Lib.hid (fpL_skip hh)
          have hne := fp_out (HFk.out.symm.trans hh)
          clear hh HFk
          generalize allTo ps k ps.length = u at HSk hne
          go_wp2_with (go_at_call 47; refine (HAa.out _).mono ?_; rintro e w2 ⟨rfl, rfl⟩)
          refine HSk.out.mono ?_
          rintro e w2 ⟨rfl, rfl⟩
          go_wp2_with fail
          go_roundw
          case rel => exact ⟨k + 1, by omega, by go_num, by rw [HN.out]; exact HOk.out, HL.out, HB.out⟩
          case measure => simp [intOf]; omega
        | true =>
          have HN := Lib.hid (fpL_take hh)
          have hne := fp_in (HFk.out.symm.trans hh)
          clear hh HFk
          generalize allTo ps k ps.length = u at HSk hne
          go_wp2_with (go_at_call 47; refine (HAa.out _).mono ?_; rintro e w2 ⟨rfl, rfl⟩)
          refine HSk.out.mono ?_
          rintro e w2 ⟨rfl, rfl⟩
          go_wp2_with (at_builtin; refine wpList_appI (OwnI.alloc HOk.out _) (RowI.one _ _) rfl _ _ rfl rfl rfl (by omega) (by have := HB.out.size; simp; omega) ?_; intro v6 w6 o6 g6)
          go_roundw
          case rel => exact ⟨k + 1, by omega, by go_num, by rw [HN.out]; exact o6, World.ownsRow.kept (OwnT.alloc HL.out (.cells #[.int .i64 k] 3)) g6 (own_ne (by decide) (OwnT.alloc HL.out (.cells #[.int .i64 k] 3)) (OwnI.alloc HOk.out (.cells #[.int .i64 k] 3))), (HB.out.alloc HB.out.size _).grown g6 (by have := HB.out.size; simp; omega) (fun j hj => (World.ownsRow.lt HOk.out j hj).1)⟩
          case measure => simp [intOf] <;> omega
      · obtain rfl : k = N := by omega
        have hle : ¬ (k : Int) ≤ ((k - 1 : Nat) : Int) := by omega
        go_wp2_with fail
        refine (HAa.out _).mono ?_
        rintro e w2 ⟨rfl, rfl⟩
        go_wp2_with fail
        go_ret
        exact ⟨_, rfl, by rw [HV.out]; exact HOk.out, HB.out⟩

end Go.Proofs.YtcmjogojlijdgaaGreatDoor
