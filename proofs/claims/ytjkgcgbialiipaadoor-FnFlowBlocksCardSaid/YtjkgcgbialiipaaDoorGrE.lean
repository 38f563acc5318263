/- Walks and plain facts: several of my texts in one. -/
import Derived.Test.YtjkgcgbialiipaaDoorGrA
import Derived.Deep.RegionWith
import Derived.Deep.RegionHeld3
import Derived.Deep.RegionLaw
import Derived.Lib.AppendZeros
import Derived.Test.YtjkgcgbialiipaaDoorGrD
/- Walks: JoinBlocks. -/
namespace Go.Proofs.YtjkgcgbialiipaaDoor
open Go.RowKit

/-- A part of a row is a row. -/
theorem RowI.take {w : World} {b o n c : Nat} {zs : List Int} (h : RowI w (some ⟨b, o, none⟩) n c zs) (k : Nat) (hk : k ≤ n) : RowI w (some ⟨b, o, none⟩) k c (zs.take k) := by
  obtain ⟨hl, hle, hcap, hnil, hsome, hcell⟩ := h
  refine ⟨by simp; omega, by omega, hcap, hnil, fun hn => hsome (by omega), fun b' o' e i hi => ?_⟩
  rw [hcell b' o' e i (by omega)]
  simp [gI, List.getD, hi]
theorem RowI.drop {w : World} {b o n c : Nat} {zs : List Int} (h : RowI w (some ⟨b, o, none⟩) n c zs) (k : Nat) (hk : k ≤ n) : RowI w (some ⟨b, o + k, none⟩) (n - k) (c - k) (zs.drop k) := by
  obtain ⟨hl, hle, hcap, hnil, hsome, hcell⟩ := h
  refine ⟨by simp; omega, by omega, by omega, fun e => (by cases e), fun hn => ?_, fun b' o' e i hi => ?_⟩
  · obtain ⟨b', o', e, hb⟩ := hsome (by omega)
    cases e
    exact ⟨b, o + k, rfl, hb⟩
  · cases e
    rw [Nat.add_assoc, hcell b o rfl (k + i) (by omega)]
    simp [gI, List.getD]
/-- The empty rest of a row whose end is the array's own. -/
theorem RowI.empty (w : World) (ao : Option Addr) (c : Nat) (hc : c ≤ maxLen) (hn : ao = none → c = 0) : RowI w ao 0 c [] :=
  ⟨rfl, Nat.zero_le _, hc, hn, fun h => absurd h (Nat.lt_irrefl _), fun _ _ _ _ hi => absurd hi (Nat.not_lt_zero _)⟩

theorem RowI.drew {w : World} {ao : Option Addr} {n c : Nat} {zs : List Int} (h : RowI w ao n c zs) : RowI w.drew ao n c zs := ⟨h.1, h.2.le, h.2.cap, h.2.nil, h.2.some, h.2.cell⟩

/-- 'append' of a row of ints to an owned slice, as one step of a region that draws. -/
theorem step_appI {w : World} {ops : Array Oper} {o : Oper} {a : Act} {K : Act → World → Prop} {Q : Exit → Act → World → Prop} {E : Prop} {B : Nat} {v : Value} {zs ys : List Int} {ao : Option Addr} {m c : Nat} (hown : OwnI w B v zs) (hr : RowI w ao m c ys)
    (hgd : o.guard = none) (s x : Operand) (ho : o.op = .call { callee := .builtin .append, args := #[s, x], argTypes := #[23, 23] }) (hs : a.eval s = v) (hx : a.eval x = .slice ao m c)
    (hbytes : (zs.length + m) * 8 ≤ 140737488355328) (hB : B ≤ w.heap.size)
    (h : ∀ v' w', OwnI w' B v' (zs ++ ys) → w.grownBy w' v.ownBlock → K (a.put o.dst v') w') : if Region.wanted o (yielded ops a.tmps) = true then Oper.wp Tryd.prog o a w K Q else E := by
  obtain ⟨i, hi, hz, hsz, hby⟩ := info_parts i3
  have hl : (ints ys).length = m * 1 := by simp [ints, hr.1]
  have h1 : ∀ u ∈ ints ys, u.oneCell' = true := ints_oneCell _ _
  have e1 : zs.length + m = (zs ++ ys).length := by simp [hr.1]
  have e2 : ints zs ++ ints ys = ints (zs ++ ys) := by simp [ints]
  rw [if_pos (by simp [Region.wanted, hgd])]
  cases hao : ao with
  | some ad =>
    subst hao
    refine wp_append_own w s x _ ho B 3 i (.int .i64 0) 1 8 Tryd.underlying23 hi hz hsz hby rfl (by decide) v _ _ hs hown ad m c (ints ys) hx hl (hr.cells ad rfl) h1 (by unfold maxLen; omega) hbytes hB ?_
    intro v' w' r1 r2 _
    exact h v' w' (by unfold OwnI; rw [← e1, ← e2]; exact r1) r2
  | none =>
    subst hao
    have hc0 := hr.2.nil rfl
    have hm0 : m = 0 := by have := hr.2.le; omega
    have hy : ys = [] := List.eq_nil_of_length_eq_zero (by rw [hr.1]; exact hm0)
    subst hc0 hm0 hy
    have hrun := run_append_owned_none (P := Tryd.prog) w B 23 o.type 3 i 1 Tryd.underlying23 hi v _ _ hown
    unfold Oper.wp
    simp [execOp, ho, resolve, invoke, builtin, hs, hx, hrun, Result.andThen]
    exact h v w (by simpa using hown) (World.grownBy.refl _ _)

def joinV (zs : List Int) (k : Nat) : List Int := zs.take k ++ [bits .or .i64 (gI zs k) (gI zs (k + 1))] ++ zs.drop (k + 2)

set_option maxHeartbeats 1000000 in
theorem jbS_yes (b o n c : Nat) (zs : List Int) (m : Int) (k : Nat) (w : World) (h : RowI w (some ⟨b, o, none⟩) n c zs) (hk : k + 2 ≤ n) (hv : blocksV zs m = true) (hn : n ≤ 1099511627776) :
    Calls Tryd.prog 47 #[.slice (some ⟨b, o, none⟩) n c, .int .i64 m, .int .i64 k] w fun e w' => ∃ v, e = .returned (.tuple #[v, .bool true]) ∧ OwnI w' w.heap.size v (joinV zs k) ∧ Below w.heap.size w w' := by
  obtain rfl := h.1
  have hml := h.2.cap
  have hml' := h.2.le
  unfold maxLen at hml
  have HB := Lib.hid (bvS_ok _ _ _ zs m w h)
  have hq := inB_iff.2 (show 0 ≤ (k : Int) ∧ (k : Int) ≤ (zs.length : Int) - 2 by omega)
  go_enter Tryd.func47, Tryd.ntmps47
  go_wp2_with fail
  refine HB.out.mono ?_
  rintro e w1 ⟨rfl, b1⟩
  rw [hv]
  have r1 := h.below b1 (Nat.le_refl _)
  go_wp2_with (first | (go_at_call 90; refine (l1In_ok _ _ _ _).mono ?_; rintro e w' ⟨rfl, rfl⟩) | (at_builtin; go_must (refine wpList_appI (OwnI.lit _ w.heap.size [] b1.size (by decide)) ((r1.take k (by omega)).below ((Below.refl _ _).alloc (Nat.le_refl _) _) (Nat.le_refl _)) rfl _ _ rfl rfl rfl (by simp; omega) (by have := b1.size; simp; omega) ?_); intro v2 w2 o2 g2))
  have c2 : Below w.heap.size w w2 := b1.trans (((Below.refl _ _).alloc b1.size _).grown g2 (by have := b1.size; simp; omega) (fun j hj => by cases hj; exact b1.size))
  have x0 : w2.cell? ⟨b, o + k, none⟩ = some (.int .i64 (gI zs k)) := (h.below c2 (Nat.le_refl _)).2.cell b o rfl k (by omega)
  have x1 : w2.cell? ⟨b, o + (k + 1), none⟩ = some (.int .i64 (gI zs (k + 1))) := (h.below c2 (Nat.le_refl _)).2.cell b o rfl (k + 1) (by omega)
  have hk0 : (k : Int) < (zs.length : Int) := by omega
  have hk1 : (k : Int) + 1 < (zs.length : Int) := by omega
  have hs1 : IntKind.i64.wrap ((k : Int) + 1) = (k : Int) + 1 := IntWalk.i64_in _ (by omega)
  have hs2 : ((k : Int) + 1).toNat = k + 1 := by omega
  have hs3 : 0 ≤ (k : Int) + 1 := by omega
  have hb1 : (([] ++ zs.take k).length + 1) * 8 ≤ 140737488355328 := by simp; omega
  have hb2 : ∀ q, w.heap.size ≤ (w2.alloc q).drew.heap.size := fun q => by have := c2.size; simp; omega
  have HB1 := Lib.hid hb1
  have HB2 := Lib.hid hb2
  clear r1 hb1 hb2
  go_region_law (refine step_appI (OwnI.drew (OwnI.alloc o2 _)) (RowI.drew (RowI.one _ _)) rfl _ _ rfl rfl rfl HB1.out (HB2.out _) ?_; intro v3 w3 o3 g3)
  all_goals
    have c3 : Below w.heap.size w w3 := (((c2.alloc c2.size _).drew).grown g3 (HB2.out _) (fun j hj => (World.ownsRow.lt o2 j hj).1))
    have r3 := h.below c3 (Nat.le_refl _)
    have hl3 : zs.length - (k + 2) = (zs.drop (k + 2)).length := by simp
    have hb3 : (([] ++ zs.take k ++ [bits .or .i64 (gI zs k) (gI zs (k + 1))]).length + (zs.length - (k + 2))) * 8 ≤ 140737488355328 := by simp; omega
    have HB3 := Lib.hid hb3
    have HL3 := Lib.hid hl3
    clear hb3 hl3 hs1 hs2 hs3
    by_cases hc : c = k + 2
    · have r4 : RowI w3 (some ⟨b, o, none⟩) (zs.length - (k + 2)) (k + 2 - (k + 2)) (zs.drop (k + 2)) := by
        rw [Nat.sub_self]
        have e0 : zs.length - (k + 2) = 0 := by omega
        have e1 : zs.drop (k + 2) = [] := List.drop_of_length_le (by omega)
        rw [e0, e1]
        exact RowI.empty _ _ _ (Nat.zero_le _) (fun e => by cases e)
      clear h r3
      go_wp2_with (at_builtin; refine wpList_appI o3 r4 rfl _ _ rfl rfl rfl HB3.out c3.size ?_; intro v5 w5 o5 g5)
      go_ret2
      exact ⟨v5, rfl, by simpa [joinV] using o5, c3.grown g5 c3.size (fun j hj => (World.ownsRow.lt o3 j hj).1)⟩
    · have r4 := r3.drop (k + 2) (by omega)
      have hcc : ¬ (k + 2 = c) := fun e => hc e.symm
      clear h r3
      go_wp2_with (at_builtin; refine wpList_appI o3 r4 rfl _ _ rfl rfl rfl HB3.out c3.size ?_; intro v5 w5 o5 g5)
      go_ret2
      exact ⟨v5, rfl, by simpa [joinV] using o5, c3.grown g5 c3.size (fun j hj => (World.ownsRow.lt o3 j hj).1)⟩

end Go.Proofs.YtjkgcgbialiipaaDoor
/- Walks: SeenValid, and a search by a closure. -/
namespace Go.Proofs.YtjkgcgbialiipaaDoor
open Go.RowKit

def okS (top : Int) (p : Int × Int) : Bool := decide (0 ≤ p.1) && decide (p.1 < top) && decide (0 ≤ p.2) && decide (p.2 < top)
def seenB (zs : List (Int × Int)) (m : Int) : Bool := decide (1 ≤ m ∧ m ≤ 5) && decide (zs.length ≤ 32) && zs.all (okS (2 ^ m.toNat))
theorem okS_iff {top : Int} {p : Int × Int} : okS top p = true ↔ 0 ≤ p.1 ∧ p.1 < top ∧ 0 ≤ p.2 ∧ p.2 < top := by simp [okS, and_assoc]

theorem allS_of {zs : List (Int × Int)} {f : Int × Int → Bool} (h : ∀ i, i < zs.length → f (gS zs i) = true) : zs.all f = true := by
  refine List.all_eq_true.2 fun p hp => ?_
  obtain ⟨i, hi, rfl⟩ := List.getElem_of_mem hp
  have := h i hi
  rwa [show gS zs i = zs[i] by simp [gS, List.getD, hi]] at this
theorem allS_not {zs : List (Int × Int)} {f : Int × Int → Bool} {k : Nat} (hk : k < zs.length) (h : f (gS zs k) = false) : zs.all f = false := by
  rw [List.all_eq_false]
  exact ⟨gS zs k, by rw [show gS zs k = zs[k] by simp [gS, List.getD, hk]]; exact List.getElem_mem _, by simp [h]⟩

/-- Where the first element stands for which f says yes, or -1. -/
def idxS (f : Int × Int → Bool) (zs : List (Int × Int)) : Int := match zs.findIdx? f with | some i => i | none => -1

set_option maxHeartbeats 1000000 in
theorem IndexFuncS_ok (ao : Option Addr) (n c : Nat) (zs : List (Int × Int)) (g : Nat) (cap : Array Value) (f : Int × Int → Bool) (w : World) (h : RowS w ao n c zs) (hg : ∀ args W, (callFunc g args).run Tryd.prog W = .ok (.enter g args) W)
    (hf : ∀ k, k < n → ∀ W, Below w.heap.size w W → Calls Tryd.prog g (#[.agg #[.int .i64 (gS zs k).1, .int .i64 (gS zs k).2]] ++ cap) W fun e W' => e = .returned (.bool (f (gS zs k))) ∧ Below W.heap.size W W') :
    Calls Tryd.prog 159 #[.slice ao n c, .func (.func g) #[] cap] w fun e w' => e = .returned (.int .i64 (idxS f zs)) ∧ Below w.heap.size w w' := by
  obtain rfl := h.len
  have hml := h.cap
  have hml' := h.le
  unfold maxLen at hml
  have HF := Lib.hid hf
  clear hf
  go_enter Tryd.func159, Tryd.ntmps159
  go_wp2
  go_loopw [8] (fun i wr => ∃ k : Nat, k ≤ zs.length ∧ i = .int .i64 k ∧ (∀ j, j < k → f (gS zs j) = false) ∧ Below w.heap.size w wr) (fun i _ => zs.length - (intOf i).toNat)
  case atStart => exact ⟨0, Nat.zero_le _, rfl, fun j h => absurd h (Nat.not_lt_zero _), Below.refl _ _⟩
  case round =>
    obtain ⟨k, hk, rfl, hno, hb⟩ := hrel
    have HN := Lib.hid hno
    clear hno
    by_cases hlt : k < zs.length
    · obtain ⟨b, o, rfl, hbo⟩ := h.some (by omega)
      have hx0 : wr.cell? ⟨b, o + k * 2, none⟩ = some (.int .i64 (gS zs k).1) := (hb.cell (by exact hbo)).trans (h.before b o rfl k hlt)
      have hx1 : wr.cell? ⟨b, o + k * 2 + 1, none⟩ = some (.int .i64 (gS zs k).2) := (hb.cell (by exact hbo)).trans (h.after b o rfl k hlt)
      by_cases hq : f (gS zs k) = true
      · go_wp2_with fail
        refine (HF.out k hlt wr hb).mono ?_
        rintro e w1 ⟨rfl, b1⟩
        rw [hq]
        have HQ := Lib.hid hq
        clear hq
        go_wp2
        go_ret
        refine ⟨reti ?_, hb.trans (b1.mono hb.size)⟩
        rw [idxS, show zs.findIdx? f = some k from ?_]
        rw [List.findIdx?_eq_some_iff_getElem]
        exact ⟨hlt, by have := HQ.out; rwa [show gS zs k = zs[k] by simp [gS, List.getD, hlt]] at this, fun j hj => by
          have := HN.out j hj
          rw [show gS zs j = zs[j] by simp [gS, List.getD, show j < zs.length by omega]] at this
          simp [this]⟩
      · have hqb : f (gS zs k) = false := by simpa using hq
        clear hq
        go_wp2_with fail
        refine (HF.out k hlt wr hb).mono ?_
        rintro e w1 ⟨rfl, b1⟩
        rw [hqb]
        have HQ := Lib.hid hqb
        clear hqb
        go_wp2
        go_roundw
        case rel => exact ⟨k + 1, by omega, by go_num, fun j hj => by
            by_cases e : j = k
            · subst e; exact HQ.out
            · exact HN.out j (by omega), hb.trans (b1.mono hb.size)⟩
        case measure => simp [intOf]; omega
    · go_wp2
      go_ret
      refine ⟨reti ?_, hb⟩
      rw [idxS, show zs.findIdx? f = none from ?_]
      rw [List.findIdx?_eq_none_iff]
      intro p hp
      obtain ⟨i, hi, rfl⟩ := List.getElem_of_mem hp
      have := HN.out i (by omega)
      rwa [show gS zs i = zs[i] by simp [gS, List.getD, hi]] at this

theorem idxS_neg (f : Int × Int → Bool) (zs : List (Int × Int)) : decide (0 ≤ idxS f zs) = zs.any f := by
  unfold idxS
  cases h : zs.findIdx? f with
  | none =>
    rw [List.findIdx?_eq_none_iff] at h
    have : zs.any f = false := by rw [List.any_eq_false]; intro p hp; simp [h p hp]
    rw [this]; rfl
  | some i =>
    rw [List.findIdx?_eq_some_iff_getElem] at h
    obtain ⟨hi, hf, _⟩ := h
    have : zs.any f = true := by rw [List.any_eq_true]; exact ⟨zs[i], List.getElem_mem _, hf⟩
    rw [this]; simp

set_option maxHeartbeats 1000000 in
theorem ContainsFuncS_ok (ao : Option Addr) (n c : Nat) (zs : List (Int × Int)) (g : Nat) (cap : Array Value) (f : Int × Int → Bool) (w : World) (h : RowS w ao n c zs) (hg : ∀ args W, (callFunc g args).run Tryd.prog W = .ok (.enter g args) W)
    (hf : ∀ k, k < n → ∀ W, Below w.heap.size w W → Calls Tryd.prog g (#[.agg #[.int .i64 (gS zs k).1, .int .i64 (gS zs k).2]] ++ cap) W fun e W' => e = .returned (.bool (f (gS zs k))) ∧ Below W.heap.size W W') :
    Calls Tryd.prog 106 #[.slice ao n c, .func (.func g) #[] cap] w fun e w' => e = .returned (.bool (zs.any f)) ∧ Below w.heap.size w w' := by
  have HC := Lib.hid (IndexFuncS_ok ao n c zs g cap f w h hg hf)
  clear hf hg h
  go_enter Tryd.func106, Tryd.ntmps106
  go_wp2_with fail
  refine HC.out.mono ?_
  rintro e w1 ⟨rfl, b1⟩
  go_wp2
  all_goals
    go_ret
    exact ⟨retb (idxS_neg _ _), b1⟩

set_option maxHeartbeats 1000000 in
theorem seenClosure_ok (x y m : Int) (pb : Nat) (w : World) (hm : 1 ≤ m ∧ m ≤ 5) (hc : w.cell? ⟨pb, 0, none⟩ = some (.int .i64 m)) (hp : pb < w.heap.size) :
    Calls Tryd.prog 107 #[.agg #[.int .i64 x, .int .i64 y], .pointer (some ⟨pb, 0, none⟩)] w fun e w' => e = .returned (.bool (!okS (2 ^ m.toNat) (x, y))) ∧ Below w.heap.size w w' := by
  have hca : ∀ o, (w.alloc o).cell? ⟨pb, 0, none⟩ = some (.int .i64 m) := fun o => ((((Below.refl w.heap.size w).alloc (Nat.le_refl _) o).cell (p := ⟨pb, 0, none⟩) hp)).trans hc
  clear hc
  have HP := Lib.hid (wrap_pow hm)
  have HC2 := Lib.hid (show ((2 ^ m.toNat : Nat) : Int) = 2 ^ m.toNat by simp)
  by_cases h1 : x < 0
  · go_enter Tryd.func107, Tryd.ntmps107
    go_wp2
    go_quiet (fail)
    go_wp2
    go_ret
    exact ⟨retb (by simp [okS]; omega), _root_.Go.below_drewN ((Below.refl _ _).alloc (Nat.le_refl _) _) _⟩
  have d1 : decide (x < 0) = false := by simp; omega
  by_cases h2 : wrap64 (2 ^ m.toNat) ≤ x
  · go_enter Tryd.func107, Tryd.ntmps107
    go_wp2
    go_quiet (fail)
    go_wp2
    go_ret
    exact ⟨retb (by have := HP.out; have := HC2.out; simp [okS]; omega), _root_.Go.below_drewN ((Below.refl _ _).alloc (Nat.le_refl _) _) _⟩
  have d2 : decide (wrap64 (2 ^ m.toNat) ≤ x) = false := by simp; omega
  by_cases h3 : y < 0
  · go_enter Tryd.func107, Tryd.ntmps107
    go_wp2
    go_quiet (fail)
    go_wp2
    go_ret
    exact ⟨retb (by have := HP.out; have := HC2.out; simp [okS]; omega), _root_.Go.below_drewN ((Below.refl _ _).alloc (Nat.le_refl _) _) _⟩
  have d3 : decide (y < 0) = false := by simp; omega
  by_cases h4 : wrap64 (2 ^ m.toNat) ≤ y
  · go_enter Tryd.func107, Tryd.ntmps107
    go_wp2
    go_quiet (fail)
    go_wp2
    go_ret
    exact ⟨retb (by have := HP.out; have := HC2.out; simp [okS]; omega), _root_.Go.below_drewN ((Below.refl _ _).alloc (Nat.le_refl _) _) _⟩
  · have d4 : decide (wrap64 (2 ^ m.toNat) ≤ y) = false := by simp; omega
    go_enter Tryd.func107, Tryd.ntmps107
    go_wp2
    go_quiet (fail)
    go_wp2
    go_ret
    exact ⟨retb (by have := HP.out; have := HC2.out; simp [okS]; omega), _root_.Go.below_drewN ((Below.refl _ _).alloc (Nat.le_refl _) _) _⟩

set_option maxHeartbeats 1000000 in
theorem svI_ok (ao : Option Addr) (n c : Nat) (zs : List (Int × Int)) (m : Int) (w : World) (h : RowS w ao n c zs) :
    Calls Tryd.prog 29 #[.slice ao n c, .int .i64 m] w fun e w' => e = .returned (.bool (seenB zs m)) ∧ Below w.heap.size w w' := by
  have hml := h.cap
  have hml' := h.le
  unfold maxLen at hml
  by_cases h1 : m < 1
  · go_enter Tryd.func29, Tryd.ntmps29
    go_wp2
    go_ret
    exact ⟨retb (by simp [seenB]; omega), (Below.refl _ _).alloc (Nat.le_refl _) _⟩
  by_cases h2 : 5 < m
  · go_enter Tryd.func29, Tryd.ntmps29
    go_wp2
    go_ret
    exact ⟨retb (by simp [seenB]; omega), (Below.refl _ _).alloc (Nat.le_refl _) _⟩
  by_cases h3 : 32 < n
  · go_enter Tryd.func29, Tryd.ntmps29
    go_wp2
    go_ret
    exact ⟨retb (by have := h.len; simp [seenB]; omega), (Below.refl _ _).alloc (Nat.le_refl _) _⟩
  have hm : 1 ≤ m ∧ m ≤ 5 := by omega
  go_enter Tryd.func29, Tryd.ntmps29
  go_wp2_with fail
  have b0 : Below w.heap.size w (w.alloc (.cells #[.int .i64 m] 3)) := (Below.refl _ _).alloc (Nat.le_refl _) _
  have hcell : (w.alloc (.cells #[.int .i64 m] 3)).cell? ⟨w.heap.size, 0, none⟩ = some (.int .i64 m) := by
    have := Blk.new w 3 [.int .i64 m]
    exact this.cell (i := 0) rfl
  refine (ContainsFuncS_ok ao n c zs 107 #[.pointer (some ⟨w.heap.size, 0, none⟩)] (fun p => !okS (2 ^ m.toNat) p) _ (h.below b0 (Nat.le_refl _)) (fun _ _ => by kernel_rfl) ?hf).mono ?_
  case hf =>
    intro k hk W hB
    exact seenClosure_ok _ _ m w.heap.size W hm ((hB.cell (p := ⟨w.heap.size, 0, none⟩) (by simp)).trans hcell) (Nat.lt_of_lt_of_le (by simp) hB.size)
  rintro e w1 ⟨rfl, b1⟩
  have HL := Lib.hid h.len
  have hany : zs.any (fun p => !okS (2 ^ m.toNat) p) = !zs.all (okS (2 ^ m.toNat)) := by rw [List.not_all_eq_any_not]
  rw [hany]
  clear h hcell hany
  generalize hb : zs.all (okS (2 ^ m.toNat)) = b
  have HB := Lib.hid hb
  clear hb
  go_wp2
  go_ret
  exact ⟨retb (by rw [seenB, HB.out, decide_eq_true hm, decide_eq_true (by have := HL.out; omega)]; simp), b0.trans (b1.mono b0.size)⟩


set_option maxHeartbeats 1000000 in
theorem svS_ok (ao : Option Addr) (n c : Nat) (zs : List (Int × Int)) (m : Int) (w : World) (h : RowS w ao n c zs) :
    Calls Tryd.prog 58 #[.slice ao n c, .int .i64 m] w fun e w' => e = .returned (.bool (seenB zs m)) ∧ w = w' := by
  have hml := h.cap
  have hml' := h.le
  unfold maxLen at hml
  by_cases hm : 1 ≤ m ∧ m ≤ 5
  rotate_left
  · have hq := inB_false hm
    go_enter Tryd.func58, Tryd.ntmps58
    go_wp2_with (go_at_call 90; refine (l1In_ok _ _ _ _).mono ?_; rintro e w' ⟨rfl, rfl⟩)
    go_ret
    exact ⟨retb (by rw [seenB, decide_eq_false hm]; rfl), rfl⟩
  have hq := inB_true hm
  by_cases h3 : 32 < n
  · have HL := Lib.hid h.len
    go_enter Tryd.func58, Tryd.ntmps58
    go_wp2_with (go_at_call 90; refine (l1In_ok _ _ _ _).mono ?_; rintro e w' ⟨rfl, rfl⟩)
    go_ret
    exact ⟨retb (by rw [seenB, decide_eq_false (show ¬ zs.length ≤ 32 by have := HL.out; omega)]; simp), rfl⟩
  obtain rfl := h.len
  have HT := Lib.hid (wrap_top hm)
  have HC2 := Lib.hid (show ((2 ^ m.toNat : Nat) : Int) = 2 ^ m.toNat by simp)
  have HPos := Lib.hid (show 0 < (2 ^ m.toNat : Nat) from Nat.two_pow_pos _)
  go_enter Tryd.func58, Tryd.ntmps58
  go_wp2_with (go_at_call 90; refine (l1In_ok _ _ _ _).mono ?_; rintro e w' ⟨rfl, rfl⟩)
  clear hq
  go_loop [5] (fun i => ∃ k : Nat, k ≤ zs.length ∧ i = .int .i64 k ∧ (∀ j, j < k → okS (2 ^ m.toNat) (gS zs j) = true)) (fun i => zs.length - (intOf i).toNat)
  case atStart => exact ⟨0, Nat.zero_le _, rfl, fun j h => absurd h (Nat.not_lt_zero _)⟩
  case round =>
    obtain ⟨k, hk, rfl, hno⟩ := hrel
    have HN := Lib.hid hno
    clear hno
    by_cases hlt : k < zs.length
    · obtain ⟨b, o, rfl, hbo⟩ := h.some (by omega)
      have hx0 : w.cell? ⟨b, o + k * 2, none⟩ = some (.int .i64 (gS zs k).1) := h.before b o rfl k hlt
      have hx1 : w.cell? ⟨b, o + k * 2 + 1, none⟩ = some (.int .i64 (gS zs k).2) := h.after b o rfl k hlt
      clear h
      by_cases h1 : 0 ≤ (gS zs k).1 ∧ (gS zs k).1 ≤ wrap64 (wrap64 (2 ^ m.toNat) - 1)
      · have q1 := inB_true h1
        have H1 := Lib.hid h1
        clear h1
        by_cases h2 : 0 ≤ (gS zs k).2 ∧ (gS zs k).2 ≤ wrap64 (wrap64 (2 ^ m.toNat) - 1)
        · have q2 := inB_true h2
          have H2 := Lib.hid h2
          clear h2
          go_wp2_with (go_at_call 90; refine (l1In_ok _ _ _ _).mono ?_; rintro e w' ⟨rfl, rfl⟩)
          go_round
          case rel => exact ⟨k + 1, by omega, by go_num, fun j hj => by
              by_cases e : j = k
              · subst e
                have a1 := H1.out
                have a2 := H2.out
                rw [HT.out] at a1 a2
                have a3 := HC2.out
                have a4 := HPos.out
                exact okS_iff.2 (by omega)
              · exact HN.out j (by omega)⟩
          case measure => simp [intOf]; omega
        · have q2 := inB_false h2
          have H2 := Lib.hid h2
          clear h2
          go_wp2_with (go_at_call 90; refine (l1In_ok _ _ _ _).mono ?_; rintro e w' ⟨rfl, rfl⟩)
          go_ret
          refine ⟨retb ?_, rfl⟩
          have hno : okS (2 ^ m.toNat) (gS zs k) = false := by
            rw [← Bool.not_eq_true, okS_iff]
            have a2 := H2.out
            rw [HT.out] at a2
            have a3 := HC2.out
            have a4 := HPos.out
            omega
          rw [seenB, allS_not hlt hno]; simp
      · have q1 := inB_false h1
        have H1 := Lib.hid h1
        clear h1
        go_wp2_with (go_at_call 90; refine (l1In_ok _ _ _ _).mono ?_; rintro e w' ⟨rfl, rfl⟩)
        go_ret
        refine ⟨retb ?_, rfl⟩
        have hno : okS (2 ^ m.toNat) (gS zs k) = false := by
          rw [← Bool.not_eq_true, okS_iff]
          have a2 := H1.out
          rw [HT.out] at a2
          have a3 := HC2.out
          have a4 := HPos.out
          omega
        rw [seenB, allS_not hlt hno]; simp
    · have HA := Lib.hid (allS_of (zs := zs) (f := okS (2 ^ m.toNat)) fun i hi => HN.out i (by omega))
      go_wp2
      go_ret
      exact ⟨retb (by rw [seenB, HA.out, decide_eq_true hm, decide_eq_true (by omega)]; rfl), rfl⟩

end Go.Proofs.YtjkgcgbialiipaaDoor
/- Walks: what explains a switch. -/
namespace Go.Proofs.YtjkgcgbialiipaaDoor
open Go.RowKit Go.Maps

/-- The values of the inputs before a step, and that of switch i behind it. -/
def keyN (inp : Nat) (p : Int × Int) : Nat := p.1.toNat &&& inp
def valN (i : Nat) (p : Int × Int) : Nat := p.2.toNat / 2 ^ i % 2

theorem keyN_lt (inp : Nat) (p : Int × Int) (h : inp < 32) : keyN inp p < 32 := Nat.lt_of_le_of_lt Nat.and_le_right h
theorem valN_lt (i : Nat) (p : Int × Int) : valN i p < 2 := Nat.mod_lt _ (by decide)

/-- What values knows after k steps. -/
def keyF (zs : List (Int × Int)) (i inp : Nat) : Nat → Int → Option Int
  | 0 => fun _ => none
  | k + 1 => putF (keyF zs i inp k) (keyN inp (gS zs k)) (valN i (gS zs k))

/-- Steps that are as told: of at most five switches. -/
def Small (zs : List (Int × Int)) : Prop := ∀ k, k < zs.length → 0 ≤ (gS zs k).1 ∧ (gS zs k).1 < 32 ∧ 0 ≤ (gS zs k).2 ∧ (gS zs k).2 < 32

/-- Whether no two of the first m steps contradict each other. -/
def Agree (zs : List (Int × Int)) (i inp m : Nat) : Prop := ∀ k, k < m → ∀ j, j < k → keyN inp (gS zs k) = keyN inp (gS zs j) → valN i (gS zs k) = valN i (gS zs j)

theorem keyF_mem (zs : List (Int × Int)) (i inp : Nat) : ∀ k x v, keyF zs i inp k x = some v → ∃ j, j < k ∧ x = keyN inp (gS zs j) ∧ v = valN i (gS zs j)
  | 0, _, _, h => by cases h
  | k + 1, x, v, h => by
    simp only [keyF, putF] at h
    split at h
    · rename_i hx
      cases h
      exact ⟨k, by omega, hx, rfl⟩
    · obtain ⟨j, hj, h1, h2⟩ := keyF_mem zs i inp k x v h
      exact ⟨j, by omega, h1, h2⟩
theorem keyF_has (zs : List (Int × Int)) (i inp : Nat) : ∀ k, Agree zs i inp k → ∀ j, j < k → keyF zs i inp k (keyN inp (gS zs j)) = some ((valN i (gS zs j) : Nat) : Int)
  | 0, _, j, hj => absurd hj (Nat.not_lt_zero _)
  | k + 1, ha, j, hj => by
    simp only [keyF, putF]
    split
    · rename_i hx
      have hx' : keyN inp (gS zs j) = keyN inp (gS zs k) := by exact_mod_cast hx
      by_cases e : j = k
      · rw [e]
      · rw [ha k (by omega) j (by omega) hx'.symm]
    · rename_i hx
      have e : j ≠ k := by rintro rfl; exact hx rfl
      exact keyF_has zs i inp k (fun a h1 b h2 => ha a (by omega) b h2) j (by omega)
/-- The next step agrees with what is known just if it agrees with all before it. -/
theorem agree_step {zs : List (Int × Int)} {i inp k : Nat} (ha : Agree zs i inp k) (h : ∀ v, keyF zs i inp k (keyN inp (gS zs k)) = some v → v = valN i (gS zs k)) : Agree zs i inp (k + 1) := by
  intro a h1 b h2 he
  by_cases e : a = k
  · subst e
    have h3 := keyF_has zs i inp a ha b h2
    rw [← he] at h3
    have := h _ h3
    omega
  · exact ha a (by omega) b h2 he
theorem agree_not {zs : List (Int × Int)} {i inp k : Nat} {v : Int} (h : keyF zs i inp k (keyN inp (gS zs k)) = some v) (hv : v ≠ valN i (gS zs k)) : ¬ Agree zs i inp (k + 1) := by
  intro ha
  obtain ⟨j, hj, h1, h2⟩ := keyF_mem zs i inp k _ v h
  have := ha k (by omega) j hj (by exact_mod_cast h1)
  exact hv (by rw [h2, this])

theorem agree_le {zs : List (Int × Int)} {i inp m m' : Nat} (h : Agree zs i inp m) (hm : m' ≤ m) : Agree zs i inp m' := fun a h1 b h2 => h a (by omega) b h2

set_option maxHeartbeats 1000000 in
theorem values_ok (ao : Option Addr) (n c : Nat) (zs : List (Int × Int)) (i inp : Nat) (hi : i < 5) (hinp : inp < 32) (hz : Small zs) (w : World) (h : RowS w ao n c zs) :
    Calls Tryd.prog 105 #[.slice ao n c, .int .i64 i, .int .i64 inp] w fun e w' => ((Agree zs i inp n ∧ e = .returned (.tuple #[.map (some w.heap.size), .bool true]) ∧ MapI w' w.heap.size n (keyF zs i inp n)) ∨ (¬ Agree zs i inp n ∧ e = .returned (.tuple #[.map none, .bool false]))) ∧ Below w.heap.size w w' := by
  obtain rfl := h.len
  have hml := h.cap
  have hml' := h.le
  unfold maxLen at hml
  have hmm := @run_makeMap Tryd.prog
  go_enter Tryd.func105, Tryd.ntmps105
  go_wp2
  go_loopw [18] (fun s wr => ∃ k : Nat, k ≤ zs.length ∧ s = .int .i64 k ∧ Agree zs i inp k ∧ MapI wr w.heap.size k (keyF zs i inp k) ∧ Below w.heap.size w wr) (fun i _ => zs.length - (intOf i).toNat)
  case atStart => exact ⟨0, Nat.zero_le _, rfl, fun a h => absurd h (Nat.not_lt_zero _), MapI.made _, (Below.refl _ _).alloc (Nat.le_refl _) _⟩
  case round =>
    obtain ⟨k, hk, rfl, hag, hmap, hb⟩ := hrel
    have HA := Lib.hid hag
    clear hag
    by_cases hlt : k < zs.length
    · obtain ⟨b, o, rfl, hbo⟩ := h.some (by omega)
      have hx0 : wr.cell? ⟨b, o + k * 2, none⟩ = some (.int .i64 (gS zs k).1) := (hb.cell (by exact hbo)).trans (h.before b o rfl k hlt)
      have hx1 : wr.cell? ⟨b, o + k * 2 + 1, none⟩ = some (.int .i64 (gS zs k).2) := (hb.cell (by exact hbo)).trans (h.after b o rfl k hlt)
      obtain ⟨z0, z1, z2, z3⟩ := hz k hlt
      have ek : bits .and .i64 (gS zs k).1 (inp : Int) = (keyN inp (gS zs k) : Nat) := and_int _ _ z0 (by omega) (by omega) (by omega)
      have ev : bits .and .i64 ((gS zs k).2 / 2 ^ i) 1 = (valN i (gS zs k) : Nat) := bit_int _ _ z2 (by omega)
      have hlt' : (k : Int) < (zs.length : Int) := by omega
      have hkl := keyN_lt inp (gS zs k) hinp
      have hvl := valN_lt i (gS zs k)
      have hlk : ∀ (q : Obj) (d : Nat), (Instr.lookup 105 (.map (some w.heap.size)) (.int .i64 (keyN inp (gS zs k) : Nat)) true).run Tryd.prog ((wr.alloc q).drewN d) = .ok (.tuple #[.int .i64 ((keyF zs i inp k (keyN inp (gS zs k) : Nat)).getD 0), .bool (keyF zs i inp k (keyN inp (gS zs k) : Nat)).isSome]) ((wr.alloc q).drewN d) :=
        fun q d => ((hmap.alloc q).drewN d).look_ok _ (by omega)
      clear h hz
      cases hF : keyF zs i inp k (keyN inp (gS zs k) : Nat) with
      | none =>
        have HF := Lib.hid hF
        have hlk' := fun q d => (hF ▸ hlk q d)
        clear hlk hF
        simp only [Option.getD_none, Option.isSome_none] at hlk'
        go_wp2
        go_quiet (fail)
        go_wp2_with (first | (at_mapUpdate; refine wpList_mapI ((hmap.alloc _).drewN _) rfl _ _ _ rfl rfl (by unfold maxLen; omega) _ _ rfl rfl (by omega) (by omega) ?_; intro w1 m1 b1 _))
        go_roundw
        case rel => exact ⟨k + 1, by omega, by go_num, agree_step HA.out (fun v hv => by rw [HF.out] at hv; cases hv), m1, ((_root_.Go.below_drewN (hb.alloc (by have := hb.size; omega) _) _).trans (b1.mono (by simp)))⟩
        case measure => simp [intOf]; omega
      | some v =>
        have HF := Lib.hid hF
        have hlk' := fun q d => (hF ▸ hlk q d)
        clear hlk hF
        simp only [Option.getD_some, Option.isSome_some] at hlk'
        by_cases hv : v = (valN i (gS zs k) : Nat)
        · have hvb : (v != (valN i (gS zs k) : Nat)) = false := by simp [hv]
          have HV := Lib.hid hv
          clear hv
          go_wp2
          go_quiet (fail)
          go_wp2_with (first | (at_mapUpdate; refine wpList_mapI ((hmap.alloc _).drewN _) rfl _ _ _ rfl rfl (by unfold maxLen; omega) _ _ rfl rfl (by omega) (by omega) ?_; intro w1 m1 b1 _))
          go_roundw
          case rel => exact ⟨k + 1, by omega, by go_num, agree_step HA.out (fun u hu => by rw [HF.out] at hu; cases hu; exact HV.out), m1, ((_root_.Go.below_drewN (hb.alloc (by have := hb.size; omega) _) _).trans (b1.mono (by simp)))⟩
          case measure => simp [intOf]; omega
        · have hvb : (v != (valN i (gS zs k) : Nat)) = true := by simp [hv]
          have HN := Lib.hid (fun h => agree_not HF.out hv (agree_le h hlt))
          clear hv
          go_wp2
          go_quiet (fail)
          go_wp2
          go_ret2
          exact ⟨.inr ⟨HN.out, rfl⟩, (_root_.Go.below_drewN (hb.alloc (by have := hb.size; omega) _) _)⟩
    · obtain rfl : k = zs.length := by omega
      go_wp2
      go_ret2
      exact ⟨.inl ⟨HA.out, rfl, hmap⟩, hb⟩

end Go.Proofs.YtjkgcgbialiipaaDoor
/- Walks: the reference's word on what explains a switch. -/
namespace Go.Proofs.YtjkgcgbialiipaaDoor
open Go.RowKit Go.Maps

theorem same {P : Program} {f : FuncId} {args : Array Value} {w : World} {v : Value} (h : Calls P f args w fun e w' => e = .returned v ∧ w = w') : Calls P f args w fun e w' => e = .returned v ∧ w' = w :=
  h.mono fun _ _ ⟨a, b⟩ => ⟨a, b.symm⟩

theorem explS_key {zs : List (Int × Int)} {k j inp : Nat} (h1 : 0 ≤ (gS zs k).1 ∧ (gS zs k).1 < 32) (h2 : 0 ≤ (gS zs j).1 ∧ (gS zs j).1 < 32) (hi : inp < 32) :
    (bits .and .i64 (bits .xor .i64 (gS zs k).1 (gS zs j).1) (inp : Int) == 0) = decide (keyN inp (gS zs k) = keyN inp (gS zs j)) := by
  have hx : (gS zs k).1.toNat ^^^ (gS zs j).1.toNat < 2 ^ 63 := Nat.xor_lt_two_pow (by omega) (by omega)
  rw [xor_int _ _ h1.1 (by omega) h2.1 (by omega), and_nat _ inp hx (by omega), Bool.eq_iff_iff, decide_eq_true_iff, beq_iff_eq, keyN, keyN, ← xor_and]
  omega

set_option maxHeartbeats 1000000 in
theorem l12Explains_ok (ao : Option Addr) (n c : Nat) (zs : List (Int × Int)) (i inp : Nat) (hi : i < 5) (hinp : inp < 32) (hz : Small zs) (w : World) (h : RowS w ao n c zs) :
    Calls Tryd.prog 131 #[.slice ao n c, .int .i64 i, .int .i64 inp] w fun e w' => ((Agree zs i inp n ∧ e = .returned (.bool true)) ∨ (¬ Agree zs i inp n ∧ e = .returned (.bool false))) ∧ Below w.heap.size w w' := by
  obtain rfl := h.len
  have hml := h.cap
  have hml' := h.le
  unfold maxLen at hml
  go_enter Tryd.func131, Tryd.ntmps131
  go_wp2
  go_loopw [7] (fun s wr => ∃ k : Nat, k ≤ zs.length ∧ s = .int .i64 k ∧ Agree zs i inp k ∧ Below w.heap.size w wr) (fun i _ => zs.length - (intOf i).toNat)
  case atStart => exact ⟨0, Nat.zero_le _, rfl, fun a h => absurd h (Nat.not_lt_zero _), Below.refl _ _⟩
  case round =>
    obtain ⟨k, hk, rfl, hag, hb⟩ := hrel
    have HA := Lib.hid hag
    clear hag
    by_cases hlt : k < zs.length
    · obtain ⟨b, o, rfl, hbo⟩ := h.some (by omega)
      have hx0 : w.cell? ⟨b, o + k * 2, none⟩ = some (.int .i64 (gS zs k).1) := h.before b o rfl k hlt
      have hx1 : w.cell? ⟨b, o + k * 2 + 1, none⟩ = some (.int .i64 (gS zs k).2) := h.after b o rfl k hlt
      have HX0 := Lib.hid hx0
      have HX1 := Lib.hid hx1
      obtain ⟨z0, z1, z2, z3⟩ := hz k hlt
      have hlt' : (k : Int) < (zs.length : Int) := by omega
      clear hx0 hx1
      go_wp2
      obtain ⟨wo, hwo⟩ : ∃ wo : World, wo = wr := ⟨_, rfl⟩
      subst hwo
      go_loopw [8] (fun s wr => ∃ j : Nat, j ≤ k ∧ s = .int .i64 j ∧ (∀ a, a < j → keyN inp (gS zs k) = keyN inp (gS zs a) → valN i (gS zs k) = valN i (gS zs a)) ∧ Below w.heap.size w wr) (fun i _ => k - (intOf i).toNat)
      case atStart => exact ⟨0, Nat.zero_le _, rfl, fun a h => absurd h (Nat.not_lt_zero _), hb⟩
      case round =>
        obtain ⟨j, hj, rfl, hag2, hb2⟩ := hrel
        have HG := Lib.hid hag2
        clear hag2
        by_cases hjl : j < k
        · have hx0 : wr.cell? ⟨b, o + k * 2, none⟩ = some (.int .i64 (gS zs k).1) := (hb2.cell (by exact hbo)).trans HX0.out
          have hx1 : wr.cell? ⟨b, o + k * 2 + 1, none⟩ = some (.int .i64 (gS zs k).2) := (hb2.cell (by exact hbo)).trans HX1.out
          have hy0 : wr.cell? ⟨b, o + j * 2, none⟩ = some (.int .i64 (gS zs j).1) := (hb2.cell (by exact hbo)).trans (h.before b o rfl j (by omega))
          have hy1 : wr.cell? ⟨b, o + j * 2 + 1, none⟩ = some (.int .i64 (gS zs j).2) := (hb2.cell (by exact hbo)).trans (h.after b o rfl j (by omega))
          obtain ⟨y0, y1, y2, y3⟩ := hz j (by omega)
          have hjl' : (j : Int) < (k : Int) := by omega
          have hjl2 : (j : Int) < (zs.length : Int) := by omega
          have hK := explS_key (zs := zs) (k := k) (j := j) (inp := inp) ⟨z0, z1⟩ ⟨y0, y1⟩ hinp
          by_cases hkey : keyN inp (gS zs k) = keyN inp (gS zs j)
          · rw [decide_eq_true hkey] at hK
            by_cases hval : valN i (gS zs k) = valN i (gS zs j)
            · have hVb : (((bN (gS zs k).2.toNat i : Nat) : Int) != ((bN (gS zs j).2.toNat i : Nat) : Int)) = false := by
                have : bN (gS zs k).2.toNat i = bN (gS zs j).2.toNat i := hval
                simp [this]
              have HV := Lib.hid hval
              clear hval hkey
              go_wp2
              go_quiet ((go_at_call 122; exact Calls.quiet_of_same (same (l1Bit_ok _ _ _ (by omega) (by omega) (by omega) (by omega)))))
              go_wp2
              go_roundw
              case rel => exact ⟨j + 1, by omega, by go_num, fun a ha he => by
                  by_cases e : a = j
                  · subst e; exact HV.out
                  · exact HG.out a (by omega) he, _root_.Go.below_drewN hb2 _⟩
              case measure => simp [intOf]; omega
            · have hVb : (((bN (gS zs k).2.toNat i : Nat) : Int) != ((bN (gS zs j).2.toNat i : Nat) : Int)) = true := by
                have : bN (gS zs k).2.toNat i ≠ bN (gS zs j).2.toNat i := hval
                simp; omega
              have HV := Lib.hid (show ¬ Agree zs i inp zs.length from fun h => hval (h k hlt j hjl hkey))
              clear hval hkey
              go_wp2
              go_quiet ((go_at_call 122; exact Calls.quiet_of_same (same (l1Bit_ok _ _ _ (by omega) (by omega) (by omega) (by omega)))))
              go_wp2
              go_ret
              exact ⟨.inr ⟨HV.out, rfl⟩, _root_.Go.below_drewN hb2 _⟩
          · rw [decide_eq_false hkey] at hK
            have HV := Lib.hid hkey
            clear hkey
            go_wp2
            go_quiet (fail)
            go_wp2
            go_roundw
            case rel => exact ⟨j + 1, by omega, by go_num, fun a ha he => by
                by_cases e : a = j
                · subst e; exact absurd he HV.out
                · exact HG.out a (by omega) he, _root_.Go.below_drewN hb2 _⟩
            case measure => simp [intOf]; omega
        · obtain rfl : j = k := by omega
          go_wp2
          go_roundw
          case rel => exact ⟨j + 1, by omega, by go_num, fun a ha b hb he => by
              by_cases e : a = j
              · subst e; exact HG.out b hb he
              · exact HA.out a (by omega) b hb he, hb2⟩
          case measure => simp [intOf]; omega
    · obtain rfl : k = zs.length := by omega
      go_wp2
      go_ret
      exact ⟨.inl ⟨HA.out, rfl⟩, hb⟩

end Go.Proofs.YtjkgcgbialiipaaDoor
/- Walks: Explains, IsPossible. -/
namespace Go.Proofs.YtjkgcgbialiipaaDoor
open Go.RowKit Go.Maps

theorem seen_parts {zs : List (Int × Int)} {m : Int} (h : seenB zs m = true) : (1 ≤ m ∧ m ≤ 5) ∧ zs.length ≤ 32 ∧ Small zs ∧ ∀ k, k < zs.length → (gS zs k).1 < 2 ^ m.toNat ∧ (gS zs k).2 < 2 ^ m.toNat := by
  simp only [seenB, Bool.and_eq_true, decide_eq_true_iff] at h
  obtain ⟨⟨hm, hl⟩, ha⟩ := h
  have hp : (2 ^ m.toNat : Nat) ≤ 32 := Nat.pow_le_pow_right (n := 2) (by decide) (show m.toNat ≤ 5 by omega)
  have hc : ((2 ^ m.toNat : Nat) : Int) = 2 ^ m.toNat := by simp
  have key : ∀ k, k < zs.length → okS (2 ^ m.toNat) (gS zs k) = true := fun k hk => by
    rw [show gS zs k = zs[k] by simp [gS, List.getD, hk]]
    exact List.all_eq_true.1 ha _ (List.getElem_mem _)
  refine ⟨hm, hl, fun k hk => ?_, fun k hk => ?_⟩
  · obtain ⟨a, b, c, d⟩ := okS_iff.1 (key k hk)
    exact ⟨a, by omega, c, by omega⟩
  · obtain ⟨a, b, c, d⟩ := okS_iff.1 (key k hk)
    exact ⟨b, d⟩

open Classical in
noncomputable def agreeB (zs : List (Int × Int)) (i inp n : Nat) : Bool := decide (Agree zs i inp n)
theorem agreeB_true {zs : List (Int × Int)} {i inp n : Nat} (h : Agree zs i inp n) : agreeB zs i inp n = true := by simp [agreeB, h]
theorem agreeB_false {zs : List (Int × Int)} {i inp n : Nat} (h : ¬ Agree zs i inp n) : agreeB zs i inp n = false := by simp [agreeB, h]
theorem agreeB_iff {zs : List (Int × Int)} {i inp n : Nat} : agreeB zs i inp n = true ↔ Agree zs i inp n := by simp [agreeB]

/-- Whether a set of inputs explains a switch. -/
noncomputable def explV (zs : List (Int × Int)) (m i inp : Int) : Bool :=
  seenB zs m && inB i 0 (m - 1) && inB inp 0 (2 ^ m.toNat - 1) && agreeB zs i.toNat inp.toNat zs.length

def swB (zs : List (Int × Int)) (m i : Int) : Bool := seenB zs m && inB i 0 (m - 1)

set_option maxHeartbeats 400000 in
theorem l12Switch_ok (ao : Option Addr) (n c : Nat) (zs : List (Int × Int)) (m i : Int) (w : World) (h : RowS w ao n c zs) :
    Calls Tryd.prog 202 #[.slice ao n c, .int .i64 m, .int .i64 i] w fun e w' => e = .returned (.bool (swB zs m i)) ∧ w = w' := by
  cases hs : seenB zs m with
  | false =>
    have H := Lib.hid hs
    go_enter Tryd.func202, Tryd.ntmps202
    go_wp2_with (go_at_call 58; refine (svS_ok _ _ _ zs _ _ h).mono ?_; rintro e w' ⟨rfl, rfl⟩)
    go_ret
    exact ⟨retb (by simp [swB, H.out]), rfl⟩
  | true =>
    have H := Lib.hid hs
    obtain ⟨hm, -⟩ := seen_parts hs
    go_enter Tryd.func202, Tryd.ntmps202
    go_wp2_with (first | (go_at_call 58; refine (svS_ok _ _ _ zs _ _ h).mono ?_; rintro e w' ⟨rfl, rfl⟩) | (go_at_call 90; refine (l1In_ok _ _ _ _).mono ?_; rintro e w' ⟨rfl, rfl⟩))
    go_ret
    exact ⟨retb (by simp [swB, H.out]), rfl⟩

set_option maxHeartbeats 1000000 in
theorem exI_ok (ao : Option Addr) (n c : Nat) (zs : List (Int × Int)) (m i inp : Int) (w : World) (h : RowS w ao n c zs) :
    Calls Tryd.prog 27 #[.slice ao n c, .int .i64 m, .int .i64 i, .int .i64 inp] w fun e w' => e = .returned (.bool (explV zs m i inp)) ∧ Below w.heap.size w w' := by
  have HV := Lib.hid (svI_ok ao n c zs m w h)
  cases hs : seenB zs m with
  | false =>
    have H := Lib.hid hs
    go_enter Tryd.func27, Tryd.ntmps27
    go_wp2_with fail
    refine HV.out.mono ?_
    rintro e w1 ⟨rfl, b1⟩
    go_wp2
    go_ret
    exact ⟨retb (by rw [explV, H.out]; rfl), b1⟩
  | true =>
    have H := Lib.hid hs
    obtain ⟨hm, hl, hz, hlt⟩ := seen_parts hs
    by_cases i0 : i < 0
    · have HI := Lib.hid (inB_false (show ¬ (0 ≤ i ∧ i ≤ m - 1) by omega))
      go_enter Tryd.func27, Tryd.ntmps27
      go_wp2_with fail
      refine HV.out.mono ?_
      rintro e w1 ⟨rfl, b1⟩
      go_wp2
      go_ret
      exact ⟨retb (by rw [explV, HI.out]; simp), b1⟩
    by_cases i1 : m ≤ i
    · have HI := Lib.hid (inB_false (show ¬ (0 ≤ i ∧ i ≤ m - 1) by omega))
      go_enter Tryd.func27, Tryd.ntmps27
      go_wp2_with fail
      refine HV.out.mono ?_
      rintro e w1 ⟨rfl, b1⟩
      go_wp2
      go_ret
      exact ⟨retb (by rw [explV, HI.out]; simp), b1⟩
    have HI := Lib.hid (inB_true (show 0 ≤ i ∧ i ≤ m - 1 by omega))
    have HP := Lib.hid (wrap_pow hm)
    have hp : (2 ^ m.toNat : Nat) ≤ 32 := Nat.pow_le_pow_right (n := 2) (by decide) (show m.toNat ≤ 5 by omega)
    have HC := Lib.hid (show ((2 ^ m.toNat : Nat) : Int) = 2 ^ m.toNat by simp)
    by_cases q0 : inp < 0
    · have HB := Lib.hid (inB_false (show ¬ (0 ≤ inp ∧ inp ≤ 2 ^ m.toNat - 1) by omega))
      go_enter Tryd.func27, Tryd.ntmps27
      go_wp2_with fail
      refine HV.out.mono ?_
      rintro e w1 ⟨rfl, b1⟩
      go_wp2
      go_ret
      exact ⟨retb (by rw [explV, HB.out]; simp), b1⟩
    by_cases q1 : wrap64 (2 ^ m.toNat) ≤ inp
    · have HB := Lib.hid (inB_false (show ¬ (0 ≤ inp ∧ inp ≤ 2 ^ m.toNat - 1) by rw [HP.out, HC.out] at q1; omega))
      go_enter Tryd.func27, Tryd.ntmps27
      go_wp2_with fail
      refine HV.out.mono ?_
      rintro e w1 ⟨rfl, b1⟩
      go_wp2
      go_ret
      exact ⟨retb (by rw [explV, HB.out]; simp), b1⟩
    have hin : inp < 2 ^ m.toNat := by rw [HP.out, HC.out] at q1; omega
    have hin32 : inp < 32 := by have := HC.out; omega
    have HB := Lib.hid (inB_true (show 0 ≤ inp ∧ inp ≤ 2 ^ m.toNat - 1 by omega))
    clear hin
    obtain ⟨q, rfl⟩ := Int.eq_ofNat_of_zero_le (show 0 ≤ inp by omega)
    obtain ⟨j, rfl⟩ := Int.eq_ofNat_of_zero_le (show 0 ≤ i by omega)
    have HX := Lib.hid (fun W hW => values_ok ao n c zs j q (by omega) (by omega) hz W hW)
    have HLen := Lib.hid h.len
    clear hz hlt
    go_enter Tryd.func27, Tryd.ntmps27
    go_wp2_with fail
    refine HV.out.mono ?_
    rintro e w1 ⟨rfl, b1⟩
    go_wp2_with fail
    refine (HX.out _ (h.below b1 (Nat.le_refl _))).mono ?_
    rintro e w2 ⟨⟨ha, rfl, -⟩ | ⟨ha, rfl⟩, b2⟩
    all_goals
      have HG := Lib.hid ha
      clear ha
      go_wp2
      go_ret
    · exact ⟨retb (by rw [explV, H.out, HI.out, HB.out, Int.toNat_natCast, Int.toNat_natCast, HLen.out, agreeB_true HG.out]; rfl), b1.trans (b2.mono b1.size)⟩
    · exact ⟨retb (by rw [explV, Int.toNat_natCast, Int.toNat_natCast, HLen.out, agreeB_false HG.out]; simp), b1.trans (b2.mono b1.size)⟩

end Go.Proofs.YtjkgcgbialiipaaDoor
/- Walks: IsPossible; the laws on Explains and IsPossible. -/
namespace Go.Proofs.YtjkgcgbialiipaaDoor
open Go.RowKit Go.Maps

noncomputable def possV (zs : List (Int × Int)) (m : Int) : Bool := seenB zs m && (List.range m.toNat).all fun i => agreeB zs i (2 ^ m.toNat - 1) zs.length

theorem poss_yes {zs : List (Int × Int)} {m : Nat} (hs : seenB zs m = true) (h : ∀ i, i < m → Agree zs i (2 ^ m - 1) zs.length) : possV zs m = true := by
  rw [possV, hs, Bool.true_and, List.all_eq_true]
  intro i hi
  rw [Int.toNat_natCast] at hi ⊢
  exact agreeB_true (h i (List.mem_range.1 hi))
theorem poss_no {zs : List (Int × Int)} {m k : Nat} (hk : k < m) (h : ¬ Agree zs k (2 ^ m - 1) zs.length) : possV zs m = false := by
  rw [possV, Bool.and_eq_false_iff]
  right
  rw [List.all_eq_false, Int.toNat_natCast]
  exact ⟨k, List.mem_range.2 hk, by rw [agreeB_false h]; simp⟩

set_option maxHeartbeats 1000000 in
theorem posS_ok (ao : Option Addr) (n c : Nat) (zs : List (Int × Int)) (m : Int) (w : World) (h : RowS w ao n c zs) :
    Calls Tryd.prog 57 #[.slice ao n c, .int .i64 m] w fun e w' => e = .returned (.bool (possV zs m)) ∧ Below w.heap.size w w' := by
  cases hs : seenB zs m with
  | false =>
    have H := Lib.hid hs
    by_cases h0 : 0 < m
    · go_enter Tryd.func57, Tryd.ntmps57
      go_wp2
      refine wp_loop_rounds 1 ?_
      rw [rounds_succ]
      go_wp2_with (go_at_call 58; refine (svS_ok _ _ _ zs _ _ h).mono ?_; rintro e w' ⟨rfl, rfl⟩)
      go_ret
      exact ⟨retb (by rw [possV, H.out]; rfl), Below.refl _ _⟩
    · go_enter Tryd.func57, Tryd.ntmps57
      go_wp2
      refine wp_loop_rounds 1 ?_
      rw [rounds_succ]
      go_wp2_with (go_at_call 58; refine (svS_ok _ _ _ zs _ _ h).mono ?_; rintro e w' ⟨rfl, rfl⟩)
      go_ret
      exact ⟨retb (by rw [possV, H.out]; rfl), Below.refl _ _⟩
  | true =>
    have H := Lib.hid hs
    obtain ⟨hm, hl, hz, hlt⟩ := seen_parts hs
    have HT := Lib.hid (wrap_top hm)
    obtain ⟨p, rfl⟩ := Int.eq_ofNat_of_zero_le (show 0 ≤ m by omega)
    have hp : (2 ^ p : Nat) ≤ 32 := Nat.pow_le_pow_right (n := 2) (by decide) (show p ≤ 5 by omega)
    have HTop : Hid (wrap64 (wrap64 (2 ^ p) - 1) = ((2 ^ p - 1 : Nat) : Int)) := HT.out
    have HLen := Lib.hid h.len
    go_enter Tryd.func57, Tryd.ntmps57
    go_wp2
    go_loopw [5] (fun s wr => ∃ k : Nat, k ≤ p ∧ s = .int .i64 k ∧ (∀ i, i < k → Agree zs i (2 ^ p - 1) zs.length) ∧ Below w.heap.size w wr) (fun i _ => p - (intOf i).toNat)
    case atStart => exact ⟨0, Nat.zero_le _, rfl, fun i hi => absurd hi (Nat.not_lt_zero _), Below.refl _ _⟩
    case round =>
      obtain ⟨k, hk, rfl, hag, hb⟩ := hrel
      have HG := Lib.hid hag
      clear hag
      have hr := h.below hb (Nat.le_refl _)
      by_cases hkp : k < p
      · have hkp' : (k : Int) < (p : Int) := by omega
        have HX := Lib.hid (l12Explains_ok ao n c zs k (2 ^ p - 1) (by omega) (by omega) hz wr hr)
        clear hz hlt
        go_wp2_with (go_at_call 58; refine (svS_ok _ _ _ zs _ _ hr).mono ?_; rintro e w' ⟨rfl, rfl⟩)
        rw [HTop.out]
        refine HX.out.mono ?_
        rintro e w1 ⟨⟨ha, rfl⟩ | ⟨ha, rfl⟩, b1⟩
        all_goals
          rw [← HLen.out] at ha
          have HA := Lib.hid ha
          clear ha
          go_wp2
        · go_roundw
          case rel => exact ⟨k + 1, by omega, by go_num, fun i hi => by
              by_cases e : i = k
              · subst e; exact HA.out
              · exact HG.out i (by omega), hb.trans (b1.mono hb.size)⟩
          case measure => simp [intOf]; omega
        · go_ret
          exact ⟨retb (by rw [poss_no hkp HA.out]), hb.trans (b1.mono hb.size)⟩
      · have HY := Lib.hid (poss_yes H.out (fun i hi => HG.out i (by omega)))
        go_wp2_with (go_at_call 58; refine (svS_ok _ _ _ zs _ _ hr).mono ?_; rintro e w' ⟨rfl, rfl⟩)
        go_ret
        exact ⟨retb (by rw [HY.out]), hb⟩

set_option maxHeartbeats 1000000 in
theorem posI_ok (ao : Option Addr) (n c : Nat) (zs : List (Int × Int)) (m : Int) (w : World) (h : RowS w ao n c zs) :
    Calls Tryd.prog 28 #[.slice ao n c, .int .i64 m] w fun e w' => e = .returned (.bool (possV zs m)) ∧ Below w.heap.size w w' := by
  have HV := Lib.hid (svI_ok ao n c zs m w h)
  cases hs : seenB zs m with
  | false =>
    have H := Lib.hid hs
    go_enter Tryd.func28, Tryd.ntmps28
    go_wp2_with fail
    refine HV.out.mono ?_
    rintro e w1 ⟨rfl, b1⟩
    go_wp2
    go_ret
    exact ⟨retb (by rw [possV, H.out]; rfl), b1⟩
  | true =>
    have H := Lib.hid hs
    obtain ⟨hm, hl, hz, hlt⟩ := seen_parts hs
    have HT := Lib.hid (wrap_top hm)
    obtain ⟨p, rfl⟩ := Int.eq_ofNat_of_zero_le (show 0 ≤ m by omega)
    have hp : (2 ^ p : Nat) ≤ 32 := Nat.pow_le_pow_right (n := 2) (by decide) (show p ≤ 5 by omega)
    have HTop : Hid (wrap64 (wrap64 (2 ^ p) - 1) = ((2 ^ p - 1 : Nat) : Int)) := HT.out
    have HLen := Lib.hid h.len
    go_enter Tryd.func28, Tryd.ntmps28
    go_wp2_with fail
    refine HV.out.mono ?_
    rintro e w0 ⟨rfl, b0⟩
    go_wp2_with fail
    go_loopw [13] (fun s wr => ∃ k : Nat, k ≤ p ∧ s = .int .i64 k ∧ (∀ i, i < k → Agree zs i (2 ^ p - 1) zs.length) ∧ Below w.heap.size w wr) (fun i _ => p - (intOf i).toNat)
    case atStart => exact ⟨0, Nat.zero_le _, rfl, fun i hi => absurd hi (Nat.not_lt_zero _), b0⟩
    case round =>
      obtain ⟨k, hk, rfl, hag, hb⟩ := hrel
      have HG := Lib.hid hag
      clear hag
      have hr := h.below hb (Nat.le_refl _)
      by_cases hkp : k < p
      · have hkp' : (k : Int) < (p : Int) := by omega
        have HX := Lib.hid (values_ok ao n c zs k (2 ^ p - 1) (by omega) (by omega) hz wr hr)
        clear hz hlt
        go_wp2_with fail
        rw [HTop.out]
        refine HX.out.mono ?_
        rintro e w1 ⟨⟨ha, rfl, -⟩ | ⟨ha, rfl⟩, b1⟩
        all_goals
          rw [← HLen.out] at ha
          have HA := Lib.hid ha
          clear ha
          go_wp2
        · go_roundw
          case rel => exact ⟨k + 1, by omega, by go_num, fun i hi => by
              by_cases e : i = k
              · subst e; exact HA.out
              · exact HG.out i (by omega), hb.trans (b1.mono hb.size)⟩
          case measure => simp [intOf]; omega
        · go_ret
          exact ⟨retb (by rw [poss_no hkp HA.out]), hb.trans (b1.mono hb.size)⟩
      · have HY := Lib.hid (poss_yes H.out (fun i hi => HG.out i (by omega)))
        go_wp2
        go_ret
        exact ⟨retb (by rw [HY.out]), hb⟩

end Go.Proofs.YtjkgcgbialiipaaDoor
/- Walks: the size of a set. -/
/- Walks: the fewest inputs that explain a switch. -/
namespace Go.Proofs.YtjkgcgbialiipaaDoor
open Go.RowKit Go.Maps

/-- Which sets explain a switch. -/
def Exp (zs : List (Int × Int)) (i : Nat) (s : Nat) : Prop := Agree zs i s zs.length

noncomputable def leastI (zs : List (Int × Int)) (m i : Int) : Int := if swB zs m i = true then least (Exp zs i.toNat) (2 ^ m.toNat) else -2

theorem takeB {s q : Nat} (h : popN q ≤ popN s) (t : Nat) (ht : (s : Int) = t) : popN q ≤ popN t := by
  have e : s = t := by omega
  rw [← e]; exact h

set_option maxHeartbeats 2000000 in
theorem l12Least_ok (ao : Option Addr) (n c : Nat) (zs : List (Int × Int)) (p i : Nat) (hp : 1 ≤ p ∧ p ≤ 5) (hi : i < 5) (hz : Small zs) (w : World) (h : RowS w ao n c zs) :
    Calls Tryd.prog 203 #[.slice ao n c, .int .i64 p, .int .i64 i] w fun e w' => e = .returned (.int .i64 (least (Exp zs i) (2 ^ p))) ∧ Below w.heap.size w w' := by
  have HTop : Hid (wrap64 (wrap64 (2 ^ p) - 1) = ((2 ^ p - 1 : Nat) : Int)) := wrap_top (m := (p : Int)) (by omega)
  have hp32 : (2 ^ p : Nat) ≤ 32 := Nat.pow_le_pow_right (n := 2) (by decide) (show p ≤ 5 by omega)
  have hp0 : 0 < (2 ^ p : Nat) := Nat.two_pow_pos _
  have HLen := Lib.hid h.len
  generalize hN : (2 ^ p : Nat) = N at hp32 hp0
  have HN := Lib.hid hN
  clear hN
  go_enter Tryd.func203, Tryd.ntmps203
  go_wp2
  go_loopw [7, 8] (fun b s wr => ∃ (k : Nat) (r : Int), k ≤ N ∧ s = .int .i64 ((k : Int) - 1) ∧ b = .int .i64 r ∧ Best (Exp zs i) k N r ∧ Below w.heap.size w wr) (fun _ s _ => (intOf s + 1).toNat)
  case atStart => exact ⟨N, -1, Nat.le_refl _, by rw [HTop.out, HN.out]; go_num, rfl, Best.start _ _, Below.refl _ _⟩
  case round =>
    obtain ⟨k, r, hk, rfl, rfl, hbest, hb⟩ := hrel
    have HB := Lib.hid hbest
    have hrr := hbest.range
    clear hbest
    by_cases hk0 : 0 < k
    · obtain ⟨q, rfl⟩ : ∃ q, k = q + 1 := ⟨k - 1, by omega⟩
      have hq : ((q + 1 : Nat) : Int) - 1 = (q : Int) := by omega
      have hr := h.below hb (Nat.le_refl _)
      have HX := Lib.hid (l12Explains_ok ao n c zs i q hi (by omega) hz wr hr)
      rw [hq]
      have hq0 : 0 ≤ (q : Int) := by omega
      clear hq hr hz h
      go_wp2_with fail
      refine HX.out.mono ?_
      rintro e w1 ⟨⟨ha, rfl⟩ | ⟨ha, rfl⟩, b1⟩
      · rw [← HLen.out] at ha
        have HA : Hid (Exp zs i q) := ha
        clear ha
        by_cases hr0 : r < 0
        · have hd : decide (r < 0) = true := decide_eq_true hr0
          go_wp2
          go_roundw
          case rel => exact ⟨q, q, by omega, by go_num, rfl, Best.takeDown HB.out (by omega) HA.out (fun s hs => by omega), hb.trans (b1.mono hb.size)⟩
          case measure => simp [intOf] <;> omega
        · obtain ⟨s, rfl⟩ := Int.eq_ofNat_of_zero_le (show 0 ≤ r by omega)
          have hd : decide ((s : Int) < 0) = false := decide_eq_false hr0
          by_cases hpop : popN q ≤ popN s
          · have hpd : ((popN q : Nat) : Int) ≤ ((popN s : Nat) : Int) := by omega
            go_wp2_with (go_at_call 148; refine (l7Size_ok _ _ (by omega) (by omega)).mono ?_; rintro e w' ⟨rfl, rfl⟩)
            go_roundw
            case rel => exact ⟨q, q, by omega, by go_num, rfl, Best.takeDown HB.out (by omega) HA.out (takeB hpop), hb.trans (b1.mono hb.size)⟩
            case measure => simp [intOf] <;> omega
          · have hpd : ¬ ((popN q : Nat) : Int) ≤ ((popN s : Nat) : Int) := by omega
            go_wp2_with (go_at_call 148; refine (l7Size_ok _ _ (by omega) (by omega)).mono ?_; rintro e w' ⟨rfl, rfl⟩)
            go_roundw
            case rel => exact ⟨q, s, by omega, by go_num, rfl, Best.skipDown HB.out (.inr ⟨s, rfl, by omega⟩), hb.trans (b1.mono hb.size)⟩
            case measure => simp [intOf] <;> omega
      · rw [← HLen.out] at ha
        have HA : Hid (¬ Exp zs i q) := ha
        clear ha
        go_wp2
        go_roundw
        case rel => exact ⟨q, r, by omega, by go_num, rfl, Best.skipDown HB.out (.inl HA.out), hb.trans (b1.mono hb.size)⟩
        case measure => simp [intOf] <;> omega
    · obtain rfl : k = 0 := by omega
      go_wp2
      go_ret
      exact ⟨reti HB.out.eq_least, hb⟩

end Go.Proofs.YtjkgcgbialiipaaDoor
/- Walks: LeastInputs; the law on it. -/
namespace Go.Proofs.YtjkgcgbialiipaaDoor
open Go.RowKit Go.Maps

theorem leastI_no {zs : List (Int × Int)} {m i : Int} (h : swB zs m i = false) : leastI zs m i = -2 := by simp [leastI, h]
theorem leastI_yes {zs : List (Int × Int)} {m i : Int} (h : swB zs m i = true) : leastI zs m i = least (Exp zs i.toNat) (2 ^ m.toNat) := by simp [leastI, h]

set_option maxHeartbeats 1000000 in
theorem leS_ok (ao : Option Addr) (n c : Nat) (zs : List (Int × Int)) (m i : Int) (w : World) (h : RowS w ao n c zs) :
    Calls Tryd.prog 178 #[.slice ao n c, .int .i64 m, .int .i64 i] w fun e w' => e = .returned (.int .i64 (leastI zs m i)) ∧ Below w.heap.size w w' := by
  cases hs : swB zs m i with
  | false =>
    have H := Lib.hid hs
    go_enter Tryd.func178, Tryd.ntmps178
    go_wp2_with (go_at_call 202; refine (l12Switch_ok _ _ _ zs _ _ _ h).mono ?_; rintro e w' ⟨rfl, rfl⟩)
    go_ret
    exact ⟨reti (leastI_no H.out).symm, Below.refl _ _⟩
  | true =>
    have H := Lib.hid hs
    have hs' := hs
    simp only [swB, Bool.and_eq_true] at hs'
    obtain ⟨hm, hl, hz, hlt⟩ := seen_parts hs'.1
    have hi := inB_iff.1 hs'.2
    clear hs'
    obtain ⟨p, rfl⟩ := Int.eq_ofNat_of_zero_le (show 0 ≤ m by omega)
    obtain ⟨j, rfl⟩ := Int.eq_ofNat_of_zero_le hi.1
    have HX := Lib.hid (l12Least_ok ao n c zs p j (by omega) (by omega) hz w h)
    clear hz hlt
    go_enter Tryd.func178, Tryd.ntmps178
    go_wp2_with (first | (go_at_call 202; refine (l12Switch_ok _ _ _ zs _ _ _ h).mono ?_; rintro e w' ⟨rfl, rfl⟩))
    refine HX.out.mono ?_
    rintro e w1 ⟨rfl, b1⟩
    go_wp2
    go_ret
    exact ⟨reti (leastI_yes H.out).symm, b1⟩

theorem swB_seen {zs : List (Int × Int)} {m i : Int} (h : seenB zs m = false) : swB zs m i = false := by simp [swB, h]
theorem swB_in {zs : List (Int × Int)} {m i : Int} (h : ¬ (0 ≤ i ∧ i ≤ m - 1)) : swB zs m i = false := by simp [swB, inB_false h]
theorem swB_yes {zs : List (Int × Int)} {m i : Int} (h : seenB zs m = true) (h1 : 0 ≤ i ∧ i ≤ m - 1) : swB zs m i = true := by simp [swB, h, inB_true h1]

theorem takeC {s k : Nat} (h : ¬ popN s ≤ popN k) (t : Nat) (ht : (s : Int) = t) : popN k < popN t := by
  have e : s = t := by omega
  rw [← e]; omega

set_option maxHeartbeats 4000000 in
theorem leI_ok (ao : Option Addr) (n c : Nat) (zs : List (Int × Int)) (m i : Int) (w : World) (h : RowS w ao n c zs) :
    Calls Tryd.prog 31 #[.slice ao n c, .int .i64 m, .int .i64 i] w fun e w' => e = .returned (.int .i64 (leastI zs m i)) ∧ Below w.heap.size w w' := by
  have HV := Lib.hid (svI_ok ao n c zs m w h)
  cases hs : seenB zs m with
  | false =>
    have H := Lib.hid hs
    go_enter Tryd.func31, Tryd.ntmps31
    go_wp2_with fail
    refine HV.out.mono ?_
    rintro e w1 ⟨rfl, b1⟩
    go_wp2
    go_ret
    exact ⟨reti (leastI_no (swB_seen H.out)).symm, b1⟩
  | true =>
    have H := Lib.hid hs
    obtain ⟨hm, hl, hz, hlt⟩ := seen_parts hs
    by_cases i0 : i < 0
    · have HI := Lib.hid (swB_in (zs := zs) (show ¬ (0 ≤ i ∧ i ≤ m - 1) by omega))
      go_enter Tryd.func31, Tryd.ntmps31
      go_wp2_with fail
      refine HV.out.mono ?_
      rintro e w1 ⟨rfl, b1⟩
      go_wp2
      go_ret
      exact ⟨reti (leastI_no HI.out).symm, b1⟩
    by_cases i1 : m ≤ i
    · have HI := Lib.hid (swB_in (zs := zs) (show ¬ (0 ≤ i ∧ i ≤ m - 1) by omega))
      go_enter Tryd.func31, Tryd.ntmps31
      go_wp2_with fail
      refine HV.out.mono ?_
      rintro e w1 ⟨rfl, b1⟩
      go_wp2
      go_ret
      exact ⟨reti (leastI_no HI.out).symm, b1⟩
    have HI := Lib.hid (swB_yes hs (show 0 ≤ i ∧ i ≤ m - 1 by omega))
    obtain ⟨p, rfl⟩ := Int.eq_ofNat_of_zero_le (show 0 ≤ m by omega)
    obtain ⟨j, rfl⟩ := Int.eq_ofNat_of_zero_le (show 0 ≤ i by omega)
    have hpj : ¬ p ≤ j := by omega
    have hpj2 : decide (p ≤ j) = false := decide_eq_false hpj
    have HP : Hid (wrap64 (2 ^ p) = ((2 ^ p : Nat) : Int)) := wrap_pow_nat p (by omega)
    have hp32 : (2 ^ p : Nat) ≤ 32 := Nat.pow_le_pow_right (n := 2) (by decide) (show p ≤ 5 by omega)
    have HLen := Lib.hid h.len
    have HR : Hid (leastI zs (p : Int) (j : Int) = least (Exp zs j) (2 ^ p)) := (leastI_yes HI.out)
    clear HI hlt
    generalize hN : (2 ^ p : Nat) = N at hp32 HP HR
    clear hN
    go_enter Tryd.func31, Tryd.ntmps31
    go_wp2_with fail
    refine HV.out.mono ?_
    rintro e w0 ⟨rfl, b0⟩
    go_wp2_with fail
    rw [HP.out]
    go_loopw [7, 26] (fun b s wr => ∃ (k : Nat) (r : Int), k ≤ N ∧ s = .int .i64 k ∧ b = .int .i64 r ∧ Best (Exp zs j) 0 k r ∧ Below w.heap.size w wr) (fun _ s _ => N - (intOf s).toNat)
    case atStart => exact ⟨0, -1, Nat.zero_le _, rfl, rfl, Best.start _ _, b0⟩
    case round =>
      obtain ⟨k, r, hk, rfl, rfl, hbest, hb⟩ := hrel
      have HB := Lib.hid hbest
      have hrr := hbest.range
      clear hbest
      by_cases hk0 : k < N
      · have hkN : (k : Int) < (N : Int) := by omega
        have hr := h.below hb (Nat.le_refl _)
        have HX := Lib.hid (values_ok ao n c zs j k (by omega) (by omega) hz wr hr)
        clear hr hz h
        by_cases hr0 : r < 0
        · go_wp2_with fail
          refine HX.out.mono ?_
          rintro e w1 ⟨⟨ha, rfl, -⟩ | ⟨ha, rfl⟩, b1⟩
          all_goals
            rw [← HLen.out] at ha
            have HA := Lib.hid ha
            clear ha
            go_wp2
            go_roundw
          case rel => exact ⟨k + 1, k, by omega, by go_num, rfl, Best.take HB.out (by omega) HA.out (fun s hs => by omega), hb.trans (b1.mono hb.size)⟩
          case measure => simp [intOf] <;> omega
          case rel => exact ⟨k + 1, r, by omega, by go_num, rfl, Best.skip HB.out (.inl HA.out), hb.trans (b1.mono hb.size)⟩
          case measure => simp [intOf] <;> omega
        · obtain ⟨s, rfl⟩ := Int.eq_ofNat_of_zero_le (show 0 ≤ r by omega)
          have hs0 : 0 ≤ (s : Int) := by omega
          by_cases hpop : popN s ≤ popN k
          · have hpd : ((popN s : Nat) : Int) ≤ ((popN k : Nat) : Int) := by omega
            go_wp2_with (go_at_call 109; refine (OnesCount_ok _ _ (by omega)).mono ?_; rintro e w' ⟨rfl, rfl⟩)
            go_roundw
            case rel => exact ⟨k + 1, s, by omega, by go_num, rfl, Best.skip HB.out (.inr ⟨s, rfl, hpop⟩), hb⟩
            case measure => simp [intOf] <;> omega
          · have hpd : ¬ ((popN s : Nat) : Int) ≤ ((popN k : Nat) : Int) := by omega
            have HPop := Lib.hid hpop
            clear hpop
            go_wp2_with (first | (go_at_call 109; refine (OnesCount_ok _ _ (by omega)).mono ?_; rintro e w' ⟨rfl, rfl⟩))
            refine HX.out.mono ?_
            rintro e w1 ⟨⟨ha, rfl, -⟩ | ⟨ha, rfl⟩, b1⟩
            all_goals
              rw [← HLen.out] at ha
              have HA := Lib.hid ha
              clear ha
              go_wp2
              go_roundw
            case rel => exact ⟨k + 1, k, by omega, by go_num, rfl, Best.take HB.out (by omega) HA.out (takeC HPop.out), hb.trans (b1.mono hb.size)⟩
            case measure => simp [intOf] <;> omega
            case rel => exact ⟨k + 1, s, by omega, by go_num, rfl, Best.skip HB.out (.inl HA.out), hb.trans (b1.mono hb.size)⟩
            case measure => simp [intOf] <;> omega
      · obtain rfl : k = N := by omega
        go_wp2
        go_ret
        exact ⟨reti (HB.out.eq_least.trans HR.out.symm), hb⟩

end Go.Proofs.YtjkgcgbialiipaaDoor
/- Walks: UnseenOf. -/
namespace Go.Proofs.YtjkgcgbialiipaaDoor
open Go.RowKit

/-- Whether a step from a state was seen. -/
def hasB (zs : List (Int × Int)) (s : Int) : Bool := zs.any fun p => p.1 == s
theorem hasB_yes {zs : List (Int × Int)} {s : Int} {k : Nat} (hk : k < zs.length) (h : ((gS zs k).1 == s) = true) : hasB zs s = true := by
  rw [hasB, List.any_eq_true]
  exact ⟨gS zs k, by rw [show gS zs k = zs[k] by simp [gS, List.getD, hk]]; exact List.getElem_mem _, h⟩
theorem hasB_no {zs : List (Int × Int)} {s : Int} (h : ∀ k, k < zs.length → ((gS zs k).1 == s) = false) : hasB zs s = false := by
  rw [hasB, List.any_eq_false]
  intro p hp
  obtain ⟨i, hi, rfl⟩ := List.getElem_of_mem hp
  have := h i hi
  rw [show gS zs i = zs[i] by simp [gS, List.getD, hi]] at this
  simp [this]

/-- The states before no step. -/
def unTo (zs : List (Int × Int)) (k : Nat) : List Int := ((List.range k).filter fun t : Nat => !hasB zs t).map fun t : Nat => (t : Int)
theorem unTo_skip {zs : List (Int × Int)} {k : Nat} (h : hasB zs k = true) : unTo zs (k + 1) = unTo zs k := by simp [unTo, List.range_succ, List.filter_append, h]
theorem unTo_take {zs : List (Int × Int)} {k : Nat} (h : hasB zs k = false) : unTo zs (k + 1) = unTo zs k ++ [(k : Int)] := by simp [unTo, List.range_succ, List.filter_append, h]
theorem unTo_len (zs : List (Int × Int)) (k : Nat) : (unTo zs k).length ≤ k := by
  have := List.length_filter_le (fun t : Nat => !hasB zs t) (List.range k)
  simpa [unTo] using this
def unV (zs : List (Int × Int)) (m : Int) : List Int := if seenB zs m = true then unTo zs (2 ^ m.toNat) else []
theorem unV_no {zs : List (Int × Int)} {m : Int} (h : seenB zs m = false) : unV zs m = [] := by simp [unV, h]
theorem unV_yes {zs : List (Int × Int)} {m : Nat} (h : seenB zs m = true) : unV zs m = unTo zs (2 ^ m) := by simp [unV, h]
theorem unV_len (zs : List (Int × Int)) (m : Int) : (unV zs m).length ≤ 32 := by
  cases h : seenB zs m with
  | false => simp [unV_no h]
  | true =>
    obtain ⟨hm, -⟩ := seen_parts h
    have hp : (2 ^ m.toNat : Nat) ≤ 32 := Nat.pow_le_pow_right (n := 2) (by decide) (show m.toNat ≤ 5 by omega)
    have := unTo_len zs (2 ^ m.toNat)
    simp [unV, h]; omega

end Go.Proofs.YtjkgcgbialiipaaDoor
/- Walks: UnseenOf of the program. -/
namespace Go.Proofs.YtjkgcgbialiipaaDoor
open Go.RowKit

set_option maxHeartbeats 1000000 in
theorem unClosure_ok (x y s : Int) (pb : Nat) (w : World) (hc : w.cell? ⟨pb, 0, none⟩ = some (.int .i64 s)) (hp : pb < w.heap.size) :
    Calls Tryd.prog 110 #[.agg #[.int .i64 x, .int .i64 y], .pointer (some ⟨pb, 0, none⟩)] w fun e w' => e = .returned (.bool (x == s)) ∧ Below w.heap.size w w' := by
  have hca : ∀ o, (w.alloc o).cell? ⟨pb, 0, none⟩ = some (.int .i64 s) := fun o => ((((Below.refl w.heap.size w).alloc (Nat.le_refl _) o).cell (p := ⟨pb, 0, none⟩) hp)).trans hc
  clear hc
  go_enter Tryd.func110, Tryd.ntmps110
  go_wp2
  go_ret
  exact ⟨rfl, (Below.refl _ _).alloc (Nat.le_refl _) _⟩

set_option maxHeartbeats 1000000 in
theorem Clip_ok (ao : Option Addr) (n c : Nat) (w : World) (hn : n ≤ c) (hc : c ≤ maxLen) (ha : ao = none → c = 0) (hs : ∀ a, ao = some a → ∃ b o, a = ⟨b, o, none⟩) :
    Calls Tryd.prog 111 #[.slice ao n c] w fun e w' => e = .returned (.slice ao n n) ∧ w = w' := by
  unfold maxLen at hc
  cases ao with
  | none =>
    obtain rfl := ha rfl
    obtain rfl : n = 0 := by omega
    go_enter Tryd.func111, Tryd.ntmps111
    go_wp2
    go_ret
    exact ⟨rfl, rfl⟩
  | some a =>
    obtain ⟨b, o, rfl⟩ := hs a rfl
    go_enter Tryd.func111, Tryd.ntmps111
    go_wp2
    go_ret
    exact ⟨rfl, rfl⟩


theorem OwnI.below {w w' : World} {B B' : Nat} {v : Value} {zs : List Int} (h : OwnI w B v zs) (hb : Below B' w w') (hB : w.heap.size ≤ B') : OwnI w' B v zs := by
  obtain ⟨h0, h1 | ⟨g, cap, cur, e, hg, hh, h2⟩⟩ := h
  · exact ⟨h0, .inl h1⟩
  · exact ⟨h0, .inr ⟨g, cap, cur, e, hg, by rw [hb.block g (by have := lt_of_block hh; omega)]; exact hh, h2⟩⟩

/-- What Clip asks of a slice value. -/
theorem Out.spot {w : World} {B : Nat} {ao : Option Addr} {n c : Nat} {zs : List Int} (h : OutI w B ao n c zs) (hn : 0 < n) : ∀ a, ao = some a → ∃ b o, a = ⟨b, o, none⟩ := fun a e => by
  obtain ⟨b, o, e', _⟩ := h.2.row.some hn
  rw [e] at e'
  cases e'
  exact ⟨b, o, rfl⟩
theorem OutI.clip {w : World} {B : Nat} {ao : Option Addr} {n c : Nat} {zs : List Int} (h : OutI w B ao n c zs) : OutI w B ao n n zs :=
  ⟨h.1, ⟨Nat.le_refl _, Nat.le_trans h.2.row.le h.2.row.cap, fun e => by have := h.2.row.nil e; have := h.2.row.le; omega, h.2.row.some, h.2.row.cell⟩, h.2.own, h.2.lt, h.2.free⟩

/-- The slice of an own row, and where it lies. -/
theorem OwnI.out' {w : World} {B : Nat} {v : Value} {zs : List Int} (h : OwnI w B v zs) : ∃ ao c, v = .slice ao zs.length c ∧ OutI w B ao zs.length c zs ∧ (∀ a, ao = some a → ∃ b o, a = ⟨b, o, none⟩) := by
  have h0 := h
  obtain ⟨_, ⟨rfl, hn⟩ | ⟨g, cap, cur, rfl, hg, hh, hle, hm, hs, ht⟩⟩ := h
  · obtain ⟨ao, c, e, ho⟩ := h0.out
    injection e with e1 e2 e3
    exact ⟨ao, c, by rw [← e1, ← e2, ← e3], ho, fun a ha => by rw [← e1] at ha; cases ha⟩
  · obtain ⟨ao, c, e, ho⟩ := h0.out
    injection e with e1 e2 e3
    exact ⟨ao, c, by rw [← e1, ← e3], ho, fun a ha => by rw [← e1] at ha; cases ha; exact ⟨_, _, rfl⟩⟩

set_option maxHeartbeats 2000000 in
theorem unI_ok (ao : Option Addr) (n c : Nat) (zs : List (Int × Int)) (m : Int) (w : World) (h : RowS w ao n c zs) :
    Calls Tryd.prog 33 #[.slice ao n c, .int .i64 m] w fun e w' => ∃ a l, e = .returned (.slice a l l) ∧ OutI w' w.heap.size a l l (unV zs m) ∧ Below w.heap.size w w' := by
  have HV := Lib.hid (svI_ok ao n c zs m w h)
  cases hs : seenB zs m with
  | false =>
    have H := Lib.hid hs
    go_enter Tryd.func33, Tryd.ntmps33
    go_wp2_with fail
    refine HV.out.mono ?_
    rintro e w1 ⟨rfl, b1⟩
    go_wp2
    go_ret
    refine ⟨none, 0, rfl, ?_, b1⟩
    rw [unV_no H.out]
    exact ⟨rfl, ⟨Nat.le_refl _, Nat.zero_le _, fun _ => rfl, fun h => absurd h (by omega), fun b o e => by cases e⟩, fun a e => (by cases e), fun a e => (by cases e), fun b o e => by cases e⟩
  | true =>
    have H := Lib.hid hs
    obtain ⟨hm, hl, hz, hlt⟩ := seen_parts hs
    obtain ⟨p, rfl⟩ := Int.eq_ofNat_of_zero_le (show 0 ≤ m by omega)
    have HP : Hid (wrap64 (2 ^ p) = ((2 ^ p : Nat) : Int)) := wrap_pow_nat p (by omega)
    have hp32 : (2 ^ p : Nat) ≤ 32 := Nat.pow_le_pow_right (n := 2) (by decide) (show p ≤ 5 by omega)
    have HU := Lib.hid (unV_yes hs)
    clear hz hlt
    generalize hN : (2 ^ p : Nat) = N at hp32 HP HU
    clear hN
    go_enter Tryd.func33, Tryd.ntmps33
    go_wp2_with fail
    refine HV.out.mono ?_
    rintro e w0 ⟨rfl, b0⟩
    go_wp2_with fail
    rw [HP.out]
    go_loopw [5, 13] (fun v s wr => ∃ k : Nat, k ≤ N ∧ s = .int .i64 k ∧ OwnI wr w.heap.size v (unTo zs k) ∧ Below w.heap.size w wr) (fun _ s _ => N - (intOf s).toNat)
    case atStart => exact ⟨0, Nat.zero_le _, rfl, OwnI.nil _ _, b0⟩
    case round =>
      obtain ⟨k, hk, rfl, ho, hb⟩ := hrel
      have hr := h.below hb (Nat.le_refl _)
      have HC := Lib.hid h
      have HO := Lib.hid ho
      have HL := Lib.hid (unTo_len zs k)
      clear h
      by_cases hkN : k < N
      · have hkw : (k : Int) < (N : Int) := by omega
        have hb1 : Below w.heap.size w (wr.alloc (.cells #[.int .i64 k] 3)) := hb.alloc hb.size _
        have hcell : (wr.alloc (.cells #[.int .i64 k] 3)).cell? ⟨wr.heap.size, 0, none⟩ = some (.int .i64 k) := (Blk.new wr 3 [.int .i64 k]).cell (i := 0) rfl
        have HCF := Lib.hid (ContainsFuncS_ok ao n c zs 110 #[.pointer (some ⟨wr.heap.size, 0, none⟩)] (fun p => p.1 == (k : Int)) _ (hr.below ((Below.refl _ _).alloc (Nat.le_refl _) _) (Nat.le_refl _)) (fun _ _ => by kernel_rfl) (fun j hj W hB => unClosure_ok _ _ k wr.heap.size W ((hB.cell (p := ⟨wr.heap.size, 0, none⟩) (by simp)).trans hcell) (Nat.lt_of_lt_of_le (by simp) hB.size)))
        have HCell := Lib.hid hcell
        clear hr ho
        cases hh : hasB zs k with
        | true =>
          have HH := Lib.hid hh
          go_wp2_with fail
          refine HCF.out.mono ?_
          rintro e w1 ⟨rfl, b1⟩
          rw [show (zs.any fun p => p.1 == (k : Int)) = true from hh]
          go_wp2_with fail
          go_roundw
          case rel => exact ⟨k + 1, by omega, by go_num, by rw [unTo_skip HH.out]; exact OwnI.below (OwnI.alloc HO.out _) b1 (Nat.le_refl _), hb1.trans (b1.mono hb1.size)⟩
          case measure => simp [intOf] <;> omega
        | false =>
          have HH := Lib.hid hh
          go_wp2_with fail
          refine HCF.out.mono ?_
          rintro e w1 ⟨rfl, b1⟩
          rw [show (zs.any fun p => p.1 == (k : Int)) = false from hh]
          have hc1 : w1.cell? ⟨wr.heap.size, 0, none⟩ = some (.int .i64 k) := (b1.cell (p := ⟨wr.heap.size, 0, none⟩) (by simp)).trans HCell.out
          have HO1 := Lib.hid (OwnI.below (OwnI.alloc HO.out _) b1 (Nat.le_refl _))
          have HB1 := Lib.hid (hb1.trans (b1.mono hb1.size))
          go_wp2_with (at_builtin; go_must (refine wpList_appI (OwnI.alloc HO1.out _) (RowI.one _ _) rfl _ _ rfl rfl rfl (by have := HL.out; omega) (by have := HB1.out.size; simp; omega) ?_); intro v2 w2 o2 g2)
          go_roundw
          case rel => exact ⟨k + 1, by omega, by go_num, by rw [unTo_take HH.out]; exact o2, (HB1.out.alloc HB1.out.size _).grown g2 (by have := HB1.out.size; simp; omega) (fun j hj => (World.ownsRow.lt HO1.out j hj).1)⟩
          case measure => simp [intOf] <;> omega
      · obtain rfl : k = N := by omega
        obtain ⟨a, cp, rfl, q, sp⟩ := ho.out'
        have HQ := Lib.hid q
        have HCl := Lib.hid (Clip_ok a (unTo zs k).length cp wr q.2.row.le q.2.row.cap q.2.row.nil sp)
        clear sp q ho hr
        go_wp2_with fail
        refine HCl.out.mono ?_
        rintro e w' ⟨rfl, rfl⟩
        go_wp2_with fail
        go_ret
        exact ⟨a, _, rfl, by rw [HU.out]; exact HQ.out.clip, hb⟩

end Go.Proofs.YtjkgcgbialiipaaDoor
/- Walks: AllRules; the law on it. -/
namespace Go.Proofs.YtjkgcgbialiipaaDoor
open Go.RowKit Go.Maps

noncomputable def allV (zs : List (Int × Int)) (m i : Int) : Int :=
  if swB zs m i = true then (if agreeB zs i.toNat (2 ^ m.toNat - 1) zs.length = true then wrap64 (2 ^ (unV zs m).length) else 0) else -1
theorem allV_no {zs : List (Int × Int)} {m i : Int} (h : swB zs m i = false) : allV zs m i = -1 := by simp [allV, h]
theorem allV_zero {zs : List (Int × Int)} {m i : Nat} (h : swB zs m i = true) (h1 : ¬ Agree zs i (2 ^ m - 1) zs.length) : allV zs m i = 0 := by simp [allV, h, agreeB_false h1]
theorem allV_yes {zs : List (Int × Int)} {m i : Nat} (h : swB zs m i = true) (h1 : Agree zs i (2 ^ m - 1) zs.length) : allV zs m i = wrap64 (2 ^ (unV zs m).length) := by simp [allV, h, agreeB_true h1]
theorem swC_seen {zs : List (Int × Int)} {m i : Int} (h : seenB zs m = false) : swB zs m i = false := by simp [swB, h]
theorem swC_in {zs : List (Int × Int)} {m i : Int} (h : ¬ (0 ≤ i ∧ i ≤ m - 1)) : swB zs m i = false := by simp [swB, inB_false h]
theorem swC_yes {zs : List (Int × Int)} {m i : Int} (h : seenB zs m = true) (h1 : 0 ≤ i ∧ i ≤ m - 1) : swB zs m i = true := by simp [swB, h, inB_true h1]

set_option maxHeartbeats 2000000 in
theorem alI_ok (ao : Option Addr) (n c : Nat) (zs : List (Int × Int)) (m i : Int) (w : World) (h : RowS w ao n c zs) :
    Calls Tryd.prog 32 #[.slice ao n c, .int .i64 m, .int .i64 i] w fun e w' => e = .returned (.int .i64 (allV zs m i)) ∧ Below w.heap.size w w' := by
  have HV := Lib.hid (svI_ok ao n c zs m w h)
  cases hs : seenB zs m with
  | false =>
    have H := Lib.hid hs
    go_enter Tryd.func32, Tryd.ntmps32
    go_wp2_with fail
    refine HV.out.mono ?_
    rintro e w1 ⟨rfl, b1⟩
    go_wp2
    go_ret
    exact ⟨reti (allV_no (swC_seen H.out)).symm, b1⟩
  | true =>
    have H := Lib.hid hs
    obtain ⟨hm, hl, hz, hlt⟩ := seen_parts hs
    by_cases i0 : i < 0
    · have HI := Lib.hid (swC_in (zs := zs) (show ¬ (0 ≤ i ∧ i ≤ m - 1) by omega))
      go_enter Tryd.func32, Tryd.ntmps32
      go_wp2_with fail
      refine HV.out.mono ?_
      rintro e w1 ⟨rfl, b1⟩
      go_wp2
      go_ret
      exact ⟨reti (allV_no HI.out).symm, b1⟩
    by_cases i1 : m ≤ i
    · have HI := Lib.hid (swC_in (zs := zs) (show ¬ (0 ≤ i ∧ i ≤ m - 1) by omega))
      go_enter Tryd.func32, Tryd.ntmps32
      go_wp2_with fail
      refine HV.out.mono ?_
      rintro e w1 ⟨rfl, b1⟩
      go_wp2
      go_ret
      exact ⟨reti (allV_no HI.out).symm, b1⟩
    have HI := Lib.hid (swC_yes hs (show 0 ≤ i ∧ i ≤ m - 1 by omega))
    have HT := Lib.hid (wrap_top hm)
    obtain ⟨p, rfl⟩ := Int.eq_ofNat_of_zero_le (show 0 ≤ m by omega)
    obtain ⟨j, rfl⟩ := Int.eq_ofNat_of_zero_le (show 0 ≤ i by omega)
    have hpj : ¬ p ≤ j := by omega
    have hp : (2 ^ p : Nat) ≤ 32 := Nat.pow_le_pow_right (n := 2) (by decide) (show p ≤ 5 by omega)
    have HTop : Hid (wrap64 (wrap64 (2 ^ p) - 1) = ((2 ^ p - 1 : Nat) : Int)) := HT.out
    have HX := Lib.hid (fun W hW => values_ok ao n c zs j (2 ^ p - 1) (by omega) (by omega) hz W hW)
    have HLen := Lib.hid h.len
    have hvl := unV_len zs p
    clear hz hlt
    go_enter Tryd.func32, Tryd.ntmps32
    go_wp2_with fail
    refine HV.out.mono ?_
    rintro e w1 ⟨rfl, b1⟩
    go_wp2_with fail
    rw [HTop.out]
    refine (HX.out _ (h.below b1 (Nat.le_refl _))).mono ?_
    rintro e w2 ⟨⟨ha, rfl, -⟩ | ⟨ha, rfl⟩, b2⟩
    · rw [← HLen.out] at ha
      have HA : Hid (Agree zs j (2 ^ p - 1) zs.length) := ha
      clear ha
      have c2 : Below w.heap.size w w2 := b1.trans (b2.mono b1.size)
      have HU := Lib.hid (unI_ok ao n c zs p w2 (h.below c2 (Nat.le_refl _)))
      clear h
      go_wp2_with fail
      refine HU.out.mono ?_
      rintro e w3 ⟨a3, l3, rfl, q3, b3⟩
      have hq := q3.1
      have HR := Lib.hid (allV_yes HI.out HA.out)
      clear q3
      rw [hq] at hvl HR
      clear hq
      go_wp2_with fail
      go_ret
      exact ⟨reti HR.out.symm, c2.trans (b3.mono c2.size)⟩
    · rw [← HLen.out] at ha
      have HA := Lib.hid ha
      clear ha
      go_wp2
      go_ret
      exact ⟨reti (allV_zero HI.out HA.out).symm, b1.trans (b2.mono b1.size)⟩

end Go.Proofs.YtjkgcgbialiipaaDoor
/- Walks: the text of a rule. -/
namespace Go.Proofs.YtjkgcgbialiipaaDoor
open Go.RowKit Go.Maps

/-- What the steps tell of a switch at a state, by some inputs; 0 where they tell nothing. -/
def ruleTo (zs : List (Int × Int)) (i inp s k : Nat) : Int := (keyF zs i inp k ((s &&& inp : Nat) : Int)).getD 0
theorem ruleTo_hit {zs : List (Int × Int)} {i inp s k : Nat} (h : keyN inp (gS zs k) = s &&& inp) : ruleTo zs i inp s (k + 1) = (valN i (gS zs k) : Nat) := by
  simp [ruleTo, keyF, putF, h]
theorem ruleTo_miss {zs : List (Int × Int)} {i inp s k : Nat} (h : keyN inp (gS zs k) ≠ s &&& inp) : ruleTo zs i inp s (k + 1) = ruleTo zs i inp s k := by
  have : ¬ (((s &&& inp : Nat) : Int) = ((keyN inp (gS zs k) : Nat) : Int)) := by omega
  simp [ruleTo, keyF, putF, this]
theorem ruleTo_bit (zs : List (Int × Int)) (i inp s : Nat) : ∀ k, ruleTo zs i inp s k = 0 ∨ ruleTo zs i inp s k = 1
  | 0 => .inl rfl
  | k + 1 => by
    by_cases h : keyN inp (gS zs k) = s &&& inp
    · rw [ruleTo_hit h]; have := valN_lt i (gS zs k); omega
    · rw [ruleTo_miss h]; exact ruleTo_bit zs i inp s k
def ruleL (zs : List (Int × Int)) (i inp N : Nat) : List Int := (List.range N).map fun s => ruleTo zs i inp s zs.length
theorem ruleL_next (zs : List (Int × Int)) (i inp N : Nat) : ruleL zs i inp (N + 1) = ruleL zs i inp N ++ [ruleTo zs i inp N zs.length] := by simp [ruleL, List.range_succ]
theorem ruleL_len (zs : List (Int × Int)) (i inp N : Nat) : (ruleL zs i inp N).length = N := by simp [ruleL]
theorem ruleL_bit (zs : List (Int × Int)) (i inp N k : Nat) (h : k < N) : gI (ruleL zs i inp N) k = 0 ∨ gI (ruleL zs i inp N) k = 1 := by
  have e : gI (ruleL zs i inp N) k = ruleTo zs i inp k zs.length := by simp [gI, ruleL, List.getD, h]
  rw [e]
  exact ruleTo_bit zs i inp k zs.length

set_option maxHeartbeats 4000000 in
theorem l12Rule_ok (ao : Option Addr) (n c : Nat) (zs : List (Int × Int)) (p i inp : Nat) (hp : p ≤ 5) (hi : i < 5) (hinp : inp < 32) (hz : Small zs) (w : World) (h : RowS w ao n c zs) :
    Calls Tryd.prog 179 #[.slice ao n c, .int .i64 p, .int .i64 i, .int .i64 inp] w fun e w' => e = .returned (.string (digT (ruleL zs i inp (2 ^ p)))) ∧ Below w.heap.size w w' := by
  obtain rfl := h.len
  have hml := h.cap
  have hml' := h.le
  unfold maxLen at hml
  have HP : Hid (wrap64 (2 ^ p) = ((2 ^ p : Nat) : Int)) := wrap_pow_nat p (by omega)
  have hp32 : (2 ^ p : Nat) ≤ 32 := Nat.pow_le_pow_right (n := 2) (by decide) (show p ≤ 5 by omega)
  generalize hN : (2 ^ p : Nat) = N at hp32 HP
  clear hN
  go_enter Tryd.func179, Tryd.ntmps179
  go_wp2
  go_loopw [9, 10] (fun v s wr => ∃ k : Nat, k ≤ N ∧ s = .int .i64 k ∧ OwnI wr w.heap.size v (ruleL zs i inp k) ∧ Below w.heap.size w wr) (fun _ s _ => N - (intOf s).toNat)
  case atStart => exact ⟨0, Nat.zero_le _, rfl, OwnI.lit _ _ [] (Nat.le_refl _) (by decide), (Below.refl _ _).alloc (Nat.le_refl _) _⟩
  case round =>
    obtain ⟨s, hk, rfl, ho, hb⟩ := hrel
    have HO := Lib.hid ho
    have hlen := ruleL_len zs i inp s
    by_cases hsN : s < N
    · have hsw : (s : Int) < wrap64 (2 ^ p) := by rw [HP.out]; omega
      have hr := h.below hb (Nat.le_refl _)
      have HH := Lib.hid h
      have HB0 := Lib.hid hb
      clear ho h hb
      go_wp2
      obtain ⟨wo, hwo⟩ : ∃ wo : World, wo = wr := ⟨_, rfl⟩
      subst hwo
      go_loop [11, 12] (fun v t => ∃ k : Nat, k ≤ zs.length ∧ t = .int .i64 k ∧ v = .int .i64 (ruleTo zs i inp s k)) (fun _ t => zs.length - (intOf t).toNat)
      case atStart => exact ⟨0, Nat.zero_le _, rfl, rfl⟩
      case round =>
        obtain ⟨k, hk2, rfl, rfl⟩ := hrel
        by_cases hlt : k < zs.length
        · obtain ⟨b, o, rfl, hbo⟩ := hr.some (by omega)
          have hx0 : wo.cell? ⟨b, o + k * 2, none⟩ = some (.int .i64 (gS zs k).1) := hr.before b o rfl k hlt
          have hx1 : wo.cell? ⟨b, o + k * 2 + 1, none⟩ = some (.int .i64 (gS zs k).2) := hr.after b o rfl k hlt
          obtain ⟨z0, z1, z2, z3⟩ := hz k hlt
          have hlt' : (k : Int) < (zs.length : Int) := by omega
          have ex : bits .xor .i64 (gS zs k).1 (s : Int) = (((gS zs k).1.toNat ^^^ s : Nat) : Int) := xor_int _ _ z0 (by omega) (by omega) (by omega)
          have ea : bits .and .i64 (((gS zs k).1.toNat ^^^ s : Nat) : Int) (inp : Int) = ((((gS zs k).1.toNat ^^^ s) &&& inp : Nat) : Int) := and_nat _ _ (by have := Nat.xor_lt_two_pow (n := 5) (x := (gS zs k).1.toNat) (y := s) (by omega) (by omega); omega) (by omega)
          by_cases hq : keyN inp (gS zs k) = s &&& inp
          · have hq0 : ((gS zs k).1.toNat ^^^ s) &&& inp = 0 := (xor_and _ _ _).2 hq
            rw [hq0] at ea
            have HQ := Lib.hid (ruleTo_hit (i := i) hq)
            have HV := Lib.hid (show valN i (gS zs k) = bN (gS zs k).2.toNat i from rfl)
            clear hq hq0 hz hr
            go_wp2_with (first | (go_at_call 122; refine (l1Bit_ok _ _ _ z2 (by omega) (by omega) (by omega)).mono ?_; rintro e w' ⟨rfl, rfl⟩))
            go_round
            case rel => exact ⟨k + 1, by omega, by go_num, by rw [HQ.out]; go_num⟩
            case measure => simp [intOf]; omega
          · have hq0 : ((((((gS zs k).1.toNat ^^^ s) &&& inp : Nat) : Int)) == 0) = false := by
              have : ¬ (((gS zs k).1.toNat ^^^ s) &&& inp = 0) := fun e => hq ((xor_and _ _ _).1 e)
              simpa using this
            generalize ((((gS zs k).1.toNat ^^^ s) &&& inp : Nat) : Int) = u at ea hq0
            have HQ := Lib.hid (ruleTo_miss (i := i) hq)
            clear hq hz hr
            go_wp2
            go_round
            case rel => exact ⟨k + 1, by omega, by go_num, by rw [HQ.out]⟩
            case measure => simp [intOf]; omega
        · obtain rfl : k = zs.length := by omega
          have HR := Lib.hid (ruleL_next zs i inp s)
          clear hr hz
          go_wp2_with (at_builtin; go_must (refine wpList_appI (OwnI.alloc HO.out _) (RowI.one _ _) rfl _ _ rfl rfl rfl (by omega) (by have := HB0.out.size; simp; omega) ?_); intro v2 w2 o2 g2)
          go_roundw
          case rel => exact ⟨s + 1, by omega, by go_num, by rw [HR.out]; exact o2, (HB0.out.alloc HB0.out.size _).grown g2 (by have := HB0.out.size; simp; omega) (fun j hj => (World.ownsRow.lt HO.out j hj).1)⟩
          case measure => simp [intOf] <;> omega
    · obtain rfl : s = N := by omega
      have hsw : ¬ (s : Int) < wrap64 (2 ^ p) := by rw [HP.out]; omega
      obtain ⟨a, cp, rfl, q⟩ := ho.out
      rw [hlen] at q
      have HT := Lib.hid (l1Text_ok a s cp _ wr q.rowI (fun j hj => ruleL_bit zs i inp s j hj) (by omega))
      clear q ho hz h
      go_wp2_with fail
      refine HT.out.mono ?_
      rintro e w1 ⟨rfl, b1⟩
      go_wp2_with fail
      go_ret
      exact ⟨rfl, hb.trans (b1.mono hb.size)⟩

end Go.Proofs.YtjkgcgbialiipaaDoor
/- Walks: LearnRule; the law on it. -/
namespace Go.Proofs.YtjkgcgbialiipaaDoor
open Go.RowKit Go.Maps

theorem Best.exists (E : Nat → Prop) : ∀ N, ∃ b, Best E 0 N b
  | 0 => ⟨-1, Best.start E 0⟩
  | N + 1 => by
    obtain ⟨b, hb⟩ := Best.exists E N
    by_cases h : ¬ E N ∨ ∃ s : Nat, b = s ∧ popN s ≤ popN N
    · exact ⟨b, hb.skip h⟩
    · have hE : E N := Classical.byContradiction fun e => h (.inl e)
      exact ⟨N, hb.take (Nat.zero_le _) hE fun s hs => by
        rcases Nat.lt_or_ge (popN N) (popN s) with h1 | h1
        · exact h1
        · exact absurd (.inr ⟨s, hs, h1⟩) h⟩
theorem least_of {E : Nat → Prop} {N r : Nat} (h : least E N = (r : Int)) : r < N ∧ E r := by
  obtain ⟨b, hb⟩ := Best.exists E N
  have e := hb.eq_least
  rw [h] at e
  subst e
  rcases hb with ⟨h1, _⟩ | ⟨s, h1, _, h2, h3, _⟩
  · omega
  · have : r = s := by omega
    subst this
    exact ⟨h2, h3⟩
theorem leastI_of {zs : List (Int × Int)} {m i : Int} {r : Nat} (h : leastI zs m i = (r : Int)) : swB zs m i = true ∧ r < 2 ^ m.toNat ∧ Exp zs i.toNat r := by
  cases hs : swB zs m i with
  | false => rw [leastI_no hs] at h; omega
  | true =>
    rw [leastI_yes hs] at h
    exact ⟨rfl, least_of h⟩

noncomputable def lrT (zs : List (Int × Int)) (m i : Int) : ByteArray := if leastI zs m i < 0 then ⟨#[]⟩ else digT (ruleL zs i.toNat (leastI zs m i).toNat (2 ^ m.toNat))
noncomputable def lrB (zs : List (Int × Int)) (m i : Int) : Bool := decide (0 ≤ leastI zs m i)
theorem lr_no {zs : List (Int × Int)} {m i : Int} (h : leastI zs m i < 0) : lrT zs m i = ⟨#[]⟩ ∧ lrB zs m i = false := ⟨by simp [lrT, h], by simp [lrB]; omega⟩
theorem lr_yes {zs : List (Int × Int)} {m i r : Nat} (h : leastI zs m i = (r : Int)) : lrT zs m i = digT (ruleL zs i r (2 ^ m)) ∧ lrB zs m i = true := ⟨by simp [lrT, h]; omega, by simp [lrB, h]⟩
theorem ret2 {a b : ByteArray} {c d : Bool} (h : a = b) (h' : c = d) : Ending.returned (.tuple #[.string a, .bool c]) = .returned (.tuple #[.string b, .bool d]) := by rw [h, h']

set_option maxHeartbeats 1000000 in
theorem lrS_ok (ao : Option Addr) (n c : Nat) (zs : List (Int × Int)) (m i : Int) (w : World) (h : RowS w ao n c zs) :
    Calls Tryd.prog 130 #[.slice ao n c, .int .i64 m, .int .i64 i] w fun e w' => e = .returned (.tuple #[.string (lrT zs m i), .bool (lrB zs m i)]) ∧ Below w.heap.size w w' := by
  have HL := Lib.hid (leS_ok ao n c zs m i w h)
  by_cases hneg : leastI zs m i < 0
  · have HR := Lib.hid (lr_no hneg)
    go_enter Tryd.func130, Tryd.ntmps130
    go_wp2_with fail
    refine HL.out.mono ?_
    rintro e w1 ⟨rfl, b1⟩
    go_wp2
    go_ret2
    exact ⟨ret2 HR.out.1.symm HR.out.2.symm, b1⟩
  · obtain ⟨r, hr⟩ := Int.eq_ofNat_of_zero_le (show 0 ≤ leastI zs m i by omega)
    obtain ⟨hsw, hrN, hE⟩ := leastI_of hr
    have hsw' := hsw
    simp only [swB, Bool.and_eq_true] at hsw'
    obtain ⟨hm, hl, hz, hlt⟩ := seen_parts hsw'.1
    have hi := inB_iff.1 hsw'.2
    clear hsw' hlt
    obtain ⟨p, rfl⟩ := Int.eq_ofNat_of_zero_le (show 0 ≤ m by omega)
    obtain ⟨j, rfl⟩ := Int.eq_ofNat_of_zero_le hi.1
    rw [Int.toNat_natCast] at hrN
    have hp : (2 ^ p : Nat) ≤ 32 := Nat.pow_le_pow_right (n := 2) (by decide) (show p ≤ 5 by omega)
    have HX := Lib.hid (fun W hW => l12Rule_ok ao n c zs p j r (by omega) (by omega) (by omega) hz W hW)
    have HR := Lib.hid (lr_yes hr)
    rw [hr] at HL
    clear hsw hE hz hrN hr hneg
    go_enter Tryd.func130, Tryd.ntmps130
    go_wp2_with fail
    refine HL.out.mono ?_
    rintro e w1 ⟨rfl, b1⟩
    go_wp2_with fail
    refine (HX.out _ (h.below b1 (Nat.le_refl _))).mono ?_
    rintro e w2 ⟨rfl, b2⟩
    go_wp2
    go_ret2
    exact ⟨ret2 HR.out.1.symm HR.out.2.symm, b1.trans (b2.mono b1.size)⟩

set_option maxHeartbeats 1000000 in
theorem lrClosure_ok (s inp v n mb pm ps : Nat) (F : Int → Option Int) (w : World) (hs : s < 32) (hi : inp < 32) (hm : MapI w mb n F) (hcm : w.cell? ⟨pm, 0, none⟩ = some (.map (some mb))) (hcs : w.cell? ⟨ps, 0, none⟩ = some (.int .i64 inp))
    (hv : (F ((s &&& inp : Nat) : Int)).getD 0 = v) (hv2 : v < 2) :
    Calls Tryd.prog 160 #[.int .i64 s, .pointer (some ⟨pm, 0, none⟩), .pointer (some ⟨ps, 0, none⟩)] w fun e w' => e = .returned (.int .u8 v) ∧ Below w.heap.size w w' := by
  have ea : bits .and .i64 (s : Int) (inp : Int) = ((s &&& inp : Nat) : Int) := and_nat _ _ (by omega) (by omega)
  have hle : s &&& inp ≤ inp := Nat.and_le_right
  have hk := hm.look ((s &&& inp : Nat) : Int) (by omega)
  rw [hv] at hk
  have hw : IntKind.u8.wrap (v : Int) = (v : Int) := by rw [IntKind.wrap_u8]; omega
  clear hm hv
  generalize ((s &&& inp : Nat) : Int) = u at ea hk
  go_enter Tryd.func160, Tryd.ntmps160
  go_wp2
  go_ret
  exact ⟨rfl, Below.refl _ _⟩

end Go.Proofs.YtjkgcgbialiipaaDoor
/- Walks: LearnRule of the program; the law on it. -/
namespace Go.Proofs.YtjkgcgbialiipaaDoor
open Go.RowKit Go.Maps

set_option maxHeartbeats 2000000 in
theorem lrI_ok (ao : Option Addr) (n c : Nat) (zs : List (Int × Int)) (m i : Int) (w : World) (h : RowS w ao n c zs) :
    Calls Tryd.prog 108 #[.slice ao n c, .int .i64 m, .int .i64 i] w fun e w' => e = .returned (.tuple #[.string (lrT zs m i), .bool (lrB zs m i)]) ∧ Below w.heap.size w w' := by
  have HL := Lib.hid (leI_ok ao n c zs m i w h)
  by_cases hneg : leastI zs m i < 0
  · have HR := Lib.hid (lr_no hneg)
    have HN := Lib.hid hneg
    generalize leastI zs m i = r at hneg HL
    go_enter Tryd.func108, Tryd.ntmps108
    go_wp2_with fail
    refine HL.out.mono ?_
    rintro e w1 ⟨rfl, b1⟩
    go_wp2
    go_ret2
    exact ⟨ret2 HR.out.1.symm HR.out.2.symm, b1.alloc b1.size _⟩
  · obtain ⟨r, hr⟩ := Int.eq_ofNat_of_zero_le (show 0 ≤ leastI zs m i by omega)
    obtain ⟨hsw, hrN, hE⟩ := leastI_of hr
    have hsw' := hsw
    simp only [swB, Bool.and_eq_true] at hsw'
    obtain ⟨hm, hl, hz, hlt⟩ := seen_parts hsw'.1
    have hi := inB_iff.1 hsw'.2
    clear hsw' hlt
    obtain ⟨p, rfl⟩ := Int.eq_ofNat_of_zero_le (show 0 ≤ m by omega)
    obtain ⟨j, rfl⟩ := Int.eq_ofNat_of_zero_le hi.1
    rw [Int.toNat_natCast] at hrN hE
    have hp : (2 ^ p : Nat) ≤ 32 := Nat.pow_le_pow_right (n := 2) (by decide) (show p ≤ 5 by omega)
    have hr32 : r < 32 := by omega
    have HX := Lib.hid (fun W hW => values_ok ao n c zs j r (by omega) hr32 hz W hW)
    have HR := Lib.hid (lr_yes hr)
    rw [hr] at HL
    have HLen := Lib.hid h.len
    have HEx : Hid (Agree zs j r zs.length) := hE
    have hpj : ¬ p ≤ j := by omega
    clear hsw hE hz hrN hr hneg
    go_enter Tryd.func108, Tryd.ntmps108
    go_wp2_with fail
    refine HL.out.mono ?_
    rintro e w1 ⟨rfl, b1⟩
    have c1 := b1.alloc b1.size (.cells #[.int .i64 r] 3)
    have hcs : (w1.alloc (.cells #[.int .i64 r] 3)).cell? ⟨w1.heap.size, 0, none⟩ = some (.int .i64 r) := (Blk.new w1 3 [.int .i64 r]).cell (i := 0) rfl
    have HCS := Lib.hid hcs
    have hr1 := h.below c1 (Nat.le_refl _)
    go_wp2_with fail
    refine (HX.out _ hr1).mono ?_
    rintro e w2 ⟨⟨ha, rfl, hmap⟩ | ⟨ha, rfl⟩, b2⟩
    rotate_left
    · exact absurd HEx.out (by rw [HLen.out]; exact ha)
    have c2 := c1.trans (b2.mono c1.size)
    have hcs2 := (b2.cell (p := ⟨w1.heap.size, 0, none⟩) (by simp)).trans hcs
    have hsz : (w1.alloc (.cells #[.int .i64 r] 3)).heap.size = w1.heap.size + 1 := by simp
    have hlt2 : w1.heap.size + 2 ≤ w2.heap.size := by have := hmap.lt; omega
    rw [hsz] at hmap
    have hcm : (w2.alloc (.cells #[.map (some (w1.heap.size + 1))] 105)).cell? ⟨w2.heap.size, 0, none⟩ = some (.map (some (w1.heap.size + 1))) := (Blk.new w2 105 [.map (some (w1.heap.size + 1))]).cell (i := 0) rfl
    have c3 := c2.alloc c2.size (.cells #[.map (some (w1.heap.size + 1))] 105)
    have hca : Below w2.heap.size w2 (w2.alloc (.cells #[.map (some (w1.heap.size + 1))] 105)) := (Below.refl _ _).alloc (Nat.le_refl _) _
    have hcs3 := (hca.cell (p := ⟨w1.heap.size, 0, none⟩) (by show w1.heap.size < w2.heap.size; omega)).trans hcs2
    have hmap3 := hmap.alloc (.cells #[.map (some (w1.heap.size + 1))] 105)
    have hszz : (w2.alloc (.cells #[.map (some (w1.heap.size + 1))] 105)).heap.size = w2.heap.size + 1 := by simp
    have HE := Lib.hid (each_ok p (by omega) 160 #[.pointer (some ⟨w2.heap.size, 0, none⟩), .pointer (some ⟨w1.heap.size, 0, none⟩)] (fun s => ruleTo zs j r s zs.length) _ (fun _ _ => by kernel_rfl) (fun s hs W hW => by
      have hb := ruleTo_bit zs j r s zs.length
      obtain ⟨v, hv⟩ := Int.eq_ofNat_of_zero_le (show 0 ≤ ruleTo zs j r s zs.length by omega)
      have := lrClosure_ok s r v n (w1.heap.size + 1) w2.heap.size w1.heap.size (keyF zs j r n) W (by omega) hr32 (hmap3.below hW (by omega)) ((hW.cell (p := ⟨w2.heap.size, 0, none⟩) (by show w2.heap.size < _; omega)).trans hcm) ((hW.cell (p := ⟨w1.heap.size, 0, none⟩) (by show w1.heap.size < _; omega)).trans hcs3) (by rw [← HLen.out]; exact hv) (by omega)
      show Calls _ _ _ _ fun e W' => e = .returned (.int .u8 (ruleTo zs j r s zs.length)) ∧ _
      rw [hv]
      exact this))
    have HTx := Lib.hid (text_ok p (eachL (fun s => ruleTo zs j r s zs.length) (2 ^ p)) (by omega) (eachL_len _ _) (fun q hq => by rw [eachL_get _ _ _ (by omega) hq]; exact ruleTo_bit zs j r q zs.length))
    have HEq := Lib.hid (bitT_each (fun s => ruleTo zs j r s zs.length) (2 ^ p) hp (fun q => by have := ruleTo_bit zs j r q zs.length; omega))
    clear hcs hr1 hmap hcm hca hcs3 hmap3 h b1 b2 c1 c2 HX HL
    go_wp2_with fail
    refine HE.out.mono ?_
    rintro e w4 ⟨rfl, b4⟩
    have c4 := c3.trans (b4.mono c3.size)
    clear b4 c3
    go_wp2_with fail
    refine (HTx.out _).mono ?_
    rintro e w5 ⟨rfl, b5⟩
    go_wp2_with fail
    go_ret2
    exact ⟨ret2 (HEq.out.trans HR.out.1.symm) HR.out.2.symm, c4.trans (b5.mono c4.size)⟩

end Go.Proofs.YtjkgcgbialiipaaDoor
/- Walks: LearnNetwork; the law on it. -/
namespace Go.Proofs.YtjkgcgbialiipaaDoor
open Go.RowKit Go.Maps

noncomputable def lnF (zs : List (Int × Int)) (m : Int) (i : Nat) : ByteArray := lrT zs m i
noncomputable def lnT (zs : List (Int × Int)) (m : Int) : ByteArray := if possV zs m = true then joinF (lnF zs m) ⟨#[44]⟩ m.toNat else ⟨#[]⟩
noncomputable def lnL (zs : List (Int × Int)) (m : Int) (k : Nat) : List ByteArray := (List.range k).map (lnF zs m)
theorem lnL_next (zs : List (Int × Int)) (m : Int) (k : Nat) : lnL zs m (k + 1) = lnL zs m k ++ [lnF zs m k] := by simp [lnL, List.range_succ]
theorem lnL_len (zs : List (Int × Int)) (m : Int) (k : Nat) : (lnL zs m k).length = k := by simp [lnL]
theorem lnL_get (zs : List (Int × Int)) (m : Int) (k i : Nat) (h : i < k) : gT (lnL zs m k) i = lnF zs m i := by simp [gT, lnL, List.getD, h]
theorem lnT_no {zs : List (Int × Int)} {m : Int} (h : possV zs m = false) : lnT zs m = ⟨#[]⟩ := by simp [lnT, h]
theorem lnT_yes {zs : List (Int × Int)} {m : Nat} (h : possV zs m = true) : lnT zs m = joinF (lnF zs m) ⟨#[44]⟩ m := by simp [lnT, h]
theorem lnF_size (zs : List (Int × Int)) (m : Int) (hm : m ≤ 5) (i : Nat) : (lnF zs m i).size ≤ 1048576 := by
  have hp : (2 ^ m.toNat : Nat) ≤ 32 := Nat.pow_le_pow_right (n := 2) (by decide) (show m.toNat ≤ 5 by omega)
  unfold lnF lrT
  split
  · decide
  · rw [digT_size, ruleL_len]; omega
/-- Where all inputs explain each switch, each has fewest inputs. -/
theorem poss_rule {zs : List (Int × Int)} {m : Nat} (h : possV zs m = true) (i : Nat) (hi : i < m) : lrB zs m i = true := by
  simp only [possV, Bool.and_eq_true, List.all_eq_true, Int.toNat_natCast] at h
  obtain ⟨hs, ha⟩ := h
  have hE : Exp zs i (2 ^ m - 1) := agreeB_iff.1 (ha i (List.mem_range.2 hi))
  have hsw : swB zs m i = true := swB_yes hs (by omega)
  obtain ⟨b, hb⟩ := Best.exists (Exp zs i) (2 ^ m)
  have e := hb.eq_least
  have hp0 : 0 < (2 ^ m : Nat) := Nat.two_pow_pos _
  have hl : leastI zs m i = b := by rw [leastI_yes hsw, e, Int.toNat_natCast, Int.toNat_natCast]
  rcases hb with ⟨_, h1⟩ | ⟨s, h1, _⟩
  · exact absurd hE (h1 _ (Nat.zero_le _) (by omega))
  · simp only [lrB, hl, h1, decide_eq_true_iff]; omega
theorem poss_seen {zs : List (Int × Int)} {m : Int} (h : possV zs m = true) : 1 ≤ m ∧ m ≤ 5 := by
  simp only [possV, Bool.and_eq_true] at h
  exact (seen_parts h.1).1

set_option maxHeartbeats 2000000 in
theorem lnS_ok (ao : Option Addr) (n c : Nat) (zs : List (Int × Int)) (m : Int) (w : World) (h : RowS w ao n c zs) :
    Calls Tryd.prog 56 #[.slice ao n c, .int .i64 m] w fun e w' => e = .returned (.tuple #[.string (lnT zs m), .bool (possV zs m)]) ∧ Below w.heap.size w w' := by
  have hb0 := (Below.refl w.heap.size w).alloc (Nat.le_refl _) (.cells (strs []).toArray 9)
  have HP := Lib.hid (posS_ok ao n c zs m _ (h.below hb0 (Nat.le_refl _)))
  cases hs : possV zs m with
  | false =>
    have H := Lib.hid (lnT_no hs)
    rw [hs] at HP
    clear hs
    go_enter Tryd.func56, Tryd.ntmps56
    go_wp2_with fail
    refine HP.out.mono ?_
    rintro e w1 ⟨rfl, b1⟩
    go_wp2
    go_ret2
    exact ⟨ret2 H.out.symm rfl, hb0.trans (b1.mono hb0.size)⟩
  | true =>
    rw [hs] at HP
    have hm := poss_seen hs
    obtain ⟨p, rfl⟩ := Int.eq_ofNat_of_zero_le (show 0 ≤ m by omega)
    have H := Lib.hid (lnT_yes hs)
    have HO := Lib.hid (OwnT.lit w w.heap.size [] (Nat.le_refl _) (by decide))
    have HSz := Lib.hid (lnF_size zs p (by omega))
    clear hs
    go_enter Tryd.func56, Tryd.ntmps56
    go_wp2_with fail
    refine HP.out.mono ?_
    rintro e w1 ⟨rfl, b1⟩
    have c1 := hb0.trans (b1.mono hb0.size)
    have o1 := HO.out.below b1 (Nat.le_refl _)
    clear b1 hb0
    go_wp2_with fail
    go_loopw [6, 7] (fun v s wr => ∃ k : Nat, k ≤ p ∧ s = .int .i64 k ∧ OwnT wr w.heap.size v (lnL zs p k) ∧ Below w.heap.size w wr) (fun _ s _ => p - (intOf s).toNat)
    case atStart => exact ⟨0, Nat.zero_le _, rfl, o1, c1⟩
    case round =>
      obtain ⟨k, hk, rfl, ho, hb⟩ := hrel
      have HOw := Lib.hid ho
      have hlen := lnL_len zs p k
      have HB := Lib.hid hb
      clear o1 c1
      by_cases hkp : k < p
      · have hkw : (k : Int) < (p : Int) := by omega
        have HL := Lib.hid (lrS_ok ao n c zs p k wr (h.below hb (Nat.le_refl _)))
        have HN := Lib.hid (lnL_next zs p k)
        clear ho hb
        go_wp2_with fail
        refine HL.out.mono ?_
        rintro e w2 ⟨rfl, b2⟩
        have HB2 := Lib.hid (HB.out.trans (b2.mono HB.out.size))
        have HO2 := Lib.hid (HOw.out.below b2 (Nat.le_refl _))
        have hcell : (w2.alloc (.cells #[.string (lrT zs p k)] 9)).cell? ⟨w2.heap.size, 0, none⟩ = some (.string (lrT zs p k)) := (Blk.new w2 9 [.string (lrT zs p k)]).cell (i := 0) rfl
        have HCe := Lib.hid hcell
        clear hcell b2
        go_wp2_with (at_builtin; go_must (refine wpList_appT (OwnT.alloc HO2.out _) HCe.out rfl _ _ rfl rfl rfl (by omega) (by have := HB2.out.size; simp; omega) ?_); intro v3 w3 o3 g3)
        go_roundw
        case rel => exact ⟨k + 1, by omega, by go_num, by rw [HN.out]; exact o3, (HB2.out.alloc HB2.out.size _).grown g3 (by have := HB2.out.size; simp; omega) (fun j hj => (World.ownsRow.lt HO2.out j hj).1)⟩
        case measure => simp [intOf] <;> omega
      · obtain rfl : k = p := by omega
        obtain ⟨a, cp, rfl, q⟩ := ho.row
        rw [hlen] at q
        have HT := Lib.hid (l3Text_ok a k cp _ (lnF zs k) wr q (fun i hi => lnL_get zs k k i hi) HSz.out (by omega))
        clear q ho
        go_wp2_with fail
        refine HT.out.mono ?_
        rintro e w2 ⟨rfl, rfl⟩
        go_wp2_with fail
        go_ret2
        exact ⟨ret2 H.out.symm rfl, hb⟩

set_option maxHeartbeats 2000000 in
theorem lnI_ok (ao : Option Addr) (n c : Nat) (zs : List (Int × Int)) (m : Int) (w : World) (h : RowS w ao n c zs) :
    Calls Tryd.prog 30 #[.slice ao n c, .int .i64 m] w fun e w' => e = .returned (.tuple #[.string (lnT zs m), .bool (possV zs m)]) ∧ Below w.heap.size w w' := by
  have HP := Lib.hid (posI_ok ao n c zs m w h)
  cases hs : possV zs m with
  | false =>
    have H := Lib.hid (lnT_no hs)
    rw [hs] at HP
    clear hs
    go_enter Tryd.func30, Tryd.ntmps30
    go_wp2_with fail
    refine HP.out.mono ?_
    rintro e w1 ⟨rfl, b1⟩
    go_wp2
    go_ret2
    exact ⟨ret2 H.out.symm rfl, b1⟩
  | true =>
    rw [hs] at HP
    have hm := poss_seen hs
    obtain ⟨p, rfl⟩ := Int.eq_ofNat_of_zero_le (show 0 ≤ m by omega)
    have H := Lib.hid (lnT_yes hs)
    have HSz := Lib.hid (lnF_size zs p (by omega))
    have HY := Lib.hid (fun i hi => poss_rule hs i hi)
    clear hs
    go_enter Tryd.func30, Tryd.ntmps30
    go_wp2_with fail
    refine HP.out.mono ?_
    rintro e w1 ⟨rfl, b1⟩
    go_wp2_with fail
    go_loopw [6, 15] (fun v s wr => ∃ k : Nat, k ≤ p ∧ s = .int .i64 k ∧ v = .string (joinF (lnF zs p) ⟨#[44]⟩ k) ∧ Below w.heap.size w wr) (fun _ s _ => p - (intOf s).toNat)
    case atStart => exact ⟨0, Nat.zero_le _, rfl, rfl, b1⟩
    case round =>
      obtain ⟨k, hk, rfl, rfl, hb⟩ := hrel
      clear b1
      by_cases hkp : k < p
      · have hkw : (k : Int) < (p : Int) := by omega
        have HL := Lib.hid (lrI_ok ao n c zs p k wr (h.below hb (Nat.le_refl _)))
        have hz := joinF_size (lnF zs p) ⟨#[44]⟩ 1048576 (by decide) HSz.out k
        have hz2 : (joinF (lnF zs p) ⟨#[44]⟩ k).size ≤ 1099512676352 := by
          have : k * (1048576 + 1) ≤ 1048576 * (1048576 + 1) := Nat.mul_le_mul_right _ (by omega)
          omega
        have hz3 : (lrT zs p k).size ≤ 1048576 := HSz.out k
        have HN := Lib.hid (joinF_next (lnF zs p) ⟨#[44]⟩ k)
        have HN1 : Hid (joinF (lnF zs p) ⟨#[44]⟩ 1 = joinF (lnF zs p) ⟨#[44]⟩ 0 ++ lnF zs p 0) := rfl
        have HFe : Hid (∀ k : Nat, lnF zs p k = lrT zs p k) := fun _ => rfl
        rw [HY.out k hkp] at HL
        clear hz
        by_cases h0 : 0 < k
        · generalize joinF (lnF zs p) ⟨#[44]⟩ k = t at hz2 HN
          go_wp2_with fail
          refine HL.out.mono ?_
          rintro e w2 ⟨rfl, b2⟩
          go_wp2_with fail
          go_roundw
          case rel => exact ⟨k + 1, by omega, by go_num, by rw [HN.out h0, HFe.out], hb.trans (b2.mono hb.size)⟩
          case measure => simp [intOf]; omega
        · obtain rfl : k = 0 := by omega
          have hz4 : (lrT zs p 0).size ≤ 1048576 := hz3
          generalize joinF (lnF zs p) ⟨#[44]⟩ 0 = t at hz2 HN1
          go_wp2_with fail
          refine HL.out.mono ?_
          rintro e w2 ⟨rfl, b2⟩
          go_wp2_with fail
          go_roundw
          case rel => exact ⟨1, by omega, rfl, by rw [HN1.out, HFe.out]; rfl, hb.trans (b2.mono hb.size)⟩
          case measure => simp [intOf]; omega
      · obtain rfl : k = p := by omega
        go_wp2_with fail
        go_ret2
        exact ⟨ret2 H.out.symm rfl, hb⟩

end Go.Proofs.YtjkgcgbialiipaaDoor
/- Plain: what is learned from steps. -/
namespace Go.Proofs.YtjkgcgbialiipaaDoor
open Go.RowKit

/-- The set of the inputs of a rule that matter. -/
def mtN (ps : List ByteArray) (i : Nat) : Nat := setTo (fun j => actB ps j i) ps.length
theorem mtN_bit (ps : List ByteArray) (i j : Nat) : (mtN ps i).testBit j = (decide (j < ps.length) && actB ps j i) := setTo_bit _ _ _
theorem mtN_lt (ps : List ByteArray) (i : Nat) : mtN ps i < 2 ^ ps.length := setTo_lt _ _
theorem bN_one {s i : Nat} : bN s i = 1 ↔ s.testBit i = true := by
  have := bit_test s i
  rw [show s / 2 ^ i % 2 = bN s i from rfl] at this
  rw [this]
  cases s.testBit i <;> simp
theorem bN_case (s i : Nat) : bN s i = if s.testBit i = true then 1 else 0 := bit_test s i
theorem bN_same {s t i : Nat} (h : s.testBit i = t.testBit i) : bN s i = bN t i := by rw [bN_case, bN_case, h]
theorem bN_bit {ps : List ByteArray} (hn : netB ps = true) (h5 : ps.length ≤ 5) {s i : Nat} (hi : i < ps.length) : bN (allTo ps s ps.length) i = bitN ps i s := by
  have hl := bitN_lt (netB_get hn i hi).1 s
  rw [bN_case, allTo_bit hn h5 hi]
  by_cases h : bitN ps i s = 1
  · simp [h]
  · simp [h]; omega

/-- The steps are those of a network. -/
structure StepsOf (ps : List ByteArray) (L : List (Int × Int)) : Prop where
  from_ : ∀ k, k < L.length → 0 ≤ (gS L k).1 ∧ (gS L k).1 < ((2 ^ ps.length : Nat) : Int)
  to_ : ∀ k, k < L.length → (gS L k).2 = ((allTo ps (gS L k).1.toNat ps.length : Nat) : Int)
theorem and_sub {s t q m j : Nat} (h : s &&& q = t &&& q) (hm : m &&& q = m) (hj : m.testBit j = true) : s.testBit j = t.testBit j := by
  have h1 := congrArg (·.testBit j) h
  have h2 := congrArg (·.testBit j) hm
  simp only [Nat.testBit_and, hj, Bool.true_and] at h1 h2
  rw [h2, Bool.and_true, Bool.and_true] at h1
  exact h1
theorem steps_agree {ps : List ByteArray} (hn : netB ps = true) (h5 : ps.length ≤ 5) {L : List (Int × Int)} (h : StepsOf ps L) {i q : Nat} (hi : i < ps.length) (hq : mtN ps i &&& q = mtN ps i) (m : Nat) (hm : m ≤ L.length) : Agree L i q m := by
  intro k hk j hj he
  obtain ⟨a1, a2⟩ := h.from_ k (by omega)
  obtain ⟨b1, b2⟩ := h.from_ j (by omega)
  rw [valN, valN, h.to_ k (by omega), h.to_ j (by omega), Int.toNat_natCast, Int.toNat_natCast]
  show bN _ i = bN _ i
  rw [bN_bit hn h5 hi, bN_bit hn h5 hi]
  refine bit_indep h5 (by omega) (by omega) fun x hx ha => ?_
  exact and_sub he hq (by rw [mtN_bit, ha]; simp [hx])
/-- Where all steps were seen, only sets with all inputs that matter explain a switch. -/
theorem all_agree {ps : List ByteArray} (hn : netB ps = true) (h5 : ps.length ≤ 5) {L : List (Int × Int)} (h : StepsOf ps L) (hall : ∀ s, s < 2 ^ ps.length → ∃ k, k < L.length ∧ (gS L k).1 = (s : Nat)) {i q : Nat} (hi : i < ps.length) (ha : Agree L i q L.length) : mtN ps i &&& q = mtN ps i := by
  have key : ∀ s t, s < 2 ^ ps.length → t < 2 ^ ps.length → s &&& q = t &&& q → bitN ps i s = bitN ps i t := fun s t hs ht he => by
    obtain ⟨k, hk, ek⟩ := hall s hs
    obtain ⟨j, hj, ej⟩ := hall t ht
    have e : keyN q (gS L k) = keyN q (gS L j) := by rw [keyN, keyN, ek, ej, Int.toNat_natCast, Int.toNat_natCast]; exact he
    have hv : valN i (gS L k) = valN i (gS L j) := by
      rcases Nat.lt_trichotomy j k with h1 | h1 | h1
      · exact ha k hk j h1 e
      · rw [h1]
      · exact (ha j hj k h1 e.symm).symm
    rw [valN, valN, h.to_ k hk, h.to_ j hj, Int.toNat_natCast, Int.toNat_natCast, ek, ej, Int.toNat_natCast, Int.toNat_natCast] at hv
    have h1 := bN_bit hn h5 (s := s) hi
    have h2 := bN_bit hn h5 (s := t) hi
    rw [← h1, ← h2]
    exact hv
  apply Nat.eq_of_testBit_eq
  intro j
  rw [Nat.testBit_and]
  cases hm : (mtN ps i).testBit j with
  | false => rfl
  | true =>
    rw [mtN_bit, Bool.and_eq_true, decide_eq_true_iff] at hm
    cases hqj : q.testBit j with
    | true => rfl
    | false =>
      obtain ⟨s, hs, hne⟩ := act_some hm.2
      have hp := pow_32 h5
      refine absurd (key _ _ (setN_pow hs hm.1 (by decide)) (setN_pow hs hm.1 (by decide)) ?_) hne
      apply Nat.eq_of_testBit_eq
      intro x
      rw [Nat.testBit_and, Nat.testBit_and]
      by_cases e : x = j
      · subst e; rw [hqj]; simp
      · by_cases hx : x < 5
        · rw [setN_bit (by omega) (by omega) (by decide) hx, setN_bit (by omega) (by omega) (by decide) hx, if_neg e, if_neg e]
        · have h5x : (2 : Nat) ^ 5 ≤ 2 ^ x := Nat.pow_le_pow_right (by decide) (by omega)
          rw [Nat.testBit_lt_two_pow (Nat.lt_of_lt_of_le (setN_lt (by omega) (by omega) (by decide)) h5x), Nat.testBit_lt_two_pow (Nat.lt_of_lt_of_le (setN_lt (by omega) (by omega) (by decide)) h5x)]

theorem pop_sub_fin : ∀ a b : Fin 32, a.val &&& b.val = a.val → popN a.val < popN b.val ∨ popN a.val = popN b.val ∧ a.val = b.val := by decide +kernel
theorem pop_sub {a b : Nat} (ha : a < 32) (hb : b < 32) (h : a &&& b = a) : popN a < popN b ∨ popN a = popN b ∧ a = b := pop_sub_fin ⟨a, ha⟩ ⟨b, hb⟩ h

theorem steps_seen {ps : List ByteArray} (hn : netB ps = true) (h0 : 0 < ps.length) (h5 : ps.length ≤ 5) {L : List (Int × Int)} (h : StepsOf ps L) (hl : L.length ≤ 32) : seenB L ps.length = true := by
  rw [seenB]
  simp only [Bool.and_eq_true, decide_eq_true_iff, List.all_eq_true]
  have hc : ((2 ^ ps.length : Nat) : Int) = 2 ^ ps.length := by simp
  refine ⟨⟨by omega, by omega⟩, fun x hx => ?_⟩
  obtain ⟨k, hk, rfl⟩ := List.getElem_of_mem hx
  have e : L[k] = gS L k := by simp [gS, List.getD, hk]
  rw [e, okS_iff]
  have h1 := h.from_ k hk
  have h2 := allTo_lt hn h5 (gS L k).1.toNat
  have h3 := h.to_ k hk
  rw [Int.toNat_natCast, ← hc]
  omega
theorem steps_sw {ps : List ByteArray} (hn : netB ps = true) (h0 : 0 < ps.length) (h5 : ps.length ≤ 5) {L : List (Int × Int)} (h : StepsOf ps L) (hl : L.length ≤ 32) {i : Nat} (hi : i < ps.length) : swB L ps.length i = true := swB_yes (steps_seen hn h0 h5 h hl) (by omega)
theorem sub_all {m n : Nat} (h : m < 2 ^ n) : m &&& (2 ^ n - 1) = m := by rw [Nat.and_two_pow_sub_one_eq_mod, Nat.mod_eq_of_lt h]
theorem steps_poss {ps : List ByteArray} (hn : netB ps = true) (h0 : 0 < ps.length) (h5 : ps.length ≤ 5) {L : List (Int × Int)} (h : StepsOf ps L) (hl : L.length ≤ 32) : possV L ps.length = true :=
  poss_yes (steps_seen hn h0 h5 h hl) fun _ hi => steps_agree hn h5 h hi (sub_all (mtN_lt ps _)) _ (Nat.le_refl _)
/-- The inputs that matter explain a switch. -/
theorem steps_expl {ps : List ByteArray} (hn : netB ps = true) (h0 : 0 < ps.length) (h5 : ps.length ≤ 5) {L : List (Int × Int)} (h : StepsOf ps L) (hl : L.length ≤ 32) {i : Nat} (hi : i < ps.length) : explV L ps.length i (mtN ps i : Nat) = true := by
  have hc : ((2 ^ ps.length : Nat) : Int) = 2 ^ ps.length := by simp
  have h1 := mtN_lt ps i
  have hsw := steps_sw hn h0 h5 h hl hi
  rw [swB, Bool.and_eq_true] at hsw
  simp only [explV, hsw.1, hsw.2, Bool.true_and, Bool.and_eq_true, inB_iff, Int.toNat_natCast]
  exact ⟨⟨by omega, by omega⟩, agreeB_true (steps_agree hn h5 h hi (Nat.and_self _) _ (Nat.le_refl _))⟩
/-- From all steps: the fewest inputs are those that matter. -/
theorem all_least {ps : List ByteArray} (hn : netB ps = true) (h0 : 0 < ps.length) (h5 : ps.length ≤ 5) {L : List (Int × Int)} (h : StepsOf ps L) (hl : L.length ≤ 32) (hall : ∀ s, s < 2 ^ ps.length → ∃ k, k < L.length ∧ (gS L k).1 = (s : Nat)) {i : Nat} (hi : i < ps.length) : leastI L ps.length i = (mtN ps i : Nat) := by
  have hp := pow_32 h5
  have hm := mtN_lt ps i
  rw [leastI_yes (steps_sw hn h0 h5 h hl hi), Int.toNat_natCast, Int.toNat_natCast]
  refine (Best.eq_least ?_).symm
  refine .inr ⟨_, rfl, Nat.zero_le _, hm, steps_agree hn h5 h hi (Nat.and_self _) _ (Nat.le_refl _), fun t _ ht he => ?_⟩
  rcases pop_sub (by omega) (by omega) (all_agree hn h5 h hall hi he) with h1 | ⟨h1, h2⟩
  · exact .inl h1
  · exact .inr ⟨h1, by omega⟩
theorem all_unseen {ps : List ByteArray} (hn : netB ps = true) (h0 : 0 < ps.length) (h5 : ps.length ≤ 5) {L : List (Int × Int)} (h : StepsOf ps L) (hl : L.length ≤ 32) (hall : ∀ s, s < 2 ^ ps.length → ∃ k, k < L.length ∧ (gS L k).1 = (s : Nat)) : unV L ps.length = [] := by
  rw [unV_yes (steps_seen hn h0 h5 h hl), unTo, List.map_eq_nil_iff, List.filter_eq_nil_iff]
  intro s hs
  obtain ⟨k, hk, e⟩ := hall s (by simpa using hs)
  rw [hasB_yes (s := (s : Nat)) hk (by rw [e]; simp)]
  decide
theorem all_rules {ps : List ByteArray} (hn : netB ps = true) (h0 : 0 < ps.length) (h5 : ps.length ≤ 5) {L : List (Int × Int)} (h : StepsOf ps L) (hl : L.length ≤ 32) (hall : ∀ s, s < 2 ^ ps.length → ∃ k, k < L.length ∧ (gS L k).1 = (s : Nat)) {i : Nat} (hi : i < ps.length) : allV L ps.length i = 1 := by
  rw [allV_yes (steps_sw hn h0 h5 h hl hi) (steps_agree hn h5 h hi (sub_all (mtN_lt ps _)) _ (Nat.le_refl _)), all_unseen hn h0 h5 h hl hall, List.length_nil, wrap_pow_nat 0 (by omega)]
  rfl
theorem ruleTo_at {zs : List (Int × Int)} {i r : Nat} (ha : Agree zs i r zs.length) {k : Nat} (hk : k < zs.length) : ruleTo zs i r (gS zs k).1.toNat zs.length = (valN i (gS zs k) : Nat) := by
  have := keyF_has zs i r zs.length ha k hk
  rw [ruleTo]
  rw [keyN] at this
  rw [this]; rfl
theorem joinF_congr {f g : Nat → ByteArray} (sep : ByteArray) : ∀ n, (∀ i, i < n → f i = g i) → joinF f sep n = joinF g sep n
  | 0, _ => rfl
  | n + 1, h => by rw [joinF, joinF, joinF_congr sep n fun i hi => h i (by omega), h n (Nat.lt_succ_self _)]
/-- From all steps the network itself is learned. -/
theorem all_learn {t : ByteArray} {ps : List ByteArray} (ht : cutsP 44 t = ps) (hn : netB ps = true) (h0 : 0 < ps.length) (h5 : ps.length ≤ 5) {L : List (Int × Int)} (h : StepsOf ps L) (hl : L.length ≤ 32) (hall : ∀ s, s < 2 ^ ps.length → ∃ k, k < L.length ∧ (gS L k).1 = (s : Nat)) : lnT L ps.length = t := by
  rw [lnT_yes (steps_poss hn h0 h5 h hl)]
  have e := text_cuts t
  rw [ht] at e
  conv => rhs; rw [← e]
  refine joinF_congr _ _ fun i hi => ?_
  rw [lnF, (lr_yes (all_least hn h0 h5 h hl hall hi)).1, gT_net hn hi]
  congr 1
  rw [ruleL]
  apply List.map_congr_left
  intro s hs
  obtain ⟨k, hk, e⟩ := hall s (by simpa using hs)
  have h1 := ruleTo_at (steps_agree hn h5 h hi (Nat.and_self _) _ (Nat.le_refl _)) hk
  rw [e, Int.toNat_natCast] at h1
  rw [h1, valN, h.to_ k hk, Int.toNat_natCast, e, Int.toNat_natCast]
  show ((bN (allTo ps s ps.length) i : Nat) : Int) = _
  rw [bN_bit hn h5 hi]

/-! What is learned from any steps. -/
theorem lnL_all {zs : List (Int × Int)} {m : Nat} : listF (lnF zs m) m = lnL zs m m := rfl
theorem ruleL_no (zs : List (Int × Int)) (i r N : Nat) : (44 : UInt8) ∉ (digT (ruleL zs i r N)).data.toList := digT_no _ fun z hz => by
  obtain ⟨s, hs, rfl⟩ := List.mem_map.1 hz
  exact ruleTo_bit _ _ _ _ _
theorem lr_least {zs : List (Int × Int)} {m i : Nat} (h : possV zs m = true) (hi : i < m) : ∃ r : Nat, leastI zs m i = r ∧ lrT zs m i = digT (ruleL zs i r (2 ^ m)) ∧ r < 2 ^ m ∧ Agree zs i r zs.length := by
  have h1 := poss_rule h i hi
  rw [lrB, decide_eq_true_iff] at h1
  obtain ⟨r, hr⟩ := Int.eq_ofNat_of_zero_le h1
  obtain ⟨_, h2, h3⟩ := leastI_of hr
  rw [Int.toNat_natCast] at h2 h3
  exact ⟨r, hr, (lr_yes hr).1, h2, h3⟩
theorem ln_cuts {zs : List (Int × Int)} {m : Nat} (h : possV zs m = true) : cutsP 44 (lnT zs m) = listF (lnF zs m) m := by
  have hm := poss_seen h
  rw [lnT_yes h, ← join_eq _ _ _ (by omega)]
  rw [show (⟨#[44]⟩ : ByteArray).data.toList = [44] from rfl, cuts_list]
  · rw [List.map_map]
    conv => rhs; rw [← List.map_id (listF (lnF zs m) m)]
    apply List.map_congr_left
    intro t _
    apply ByteArray.ext
    simp
  · intro e
    have := congrArg List.length e
    simp [listF_len] at this
    omega
  · intro t ht
    obtain ⟨u, hu, rfl⟩ := List.mem_map.1 ht
    obtain ⟨k, hk, rfl⟩ := List.mem_map.1 hu
    obtain ⟨r, _, e, _⟩ := lr_least h (show k < m by simpa using hk)
    rw [lnF, e]
    exact ruleL_no _ _ _ _
theorem ln_bit {zs : List (Int × Int)} {m i s r : Nat} (_ : possV zs m = true) (hi : i < m) (hs : s < 2 ^ m) (e : lrT zs m i = digT (ruleL zs i r (2 ^ m))) : ((bitN (listF (lnF zs m) m) i s : Nat) : Int) = ruleTo zs i r s zs.length := by
  have hg : gI (ruleL zs i r (2 ^ m)) s = ruleTo zs i r s zs.length := by simp [gI, ruleL, List.getD, hs]
  have hb := ruleTo_bit zs i r s zs.length
  rw [bitN, gT_listF hi, lnF, e, byD_of s (by rw [ruleL_len]; exact hs) (by rw [hg]; exact hb), hg]
  omega
theorem ln_net {zs : List (Int × Int)} {m : Nat} (h : possV zs m = true) : netB (listF (lnF zs m) m) = true := by
  have hm := poss_seen h
  refine netB_yes fun k hk => ?_
  rw [listF_len] at hk ⊢
  obtain ⟨r, _, e, _⟩ := lr_least h hk
  rw [gT_listF hk, lnF, e, digT_size, ruleL_len, inpV_pow m (by omega)]
  have : digB (digT (ruleL zs k r (2 ^ m))) = true := by
    rw [digB, List.all_eq_true]
    intro b hb
    simp only [digT] at hb
    obtain ⟨z, hz, rfl⟩ := List.mem_map.1 hb
    obtain ⟨s, _, rfl⟩ := List.mem_map.1 hz
    rcases ruleTo_bit zs k r s zs.length with e | e <;> rw [e] <;> rfl
  rw [this]
  simp
/-- What is learned makes the steps. -/
theorem ln_step {zs : List (Int × Int)} {m k : Nat} (h : possV zs m = true) (hk : k < zs.length) : allTo (listF (lnF zs m) m) (gS zs k).1.toNat m = (gS zs k).2.toNat := by
  have hm := poss_seen h
  have hs := h
  simp only [possV, Bool.and_eq_true] at hs
  obtain ⟨_, _, hsm, hlt⟩ := seen_parts hs.1
  have hsk := hsm k hk
  have hlk := hlt k hk
  rw [Int.toNat_natCast] at hlk
  have hc : ((2 ^ m : Nat) : Int) = 2 ^ m := by simp
  have hl : (listF (lnF zs m) m).length = m := listF_len _ _
  have hn := ln_net h
  have h1 := allTo_lt hn (by rw [hl]; omega) (gS zs k).1.toNat
  rw [hl] at h1
  refine eq_pow h1 (show (gS zs k).2.toNat < 2 ^ m by omega) fun j hj => ?_
  have h2 := allTo_bit hn (by rw [hl]; omega) (s := (gS zs k).1.toNat) (j := j) (by rw [hl]; exact hj)
  rw [hl] at h2
  obtain ⟨r, _, e, _, ha⟩ := lr_least h hj
  have h3 := ln_bit h hj (show (gS zs k).1.toNat < 2 ^ m by omega) e
  rw [ruleTo_at ha hk] at h3
  have h4 : bitN (listF (lnF zs m) m) j (gS zs k).1.toNat = bN (gS zs k).2.toNat j := by exact_mod_cast h3
  rw [h2, h4, bN_case]
  cases (gS zs k).2.toNat.testBit j <;> rfl
/-- No input matters in what is learned but the fewest that explain. -/
theorem ln_matter {zs : List (Int × Int)} {m i j r : Nat} (h : possV zs m = true) (hi : i < m) (hj : j < m) (hr : leastI zs m i = r) (ha : actB (listF (lnF zs m) m) j i = true) : r.testBit j = true := by
  have hm := poss_seen h
  have hl : (listF (lnF zs m) m).length = m := listF_len _ _
  obtain ⟨r', hr', e, _, _⟩ := lr_least h hi
  have : r' = r := by omega
  subst this
  obtain ⟨s, hs, hne⟩ := act_some ha
  rw [hl] at hs
  have hp := pow_32 (show m ≤ 5 by omega)
  cases hb : r'.testBit j with
  | true => rfl
  | false =>
    refine absurd ?_ hne
    have h0 := ln_bit h hi (setN_pow hs hj (show 0 < 2 by decide)) e
    have h1 := ln_bit h hi (setN_pow hs hj (show 1 < 2 by decide)) e
    have hk : setN s j 0 &&& r' = setN s j 1 &&& r' := by
      apply Nat.eq_of_testBit_eq
      intro x
      rw [Nat.testBit_and, Nat.testBit_and]
      by_cases ex : x = j
      · subst ex; rw [hb]; simp
      · by_cases hx : x < 5
        · rw [setN_bit (by omega) (by omega) (by decide) hx, setN_bit (by omega) (by omega) (by decide) hx, if_neg ex, if_neg ex]
        · have h5x : (2 : Nat) ^ 5 ≤ 2 ^ x := Nat.pow_le_pow_right (by decide) (by omega)
          rw [Nat.testBit_lt_two_pow (Nat.lt_of_lt_of_le (setN_lt (by omega) (by omega) (by decide)) h5x), Nat.testBit_lt_two_pow (Nat.lt_of_lt_of_le (setN_lt (by omega) (by omega) (by decide)) h5x)]
    rw [ruleTo, hk, ← ruleTo] at h0
    omega

end Go.Proofs.YtjkgcgbialiipaaDoor
