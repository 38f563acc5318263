/- Walks: JoinBlocks. -/
import Derived.Test.YtdjmammknlpplaaB1
import Derived.Deep.RegionWith
import Derived.Deep.RegionHeld3
import Derived.Deep.RegionLaw
import Derived.Lib.AppendZeros
namespace Go.Proofs.Ytdjmammknlpplaa
open Go.RowKit

/-- A part of a row is a row. -/
theorem RowI.take {w : World} {b o n c : Nat} {zs : List Int} (h : RowI w (some ⟨b, o, none⟩) n c zs) (k : Nat) (hk : k ≤ n) : RowI w (some ⟨b, o, none⟩) k c (zs.take k) := by
  obtain ⟨hl, hle, hcap, hnil, hsome, hcell⟩ := h
  refine ⟨by simp; omega, by omega, hcap, hnil, fun hn => hsome (by omega), fun b' o' e i hi => ?_⟩
  rw [hcell b' o' e i (by omega)]
  simp [gI, List.getD, hi]
theorem RowI.drop {w : World} {b o n c : Nat} {zs : List Int} (h : RowI w (some ⟨b, o, none⟩) n c zs) (k : Nat) (hk : k ≤ n) : RowI w (some ⟨b, o + k, none⟩) (n - k) (c - k) (zs.drop k) := by
  obtain ⟨hl, hle, hcap, hnil, hsome, hcell⟩ := h
  refine ⟨by simp; omega, by omega, by omega, fun e => (by cases e), fun hn => ?_, fun b' o' e i hi => ?_⟩
  · obtain ⟨b', o', e, hb⟩ := hsome (by omega)
    cases e
    exact ⟨b, o + k, rfl, hb⟩
  · cases e
    rw [Nat.add_assoc, hcell b o rfl (k + i) (by omega)]
    simp [gI, List.getD]
/-- The empty rest of a row whose end is the array's own. -/
theorem RowI.empty (w : World) (ao : Option Addr) (c : Nat) (hc : c ≤ maxLen) (hn : ao = none → c = 0) : RowI w ao 0 c [] :=
  ⟨rfl, Nat.zero_le _, hc, hn, fun h => absurd h (Nat.lt_irrefl _), fun _ _ _ _ hi => absurd hi (Nat.not_lt_zero _)⟩

theorem RowI.drew {w : World} {ao : Option Addr} {n c : Nat} {zs : List Int} (h : RowI w ao n c zs) : RowI w.drew ao n c zs := ⟨h.1, h.2.le, h.2.cap, h.2.nil, h.2.some, h.2.cell⟩

/-- 'append' of a row of ints to an owned slice, as one step of a region that draws. -/
theorem step_appI {w : World} {ops : Array Oper} {o : Oper} {a : Act} {K : Act → World → Prop} {Q : Exit → Act → World → Prop} {E : Prop} {B : Nat} {v : Value} {zs ys : List Int} {ao : Option Addr} {m c : Nat} (hown : OwnI w B v zs) (hr : RowI w ao m c ys)
    (hgd : o.guard = none) (s x : Operand) (ho : o.op = .call { callee := .builtin .append, args := #[s, x], argTypes := #[22, 22] }) (hs : a.eval s = v) (hx : a.eval x = .slice ao m c)
    (hbytes : (zs.length + m) * 8 ≤ 140737488355328) (hB : B ≤ w.heap.size)
    (h : ∀ v' w', OwnI w' B v' (zs ++ ys) → w.grownBy w' v.ownBlock → K (a.put o.dst v') w') : if Region.wanted o (yielded ops a.tmps) = true then Oper.wp Try.prog o a w K Q else E := by
  obtain ⟨i, hi, hz, hsz, hby⟩ := info_parts i3
  have hl : (ints ys).length = m * 1 := by simp [ints, hr.1]
  have h1 : ∀ u ∈ ints ys, u.oneCell' = true := ints_oneCell _ _
  have e1 : zs.length + m = (zs ++ ys).length := by simp [hr.1]
  have e2 : ints zs ++ ints ys = ints (zs ++ ys) := by simp [ints]
  rw [if_pos (by simp [Region.wanted, hgd])]
  cases hao : ao with
  | some ad =>
    subst hao
    refine wp_append_own w s x _ ho B 3 i (.int .i64 0) 1 8 Try.underlying22 hi hz hsz hby rfl (by decide) v _ _ hs hown ad m c (ints ys) hx hl (hr.cells ad rfl) h1 (by unfold maxLen; omega) hbytes hB ?_
    intro v' w' r1 r2 _
    exact h v' w' (by unfold OwnI; rw [← e1, ← e2]; exact r1) r2
  | none =>
    subst hao
    have hc0 := hr.2.nil rfl
    have hm0 : m = 0 := by have := hr.2.le; omega
    have hy : ys = [] := List.eq_nil_of_length_eq_zero (by rw [hr.1]; exact hm0)
    subst hc0 hm0 hy
    have hrun := run_append_owned_none (P := Try.prog) w B 22 o.type 3 i 1 Try.underlying22 hi v _ _ hown
    unfold Oper.wp
    simp [execOp, ho, resolve, invoke, builtin, hs, hx, hrun, Result.andThen]
    exact h v w (by simpa using hown) (World.grownBy.refl _ _)

def joinV (zs : List Int) (k : Nat) : List Int := zs.take k ++ [bits .or .i64 (gI zs k) (gI zs (k + 1))] ++ zs.drop (k + 2)

set_option maxHeartbeats 1000000 in
theorem jbS_yes (b o n c : Nat) (zs : List Int) (m : Int) (k : Nat) (w : World) (h : RowI w (some ⟨b, o, none⟩) n c zs) (hk : k + 2 ≤ n) (hv : blocksV zs m = true) (hn : n ≤ 1099511627776) :
    Calls Try.prog 29 #[.slice (some ⟨b, o, none⟩) n c, .int .i64 m, .int .i64 k] w fun e w' => ∃ v, e = .returned (.tuple #[v, .bool true]) ∧ OwnI w' w.heap.size v (joinV zs k) ∧ Below w.heap.size w w' := by
  obtain rfl := h.1
  have hml := h.2.cap
  have hml' := h.2.le
  unfold maxLen at hml
  have HB := Lib.hid (bvS_ok _ _ _ zs m w h)
  have hq := inB_iff.2 (show 0 ≤ (k : Int) ∧ (k : Int) ≤ (zs.length : Int) - 2 by omega)
  go_enter Try.func29, Try.ntmps29
  go_wp2_with fail
  refine HB.out.mono ?_
  rintro e w1 ⟨rfl, b1⟩
  rw [hv]
  have r1 := h.below b1 (Nat.le_refl _)
  go_wp2_with (first | (go_at_call 55; refine (l1In_ok _ _ _ _).mono ?_; rintro e w' ⟨rfl, rfl⟩) | (at_builtin; go_must (refine wpList_appI (OwnI.lit _ w.heap.size [] b1.size (by decide)) ((r1.take k (by omega)).below ((Below.refl _ _).alloc (Nat.le_refl _) _) (Nat.le_refl _)) rfl _ _ rfl rfl rfl (by simp; omega) (by have := b1.size; simp; omega) ?_); intro v2 w2 o2 g2))
  have c2 : Below w.heap.size w w2 := b1.trans (((Below.refl _ _).alloc b1.size _).grown g2 (by have := b1.size; simp; omega) (fun j hj => by cases hj; exact b1.size))
  have x0 : w2.cell? ⟨b, o + k, none⟩ = some (.int .i64 (gI zs k)) := (h.below c2 (Nat.le_refl _)).2.cell b o rfl k (by omega)
  have x1 : w2.cell? ⟨b, o + (k + 1), none⟩ = some (.int .i64 (gI zs (k + 1))) := (h.below c2 (Nat.le_refl _)).2.cell b o rfl (k + 1) (by omega)
  have hk0 : (k : Int) < (zs.length : Int) := by omega
  have hk1 : (k : Int) + 1 < (zs.length : Int) := by omega
  have hs1 : IntKind.i64.wrap ((k : Int) + 1) = (k : Int) + 1 := IntWalk.i64_in _ (by omega)
  have hs2 : ((k : Int) + 1).toNat = k + 1 := by omega
  have hs3 : 0 ≤ (k : Int) + 1 := by omega
  have hb1 : (([] ++ zs.take k).length + 1) * 8 ≤ 140737488355328 := by simp; omega
  have hb2 : ∀ q, w.heap.size ≤ (w2.alloc q).drew.heap.size := fun q => by have := c2.size; simp; omega
  have HB1 := Lib.hid hb1
  have HB2 := Lib.hid hb2
  clear r1 hb1 hb2
  go_region_law (refine step_appI (OwnI.drew (OwnI.alloc o2 _)) (RowI.drew (RowI.one _ _)) rfl _ _ rfl rfl rfl HB1.out (HB2.out _) ?_; intro v3 w3 o3 g3)
  all_goals
    have c3 : Below w.heap.size w w3 := (((c2.alloc c2.size _).drew).grown g3 (HB2.out _) (fun j hj => (World.ownsRow.lt o2 j hj).1))
    have r3 := h.below c3 (Nat.le_refl _)
    have hl3 : zs.length - (k + 2) = (zs.drop (k + 2)).length := by simp
    have hb3 : (([] ++ zs.take k ++ [bits .or .i64 (gI zs k) (gI zs (k + 1))]).length + (zs.length - (k + 2))) * 8 ≤ 140737488355328 := by simp; omega
    have HB3 := Lib.hid hb3
    have HL3 := Lib.hid hl3
    clear hb3 hl3 hs1 hs2 hs3
    by_cases hc : c = k + 2
    · have r4 : RowI w3 (some ⟨b, o, none⟩) (zs.length - (k + 2)) (k + 2 - (k + 2)) (zs.drop (k + 2)) := by
        rw [Nat.sub_self]
        have e0 : zs.length - (k + 2) = 0 := by omega
        have e1 : zs.drop (k + 2) = [] := List.drop_of_length_le (by omega)
        rw [e0, e1]
        exact RowI.empty _ _ _ (Nat.zero_le _) (fun e => by cases e)
      clear h r3
      go_wp2_with (at_builtin; refine wpList_appI o3 r4 rfl _ _ rfl rfl rfl HB3.out c3.size ?_; intro v5 w5 o5 g5)
      go_ret2
      exact ⟨v5, rfl, by simpa [joinV] using o5, c3.grown g5 c3.size (fun j hj => (World.ownsRow.lt o3 j hj).1)⟩
    · have r4 := r3.drop (k + 2) (by omega)
      have hcc : ¬ (k + 2 = c) := fun e => hc e.symm
      clear h r3
      go_wp2_with (at_builtin; refine wpList_appI o3 r4 rfl _ _ rfl rfl rfl HB3.out c3.size ?_; intro v5 w5 o5 g5)
      go_ret2
      exact ⟨v5, rfl, by simpa [joinV] using o5, c3.grown g5 c3.size (fun j hj => (World.ownsRow.lt o3 j hj).1)⟩

end Go.Proofs.Ytdjmammknlpplaa
