/- Walks and plain facts: several of my texts in one. -/
import Derived.Test.YtcmjogojlijdgaaGreatDoorGrA
import Derived.Deep.RegionWith
import Derived.Deep.RegionHeld3
import Derived.Deep.RegionLaw
import Derived.Lib.AppendZeros
/- Walks: JoinBlocks. -/
namespace Go.Proofs.YtcmjogojlijdgaaGreatDoor
open Go.RowKit

/-- A part of a row is a row. -/
theorem RowI.take {w : World} {b o n c : Nat} {zs : List Int} (h : RowI w (some ⟨b, o, none⟩) n c zs) (k : Nat) (hk : k ≤ n) : RowI w (some ⟨b, o, none⟩) k c (zs.take k) := by
  obtain ⟨hl, hle, hcap, hnil, hsome, hcell⟩ := h
  refine ⟨by simp; omega, by omega, hcap, hnil, fun hn => hsome (by omega), fun b' o' e i hi => ?_⟩
  rw [hcell b' o' e i (by omega)]
  simp [gI, List.getD, hi]
theorem RowI.drop {w : World} {b o n c : Nat} {zs : List Int} (h : RowI w (some ⟨b, o, none⟩) n c zs) (k : Nat) (hk : k ≤ n) : RowI w (some ⟨b, o + k, none⟩) (n - k) (c - k) (zs.drop k) := by
  obtain ⟨hl, hle, hcap, hnil, hsome, hcell⟩ := h
  refine ⟨by simp; omega, by omega, by omega, fun e => (by cases e), fun hn => ?_, fun b' o' e i hi => ?_⟩
  · obtain ⟨b', o', e, hb⟩ := hsome (by omega)
    cases e
    exact ⟨b, o + k, rfl, hb⟩
  · cases e
    rw [Nat.add_assoc, hcell b o rfl (k + i) (by omega)]
    simp [gI, List.getD]
/-- The empty rest of a row whose end is the array's own. -/
theorem RowI.empty (w : World) (ao : Option Addr) (c : Nat) (hc : c ≤ maxLen) (hn : ao = none → c = 0) : RowI w ao 0 c [] :=
  ⟨rfl, Nat.zero_le _, hc, hn, fun h => absurd h (Nat.lt_irrefl _), fun _ _ _ _ hi => absurd hi (Nat.not_lt_zero _)⟩

theorem RowI.drew {w : World} {ao : Option Addr} {n c : Nat} {zs : List Int} (h : RowI w ao n c zs) : RowI w.drew ao n c zs := ⟨h.1, h.2.le, h.2.cap, h.2.nil, h.2.some, h.2.cell⟩

/-- 'append' of a row of ints to an owned slice, as one step of a region that draws. -/
theorem step_appI {w : World} {ops : Array Oper} {o : Oper} {a : Act} {K : Act → World → Prop} {Q : Exit → Act → World → Prop} {E : Prop} {B : Nat} {v : Value} {zs ys : List Int} {ao : Option Addr} {m c : Nat} (hown : OwnI w B v zs) (hr : RowI w ao m c ys)
    (hgd : o.guard = none) (s x : Operand) (ho : o.op = .call { callee := .builtin .append, args := #[s, x], argTypes := #[24, 24] }) (hs : a.eval s = v) (hx : a.eval x = .slice ao m c)
    (hbytes : (zs.length + m) * 8 ≤ 140737488355328) (hB : B ≤ w.heap.size)
    (h : ∀ v' w', OwnI w' B v' (zs ++ ys) → w.grownBy w' v.ownBlock → K (a.put o.dst v') w') : if Region.wanted o (yielded ops a.tmps) = true then Oper.wp Tryz.prog o a w K Q else E := by
  obtain ⟨i, hi, hz, hsz, hby⟩ := info_parts i3
  have hl : (ints ys).length = m * 1 := by simp [ints, hr.1]
  have h1 : ∀ u ∈ ints ys, u.oneCell' = true := ints_oneCell _ _
  have e1 : zs.length + m = (zs ++ ys).length := by simp [hr.1]
  have e2 : ints zs ++ ints ys = ints (zs ++ ys) := by simp [ints]
  rw [if_pos (by simp [Region.wanted, hgd])]
  cases hao : ao with
  | some ad =>
    subst hao
    refine wp_append_own w s x _ ho B 3 i (.int .i64 0) 1 8 Tryz.underlying24 hi hz hsz hby rfl (by decide) v _ _ hs hown ad m c (ints ys) hx hl (hr.cells ad rfl) h1 (by unfold maxLen; omega) hbytes hB ?_
    intro v' w' r1 r2 _
    exact h v' w' (by unfold OwnI; rw [← e1, ← e2]; exact r1) r2
  | none =>
    subst hao
    have hc0 := hr.2.nil rfl
    have hm0 : m = 0 := by have := hr.2.le; omega
    have hy : ys = [] := List.eq_nil_of_length_eq_zero (by rw [hr.1]; exact hm0)
    subst hc0 hm0 hy
    have hrun := run_append_owned_none (P := Tryz.prog) w B 24 o.type 3 i 1 Tryz.underlying24 hi v _ _ hown
    unfold Oper.wp
    simp [execOp, ho, resolve, invoke, builtin, hs, hx, hrun, Result.andThen]
    exact h v w (by simpa using hown) (World.grownBy.refl _ _)

def joinV (zs : List Int) (k : Nat) : List Int := zs.take k ++ [bits .or .i64 (gI zs k) (gI zs (k + 1))] ++ zs.drop (k + 2)

end Go.Proofs.YtcmjogojlijdgaaGreatDoor
