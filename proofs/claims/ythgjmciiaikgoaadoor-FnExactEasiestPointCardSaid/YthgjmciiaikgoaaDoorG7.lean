/- The term that holds a set of switches, and the least that forces a state: plain. -/
import Derived.Test.YthgjmciiaikgoaaDoorG6
namespace Go.Proofs.YthgjmciiaikgoaaDoor
open Go.RowKit

/-- The letters that hold the switches of a set at the values of a state. -/
def hlC (s set i : Nat) : UInt8 := if bN set i = 1 then UInt8.ofNat (48 + bN s i) else 42
def hlT (s set n : Nat) : List UInt8 := (List.range n).map (hlC s set)
theorem hlT_len (s set n : Nat) : (hlT s set n).length = n := by simp [hlT]
theorem hlT_get {s set n i : Nat} (h : i < n) : (hlT s set n).getD i 42 = hlC s set i := by simp [hlT, List.getD, h]
theorem hlC_held {s set i : Nat} (h : bN set i = 1) : hlC s set i = UInt8.ofNat (48 + bN s i) := by rw [hlC, if_pos h]
theorem hlC_free {s set i : Nat} (h : bN set i = 0) : hlC s set i = 42 := by rw [hlC, if_neg (by omega)]
theorem hlC_isT (s set i : Nat) : isT (hlC s set i) = true := by
  have := bN_lt s i
  unfold hlC
  split
  · rcases (show bN s i = 0 ∨ bN s i = 1 by omega) with e | e <;> rw [e] <;> decide
  · decide
theorem hlT_isT (s set n : Nat) : (hlT s set n).all isT = true := by
  rw [List.all_eq_true]
  intro c hc
  simp only [hlT, List.mem_map] at hc
  obtain ⟨i, _, rfl⟩ := hc
  exact hlC_isT s set i
theorem hlC_star {s set i : Nat} : hlC s set i = 42 ↔ bN set i = 0 := by
  have := bN_lt set i
  have h2 := bN_lt s i
  constructor
  · intro h
    by_cases e : bN set i = 1
    · rw [hlC_held e] at h
      rcases (show bN s i = 0 ∨ bN s i = 1 by omega) with e2 | e2 <;> rw [e2] at h <;> exact absurd h (by decide)
    · omega
  · exact hlC_free
/-- The set that such a term holds. -/
theorem heldTo_hl (s set n : Nat) : ∀ k, k ≤ n → heldTo (hlT s set n) k = set % 2 ^ k
  | 0, _ => by rw [Nat.pow_zero, Nat.mod_one]; rfl
  | k + 1, hk => by
    have ih := heldTo_hl s set n k (by omega)
    have hlt : set % 2 ^ k < 2 ^ k := Nat.mod_lt _ (Nat.two_pow_pos k)
    rw [heldTo_succ, hlT_get (by omega), ih, Nat.mod_pow_succ]
    have hb := bN_lt set k
    by_cases h : bN set k = 0
    · rw [if_pos (hlC_star.2 h)]
      unfold bN at h
      rw [h]; simp
    · rw [if_neg (fun e => h (hlC_star.1 e))]
      have h1 : set / 2 ^ k % 2 = 1 := by unfold bN at h hb; omega
      have h2 := Nat.two_pow_add_eq_or_of_lt hlt 1
      rw [Nat.mul_one] at h2
      rw [h1, Nat.mul_one, Nat.or_comm, Nat.add_comm, h2]
theorem heldTo_set {s set n : Nat} (h : set < 2 ^ n) : heldTo (hlT s set n) n = set := by
  rw [heldTo_hl s set n n (Nat.le_refl _), Nat.mod_eq_of_lt h]
theorem hl_next (s set k : Nat) (x : ByteArray) (h : x = ⟨#[hlC s set k]⟩) : (⟨(hlT s set k).toArray⟩ : ByteArray) ++ x = ⟨(hlT s set (k + 1)).toArray⟩ := by
  subst h
  apply ByteArray.ext
  simp [hlT, List.range_succ]

theorem pop_fin : ∀ (n : Fin 6) (t : Fin 32), t.val < 2 ^ n.val - 1 → popN t.val < popN (2 ^ n.val - 1) := by decide +kernel
theorem pop_lt {n t : Nat} (hn : n ≤ 5) (h : t < 2 ^ n - 1) : popN t < popN (2 ^ n - 1) := by
  have hp : (2 ^ n : Nat) ≤ 32 := Nat.pow_le_pow_right (n := 2) (by decide) hn
  exact pop_fin ⟨n, by omega⟩ ⟨t, by omega⟩ h

/-- Sets that force a state and are less than all. -/
def lhE (ps : List ByteArray) (s t : Nat) : Prop := fsQ ps (hlT s t ps.length) s = true ∧ popN t < popN (2 ^ ps.length - 1)
/-- The set of which the sides know: the best, or all. -/
def orAll (n : Nat) (b : Int) : Nat := if b = -1 then 2 ^ n - 1 else b.toNat
theorem orAll_no (n : Nat) : orAll n (-1) = 2 ^ n - 1 := by simp [orAll]
theorem orAll_yes (n s : Nat) : orAll n (s : Int) = s := by
  rw [orAll, if_neg (by omega), Int.toNat_natCast]
theorem orAll_lt {ps : List ByteArray} {s lo hi : Nat} {b : Int} (h : Best (lhE ps s) lo hi b) (hh : hi ≤ 2 ^ ps.length) : orAll ps.length b < 2 ^ ps.length := by
  have := Nat.two_pow_pos ps.length
  rcases h with ⟨rfl, _⟩ | ⟨t, rfl, _, h2, _⟩
  · rw [orAll_no]; omega
  · rw [orAll_yes]; omega
/-- Upward: one set more. -/
theorem lh_up_take {ps : List ByteArray} {s hi : Nat} {b : Int} (h : Best (lhE ps s) 0 hi b) (hp : popN hi < popN (orAll ps.length b)) (hq : fsQ ps (hlT s hi ps.length) s = true) : Best (lhE ps s) 0 (hi + 1) (hi : Nat) := by
  have hall : popN hi < popN (2 ^ ps.length - 1) := by
    rcases h with ⟨rfl, _⟩ | ⟨t, rfl, _, _, h3, _⟩
    · rw [orAll_no] at hp; exact hp
    · rw [orAll_yes] at hp; have := h3.2; omega
  exact h.take (Nat.zero_le _) ⟨hq, hall⟩ (fun t e => by rw [e, orAll_yes] at hp; exact hp)
theorem lh_up_skip {ps : List ByteArray} {s hi : Nat} {b : Int} (h : Best (lhE ps s) 0 hi b) (hp : ¬ popN hi < popN (orAll ps.length b) ∨ fsQ ps (hlT s hi ps.length) s = false) : Best (lhE ps s) 0 (hi + 1) b := by
  refine h.skip ?_
  rcases hp with hp | hp
  · rcases h with ⟨rfl, _⟩ | ⟨t, rfl, _⟩
    · rw [orAll_no] at hp
      exact .inl fun e => hp e.2
    · rw [orAll_yes] at hp
      exact .inr ⟨t, rfl, by omega⟩
  · exact .inl fun e => by rw [e.1] at hp; cases hp
/-- Downward: one set more. -/
theorem lh_down_take {ps : List ByteArray} {s lo : Nat} {b : Int} (h5 : ps.length ≤ 5) (h : Best (lhE ps s) (lo + 1) (2 ^ ps.length) b) (hlo : lo < 2 ^ ps.length) (hp : popN lo ≤ popN (orAll ps.length b)) (hq : fsQ ps (hlT s lo ps.length) s = true) :
    ∃ b', Best (lhE ps s) lo (2 ^ ps.length) b' ∧ orAll ps.length b' = lo := by
  by_cases he : lo = 2 ^ ps.length - 1
  · refine ⟨-1, .inl ⟨rfl, fun t h1 h2 e => ?_⟩, by rw [orAll_no, he]⟩
    obtain rfl : t = 2 ^ ps.length - 1 := by omega
    exact absurd e.2 (Nat.lt_irrefl _)
  · have hall := pop_lt (n := ps.length) (t := lo) h5 (by omega)
    exact ⟨(lo : Nat), h.takeDown hlo ⟨hq, hall⟩ (fun t e => by rw [e, orAll_yes] at hp; exact hp), orAll_yes _ _⟩
theorem lh_down_skip {ps : List ByteArray} {s lo : Nat} {b : Int} (_ : ps.length ≤ 5) (h : Best (lhE ps s) (lo + 1) (2 ^ ps.length) b) (_ : lo < 2 ^ ps.length) (hp : ¬ popN lo ≤ popN (orAll ps.length b) ∨ fsQ ps (hlT s lo ps.length) s = false) : Best (lhE ps s) lo (2 ^ ps.length) b := by
  refine h.skipDown ?_
  rcases hp with hp | hp
  · rcases h with ⟨rfl, _⟩ | ⟨t, rfl, _⟩
    · rw [orAll_no] at hp
      exact .inl fun e => hp (Nat.le_of_lt e.2)
    · rw [orAll_yes] at hp
      exact .inr ⟨t, rfl, by omega⟩
  · exact .inl fun e => by rw [e.1] at hp; cases hp
/-- The set of the least term. -/
noncomputable def lhS (ps : List ByteArray) (s : Nat) : Nat := orAll ps.length (least (lhE ps s) (2 ^ ps.length))
theorem lhS_eq {ps : List ByteArray} {s : Nat} {b : Int} (h : Best (lhE ps s) 0 (2 ^ ps.length) b) : orAll ps.length b = lhS ps s := by rw [lhS, h.eq_least]
theorem lhS_lt (ps : List ByteArray) (s : Nat) (b : Int) (h : Best (lhE ps s) 0 (2 ^ ps.length) b) : lhS ps s < 2 ^ ps.length := by
  rw [← lhS_eq h]; exact orAll_lt h (Nat.le_refl _)

end Go.Proofs.YthgjmciiaikgoaaDoor
