/- Walks and plain facts of one law: several of my texts in one. -/
import Derived.Test.YtcmjogojlijdgaaGreatDoorGrJ
import Derived.Test.YtcmjogojlijdgaaGreatDoorGrB
import Derived.Deep.RegionHeld3
import Derived.Laws.EntriesVeiled
import Derived.Deep.RegionLaw
import Derived.Test.YtcmjogojlijdgaaGreatDoorGrF
import Derived.OwnWalk
import Derived.Test.YtcmjogojlijdgaaGreatDoorGrA
import Derived.Test.YtcmjogojlijdgaaGreatDoorGrC
/- Plain: a network without a switch that does not act on itself. -/
namespace Go.Proofs.YtcmjogojlijdgaaGreatDoor
open Go.RowKit

/-- A state with a switch of the value 0 put in; a state without a switch. -/
def putN (s i : Nat) : Nat := s % 2 ^ i + s / 2 ^ i * 2 ^ (i + 1)
def dropN (s i : Nat) : Nat := s % 2 ^ i + s / 2 ^ (i + 1) * 2 ^ i
theorem put_fin : ∀ (s : Fin 16) (i : Fin 5), putN s.val i.val < 32 ∧ ∀ j : Fin 5, (putN s.val i.val).testBit j.val = if j.val < i.val then s.val.testBit j.val else if j.val = i.val then false else s.val.testBit (j.val - 1) := by decide +kernel
theorem drop_fin : ∀ (s : Fin 32) (i : Fin 5), dropN s.val i.val < 16 ∧ ∀ j : Fin 4, (dropN s.val i.val).testBit j.val = if j.val < i.val then s.val.testBit j.val else s.val.testBit (j.val + 1) := by decide +kernel
theorem put_pow : ∀ (n : Fin 6) (s : Fin 16) (i : Fin 5), i.val < n.val → s.val < 2 ^ (n.val - 1) → putN s.val i.val < 2 ^ n.val := by decide +kernel
theorem drop_pow : ∀ (n : Fin 6) (s : Fin 32) (i : Fin 5), i.val < n.val → s.val < 2 ^ n.val → dropN s.val i.val < 2 ^ (n.val - 1) := by decide +kernel
/-- The switch that a switch of the smaller network was. -/
def skipN (i j : Nat) : Nat := if j < i then j else j + 1
/-- A state with a removed switch, as its rule has it. -/
def lfN (ps : List ByteArray) (i s : Nat) : Nat := setN (putN s i) i (bitN ps i (putN s i))
/-- The values of the smaller network. -/
def rdF (ps : List ByteArray) (i j s : Nat) : Nat := bitN ps (skipN i j) (lfN ps i s)
/-- The smaller network. -/
def rdP (ps : List ByteArray) (i : Nat) : List ByteArray := listF (digF (rdF ps i) (ps.length - 1)) (ps.length - 1)
theorem rdP_len (ps : List ByteArray) (i : Nat) : (rdP ps i).length = ps.length - 1 := listF_len _ _
/-- Whether a switch does not act on itself. -/
def SelfN (ps : List ByteArray) (i : Nat) : Prop := ∀ y z, y < 2 ^ ps.length → z < 2 ^ ps.length → (∀ j, j < ps.length → j ≠ i → y.testBit j = z.testBit j) → bitN ps i y = bitN ps i z

section
variable {ps : List ByteArray} {i : Nat} (hn : netB ps = true) (h5 : ps.length ≤ 5) (h1 : 1 < ps.length) (hi : i < ps.length)
include h5 h1 hi
theorem putN_lt {s : Nat} (hs : s < 2 ^ (ps.length - 1)) : putN s i < 2 ^ ps.length := by
  have h2 := Nat.pow_le_pow_right (n := 2) (by decide) (show ps.length - 1 ≤ 4 by omega)
  exact put_pow ⟨ps.length, by omega⟩ ⟨s, by omega⟩ ⟨i, by omega⟩ hi hs
theorem putN_bit {s j : Nat} (hs : s < 2 ^ (ps.length - 1)) (hj : j < ps.length) : (putN s i).testBit j = if j < i then s.testBit j else if j = i then false else s.testBit (j - 1) := by
  have h2 := Nat.pow_le_pow_right (n := 2) (by decide) (show ps.length - 1 ≤ 4 by omega)
  exact (put_fin ⟨s, by omega⟩ ⟨i, by omega⟩).2 ⟨j, by omega⟩
theorem dropN_lt {p : Nat} (hp : p < 2 ^ ps.length) : dropN p i < 2 ^ (ps.length - 1) := by
  have h2 := Nat.pow_le_pow_right (n := 2) (by decide) h5
  exact drop_pow ⟨ps.length, by omega⟩ ⟨p, by omega⟩ ⟨i, by omega⟩ hi hp
theorem dropN_bit {p j : Nat} (hp : p < 2 ^ ps.length) (hj : j < ps.length - 1) : (dropN p i).testBit j = p.testBit (skipN i j) := by
  have h2 := Nat.pow_le_pow_right (n := 2) (by decide) h5
  have := (drop_fin ⟨p, by omega⟩ ⟨i, by omega⟩).2 ⟨j, by omega⟩
  unfold skipN
  split
  · rename_i h
    rw [if_pos h] at this
    exact this
  · rename_i h
    rw [if_neg h] at this
    exact this
include hn
theorem lfN_lt {s : Nat} (hs : s < 2 ^ (ps.length - 1)) : lfN ps i s < 2 ^ ps.length :=
  setN_pow (putN_lt h5 h1 hi hs) hi (bitN_lt (netB_get hn i hi).1 _)
theorem lfN_bit {s j : Nat} (hs : s < 2 ^ (ps.length - 1)) (hj : j < ps.length) : (lfN ps i s).testBit j = if j = i then decide (bitN ps i (putN s i) = 1) else (putN s i).testBit j := by
  have h2 := Nat.pow_le_pow_right (n := 2) (by decide) h5
  have h3 := putN_lt h5 h1 hi hs
  exact setN_bit (by omega) (by omega) (bitN_lt (netB_get hn i hi).1 _) (by omega)
theorem lfN_skip {s j : Nat} (hs : s < 2 ^ (ps.length - 1)) (hj : j < ps.length - 1) : (lfN ps i s).testBit (skipN i j) = s.testBit j := by
  have hk : skipN i j < ps.length := by unfold skipN; split <;> omega
  rw [lfN_bit hn h5 h1 hi hs hk, putN_bit h5 h1 hi hs hk]
  unfold skipN
  by_cases h : j < i
  · rw [if_pos h, if_neg (by omega), if_pos h]
  · rw [if_neg h, if_neg (by omega), if_neg (by omega), if_neg (by omega)]
    rfl
theorem rdF_lt {j s : Nat} (hj : j < ps.length - 1) : rdF ps i j s < 2 := by
  have hk : skipN i j < ps.length := by unfold skipN; split <;> omega
  exact bitN_lt (netB_get hn _ hk).1 _
theorem rdP_net : netB (rdP ps i) = true := netB_net ⟨by omega, by omega⟩ fun _ _ hk _ => rdF_lt hn h5 h1 hi hk
theorem rdP_bit {j s : Nat} (hj : j < ps.length - 1) (hs : s < 2 ^ (ps.length - 1)) : bitN (rdP ps i) j s = rdF ps i j s := bitN_net hj hs (rdF_lt hn h5 h1 hi hj)
theorem rdP_cuts : cutsP 44 (netT (rdF ps i) (ps.length - 1)) = rdP ps i := cuts_net (by omega) fun _ _ hk _ => rdF_lt hn h5 h1 hi hk
variable (hself : SelfN ps i)
include hself
/-- The removed switch is at rest. -/
theorem lfN_self {s : Nat} (hs : s < 2 ^ (ps.length - 1)) : (lfN ps i s).testBit i = decide (bitN ps i (lfN ps i s) = 1) := by
  rw [lfN_bit hn h5 h1 hi hs hi, if_pos rfl]
  rw [hself (lfN ps i s) (putN s i) (lfN_lt hn h5 h1 hi hs) (putN_lt h5 h1 hi hs) fun j hj hne => by rw [lfN_bit hn h5 h1 hi hs hj, if_neg hne]]
/-- A lifted state is fixed just if the state is. -/
theorem lfN_fix {s : Nat} (hs : s < 2 ^ (ps.length - 1)) : allTo ps (lfN ps i s) ps.length = lfN ps i s ↔ allTo (rdP ps i) s (ps.length - 1) = s := by
  have hl := rdP_len ps i
  have hr := rdP_net hn h5 h1 hi
  have hlt := lfN_lt hn h5 h1 hi hs
  have hbit : ∀ j, j < ps.length - 1 → (allTo (rdP ps i) s (ps.length - 1)).testBit j = (allTo ps (lfN ps i s) ps.length).testBit (skipN i j) := fun j hj => by
    have hk : skipN i j < ps.length := by unfold skipN; split <;> omega
    have e1 := allTo_bit hr (by rw [hl]; omega) (s := s) (j := j) (by rw [hl]; exact hj)
    rw [hl, rdP_bit hn h5 h1 hi hj hs] at e1
    rw [e1, allTo_bit hn h5 hk]
    rfl
  constructor
  · intro h
    refine eq_pow (n := ps.length - 1) (by have := allTo_lt hr (by rw [hl]; omega) s; rwa [hl] at this) hs fun j hj => ?_
    rw [hbit j hj, h, lfN_skip hn h5 h1 hi hs hj]
  · intro h
    refine eq_pow (allTo_lt hn h5 _) hlt fun k hk => ?_
    by_cases e : k = i
    · subst e
      rw [allTo_bit hn h5 hk, lfN_self hn h5 h1 hi hself hs]
    · obtain ⟨j, hj, rfl⟩ : ∃ j, j < ps.length - 1 ∧ k = skipN i j := by
        by_cases hki : k < i
        · exact ⟨k, by omega, by unfold skipN; rw [if_pos hki]⟩
        · exact ⟨k - 1, by omega, by unfold skipN; rw [if_neg (by omega)]; omega⟩
      rw [← hbit j hj, h, lfN_skip hn h5 h1 hi hs hj]
/-- A fixed state is the lifted one of what is left of it. -/
theorem lfN_drop {p : Nat} (hp : p < 2 ^ ps.length) (h : allTo ps p ps.length = p) : lfN ps i (dropN p i) = p := by
  have hd := dropN_lt h5 h1 hi hp
  have hput : ∀ j, j < ps.length → j ≠ i → (putN (dropN p i) i).testBit j = p.testBit j := fun j hj hne => by
    have e := lfN_bit hn h5 h1 hi hd hj
    rw [if_neg hne] at e
    rw [← e]
    obtain ⟨j', hj', rfl⟩ : ∃ j', j' < ps.length - 1 ∧ j = skipN i j' := by
      by_cases hki : j < i
      · exact ⟨j, by omega, by unfold skipN; rw [if_pos hki]⟩
      · exact ⟨j - 1, by omega, by unfold skipN; rw [if_neg (by omega)]; omega⟩
    rw [lfN_skip hn h5 h1 hi hd hj', dropN_bit h5 h1 hi hp hj']
  refine eq_pow (lfN_lt hn h5 h1 hi hd) hp fun j hj => ?_
  rw [lfN_bit hn h5 h1 hi hd hj]
  split
  · rename_i e
    subst e
    rw [hself _ _ (putN_lt h5 h1 hj hd) hp hput, ← allTo_bit hn h5 hj, h]
  · rename_i hne
    exact hput j hj hne
end

end Go.Proofs.YtcmjogojlijdgaaGreatDoor
/- Walks: a switch put in, a switch dropped. -/
namespace Go.Proofs.YtcmjogojlijdgaaGreatDoor
open Go.RowKit

theorem put_val : ∀ (s : Fin 16) (i : Fin 5), bits .or .i64 (bits .and .i64 ((s.val : Nat) : Int) (wrap64 (wrap64 (2 ^ i.val) - 1))) (wrap64 (((s.val : Nat) : Int) / 2 ^ i.val * 2 ^ (i.val + 1))) = ((putN s.val i.val : Nat) : Int) := by decide +kernel
theorem drop_val : ∀ (s : Fin 32) (i : Fin 5), bits .or .i64 (bits .and .i64 ((s.val : Nat) : Int) (wrap64 (wrap64 (2 ^ i.val) - 1))) (wrap64 (((s.val : Nat) : Int) / 2 ^ (i.val + 1) * 2 ^ i.val)) = ((dropN s.val i.val : Nat) : Int) := by decide +kernel
theorem ret_int {a b : Int} (h : a = b) : Ending.returned (.int .i64 a) = .returned (.int .i64 b) := by rw [h]

set_option maxHeartbeats 2000000 in
theorem putI_ok (s i : Nat) (w : World) (hs : s < 16) (hi : i < 5) :
    Calls Tryz.prog 70 #[.int .i64 s, .int .i64 i] w fun e w' => e = .returned (.int .i64 (putN s i : Nat)) ∧ w = w' := by
  go_enter Tryz.func70, Tryz.ntmps70
  go_wp2
  go_ret
  exact ⟨ret_int (put_val ⟨s, hs⟩ ⟨i, hi⟩), rfl⟩
set_option maxHeartbeats 2000000 in
theorem dropI_ok (s i : Nat) (w : World) (hs : s < 32) (hi : i < 5) :
    Calls Tryz.prog 68 #[.int .i64 s, .int .i64 i] w fun e w' => e = .returned (.int .i64 (dropN s i : Nat)) ∧ w = w' := by
  go_enter Tryz.func68, Tryz.ntmps68
  go_wp2
  go_ret
  exact ⟨ret_int (drop_val ⟨s, hs⟩ ⟨i, hi⟩), rfl⟩

end Go.Proofs.YtcmjogojlijdgaaGreatDoor
/- Plain: the chain of removals; what is lifted. -/
namespace Go.Proofs.YtcmjogojlijdgaaGreatDoor
open Go.RowKit

/-- Whether a switch acts on itself; whether it can be removed; the first one that can. -/
def actS (ps : List ByteArray) (i : Nat) : Bool := upB (bitN ps i) i ps.length || dnB (bitN ps i) i ps.length
def freeB (ps : List ByteArray) (i : Nat) : Bool := decide (1 < ps.length) && !actS ps i
def fstF (ps : List ByteArray) : Option Nat := (List.range ps.length).find? (freeB ps)
theorem fstF_some {ps : List ByteArray} {i : Nat} (h : fstF ps = some i) : i < ps.length ∧ freeB ps i = true := by
  have h1 := List.find?_some h
  have h2 := List.mem_of_find?_eq_some h
  exact ⟨List.mem_range.1 h2, h1⟩
theorem free_one {ps : List ByteArray} {i : Nat} (h : freeB ps i = true) : 1 < ps.length ∧ actS ps i = false := by
  rw [freeB, Bool.and_eq_true, decide_eq_true_iff] at h
  exact ⟨h.1, by simpa using h.2⟩
theorem self_of {ps : List ByteArray} {i : Nat} (h5 : ps.length ≤ 5) (hi : i < ps.length) (h : actS ps i = false) : SelfN ps i := by
  have hp := pow_32 h5
  rw [actS, Bool.or_eq_false_iff] at h
  have h0 : ∀ s, s < 2 ^ ps.length → bitN ps i (setN s i 0) = bitN ps i (setN s i 1) := fun s hs => by
    have hu : bitU (bitN ps i) i s = false := by
      cases e : bitU (bitN ps i) i s with
      | false => rfl
      | true =>
        have := (anyTo_iff (bitU (bitN ps i) i) (2 ^ ps.length)).2 ⟨s, hs, e⟩
        rw [show anyTo (bitU (bitN ps i) i) (2 ^ ps.length) = upB (bitN ps i) i ps.length from rfl, h.1] at this
        cases this
    have hd : bitD (bitN ps i) i s = false := by
      cases e : bitD (bitN ps i) i s with
      | false => rfl
      | true =>
        have := (anyTo_iff (bitD (bitN ps i) i) (2 ^ ps.length)).2 ⟨s, hs, e⟩
        rw [show anyTo (bitD (bitN ps i) i) (2 ^ ps.length) = dnB (bitN ps i) i ps.length from rfl, h.2] at this
        cases this
    rw [bitU, decide_eq_false_iff_not] at hu
    rw [bitD, decide_eq_false_iff_not] at hd
    omega
  have hset : ∀ y, y < 2 ^ ps.length → bitN ps i y = bitN ps i (setN y i 0) := fun y hy => by
    cases hb : y.testBit i with
    | false => rw [setN_same (s := y) (i := i) (v := 0) (by omega) (by omega) (by decide) (by rw [hb]; rfl)]
    | true =>
      rw [h0 y hy, setN_same (s := y) (i := i) (v := 1) (by omega) (by omega) (by decide) (by rw [hb]; rfl)]
  intro y z hy hz hyz
  rw [hset y hy, hset z hz]
  congr 1
  refine eq_pow (setN_pow hy hi (by decide)) (setN_pow hz hi (by decide)) fun j hj => ?_
  rw [setN_bit (by omega) (by omega) (by decide) (by omega), setN_bit (by omega) (by omega) (by decide) (by omega)]
  split
  · rfl
  · rename_i hne
    exact hyz j hj hne

/-- The removals, at most so many, and what is left. -/
def redC : Nat → List ByteArray → List (List ByteArray × Nat) × List ByteArray
  | 0, ps => ([], ps)
  | f + 1, ps => match fstF ps with
    | none => ([], ps)
    | some i => ((ps, i) :: (redC f (rdP ps i)).1, (redC f (rdP ps i)).2)
theorem redC_none {ps : List ByteArray} (h : fstF ps = none) : ∀ f, redC f ps = ([], ps)
  | 0 => rfl
  | f + 1 => by rw [redC, h]
theorem redC_some {ps : List ByteArray} {i : Nat} (h : fstF ps = some i) (f : Nat) : redC (f + 1) ps = ((ps, i) :: (redC f (rdP ps i)).1, (redC f (rdP ps i)).2) := by rw [redC, h]
/-- A state with all removed switches. -/
def liftC : List (List ByteArray × Nat) → Nat → Nat
  | [], s => s
  | (ps, i) :: st, s => lfN ps i (liftC st s)
/-- What the chain keeps. -/
theorem redC_facts : ∀ (f : Nat) (ps : List ByteArray), netB ps = true → ps.length ≤ 5 → 0 < ps.length →
    netB (redC f ps).2 = true ∧ (redC f ps).2.length ≤ ps.length ∧ 0 < (redC f ps).2.length ∧
    (∀ s, s < 2 ^ (redC f ps).2.length → liftC (redC f ps).1 s < 2 ^ ps.length ∧ (allTo ps (liftC (redC f ps).1 s) ps.length = liftC (redC f ps).1 s ↔ allTo (redC f ps).2 s (redC f ps).2.length = s)) ∧
    ∀ p, p < 2 ^ ps.length → allTo ps p ps.length = p → ∃ s, s < 2 ^ (redC f ps).2.length ∧ liftC (redC f ps).1 s = p
  | 0, ps, hn, _, h0 => ⟨hn, Nat.le_refl _, h0, fun s hs => ⟨hs, Iff.rfl⟩, fun p hp _ => ⟨p, hp, rfl⟩⟩
  | f + 1, ps, hn, h5, h0 => by
    cases hf : fstF ps with
    | none =>
      rw [redC_none hf]
      exact ⟨hn, Nat.le_refl _, h0, fun s hs => ⟨hs, Iff.rfl⟩, fun p hp _ => ⟨p, hp, rfl⟩⟩
    | some i =>
      obtain ⟨hi, hfr⟩ := fstF_some hf
      obtain ⟨h1, hact⟩ := free_one hfr
      have hself := self_of h5 hi hact
      have hl := rdP_len ps i
      obtain ⟨a1, a2, a3, a4, a5⟩ := redC_facts f (rdP ps i) (rdP_net hn h5 h1 hi) (by rw [hl]; omega) (by rw [hl]; omega)
      rw [redC_some hf]
      simp only [liftC]
      rw [hl] at a2 a4 a5
      refine ⟨a1, by omega, a3, fun s hs => ?_, fun p hp hfx => ?_⟩
      · obtain ⟨b1, b2⟩ := a4 s hs
        exact ⟨lfN_lt hn h5 h1 hi b1, (lfN_fix hn h5 h1 hi hself b1).trans b2⟩
      · have hd := dropN_lt h5 h1 hi hp
        have hld := lfN_drop hn h5 h1 hi hself hp hfx
        have hfd := (lfN_fix hn h5 h1 hi hself hd).1 (by rw [hld]; exact hfx)
        obtain ⟨s, hs, e⟩ := a5 _ hd hfd
        exact ⟨s, hs, by rw [e, hld]⟩

end Go.Proofs.YtcmjogojlijdgaaGreatDoor
/- Walks: a state with a removed switch, of the program. -/
namespace Go.Proofs.YtcmjogojlijdgaaGreatDoor
open Go.RowKit

set_option maxHeartbeats 2000000 in
theorem lift_ok (ao : Option Addr) (c : Nat) (ps : List ByteArray) (i s : Nat) (w : World) (h : RowN w ao ps.length c ps.length (bitsN ps ps.length)) (hn : netB ps = true) (h5 : ps.length ≤ 5) (h1 : 1 < ps.length) (hi : i < ps.length) (hs : s < 2 ^ (ps.length - 1)) :
    Calls Tryz.prog 41 #[.slice ao ps.length c, .int .i64 i, .int .i64 s] w fun e w' => e = .returned (.int .i64 (lfN ps i s : Nat)) ∧ Below w.heap.size w w' := by
  have h2 := Nat.pow_le_pow_right (n := 2) (by decide) (show ps.length - 1 ≤ 4 by omega)
  have HP := Lib.hid (fun W => putI_ok s i W (by omega) (by omega))
  have hpl := putN_lt h5 h1 hi hs
  have HS := Lib.hid (stepOne_ok ao c ps (putN s i) i w h hn h5 hpl hi)
  have HL : Hid (setN (putN s i) i (bitN ps i (putN s i)) = lfN ps i s) := rfl
  rw [HL.out] at HS
  clear h hn h5 h1 hi hs h2 hpl
  go_enter Tryz.func41, Tryz.ntmps41
  go_wp2_with fail
  refine (HP.out _).mono ?_
  rintro e w1 ⟨rfl, rfl⟩
  go_wp2_with fail
  refine HS.out.mono ?_
  rintro e w2 ⟨rfl, b2⟩
  go_wp2_with fail
  go_ret
  exact ⟨rfl, b2⟩

end Go.Proofs.YtcmjogojlijdgaaGreatDoor
/- Walks: whether a switch can be removed. -/
namespace Go.Proofs.YtcmjogojlijdgaaGreatDoor
open Go.RowKit

/-- A whole table is read where a guard lets it. -/
theorem wpList_tabLoadAtG {ops : Array Oper} {rest : List Oper} {o : Oper} {a : Act} {w : World} {Q : Exit → Act → World → Prop} (hw : Region.wanted o (yielded ops a.tmps) = true) (x : Operand) (ho : o.op = .load 66 x)
    (b off : Nat) (n : Int) (bs : List Int) (hx : a.eval x = .pointer (some ⟨b, off, none⟩)) (hl : bs.length = 32) (hr : w.rangeAt b off (tabC n bs))
    (h : wpList Tryz.prog ops Q rest (a.put o.dst (tabV n bs)) w) : wpList Tryz.prog ops Q (o :: rest) a w := by
  obtain ⟨d, hd, hd2⟩ := tab_under
  unfold wpList
  rw [if_pos hw]
  exact .inl (wp_load_mid 66 x ho b off hx (tabC n bs) d hr hd hd2 (by rw [tabC_len, hl]; exact tab_size) h)

set_option maxHeartbeats 2000000 in
theorem removable_ok (ao : Option Addr) (c : Nat) (ps : List ByteArray) (i : Nat) (w : World) (h : RowN w ao ps.length c ps.length (bitsN ps ps.length)) (hn : netB ps = true) (h5 : ps.length ≤ 5) (hi : i < ps.length) :
    Calls Tryz.prog 39 #[.slice ao ps.length c, .int .i64 i] w fun e w' => e = .returned (.bool (freeB ps i)) ∧ Below w.heap.size w w' := by
  have HS := Lib.hid (fun W => sign_ok ps.length i _ _ W h5 hi (tabIs_of hn h5 hi))
  obtain ⟨q, o, rfl, hbo⟩ := h.some (by omega)
  have hbs : (bitsN ps ps.length)[i]? = some (eachL (byD (gT ps i)) (gT ps i).size) := by simp [bitsN, hi]
  have HRg := Lib.hid (h.range q o rfl i _ hbs)
  have HL := Lib.hid (eachL_len (byD (gT ps i)) (gT ps i).size)
  have HF : Hid (freeB ps i = (decide (1 < ps.length) && !(upB (bitN ps i) i ps.length || dnB (bitN ps i) i ps.length))) := rfl
  clear h hn hbs
  generalize eachL (byD (gT ps i)) (gT ps i).size = bs at HRg HL HS
  generalize upB (bitN ps i) i ps.length = u at HS HF
  generalize dnB (bitN ps i) i ps.length = d at HS HF
  have hsg := sgT_list u d
  by_cases h1 : 1 < ps.length
  · have h1w : (1 : Int) < (ps.length : Int) := by omega
    have hiw : (i : Int) < (ps.length : Int) := by omega
    rw [decide_eq_true h1, Bool.true_and, ← hsg] at HF
    clear h1 hsg
    generalize sgT u d = sg at HS HF
    go_enter Tryz.func39, Tryz.ntmps39
    go_wp2_with (first | (refine wpList_tabLoadAtG (by simp [Region.wanted, yielded]) _ rfl q (o + i * 33) (ps.length : Int) bs rfl HL.out HRg.out ?_))
    refine (HS.out _).mono ?_
    rintro e w5 ⟨rfl, b5⟩
    go_wp2_with fail
    go_ret
    exact ⟨by rw [HF.out]; rfl, b5⟩
  · have h1w : ¬ (1 : Int) < (ps.length : Int) := by omega
    rw [decide_eq_false h1, Bool.false_and] at HF
    clear hsg
    go_enter Tryz.func39, Tryz.ntmps39
    go_wp2_with fail
    go_ret
    exact ⟨by rw [HF.out]; rfl, Below.refl _ _⟩

end Go.Proofs.YtcmjogojlijdgaaGreatDoor
/- Walks: the network without a switch, of the program. -/
namespace Go.Proofs.YtcmjogojlijdgaaGreatDoor
open Go.RowKit

set_option maxRecDepth 100000 in
set_option maxHeartbeats 4000000 in
theorem remClo_ok (ao : Option Addr) (c : Nat) (ps : List ByteArray) (i s p1 p2 : Nat) (w : World) (h : RowN w ao ps.length c ps.length (bitsN ps ps.length)) (hn : netB ps = true) (h5 : ps.length ≤ 5) (h1 : 1 < ps.length) (hi : i < ps.length) (hs : s < 2 ^ (ps.length - 1))
    (hc1 : w.cell? ⟨p1, 0, none⟩ = some (.slice ao ps.length c)) (hc2 : w.cell? ⟨p2, 0, none⟩ = some (.int .i64 i)) :
    Calls Tryz.prog 67 #[.int .i64 s, .pointer (some ⟨p1, 0, none⟩), .pointer (some ⟨p2, 0, none⟩)] w fun e w' => e = .returned (.int .i64 (dropN (allTo ps (lfN ps i s) ps.length) i : Nat)) ∧ Below w.heap.size w w' := by
  have hp := pow_32 h5
  have l1 := World.block_lt_of_cell? w ⟨p1, 0, none⟩ hc1
  have l2 := World.block_lt_of_cell? w ⟨p2, 0, none⟩ hc2
  have hlt := lfN_lt hn h5 h1 hi hs
  have HLf := Lib.hid (fun W (hW : Below w.heap.size w W) => lift_ok ao c ps i s W (h.below hW (Nat.le_refl _)) hn h5 h1 hi hs)
  have HSt := Lib.hid (fun W (hW : Below w.heap.size w W) => step_ok ao c ps (lfN ps i s) W (h.below hW (Nat.le_refl _)) hn h5 hlt)
  have hal := allTo_lt hn h5 (lfN ps i s)
  have HDr := Lib.hid (fun W (_ : Below w.heap.size w W) => (dropI_ok (allTo ps (lfN ps i s) ps.length) i W (by omega) (by omega)).mono (fun e W' (hh : _ ∧ W = W') => (⟨hh.1, by rw [← hh.2]; exact Below.refl _ _⟩ : e = .returned (.int .i64 (dropN (allTo ps (lfN ps i s) ps.length) i : Nat)) ∧ Below W.heap.size W W')))
  clear h hn h5 h1 hi hs hp hlt hal
  generalize allTo ps (lfN ps i s) ps.length = u at HSt HDr ⊢
  generalize lfN ps i s = v at HLf HSt
  generalize dropN u i = d at HDr ⊢
  generalize ps.length = n at *
  go_enter Tryz.func67, Tryz.ntmps67
  go_wp2_with fail
  go_region_held3 (fun w' => Below w.heap.size w w' ∧ w'.cell? ⟨p1, 0, none⟩ = some (.slice ao n c) ∧ w'.cell? ⟨p2, 0, none⟩ = some (.int .i64 i))
    (first | exact ⟨⟨rfl, rfl, rfl, Nat.le_refl _, fun _ _ => rfl⟩, hc1, hc2⟩ | exact held2b (by assumption) b5 l1 l2)
    (first
      | (go_at_call 41; refine (HLf.out _ ?_).mono ?_; (exact (by assumption : _ ∧ _ ∧ _).1); rintro e w5 ⟨rfl, b5⟩)
      | (go_at_call 32; refine (HSt.out _ ?_).mono ?_; (exact (by assumption : _ ∧ _ ∧ _).1); rintro e w5 ⟨rfl, b5⟩)
      | (go_at_call 68; refine (HDr.out _ ?_).mono ?_; (exact (by assumption : _ ∧ _ ∧ _).1); rintro e w5 ⟨rfl, b5⟩))
  have HB5 : Hid (Below w.heap.size w w5) := (by assumption : Below w.heap.size w w5 ∧ _ ∧ _).1
  go_wp2_with fail
  go_ret
  exact ⟨rfl, HB5.out⟩

end Go.Proofs.YtcmjogojlijdgaaGreatDoor
/- Walks: the network without a switch, of the program, whole. -/
namespace Go.Proofs.YtcmjogojlijdgaaGreatDoor
open Go.RowKit

/-- The step of the smaller network. -/
def rdS (ps : List ByteArray) (i s : Nat) : Nat := dropN (allTo ps (lfN ps i s) ps.length) i
theorem eachL_cg {f g : Nat → Int} {N : Nat} (h : ∀ s, s < N → f s = g s) : eachL f N = eachL g N := by
  unfold eachL
  apply List.map_congr_left
  intro j _
  by_cases hj : j < N
  · rw [if_pos hj, if_pos hj, h j hj]
  · rw [if_neg hj, if_neg hj]
theorem rd_bits {ps : List ByteArray} {i : Nat} (hn : netB ps = true) (h5 : ps.length ≤ 5) (h1 : 1 < ps.length) (hi : i < ps.length) : fromL (rdS ps i) (ps.length - 1) (ps.length - 1) = bitsN (rdP ps i) (ps.length - 1) := by
  have hr := rdP_net hn h5 h1 hi
  have hl := rdP_len ps i
  unfold fromL bitsN
  apply List.map_congr_left
  intro j hj
  have hj' : j < ps.length - 1 := by simpa using hj
  have hk : skipN i j < ps.length := by unfold skipN; split <;> omega
  rw [net_size hr j (by rw [hl]; exact hj'), hl]
  refine eachL_cg fun s hs => ?_
  rw [bitN_eq (netB_get hr j (by rw [hl]; exact hj')).1, rdP_bit hn h5 h1 hi hj' hs]
  have e1 := dropN_bit h5 h1 hi (allTo_lt hn h5 (lfN ps i s)) hj'
  rw [allTo_bit hn h5 hk] at e1
  have e2 := bit_test (rdS ps i s) j
  rw [show rdS ps i s / 2 ^ j % 2 = bN (rdS ps i s) j from rfl, show (rdS ps i s).testBit j = _ from e1] at e2
  rw [e2]
  have e3 := rdF_lt hn h5 h1 hi (s := s) hj'
  unfold rdF at e3 ⊢
  by_cases e : bitN ps (skipN i j) (lfN ps i s) = 1
  · rw [e]; rfl
  · have : bitN ps (skipN i j) (lfN ps i s) = 0 := by omega
    rw [this]; rfl

set_option maxRecDepth 100000 in
set_option maxHeartbeats 4000000 in
theorem remove_ok (ao : Option Addr) (c : Nat) (ps : List ByteArray) (i : Nat) (w : World) (h : RowN w ao ps.length c ps.length (bitsN ps ps.length)) (hn : netB ps = true) (h5 : ps.length ≤ 5) (h1 : 1 < ps.length) (hi : i < ps.length) :
    Calls Tryz.prog 40 #[.slice ao ps.length c, .int .i64 i] w fun e w' => ∃ v, e = .returned v ∧ OwnN w' w.heap.size v ((ps.length - 1 : Nat) : Int) (bitsN (rdP ps i) (ps.length - 1)) ∧ Below w.heap.size w w' := by
  have hp := pow_32 h5
  have hp2 := Nat.pow_le_pow_right (n := 2) (by decide) (show ps.length - 1 ≤ 4 by omega)
  have hmf : ∀ (fn : Fn) (first cap : Array Value) (w : World), (Instr.makeFunc fn first cap).run Tryz.prog w = .ok (.func fn first cap) w := fun _ _ _ _ => rfl
  have b1 : Below w.heap.size w ((w.alloc (.cells #[.slice ao ps.length c] 37)).alloc (.cells #[.int .i64 i] 3)) := ((Below.refl _ _).alloc (Nat.le_refl _) _).alloc (by simp) _
  have c1 : ((w.alloc (.cells #[.slice ao ps.length c] 37)).alloc (.cells #[.int .i64 i] 3)).cell? ⟨w.heap.size, 0, none⟩ = some (.slice ao ps.length c) :=
    (((Below.refl (w.heap.size + 1) (w.alloc (.cells #[.slice ao ps.length c] 37))).alloc (by simp) (.cells #[.int .i64 i] 3)).cell (p := ⟨w.heap.size, 0, none⟩) (Nat.lt_succ_self _)).trans ((Blk.new w 37 [.slice ao ps.length c]).cell (i := 0) rfl)
  have c2 : ((w.alloc (.cells #[.slice ao ps.length c] 37)).alloc (.cells #[.int .i64 i] 3)).cell? ⟨w.heap.size + 1, 0, none⟩ = some (.int .i64 i) := by
    simp
  obtain ⟨m, hm⟩ : ∃ m, ps.length - 1 = m := ⟨_, rfl⟩
  have hml : ps.length = m + 1 := by omega
  have HFs := Lib.hid (fun W (hW : Below w.heap.size w W) (d1 : W.cell? ⟨w.heap.size, 0, none⟩ = some (.slice ao ps.length c)) (d2 : W.cell? ⟨w.heap.size + 1, 0, none⟩ = some (.int .i64 i)) =>
    fromStep_ok (ps.length - 1) (by omega) 67 #[.pointer (some ⟨w.heap.size, 0, none⟩), .pointer (some ⟨w.heap.size + 1, 0, none⟩)] (rdS ps i) W (fun _ _ => by kernel_rfl)
      (fun s hs W' hW' => remClo_ok ao c ps i s w.heap.size (w.heap.size + 1) W' (h.below (hW.trans (hW'.mono hW.size)) (Nat.le_refl _)) hn h5 h1 hi hs
        ((hW'.cell (p := ⟨w.heap.size, 0, none⟩) (World.block_lt_of_cell? _ ⟨w.heap.size, 0, none⟩ d1)).trans d1) ((hW'.cell (p := ⟨w.heap.size + 1, 0, none⟩) (World.block_lt_of_cell? _ ⟨w.heap.size + 1, 0, none⟩ d2)).trans d2))
      (fun s hs => Nat.lt_of_lt_of_le (dropN_lt h5 h1 hi (allTo_lt hn h5 _)) (by omega)))
  rw [rd_bits hn h5 h1 hi] at HFs
  have HF1 := Lib.hid (HFs.out _ b1 c1 c2)
  have B1 := Lib.hid b1
  have hwr : wrap64 (m : Int) = (m : Int) := by unfold wrap64; omega
  clear h hn h5 hi b1 c1 c2 HFs hp hp2
  rw [hm] at HF1 ⊢
  rw [hml] at HF1 B1 ⊢
  clear hm hml
  generalize bitsN (rdP ps i) m = bss at HF1 ⊢
  go_enter Tryz.func40, Tryz.ntmps40
  go_wp2_with fail
  refine HF1.out.mono ?_
  rintro e w2 ⟨v, rfl, o2, b2⟩
  have hz := B1.out.size
  have B2 := Lib.hid (B1.out.trans (b2.mono hz))
  have O2 := Lib.hid (o2.base hz)
  clear o2 b2
  go_wp2_with fail
  go_ret
  exact ⟨_, rfl, O2.out, B2.out⟩

end Go.Proofs.YtcmjogojlijdgaaGreatDoor
/- Walks: the reference's lift, its choice of a switch. -/
namespace Go.Proofs.YtcmjogojlijdgaaGreatDoor
open Go.RowKit

theorem put_val9 : ∀ (s : Fin 16) (i : Fin 5), bits .or .i64 (bits .or .i64 (bits .and .i64 ((s.val : Nat) : Int) (wrap64 (wrap64 (2 ^ i.val) - 1))) 0) (wrap64 (((s.val : Nat) : Int) / 2 ^ i.val * 2 ^ (i.val + 1))) = ((putN s.val i.val : Nat) : Int) := by decide +kernel

set_option maxHeartbeats 2000000 in
theorem l9Put_ok (s i : Nat) (w : World) (hs : s < 16) (hi : i < 5) :
    Calls Tryz.prog 91 #[.int .i64 s, .int .i64 i, .int .i64 0] w fun e w' => e = .returned (.int .i64 (putN s i : Nat)) ∧ w = w' := by
  have hw1 : IntKind.u64.wrap (i : Int) = (i : Int) := by rw [IntKind.wrap_u64]; omega
  go_enter Tryz.func91, Tryz.ntmps91
  go_wp2
  go_ret
  exact ⟨ret_int (put_val9 ⟨s, hs⟩ ⟨i, hi⟩), rfl⟩

set_option maxHeartbeats 2000000 in
theorem l9Lift_ok (ao : Option Addr) (n c : Nat) (ps : List ByteArray) (i s : Nat) (w : World) (h : RowT w ao n c ps) (hn : netB ps = true) (h5 : n ≤ 5) (h1 : 1 < n) (hi : i < n) (hs : s < 2 ^ (n - 1)) :
    Calls Tryz.prog 54 #[.slice ao n c, .int .i64 i, .int .i64 s] w fun e w' => e = .returned (.int .i64 (lfN ps i s : Nat)) ∧ w = w' := by
  obtain rfl := h.1
  have h2 := Nat.pow_le_pow_right (n := 2) (by decide) (show ps.length - 1 ≤ 4 by omega)
  have hd := (netB_get hn i hi).1
  have hpl := putN_lt h5 h1 hi hs
  have hp := pow_32 h5
  have HP := Lib.hid (fun W => l9Put_ok s i W (by omega) (by omega))
  have HAt := Lib.hid (fun W => l1At_ok (gT ps i) (putN s i) W (by rw [net_size hn i hi]; exact hpl))
  have HSet := Lib.hid (fun W => l1Set_ok (putN s i) i (bitN ps i (putN s i)) W (by omega) (by omega) (bitN_lt hd _))
  rw [bitN_eq hd] at HAt
  have HL : Hid (setN (putN s i) i (bitN ps i (putN s i)) = lfN ps i s) := rfl
  rw [HL.out] at HSet
  obtain ⟨q, o, rfl, hbo⟩ := h.2.some (by omega)
  have hcx := h.2.cell q o rfl i hi
  have hlt' : (i : Int) < (ps.length : Int) := by omega
  clear h hn hd h2 hp hpl hs
  generalize putN s i = p at HP HAt HSet HL
  generalize bitN ps i p = b at HAt HSet HL
  go_enter Tryz.func54, Tryz.ntmps54
  go_wp2_with fail
  refine (HP.out _).mono ?_
  rintro e w1 ⟨rfl, rfl⟩
  go_wp2_with fail
  refine (HAt.out _).mono ?_
  rintro e w1 ⟨rfl, rfl⟩
  go_wp2_with fail
  refine (HSet.out _).mono ?_
  rintro e w1 ⟨rfl, rfl⟩
  go_wp2_with fail
  go_ret
  exact ⟨rfl, rfl⟩

theorem sgV_zero (u d : Bool) : (((sgV u d : Nat) : Int) == 0) = !(u || d) := by cases u <;> cases d <;> rfl

set_option maxHeartbeats 2000000 in
theorem l9Free_ok (ao : Option Addr) (n c : Nat) (ps : List ByteArray) (i : Nat) (w : World) (h : RowT w ao n c ps) (hn : netB ps = true) (h5 : n ≤ 5) (hi : i < n) :
    Calls Tryz.prog 82 #[.slice ao n c, .int .i64 i] w fun e w' => e = .returned (.bool (freeB ps i)) ∧ w = w' := by
  obtain rfl := h.1
  have HS := Lib.hid (fun W (hW : RowT W ao ps.length c ps) => l7Sign_ok ao ps.length c ps i i W hW hn h5 hi hi)
  have HF : Hid (freeB ps i = (decide (1 < ps.length) && !(upB (bitN ps i) i ps.length || dnB (bitN ps i) i ps.length))) := rfl
  generalize upB (bitN ps i) i ps.length = u at HS HF
  generalize dnB (bitN ps i) i ps.length = d at HS HF
  have hsg := sgV_zero u d
  by_cases h1 : 1 < ps.length
  · have h1w : (1 : Int) < (ps.length : Int) := by omega
    rw [decide_eq_true h1, Bool.true_and, ← hsg] at HF
    have HS1 := Lib.hid (HS.out w h)
    clear h1 hsg hn h HS
    generalize sgV u d = sg at HS1 HF
    go_enter Tryz.func82, Tryz.ntmps82
    go_wp2_with fail
    refine HS1.out.mono ?_
    rintro e w5 ⟨rfl, rfl⟩
    go_wp2_with fail
    go_ret
    exact ⟨retb HF.out.symm, rfl⟩
  · have h1w : ¬ (1 : Int) < (ps.length : Int) := by omega
    rw [decide_eq_false h1, Bool.false_and] at HF
    clear hsg hn h HS
    go_enter Tryz.func82, Tryz.ntmps82
    go_wp2_with fail
    go_ret
    exact ⟨retb HF.out.symm, rfl⟩

/-- The first switch that can be removed, or -1. -/
def fstI (ps : List ByteArray) : Int := match fstF ps with | some i => (i : Int) | none => -1
theorem find_range {p : Nat → Bool} {n k : Nat} (hk : k < n) (hp : p k = true) (h : ∀ j, j < k → p j = false) : (List.range n).find? p = some k := by
  rw [List.find?_eq_some_iff_getElem]
  refine ⟨hp, k, by simpa using hk, by simp, fun j hj => ?_⟩
  simp [h j hj]
theorem fstF_at {ps : List ByteArray} {k : Nat} (hk : k < ps.length) (hp : freeB ps k = true) (h : ∀ j, j < k → freeB ps j = false) : fstF ps = some k := find_range hk hp h
theorem fstF_not {ps : List ByteArray} (h : ∀ j, j < ps.length → freeB ps j = false) : fstF ps = none := by
  rw [fstF, List.find?_eq_none]
  intro j hj
  rw [h j (List.mem_range.1 hj)]
  decide
theorem fstI_at {ps : List ByteArray} {k : Nat} (h : fstF ps = some k) : fstI ps = (k : Int) := by rw [fstI, h]
theorem fstI_not {ps : List ByteArray} (h : fstF ps = none) : fstI ps = -1 := by rw [fstI, h]

set_option maxHeartbeats 2000000 in
theorem l9First_ok (ao : Option Addr) (n c : Nat) (ps : List ByteArray) (w : World) (h : RowT w ao n c ps) (hn : netB ps = true) (h5 : n ≤ 5) :
    Calls Tryz.prog 44 #[.slice ao n c] w fun e w' => e = .returned (.int .i64 (fstI ps)) ∧ w = w' := by
  obtain rfl := h.1
  have HF := Lib.hid (fun i (hi : i < ps.length) => l9Free_ok ao ps.length c ps i w h hn h5 hi)
  clear h hn
  go_enter Tryz.func44, Tryz.ntmps44
  go_wp2_with fail
  go_loop [3] (fun q => ∃ k : Nat, k ≤ ps.length ∧ q = .int .i64 k ∧ ∀ j, j < k → freeB ps j = false) (fun q => ps.length - (intOf q).toNat)
  case atStart => exact ⟨0, Nat.zero_le _, rfl, fun j hj => absurd hj (Nat.not_lt_zero _)⟩
  case round =>
    obtain ⟨k, hk, rfl, hall⟩ := hrel
    have HA := Lib.hid hall
    clear hall
    by_cases hlt : k < ps.length
    · have hlt' : (k : Int) < (ps.length : Int) := by omega
      have HFk := Lib.hid (HF.out k hlt)
      cases hf : freeB ps k with
      | true =>
        have HV := Lib.hid (fstI_at (fstF_at hlt hf HA.out))
        rw [hf] at HFk
        clear hf
        go_wp2_with fail
        refine HFk.out.mono ?_
        rintro e w1 ⟨rfl, rfl⟩
        go_wp2_with fail
        go_ret
        exact ⟨reti HV.out.symm, rfl⟩
      | false =>
        have HG := Lib.hid hf
        rw [hf] at HFk
        clear hf
        go_wp2_with fail
        refine HFk.out.mono ?_
        rintro e w1 ⟨rfl, rfl⟩
        go_wp2_with fail
        go_round
        case rel => exact ⟨k + 1, by omega, by go_num, fun j hj => by
          by_cases e : j = k
          · rw [e]; exact HG.out
          · exact HA.out j (by omega)⟩
        case measure => simp [intOf]; omega
    · obtain rfl : k = ps.length := by omega
      have HV := Lib.hid (fstI_not (fstF_not HA.out))
      have hlt' : ¬ (ps.length : Int) < (ps.length : Int) := by omega
      go_wp2_with fail
      go_ret
      exact ⟨reti HV.out.symm, rfl⟩

end Go.Proofs.YtcmjogojlijdgaaGreatDoor
/- Walks: the reference's network without a switch. -/
namespace Go.Proofs.YtcmjogojlijdgaaGreatDoor
open Go.RowKit

/-- How many of the first k switches are kept. -/
def kpN (i k : Nat) : Nat := if k ≤ i then k else k - 1
theorem kp_at (i : Nat) : kpN i (i + 1) = kpN i i := by simp [kpN]
theorem kp_next {i k : Nat} (h : k ≠ i) : kpN i (k + 1) = kpN i k + 1 := by unfold kpN; split <;> split <;> omega
theorem kp_skip {i k : Nat} (h : k ≠ i) : skipN i (kpN i k) = k := by unfold skipN kpN; split <;> split <;> omega
theorem kp_lt {i k n : Nat} (h : k ≠ i) (hi : i < n) (hk : k < n) : kpN i k < n - 1 := by unfold kpN; split <;> omega
theorem kp_le {i k n : Nat} (hi : i < n) (hk : k ≤ n) : kpN i k ≤ n - 1 := by unfold kpN; split <;> omega
theorem kp_end {i n : Nat} (hi : i < n) : kpN i n = n - 1 := by unfold kpN; split <;> omega
theorem below_d1 (w : World) : Below w.heap.size w w.drew := ⟨rfl, rfl, rfl, Nat.le_refl _, fun _ _ => rfl⟩

theorem below_al {B : Nat} {w w' : World} (h : Below B w w') (hB : B ≤ w'.heap.size) (o : Obj) : Below B w (w'.alloc o).drew := (h.alloc hB o).trans ((below_d1 _).mono (by simp; omega))

set_option maxRecDepth 100000 in
set_option maxHeartbeats 8000000 in
theorem l9Remove_ok (ao : Option Addr) (n c : Nat) (ps : List ByteArray) (i : Nat) (w : World) (h : RowT w ao n c ps) (hn : netB ps = true) (h5 : n ≤ 5) (h1 : 1 < n) (hi : i < n) :
    Calls Tryz.prog 45 #[.slice ao n c, .int .i64 i] w fun e w' => ∃ v, e = .returned v ∧ OwnT w' w.heap.size v (rdP ps i) ∧ Below w.heap.size w w' := by
  obtain rfl := h.1
  have hp : (2 ^ ps.length : Nat) ≤ 32 := Nat.pow_le_pow_right (n := 2) (by decide) h5
  have h2 := Nat.pow_le_pow_right (n := 2) (by decide) (show ps.length - 1 ≤ 4 by omega)
  have hN1 : 0 < 2 ^ (ps.length - 1) := Nat.two_pow_pos _
  have hN2 : 2 ^ ps.length = 2 * 2 ^ (ps.length - 1) := by
    rw [show ps.length = (ps.length - 1) + 1 by omega, Nat.pow_succ, Nat.add_sub_cancel]; omega
  have HA := Lib.hid (fun W => l3All_ok ao ps.length c W h5)
  have HLf := Lib.hid (fun s W (hs : s < 2 ^ (ps.length - 1)) (hW : Below w.heap.size w W) => l9Lift_ok ao ps.length c ps i s W (h.below hW (Nat.le_refl _)) hn h5 h1 hi hs)
  have HAt := Lib.hid (fun k s W (hk : k < ps.length) (hs : s < 2 ^ (ps.length - 1)) => (show Calls Tryz.prog 83 #[.string (gT ps k), .int .i64 (lfN ps i s : Nat)] W fun e w' => e = .returned (.int .i64 (bitN ps k (lfN ps i s) : Nat)) ∧ W = w' by
    have := l1At_ok (gT ps k) (lfN ps i s) W (by rw [net_size hn k hk]; exact lfN_lt hn h5 h1 hi hs)
    rw [bitN_eq (netB_get hn k hk).1] at this
    exact this))
  have HDf : Hid (∀ k, digF (rdF ps i) (ps.length - 1) k = digT (valsL (rdF ps i) k (2 ^ (ps.length - 1)))) := fun k => rfl
  have HRd : Hid (∀ k s, k ≠ i → rdF ps i (kpN i k) s = bitN ps k (lfN ps i s)) := fun k s hk => by rw [rdF, kp_skip hk]
  have HRl := Lib.hid (fun k s (hk : k < ps.length - 1) => rdF_lt (s := s) hn h5 h1 hi hk)
  have HDz := Lib.hid (fun k => digF_size (rdF ps i) (ps.length - 1) k)
  have HEnd : Hid (rdP ps i = listF (digF (rdF ps i) (ps.length - 1)) (ps.length - 1)) := rfl
  have b0 : Below w.heap.size w (w.alloc (.cells #[] 9)) := (Below.refl _ _).alloc (Nat.le_refl _) _
  have B0 := Lib.hid b0
  have O0 := Lib.hid (OwnT.lit w w.heap.size [] (Nat.le_refl _) (by decide))
  have HROW := Lib.hid h
  rw [hN2] at HA
  clear hn b0 h hp hN2
  generalize (2 ^ (ps.length - 1) : Nat) = N at h2 HA HLf HAt HDf HDz hN1
  obtain ⟨top, htop0⟩ : ∃ top : Int, top = ((2 * N - 1 : Nat) : Int) := ⟨_, rfl⟩
  have htop : top / 2 = ((N - 1 : Nat) : Int) := by omega
  rw [← htop0] at HA
  obtain ⟨top2, htop2⟩ : ∃ top2 : Int, top2 = ((N - 1 : Nat) : Int) := ⟨_, rfl⟩
  rw [← htop2] at htop
  have HT2 := Lib.hid htop2
  have htp : 0 ≤ top ∧ top ≤ 32 := by omega
  clear htop0 htop2
  go_enter Tryz.func45, Tryz.ntmps45
  go_wp2_with fail
  go_loopw [5, 6] (fun v q wr => ∃ k : Nat, k ≤ ps.length ∧ q = .int .i64 k ∧ OwnT wr w.heap.size v (listF (digF (rdF ps i) (ps.length - 1)) (kpN i k)) ∧ Below w.heap.size w wr) (fun _ q _ => ps.length - (intOf q).toNat)
  case atStart => exact ⟨0, Nat.zero_le _, rfl, O0.out, B0.out⟩
  case round =>
    obtain ⟨k, hk, rfl, ho, hbw⟩ := hrel
    have HO := Lib.hid ho
    have HB := Lib.hid hbw
    have hlen := listF_len (digF (rdF ps i) (ps.length - 1)) (kpN i k)
    clear ho hbw
    by_cases hlt : k < ps.length
    · have hlt' : (k : Int) < (ps.length : Int) := by omega
      by_cases hki : k = i
      · subst hki
        have HK := Lib.hid (kp_at k)
        go_wp2_with fail
        go_roundw
        case rel => exact ⟨k + 1, by omega, by go_num, by rw [HK.out]; exact HO.out, HB.out⟩
        case measure => simp [intOf] <;> omega
      · have hki' : ((k : Int) == (i : Int)) = false := by rw [beq_eq_false_iff_ne]; omega
        have HK := Lib.hid (kp_next hki)
        have HRk := Lib.hid (fun s => HRd.out k s hki)
        have hkl := kp_lt hki hi hlt
        generalize kpN i k = j at HO hlen HK HRk hkl
        have HN := Lib.hid (listF_next (digF (rdF ps i) (ps.length - 1)) j)
        have hsz2 : (digF (rdF ps i) (ps.length - 1) j).size ≤ 32 := by rw [HDz.out j]; omega
        have HDk := Lib.hid (HDf.out j)
        have HRj := Lib.hid (fun s => HRl.out j s hkl)
        have b1 : Below wr.heap.size wr (wr.alloc (.cells #[] 3)) := (Below.refl _ _).alloc (Nat.le_refl _) _
        have B1 := Lib.hid (HB.out.trans (b1.mono HB.out.size))
        have O1 := Lib.hid (HO.out.below b1 (Nat.le_refl _))
        have V1 := Lib.hid (OwnI.lit wr (wr.alloc (.cells #[] 3)).heap.size.pred [] (by simp) (by decide))
        have hs1 : (wr.alloc (.cells #[] 3)).heap.size = wr.heap.size + 1 := by simp
        rw [show (wr.alloc (.cells #[] 3)).heap.size.pred = wr.heap.size by rw [hs1]; rfl] at V1
        have B1w := Lib.hid b1
        clear b1 hs1
        generalize digF (rdF ps i) (ps.length - 1) j = dt at HN hsz2 HDk
        go_wp2_with fail
        obtain ⟨wo, hwo⟩ : ∃ wo : World, wo = wr := ⟨_, rfl⟩
        subst hwo
        go_loopw [7, 8] (fun v q wr => ∃ s : Nat, s ≤ N ∧ q = .int .i64 s ∧ OwnI wr wo.heap.size v (valsL (rdF ps i) j s) ∧ Below wo.heap.size wo wr) (fun _ q _ => N - (intOf q).toNat)
        case atStart => exact ⟨0, Nat.zero_le _, rfl, V1.out, B1w.out⟩
        case round =>
          obtain ⟨s, hs, rfl, hv, hb2⟩ := hrel
          have HV := Lib.hid hv
          have HB2 := Lib.hid hb2
          have HW2 := Lib.hid (HB.out.trans (hb2.mono HB.out.size))
          have hvl := valsL_len (rdF ps i) j s
          clear hv hb2
          have HAs := Lib.hid (HA.out wr)
          by_cases hsN : s < N
          · have hsw : (s : Int) ≤ top2 := by have := HT2.out; omega
            have HLs := Lib.hid (fun W (hW : Below wr.heap.size wr W) => HLf.out s W hsN (HW2.out.trans (hW.mono HW2.out.size)))
            have HAs2 := Lib.hid (fun W => HAt.out k s W hlt hsN)
            have HNv := Lib.hid (valsL_next (rdF ps i) j s)
            rw [HRk.out s] at HNv
            obtain ⟨q, o, rfl, hbo⟩ := HROW.out.2.some (by omega)
            have hcx := (HROW.out.below HW2.out (Nat.le_refl _)).2.cell q o rfl k hlt
            generalize lfN ps i s = f at HLs HAs2 HNv
            generalize bitN ps k f = b at HAs2 HNv
            go_wp2_with fail
            refine HAs.out.mono ?_
            rintro e w2 ⟨rfl, rfl⟩
            go_wp2_with fail
            go_region_law (first
              | (go_simp; go_at_call 54; refine (HLs.out _ ?_).mono ?_; (exact below_d1 _); rintro e w5 ⟨rfl, rfl⟩)
              | (go_simp; go_at_call 83; refine (HAs2.out _).mono ?_; rintro e w6 ⟨rfl, rfl⟩)
              | (refine step_appI (OwnI.drew (OwnI.alloc HV.out _)) (RowI.drew (RowI.one _ _)) rfl _ _ rfl rfl rfl (by omega) (by have := HB2.out.size; simp; omega) ?_; intro v6 w6 o6 g6))
            all_goals
              go_wp2_with fail
              go_roundw
              case rel => exact ⟨s + 1, by omega, by go_num, by rw [HNv.out]; exact o6, (below_al HB2.out HB2.out.size _).grown g6 (by have := HB2.out.size; simp; omega) (fun j hj => (World.ownsRow.lt HV.out j hj).1)⟩
              case measure => simp [intOf] <;> omega
          · obtain rfl : s = N := by omega
            have hsw : ¬ (s : Int) ≤ top2 := by have := HT2.out; omega
            obtain ⟨va, vc, rfl, vq⟩ := HV.out.out
            have HT := Lib.hid (fun W (hW : Below wr.heap.size wr W) => l1Text_ok va _ vc (valsL (rdF ps i) j s) W (vq.rowI.below hW (Nat.le_refl _)) (fun i' hi' => by rw [valsL_get _ _ _ _ (by omega)]; have := HRj.out i'; omega) (by omega))
            rw [← HDk.out, hvl] at HT
            rw [hvl]
            have O2 := Lib.hid (HO.out.below HB2.out (Nat.le_refl _))
            clear vq hvl
            go_wp2_with fail
            refine HAs.out.mono ?_
            rintro e w2 ⟨rfl, rfl⟩
            go_wp2_with fail
            refine (HT.out _ (Below.refl _ _)).mono ?_
            rintro e w3 ⟨rfl, b3⟩
            have C3 := Lib.hid (HW2.out.trans (b3.mono HW2.out.size))
            have O3 := Lib.hid (O2.out.below b3 (Nat.le_refl _))
            have HCe := Lib.hid ((Blk.new w3 9 [.string dt]).cell (i := 0) rfl)
            clear b3
            go_wp2_with (at_builtin; go_must (refine wpList_appT (OwnT.alloc O3.out _) HCe.out rfl _ _ rfl rfl rfl (by omega) (by have := C3.out.size; simp; omega) ?_); intro v6 w6 o6 g6)
            go_roundw
            case rel => exact ⟨k + 1, by omega, by go_num, by rw [HK.out, HN.out]; exact o6, (C3.out.alloc C3.out.size _).grown g6 (by have := C3.out.size; simp; omega) (fun j hj => (World.ownsRow.lt O3.out j hj).1)⟩
            case measure => simp [intOf] <;> omega
    · obtain rfl : k = ps.length := by omega
      have HE := Lib.hid (kp_end hi)
      have hlt' : ¬ (ps.length : Int) < (ps.length : Int) := by omega
      go_wp2_with fail
      go_ret
      have HOf := HO.out
      rw [HE.out, ← HEnd.out] at HOf
      exact ⟨_, rfl, HOf, HB.out⟩

end Go.Proofs.YtcmjogojlijdgaaGreatDoor
/- Plain: the lifted fixed states, sorted, are the fixed states. -/
namespace Go.Proofs.YtcmjogojlijdgaaGreatDoor
open Go.RowKit

theorem lfN_one {ps : List ByteArray} {i : Nat} (hn : netB ps = true) (h5 : ps.length ≤ 5) (h1 : 1 < ps.length) (hi : i < ps.length) {s t : Nat} (hs : s < 2 ^ (ps.length - 1)) (ht : t < 2 ^ (ps.length - 1)) (h : lfN ps i s = lfN ps i t) : s = t := by
  refine eq_pow hs ht fun j hj => ?_
  rw [← lfN_skip hn h5 h1 hi hs hj, h, lfN_skip hn h5 h1 hi ht hj]
/-- The lifting is one to one. -/
theorem liftC_one : ∀ (f : Nat) (ps : List ByteArray), netB ps = true → ps.length ≤ 5 → 0 < ps.length → ∀ s t, s < 2 ^ (redC f ps).2.length → t < 2 ^ (redC f ps).2.length → liftC (redC f ps).1 s = liftC (redC f ps).1 t → s = t
  | 0, ps, _, _, _, s, t, _, _, h => h
  | f + 1, ps, hn, h5, h0, s, t, hs, ht, h => by
    cases hf : fstF ps with
    | none =>
      rw [redC_none hf] at h
      exact h
    | some i =>
      obtain ⟨hi, hfr⟩ := fstF_some hf
      obtain ⟨h1, _⟩ := free_one hfr
      have hl := rdP_len ps i
      have hr := rdP_net hn h5 h1 hi
      rw [redC_some hf] at hs ht h
      simp only [liftC] at h
      obtain ⟨_, _, _, a4, _⟩ := redC_facts f (rdP ps i) hr (by rw [hl]; omega) (by rw [hl]; omega)
      rw [hl] at a4
      exact liftC_one f (rdP ps i) hr (by rw [hl]; omega) (by rw [hl]; omega) s t hs ht (lfN_one hn h5 h1 hi (a4 s hs).1 (a4 t ht).1 h)
/-- The fixed states as natural numbers. -/
def fxL (ps : List ByteArray) (N : Nat) : List Nat := (List.range N).filter (fpB ps)
theorem fxL_int (ps : List ByteArray) (N : Nat) : fpL ps N = (fxL ps N).map fun s : Nat => (s : Int) := rfl
theorem fxL_mem {ps : List ByteArray} {N s : Nat} : s ∈ fxL ps N ↔ s < N ∧ fpB ps s = true := by simp [fxL]
theorem fxL_nodup (ps : List ByteArray) (N : Nat) : (fxL ps N).Nodup := List.Nodup.sublist List.filter_sublist List.nodup_range
theorem cast_nodup {l : List Nat} (h : l.Nodup) : (l.map fun s : Nat => (s : Int)).Nodup := by
  refine List.Pairwise.map _ (fun a b hab e => ?_) h
  exact hab (by omega)
/-- The list that the program sorts. -/
def lfL (f : Nat) (ps : List ByteArray) : List Int := (fxL (redC f ps).2 (2 ^ (redC f ps).2.length)).map fun s => ((liftC (redC f ps).1 s : Nat) : Int)
theorem lf_perm {f : Nat} {ps : List ByteArray} (hn : netB ps = true) (h5 : ps.length ≤ 5) (h0 : 0 < ps.length) : (lfL f ps).Perm (fpL ps (2 ^ ps.length)) := by
  obtain ⟨_, _, _, a4, a5⟩ := redC_facts f ps hn h5 h0
  have hone := liftC_one f ps hn h5 h0
  have hnd : (lfL f ps).Nodup := by
    rw [lfL]
    have h1 := fxL_nodup (redC f ps).2 (2 ^ (redC f ps).2.length)
    refine List.Pairwise.map (R := fun a b => a ≠ b ∧ a < 2 ^ (redC f ps).2.length ∧ b < 2 ^ (redC f ps).2.length) _ (fun a b hab e => ?_) ?_
    · exact hab.1 (hone a b hab.2.1 hab.2.2 (by omega))
    · exact List.Pairwise.imp_of_mem (fun ha hb hab => ⟨hab, (fxL_mem.1 ha).1, (fxL_mem.1 hb).1⟩) h1
  rw [List.perm_ext_iff_of_nodup hnd (by rw [fxL_int]; exact cast_nodup (fxL_nodup _ _))]
  intro z
  rw [lfL, fxL_int, List.mem_map, List.mem_map]
  constructor
  · rintro ⟨s, hs, rfl⟩
    rw [fxL_mem, fpB, decide_eq_true_iff] at hs
    obtain ⟨b1, b2⟩ := a4 s hs.1
    exact ⟨_, fxL_mem.2 ⟨b1, by rw [fpB, decide_eq_true_iff]; exact b2.2 hs.2⟩, rfl⟩
  · rintro ⟨p, hp, rfl⟩
    rw [fxL_mem, fpB, decide_eq_true_iff] at hp
    obtain ⟨s, hs, e⟩ := a5 p hp.1 hp.2
    refine ⟨s, fxL_mem.2 ⟨hs, ?_⟩, by rw [e]⟩
    rw [fpB, decide_eq_true_iff]
    exact (a4 s hs).2.1 (by rw [e]; exact hp.2)
theorem fpL_sorted (ps : List ByteArray) (N : Nat) : (fpL ps N).Pairwise fun x y => x ≤ y := by
  rw [fxL_int]
  refine List.Pairwise.map (R := fun a b => a < b) _ (fun a b hab => by omega) ?_
  exact List.Pairwise.sublist List.filter_sublist List.pairwise_lt_range
theorem lf_sort {f : Nat} {ps : List ByteArray} (hn : netB ps = true) (h5 : ps.length ≤ 5) (h0 : 0 < ps.length) : (lfL f ps).mergeSort (fun x y => decide (x ≤ y)) = fpL ps (2 ^ ps.length) := by
  have h1 := List.pairwise_mergeSort (le := fun x y : Int => decide (x ≤ y)) (fun a b c => by simp; omega) (fun a b => by simp; omega) (lfL f ps)
  refine List.Perm.eq_of_pairwise (le := fun x y => x ≤ y) (fun a b _ _ h2 h3 => Int.le_antisymm h2 h3) ?_ (fpL_sorted _ _) ((List.mergeSort_perm _ _).trans (lf_perm hn h5 h0))
  exact h1.imp fun h => by simpa using h

end Go.Proofs.YtcmjogojlijdgaaGreatDoor
/- Plain: a network and its text; the whole chain of removals. -/
namespace Go.Proofs.YtcmjogojlijdgaaGreatDoor
open Go.RowKit

/-- A network's text. -/
def txtP (ps : List ByteArray) : ByteArray := netT (bitN ps) ps.length
theorem dig_self {ps : List ByteArray} (hn : netB ps = true) : listF (digF (bitN ps) ps.length) ps.length = ps := by
  apply List.ext_getElem?
  intro k
  by_cases hk : k < ps.length
  · rw [gT_lt hk, gT_dig hn hk]
    simp [listF, hk]
  · rw [List.getElem?_eq_none (by rw [listF_len]; omega), List.getElem?_eq_none (by omega)]
theorem txtP_cuts {ps : List ByteArray} (hn : netB ps = true) (h0 : 0 < ps.length) : cutsP 44 (txtP ps) = ps := by
  rw [txtP, cuts_net h0 fun k s hk _ => bitN_lt (netB_get hn k hk).1 s, dig_self hn]
theorem txtP_size {ps : List ByteArray} (h5 : ps.length ≤ 5) : (txtP ps).size ≤ 165 := netT_size _ _ h5
theorem bits_tabs {ps : List ByteArray} (hn : netB ps = true) : bitsN ps ps.length = tabsL (bitN ps) ps.length ps.length := by
  unfold bitsN tabsL
  apply List.map_congr_left
  intro k hk
  have hk' : k < ps.length := by simpa using hk
  rw [net_size hn k hk']
  exact eachL_cg fun s _ => bitN_eq (netB_get hn k hk').1 s

/-- The whole chain. -/
def redL (ps : List ByteArray) : List (List ByteArray × Nat) × List ByteArray := redC ps.length ps
theorem redL_none {ps : List ByteArray} (h : fstF ps = none) : redL ps = ([], ps) := redC_none h _
theorem redL_some {ps : List ByteArray} {i : Nat} (h : fstF ps = some i) : redL ps = ((ps, i) :: (redL (rdP ps i)).1, (redL (rdP ps i)).2) := by
  have hi := (fstF_some h).1
  obtain ⟨m, hm⟩ : ∃ m, ps.length = m + 1 := ⟨ps.length - 1, by omega⟩
  have hl := rdP_len ps i
  rw [redL, hm, redC_some h, redL, hl, hm]
  rfl
/-- What is left of a network. -/
def leftP (ps : List ByteArray) : List ByteArray := (redL ps).2
theorem leftP_none {ps : List ByteArray} (h : fstF ps = none) : leftP ps = ps := by rw [leftP, redL_none h]
theorem leftP_some {ps : List ByteArray} {i : Nat} (h : fstF ps = some i) : leftP ps = leftP (rdP ps i) := by rw [leftP, redL_some h]; rfl
/-- A state of it with all removed switches. -/
def lftN (ps : List ByteArray) (s : Nat) : Nat := liftC (redL ps).1 s
theorem lftN_none {ps : List ByteArray} (h : fstF ps = none) (s : Nat) : lftN ps s = s := by rw [lftN, redL_none h]; rfl
theorem lftN_some {ps : List ByteArray} {i : Nat} (h : fstF ps = some i) (s : Nat) : lftN ps s = lfN ps i (lftN (rdP ps i) s) := by rw [lftN, redL_some h]; rfl
theorem left_facts {ps : List ByteArray} (hn : netB ps = true) (h0 : 0 < ps.length) : netB (leftP ps) = true ∧ (leftP ps).length ≤ ps.length ∧ 0 < (leftP ps).length ∧
    (∀ s, s < 2 ^ (leftP ps).length → lftN ps s < 2 ^ ps.length ∧ (allTo ps (lftN ps s) ps.length = lftN ps s ↔ allTo (leftP ps) s (leftP ps).length = s)) ∧
    ∀ p, p < 2 ^ ps.length → allTo ps p ps.length = p → ∃ s, s < 2 ^ (leftP ps).length ∧ lftN ps s = p := redC_facts ps.length ps hn (net_le hn h0) h0
theorem rdP_facts {ps : List ByteArray} {i : Nat} (hn : netB ps = true) (h : fstF ps = some i) : i < ps.length ∧ 1 < ps.length ∧ netB (rdP ps i) = true ∧ (rdP ps i).length = ps.length - 1 := by
  obtain ⟨hi, hf⟩ := fstF_some h
  have h1 := (free_one hf).1
  exact ⟨hi, h1, rdP_net hn (net_le hn (by omega)) h1 hi, rdP_len ps i⟩
/-- The lifted fixed states, in the order of what is left. -/
def lfsL (ps : List ByteArray) : List Int := (fxL (leftP ps) (2 ^ (leftP ps).length)).map fun s => ((lftN ps s : Nat) : Int)
theorem lfs_sort {ps : List ByteArray} (hn : netB ps = true) (h0 : 0 < ps.length) : (lfsL ps).mergeSort (fun x y => decide (x ≤ y)) = fpL ps (2 ^ ps.length) := lf_sort hn (net_le hn h0) h0

end Go.Proofs.YtcmjogojlijdgaaGreatDoor
/- Walks: the reference's chain of removals. -/
namespace Go.Proofs.YtcmjogojlijdgaaGreatDoor
open Go.RowKit

/-- How long a slice is. -/
def slN : Value → Nat
  | .slice _ n _ => n
  | _ => 0
theorem fst_ge {ps : List ByteArray} {i : Nat} (h : fstF ps = some i) : fstI ps = (i : Int) := fstI_at h

theorem l9Point_all : ∀ (m : Nat) (ao : Option Addr) (n c : Nat) (ps : List ByteArray) (s : Nat) (w : World) (_ : n = m) (_ : RowT w ao n c ps) (_ : netB ps = true) (_ : n ≤ 5) (_ : 0 < n) (_ : s < 2 ^ (leftP ps).length),
    Calls Tryz.prog 30 #[.slice ao n c, .int .i64 s] w fun e w' => e = .returned (.int .i64 (lftN ps s : Nat)) ∧ Below w.heap.size w w' := by
  intro m
  induction m with
  | zero => intro ao n c ps s w hm h hn h5 h0 hs; omega
  | succ m ih =>
    intro ao n c ps s w hm h hn h5 h0 hs
    obtain rfl := h.1
    have HF := Lib.hid (l9First_ok ao ps.length c ps w h hn h5)
    cases hf : fstF ps with
    | none =>
      rw [fstI_not hf] at HF
      rw [lftN_none hf]
      clear ih hm h hn hs hf
      go_enter Tryz.func30, Tryz.ntmps30
      go_wp2_with fail
      refine HF.out.mono ?_
      rintro e w1 ⟨rfl, rfl⟩
      go_wp2_with fail
      go_ret
      exact ⟨rfl, Below.refl _ _⟩
    | some i =>
      obtain ⟨hi, h1, hr, hl⟩ := rdP_facts hn hf
      have HRm := Lib.hid (l9Remove_ok ao ps.length c ps i w h hn h5 h1 hi)
      have hle := (left_facts hr (by omega)).2.2.2.1
      rw [leftP_some hf] at hs
      have hsl := (hle s hs).1
      rw [hl] at hsl
      have HPt := Lib.hid (fun a c' W (hW : RowT W a (ps.length - 1) c' (rdP ps i)) => ih a (ps.length - 1) c' (rdP ps i) s W (by omega) hW hr (by omega) (by omega) hs)
      have HLf := Lib.hid (fun W (hW : Below w.heap.size w W) => l9Lift_ok ao ps.length c ps i (lftN (rdP ps i) s) W (h.below hW (Nat.le_refl _)) hn h5 h1 hi hsl)
      rw [← lftN_some hf] at HLf
      rw [fstI_at hf] at HF
      have hi0 : ¬ ((i : Int) < 0) := by omega
      clear ih hm h hn hs hf hr hle hsl
      generalize lftN ps s = r at HLf ⊢
      generalize lftN (rdP ps i) s = q at HPt HLf
      go_enter Tryz.func30, Tryz.ntmps30
      go_wp2_with fail
      refine HF.out.mono ?_
      rintro e w1 ⟨rfl, rfl⟩
      go_wp2_with fail
      refine HRm.out.mono ?_
      rintro e w2 ⟨v2, rfl, o2, b2⟩
      obtain ⟨a2, c2, rfl, r2⟩ := o2.row
      rw [hl] at r2 ⊢
      have HP2 := Lib.hid (HPt.out _ _ _ r2)
      have B2 := Lib.hid b2
      clear o2 r2 b2
      go_wp2_with fail
      refine HP2.out.mono ?_
      rintro e w3 ⟨rfl, b3⟩
      have B3 := Lib.hid (B2.out.trans (b3.mono B2.out.size))
      clear b3
      go_wp2_with fail
      refine (HLf.out _ B3.out).mono ?_
      rintro e w4 ⟨rfl, rfl⟩
      go_wp2_with fail
      go_ret
      exact ⟨rfl, B3.out⟩

theorem l9Point_ok (ao : Option Addr) (n c : Nat) (ps : List ByteArray) (s : Nat) (w : World) (h : RowT w ao n c ps) (hn : netB ps = true) (h5 : n ≤ 5) (h0 : 0 < n) (hs : s < 2 ^ (leftP ps).length) :
    Calls Tryz.prog 30 #[.slice ao n c, .int .i64 s] w fun e w' => e = .returned (.int .i64 (lftN ps s : Nat)) ∧ Below w.heap.size w w' := l9Point_all n ao n c ps s w rfl h hn h5 h0 hs

/-- The text of what is left. -/
def rdT (ps : List ByteArray) : ByteArray := if netB ps = true then txtP (leftP ps) else ⟨#[]⟩
theorem rdT_no {ps : List ByteArray} (h : netB ps = false) : rdT ps = ⟨#[]⟩ := by simp [rdT, h]
theorem rdT_yes {ps : List ByteArray} (h : netB ps = true) : rdT ps = txtP (leftP ps) := by simp [rdT, h]
theorem ret3 {a b : ByteArray} {v : Value} {c d : Bool} (h : a = b) (h' : c = d) : Ending.returned (.tuple #[.string a, v, .bool c]) = .returned (.tuple #[.string b, v, .bool d]) := by rw [h, h']
theorem OwnT.baseR {w : World} {B B' : Nat} {v : Value} {ts : List ByteArray} (h : OwnT w B v ts) (hB : B' ≤ B) : OwnT w B' v ts := by
  obtain ⟨h0, h1 | ⟨g, cap, cur, e, hg, h2⟩⟩ := h
  · exact ⟨h0, .inl h1⟩
  · exact ⟨h0, .inr ⟨g, cap, cur, e, Nat.le_trans hB hg, h2⟩⟩

set_option maxHeartbeats 4000000 in
theorem redS_ok (t : ByteArray) (w : World) (hs : t.size ≤ 1048576) :
    Calls Tryz.prog 22 #[.string t] w fun e w' => ∃ v, e = .returned (.tuple #[.string (rdT (cutsP 44 t)), v, .bool (netB (cutsP 44 t))]) ∧ Below w.heap.size w w' := by
  have HO := Lib.hid (l3Open_ok t w hs)
  have hp0 := cutsP_pos 44 t
  generalize cutsP 44 t = ps at HO hp0 ⊢
  cases hb : netB ps with
  | false =>
    have HV := Lib.hid (rdT_no hb)
    rw [hb] at HO
    clear hb
    go_enter Tryz.func22, Tryz.ntmps22
    go_wp2_with fail
    refine HO.out.mono ?_
    rintro e w1 ⟨v, rfl, o1, b1⟩
    have B1 := Lib.hid (b1.alloc b1.size (.cells #[] 3))
    clear o1 b1
    go_wp2_with fail
    go_ret3
    exact ⟨_, ret3 HV.out.symm rfl, B1.out⟩
  | true =>
    have HV := Lib.hid (rdT_yes hb)
    have h5 := net_le hb hp0
    have HN := Lib.hid (netL_yes hb)
    have HF := Lib.hid (fun a (L : Nat) c (qs : List ByteArray) W (h : RowT W a L c qs) (hn : netB qs = true) (hl : L ≤ 5) => l9First_ok a L c qs W h hn hl)
    have HR := Lib.hid (fun a (L : Nat) c (qs : List ByteArray) i W (h : RowT W a L c qs) (hn : netB qs = true) (hl : L ≤ 5) (h1 : 1 < L) (hi : i < L) => l9Remove_ok a L c qs i W h hn hl h1 hi)
    have HBn := Lib.hid hb
    rw [hb] at HO
    clear hb
    go_enter Tryz.func22, Tryz.ntmps22
    go_wp2_with fail
    refine HO.out.mono ?_
    rintro e w1 ⟨v, rfl, o1, b1⟩
    rw [HN.out] at o1
    obtain ⟨a1, c1, rfl, r1⟩ := o1.row
    have B1 := Lib.hid (b1.alloc b1.size (.cells #[] 3))
    have b11 : Below w1.heap.size w1 (w1.alloc (.cells #[] 3)) := (Below.refl _ _).alloc (Nat.le_refl _) _
    have R1 := Lib.hid (r1.below b11 (Nat.le_refl _))
    have O1 := Lib.hid (o1.below b11 (Nat.le_refl _))
    have Z1 := Lib.hid (OwnI.lit w1 w.heap.size [] b1.size (by decide))
    clear o1 b1 r1 b11
    go_wp2_with fail
    refine (HF.out _ _ _ _ _ R1.out HBn.out h5).mono ?_
    rintro e w2 ⟨rfl, rfl⟩
    go_wp2_with fail
    go_loopw [5, 7, 8] (fun u v q wr => ∃ (qs : List ByteArray) (zs : List Int), OwnT wr w.heap.size u qs ∧ OwnI wr w.heap.size v zs ∧ q = .int .i64 (fstI qs) ∧ netB qs = true ∧ 0 < qs.length ∧ qs.length + zs.length ≤ 5 ∧ leftP qs = leftP ps ∧ Below w.heap.size w wr) (fun u _ _ _ => slN u)
    case atStart => exact ⟨ps, [], O1.out, Z1.out, rfl, HBn.out, hp0, by simpa using h5, rfl, B1.out⟩
    case round =>
      obtain ⟨qs, zs, ho, hz, rfl, hn, h0, hlz, hlf, hbw⟩ := hrel
      have HOq := Lib.hid ho
      have HZ := Lib.hid hz
      have HB := Lib.hid hbw
      have HNq := Lib.hid hn
      have HL := Lib.hid hlf
      obtain ⟨a3, c3, rfl, r3⟩ := ho.row
      clear ho hz hbw hlf
      cases hf : fstF qs with
      | none =>
        have HT := Lib.hid (l3Text_ok a3 _ c3 qs (digF (bitN qs) qs.length) wr r3 (fun i hi => gT_dig hn hi) (fun i => by rw [digF_size]; exact Nat.le_trans (pow_32 (by omega)) (by decide)) (by omega))
        have HE : Hid (joinF (digF (bitN qs) qs.length) ⟨#[44]⟩ qs.length = rdT ps) := by
          show joinF (digF (bitN qs) qs.length) ⟨#[44]⟩ qs.length = rdT ps
          rw [HV.out, ← HL.out, leftP_none hf]
          rfl
        rw [fstI_not hf]
        rw [HE.out] at HT
        clear hf hn r3
        go_wp2_with fail
        refine HT.out.mono ?_
        rintro e w4 ⟨rfl, rfl⟩
        go_wp2_with fail
        go_ret3
        exact ⟨_, rfl, HB.out⟩
      | some i =>
        obtain ⟨hi, h1, hr, hl⟩ := rdP_facts hn hf
        have HLn := Lib.hid (leftP_some hf)
        have HRn := Lib.hid hr
        rw [fstI_at hf]
        have hi0 : (0 : Int) ≤ (i : Int) := by omega
        clear hf hn hr
        go_wp2_with (at_builtin; refine wpList_appI (OwnI.alloc HZ.out _) (RowI.one _ _) rfl _ _ rfl rfl rfl (by omega) (by have := HB.out.size; simp; omega) ?_; intro v6 w6 o6 g6)
        have C6 := Lib.hid ((HB.out.alloc HB.out.size (.cells #[.int .i64 i] 3)).grown g6 (by have := HB.out.size; simp; omega) (fun j hj => (World.ownsRow.lt HZ.out j hj).1))
        have O6 := Lib.hid (show OwnT w6 w.heap.size _ qs from World.ownsRow.kept (OwnT.alloc HOq.out (.cells #[.int .i64 i] 3)) g6 (own_ne (by decide) (OwnT.alloc HOq.out (.cells #[.int .i64 i] 3)) (OwnI.alloc HZ.out (.cells #[.int .i64 i] 3))))
        have Z6 := Lib.hid o6
        have R6 : Hid (RowT w6 a3 qs.length c3 qs) := by
          obtain ⟨a', c', e', r'⟩ := O6.out.row
          injection e' with e1 e2 e3
          subst e1 e3
          exact r'
        have HRk := Lib.hid (HR.out _ _ _ _ i _ R6.out HNq.out (by omega) h1 hi)
        clear o6 g6
        go_wp2_with fail
        refine HRk.out.mono ?_
        rintro e w7 ⟨v7, rfl, o7, b7⟩
        obtain ⟨a7, c7, rfl, r7⟩ := o7.row
        have C7 := Lib.hid (C6.out.trans (b7.mono C6.out.size))
        have Z7 := Lib.hid (Z6.out.belowB b7 (Nat.le_refl _))
        have O7 := Lib.hid (o7.baseR C6.out.size)
        rw [hl] at r7 O7 ⊢
        have HFk := Lib.hid (HF.out _ _ _ _ _ r7 HRn.out (by omega))
        clear o7 b7 r7
        go_wp2_with fail
        refine HFk.out.mono ?_
        rintro e w8 ⟨rfl, rfl⟩
        go_wp2_with fail
        go_roundw
        case rel => exact ⟨rdP qs i, zs ++ [(i : Int)], O7.out, Z7.out, rfl, HRn.out, by omega, by simp; omega, by rw [← HLn.out, HL.out], C7.out⟩
        case measure => simp [slN]; omega

end Go.Proofs.YtcmjogojlijdgaaGreatDoor
/- Walks: the reference's LiftPoint, l5Sorted, PointsByReducing. -/
namespace Go.Proofs.YtcmjogojlijdgaaGreatDoor
open Go.RowKit

theorem szV_left {ps : List ByteArray} (hn : netB ps = true) (h0 : 0 < ps.length) : szV (cutsP 44 (txtP (leftP ps))) = ((leftP ps).length : Int) := by
  obtain ⟨a, _, c, _⟩ := left_facts hn h0
  rw [txtP_cuts a c, szV, if_pos a]

set_option maxHeartbeats 2000000 in
theorem liftS_ok (t : ByteArray) (s : Nat) (w : World) (hs : t.size ≤ 1048576) (hn : netB (cutsP 44 t) = true) (hlt : s < 2 ^ (leftP (cutsP 44 t)).length) :
    Calls Tryz.prog 11 #[.string t, .int .i64 s] w fun e w' => e = .returned (.int .i64 (lftN (cutsP 44 t) s : Nat)) ∧ Below w.heap.size w w' := by
  have HR := Lib.hid (redS_ok t w hs)
  have HO := Lib.hid (fun W => l3Open_ok t W hs)
  have hp0 := cutsP_pos 44 t
  generalize cutsP 44 t = ps at HR HO hp0 hn hlt ⊢
  obtain ⟨hl1, hl2, hl3, _⟩ := left_facts hn hp0
  have h5 := net_le hn hp0
  have hz := txtP_size (ps := leftP ps) (by omega)
  have HSz := Lib.hid (fun W => sizeOf_ok (txtP (leftP ps)) W (by omega))
  rw [szV_left hn hp0] at HSz
  have HP := Lib.hid (fun a c W (h : RowT W a ps.length c ps) => l9Point_ok a ps.length c ps s W h hn h5 hp0 hlt)
  rw [rdT_yes hn, hn] at HR
  rw [hn, netL_yes hn] at HO
  have hwa := wrap_all (leftP ps).length (by omega)
  have hm5 : (leftP ps).length ≤ 5 := by omega
  have hin : inB (s : Int) 0 ((2 ^ (leftP ps).length - 1 : Nat) : Int) = true := inB_true (by omega)
  clear hn hlt hl1 hl2 hl3 hz
  generalize (2 ^ (leftP ps).length - 1 : Nat) = top at hwa hin
  generalize (leftP ps).length = m at HSz hwa hm5
  generalize txtP (leftP ps) = k at HR HSz
  generalize lftN ps s = r at HP ⊢
  have hmw : IntKind.u64.wrap (m : Int) = (m : Int) := by rw [IntKind.wrap_u64]; omega
  go_enter Tryz.func11, Tryz.ntmps11
  go_wp2_with fail
  refine HR.out.mono ?_
  rintro e w1 ⟨v1, rfl, b1⟩
  have B1 := Lib.hid b1
  clear b1
  go_wp2_with fail
  refine (HO.out _).mono ?_
  rintro e w2 ⟨v2, rfl, o2, b2⟩
  obtain ⟨a2, c2, rfl, r2⟩ := o2.row
  have B2 := Lib.hid (B1.out.trans (b2.mono B1.out.size))
  have R2 := Lib.hid r2
  clear o2 b2 r2
  go_wp2_with fail
  refine (HSz.out _).mono ?_
  rintro e w3 ⟨rfl, b3⟩
  have B3 := Lib.hid (B2.out.trans (b3.mono B2.out.size))
  have R3 := Lib.hid (R2.out.below b3 (Nat.le_refl _))
  clear b3
  go_wp2_with (go_at_call 28; refine (l1In_ok _ _ _ _).mono ?_; rintro e w' ⟨rfl, rfl⟩; rw [hin])
  refine (HP.out _ _ _ R3.out).mono ?_
  rintro e w4 ⟨rfl, b4⟩
  go_wp2_with fail
  go_ret
  exact ⟨rfl, B3.out.trans (b4.mono B3.out.size)⟩

/-- Cells of truths. -/
def trC (N : Nat) (p : Nat → Bool) : List Value := (List.range N).map fun s => .bool (p s)
theorem trC_get (N : Nat) (p : Nat → Bool) (s : Nat) (h : s < N) : (trC N p)[s]? = some (.bool (p s)) := by simp [trC, h]
theorem trC_set (N : Nat) (p : Nat → Bool) (s : Nat) : (trC N p).set s (.bool true) = trC N (fun x => p x || s == x) := by
  apply List.ext_getElem?
  intro i
  simp only [trC, List.getElem?_set, List.getElem?_map, List.length_map, List.length_range]
  by_cases e : s = i
  · subst e
    by_cases hs : s < N
    · simp [hs]
    · simp [hs]
  · have e2 : (s == i) = false := by simp; omega
    by_cases hi : i < N
    · simp [e, hi, e2]
    · simp [e, hi]
theorem trC_false (N : Nat) : trC N (fun _ => false) = List.replicate N (.bool false) := by
  rw [List.eq_replicate_iff]
  refine ⟨by simp [trC], fun b hb => ?_⟩
  simp only [trC, List.mem_map] at hb
  obtain ⟨_, _, rfl⟩ := hb
  rfl
theorem iTr : (Tryz.prog.info? 4).map (fun i => (i.zero, i.size, i.bytes)) = some (some (.bool false), 1, 1) := by kernel_rfl
theorem made_trs (n : Nat) : madeCells (Value.cells (.bool false)) (n * 1) = (List.replicate n (Value.bool false)).toArray := by
  apply Array.ext
  · simp [madeCells]
  · intro i h1 h2
    simp [madeCells, Value.cells, Nat.mod_one]
theorem run_make_trs (n : Nat) (hn : n ≤ 1048576) (w : World) :
    (Instr.makeSlice 47 (.int .i64 (n : Int)) (.int .i64 (n : Int))).run Tryz.prog w = .ok (.slice (some ⟨w.heap.size, 0, none⟩) n n) (w.alloc (.cells (List.replicate n (Value.bool false)).toArray 4)) := by
  obtain ⟨i, hi, hz, hs, hby⟩ := info_parts iTr
  have := run_make (P := Tryz.prog) w 47 4 i (.bool false) Tryz.underlying47 hi hz .i64 .i64 n n (by omega) (Int.le_refl _) (by rw [hby]; omega) (by omega)
  rw [this, hs]
  simp only [Int.toNat_natCast, made_trs]

/-- The chosen ones of the first k numbers. -/
def selL (p : Nat → Bool) (k : Nat) : List Int := ((List.range k).filter p).map fun s : Nat => (s : Int)
theorem selL_skip {p : Nat → Bool} {k : Nat} (h : p k = false) : selL p (k + 1) = selL p k := by simp [selL, List.range_succ, List.filter_append, h]
theorem selL_take {p : Nat → Bool} {k : Nat} (h : p k = true) : selL p (k + 1) = selL p k ++ [(k : Int)] := by simp [selL, List.range_succ, List.filter_append, h]
theorem selL_len (p : Nat → Bool) (k : Nat) : (selL p k).length ≤ k := by
  rw [selL, List.length_map]
  exact Nat.le_trans (List.length_filter_le _ _) (by simp)

set_option maxHeartbeats 2000000 in
theorem l5Sorted_ok (g N : Nat) (p : Nat → Bool) (w : World) (h : Blk w g 4 (trC N p)) (hN : N ≤ 32) :
    Calls Tryz.prog 24 #[.slice (some ⟨g, 0, none⟩) N N] w fun e w' => ∃ v, e = .returned v ∧ OwnI w' w.heap.size v (selL p N) ∧ Below w.heap.size w w' := by
  have HC := Lib.hid (fun s (hs : s < N) W (hW : Below w.heap.size w W) => (h.below hW h.lt).cell (trC_get N p s hs))
  have b0 : Below w.heap.size w (w.alloc (.cells #[] 3)) := (Below.refl _ _).alloc (Nat.le_refl _) _
  have B0 := Lib.hid b0
  have O0 := Lib.hid (OwnI.lit w w.heap.size [] (Nat.le_refl _) (by decide))
  clear h b0
  go_enter Tryz.func24, Tryz.ntmps24
  go_wp2_with fail
  go_loopw [3, 4] (fun v q wr => ∃ k : Nat, k ≤ N ∧ q = .int .i64 k ∧ OwnI wr w.heap.size v (selL p k) ∧ Below w.heap.size w wr) (fun _ q _ => N - (intOf q).toNat)
  case atStart => exact ⟨0, Nat.zero_le _, rfl, O0.out, B0.out⟩
  case round =>
    obtain ⟨k, hk, rfl, ho, hb⟩ := hrel
    have HO := Lib.hid ho
    have HB := Lib.hid hb
    have hlen := selL_len p k
    clear ho hb
    by_cases hlt : k < N
    · have hlt' : (k : Int) < (N : Int) := by omega
      have hx := HC.out k hlt _ HB.out
      cases hh : p k with
      | false =>
        have HN := Lib.hid (selL_skip hh)
        rw [hh] at hx
        clear hh
        go_wp2_with fail
        go_roundw
        case rel => exact ⟨k + 1, by omega, by go_num, by rw [HN.out]; exact HO.out, HB.out⟩
        case measure => simp [intOf] <;> omega
      | true =>
        have HN := Lib.hid (selL_take hh)
        rw [hh] at hx
        clear hh
        go_wp2_with (at_builtin; refine wpList_appI (OwnI.alloc HO.out _) (RowI.one _ _) rfl _ _ rfl rfl rfl (by omega) (by have := HB.out.size; simp; omega) ?_; intro v6 w6 o6 g6)
        go_roundw
        case rel => exact ⟨k + 1, by omega, by go_num, by rw [HN.out]; exact o6, (HB.out.alloc HB.out.size _).grown g6 (by have := HB.out.size; simp; omega) (fun j hj => (World.ownsRow.lt HO.out j hj).1)⟩
        case measure => simp [intOf] <;> omega
    · obtain rfl : k = N := by omega
      have hlt' : ¬ (k : Int) < (k : Int) := by omega
      go_wp2_with fail
      go_ret
      exact ⟨_, rfl, HO.out, HB.out⟩

/-- Whether a state is among the first j lifted ones. -/
def hitP (ps : List ByteArray) (zs : List Int) : Nat → Nat → Bool
  | 0, _ => false
  | j + 1, s => hitP ps zs j s || lftN ps (gI zs j).toNat == s
theorem hit_iff (ps : List ByteArray) (zs : List Int) (s : Nat) : ∀ j, hitP ps zs j s = true ↔ ∃ i, i < j ∧ lftN ps (gI zs i).toNat = s
  | 0 => by simp [hitP]
  | j + 1 => by
    rw [hitP, Bool.or_eq_true, hit_iff ps zs s j, beq_iff_eq]
    constructor
    · rintro (⟨i, h1, h2⟩ | h)
      · exact ⟨i, by omega, h2⟩
      · exact ⟨j, by omega, h⟩
    · rintro ⟨i, h1, h2⟩
      by_cases e : i = j
      · subst e; exact .inr h2
      · exact .inl ⟨i, by omega, h2⟩
theorem selL_le {p : Nat → Bool} {N M : Nat} (h : ∀ s, s < M → p s = true → s < N) (hM : N ≤ M) : selL p M = selL p N := by
  induction M with
  | zero => rw [show N = 0 by omega]
  | succ M ih =>
    by_cases e : N = M + 1
    · rw [e]
    · have : p M = false := by
        cases hp : p M with
        | false => rfl
        | true => have := h M (Nat.lt_succ_self _) hp; omega
      rw [selL_skip this, ih (fun s hs => h s (by omega)) (by omega)]
theorem selL_cg {p q : Nat → Bool} : ∀ {N : Nat}, (∀ s, s < N → p s = q s) → selL p N = selL q N
  | 0, _ => rfl
  | N + 1, h => by
    have ih := selL_cg (N := N) fun s hs => h s (by omega)
    cases hp : p N with
    | true => rw [selL_take hp, selL_take (by rw [← h N (Nat.lt_succ_self _)]; exact hp), ih]
    | false => rw [selL_skip hp, selL_skip (by rw [← h N (Nat.lt_succ_self _)]; exact hp), ih]
theorem fpL_mem {ps : List ByteArray} {N s : Nat} (hs : s < N) (h : fpB ps s = true) : ∃ i, i < (fpL ps N).length ∧ gI (fpL ps N) i = (s : Int) := by
  have : ((s : Nat) : Int) ∈ fpL ps N := by
    rw [fxL_int, List.mem_map]
    exact ⟨s, fxL_mem.2 ⟨hs, h⟩, rfl⟩
  obtain ⟨i, hi, e⟩ := List.getElem_of_mem this
  exact ⟨i, hi, by rw [← e]; simp [gI, List.getD, hi]⟩
/-- What the reference gives. -/
theorem sel_hit {ps : List ByteArray} (hn : netB ps = true) (h0 : 0 < ps.length) : selL (hitP ps (fpV (leftP ps)) (fpV (leftP ps)).length) 32 = fpV ps := by
  obtain ⟨a1, a2, a3, a4, a5⟩ := left_facts hn h0
  rw [fpV_yes a1, fpV_yes hn]
  have hp := pow_32 (net_le hn h0)
  have key : ∀ s, hitP ps (fpL (leftP ps) (2 ^ (leftP ps).length)) (fpL (leftP ps) (2 ^ (leftP ps).length)).length s = true ↔ s < 2 ^ ps.length ∧ fpB ps s = true := fun s => by
    rw [hit_iff]
    constructor
    · rintro ⟨i, hi, rfl⟩
      obtain ⟨x, e, hx, hf⟩ := fpL_get hi
      rw [e, Int.toNat_natCast]
      obtain ⟨b1, b2⟩ := a4 x hx
      refine ⟨b1, ?_⟩
      rw [fpB, decide_eq_true_iff] at hf ⊢
      exact b2.2 hf
    · rintro ⟨hs, hf⟩
      rw [fpB, decide_eq_true_iff] at hf
      obtain ⟨x, hx, e⟩ := a5 s hs hf
      have hfx : fpB (leftP ps) x = true := by
        rw [fpB, decide_eq_true_iff]
        exact (a4 x hx).2.1 (by rw [e]; exact hf)
      obtain ⟨i, hi, e2⟩ := fpL_mem hx hfx
      exact ⟨i, hi, by rw [e2, Int.toNat_natCast, e]⟩
  rw [selL_le (N := 2 ^ ps.length) (fun s _ h => ((key s).1 h).1) hp]
  show selL _ _ = selL (fpB ps) _
  refine selL_cg fun s hs => ?_
  rw [Bool.eq_iff_iff, key s]
  exact ⟨fun h => h.2, fun h => ⟨hs, h⟩⟩

end Go.Proofs.YtcmjogojlijdgaaGreatDoor
/- Walks: the reference's PointsByReducing. -/
namespace Go.Proofs.YtcmjogojlijdgaaGreatDoor
open Go.RowKit

theorem cuts_empty : netB (cutsP 44 (⟨#[]⟩ : ByteArray)) = false := by
  rw [cutsP_miss (by intro k e; simp at e)]
  decide
theorem left_gI {ps : List ByteArray} (hn : netB ps = true) (h0 : 0 < ps.length) {j : Nat} (hj : j < (fpV (leftP ps)).length) : ∃ x : Nat, gI (fpV (leftP ps)) j = x ∧ x < 2 ^ (leftP ps).length ∧ lftN ps x < 2 ^ ps.length ∧ fpB (leftP ps) x = true := by
  obtain ⟨a1, a2, a3, a4, a5⟩ := left_facts hn h0
  rw [fpV_yes a1] at hj ⊢
  obtain ⟨x, e, hx, hf⟩ := fpL_get hj
  exact ⟨x, e, hx, (a4 x hx).1, hf⟩

/-- The cells of a new slice of truths. -/
def bl32 : Array Value := (trC 32 fun _ => false).toArray
theorem run_make_bl (w : World) : (Instr.makeSlice 47 (.int .i64 32) (.int .i64 32)).run Tryz.prog w = .ok (.slice (some ⟨w.heap.size, 0, none⟩) 32 32) (w.alloc (.cells bl32 4)) := by
  have := run_make_trs 32 (by omega) w
  rw [← trC_false] at this
  exact this

set_option maxHeartbeats 4000000 in
theorem prS_ok (t : ByteArray) (w : World) (hs : t.size ≤ 1048576) :
    Calls Tryz.prog 7 #[.string t] w fun e w' => ∃ v, e = .returned v ∧ OwnI w' w.heap.size v (fpV (cutsP 44 t)) ∧ Below w.heap.size w w' := by
  have HR := Lib.hid (redS_ok t w hs)
  have hp0 := cutsP_pos 44 t
  have HLf := Lib.hid (fun (hn : netB (cutsP 44 t) = true) s W (hlt : s < 2 ^ (leftP (cutsP 44 t)).length) => liftS_ok t s W hs hn hlt)
  have hmk := run_make_bl
  have HSo := Lib.hid (fun g p W (h : Blk W g 4 (trC 32 p)) => l5Sorted_ok g 32 p W h (by omega))
  generalize cutsP 44 t = ps at HR hp0 HLf ⊢
  cases hb : netB ps with
  | false =>
    have HV := Lib.hid (fpV_no hb)
    rw [hb, rdT_no hb] at HR
    have HFp := Lib.hid (fun W => fpS_ok ⟨#[]⟩ W (by decide))
    rw [fpV_no cuts_empty] at HFp
    have HE : Hid (selL (fun _ => false) 32 = []) := by show selL (fun _ => false) 32 = []; simp [selL]
    clear HLf hb
    go_enter Tryz.func7, Tryz.ntmps7
    go_wp2_with fail
    refine HR.out.mono ?_
    rintro e w1 ⟨v1, rfl, b1⟩
    have K0 : Hid (Blk (w1.alloc (.cells bl32 4)) w1.heap.size 4 (trC 32 fun _ => false)) := Blk.new w1 4 (trC 32 (fun _ => false))
    have B1 := Lib.hid (b1.alloc b1.size (.cells bl32 4))
    have hmk1 := hmk w1
    clear b1 hmk
    go_wp2_with fail
    refine (HFp.out _).mono ?_
    rintro e w2 ⟨v2, rfl, o2, b2⟩
    have K2 := Lib.hid (K0.out.below b2 K0.out.lt)
    have B2 := Lib.hid (B1.out.trans (b2.mono B1.out.size))
    obtain ⟨a2, c2, rfl, r2⟩ := o2.out
    clear b2 o2 r2 hmk1
    go_wp2_with fail
    go_loopw [8] (fun q wr => q = .int .i64 0 ∧ Blk wr w1.heap.size 4 (trC 32 fun _ => false) ∧ Below w.heap.size w wr) (fun _ _ => 0)
    case atStart => exact ⟨rfl, K2.out, B2.out⟩
    case round =>
      obtain ⟨rfl, hk, hb⟩ := hrel
      have HS1 := Lib.hid (HSo.out _ _ _ hk)
      rw [HE.out] at HS1
      have HB := Lib.hid hb
      clear hk hb
      go_wp2_with fail
      refine HS1.out.mono ?_
      rintro e w3 ⟨v3, rfl, o3, b3⟩
      go_wp2_with fail
      go_ret
      exact ⟨_, rfl, by rw [HV.out]; exact OwnI.base' o3 HB.out.size, HB.out.trans (b3.mono HB.out.size)⟩
  | true =>
    have HS1 := Lib.hid (sel_hit hb hp0)
    have h5 := net_le hb hp0
    have hp := pow_32 h5
    obtain ⟨hl1, hl2, hl3, _⟩ := left_facts hb hp0
    have hz := txtP_size (ps := leftP ps) (by omega)
    have HFp := Lib.hid (fun W => fpS_ok (txtP (leftP ps)) W (by omega))
    rw [txtP_cuts hl1 hl3] at HFp
    rw [hb, rdT_yes hb] at HR
    have HL := Lib.hid (fun j (hj : j < (fpV (leftP ps)).length) => left_gI hb hp0 hj)
    have HLf2 := Lib.hid (fun s W hlt => HLf.out hb s W hlt)
    have hfl := fpV_len (leftP ps) hl3
    clear HLf hb hl1 hl2 hl3 hz
    generalize hzs : fpV (leftP ps) = zs at HFp HL HS1 hfl
    clear hzs
    generalize txtP (leftP ps) = k at HR HFp
    go_enter Tryz.func7, Tryz.ntmps7
    go_wp2_with fail
    refine HR.out.mono ?_
    rintro e w1 ⟨v1, rfl, b1⟩
    have HWs : Hid (w.heap.size ≤ w1.heap.size) := b1.size
    have K0 : Hid (Blk (w1.alloc (.cells bl32 4)) w1.heap.size 4 (trC 32 (hitP ps zs 0))) := Blk.new w1 4 (trC 32 (fun _ => false))
    have B1 := Lib.hid (b1.alloc b1.size (.cells bl32 4))
    have hmk1 := hmk w1
    clear b1 hmk
    go_wp2_with fail
    refine (HFp.out _).mono ?_
    rintro e w2 ⟨v2, rfl, o2, b2⟩
    have K2 := Lib.hid (K0.out.below b2 K0.out.lt)
    have B2 := Lib.hid (B1.out.trans (b2.mono B1.out.size))
    have O2 := Lib.hid o2
    obtain ⟨a2, c2, rfl, r2⟩ := o2.out
    have hg1 : w1.heap.size < (w1.alloc (.cells bl32 4)).heap.size := by simp
    have HG := Lib.hid (fun j (hj : (Value.slice a2 zs.length c2).ownBlock = some j) => Nat.lt_of_lt_of_le hg1 (World.ownsRow.lt O2.out j hj).1)
    clear b2 o2 r2 hmk1 hg1
    go_wp2_with fail
    go_loopw [8] (fun q wr => ∃ j : Nat, j ≤ zs.length ∧ q = .int .i64 j ∧ Blk wr w1.heap.size 4 (trC 32 (hitP ps zs j)) ∧ OwnI wr (w1.heap.size + 1) (.slice a2 zs.length c2) zs ∧ Below w.heap.size w wr) (fun q _ => zs.length - (intOf q).toNat)
    case atStart => exact ⟨0, Nat.zero_le _, rfl, K2.out, OwnI.base' O2.out (by simp), B2.out⟩
    case round =>
      obtain ⟨j, hj, rfl, hk, ho, hbw⟩ := hrel
      have HK := Lib.hid hk
      have HO := Lib.hid ho
      have HB := Lib.hid hbw
      clear hk ho hbw
      by_cases hlt : j < zs.length
      · have hlt' : (j : Int) < (zs.length : Int) := by omega
        obtain ⟨x, hx, hxl, hxn, _⟩ := HL.out j hlt
        have hrow : RowI wr a2 zs.length c2 zs := by
          obtain ⟨a', c', e', r'⟩ := HO.out.out
          injection e' with e1 e2 e3
          subst e1 e3
          exact r'.rowI
        obtain ⟨q, o, rfl, hbo⟩ := hrow.2.some (by omega)
        have hc := hrow.2.cell q o rfl j hlt
        simp only [hx] at hc
        have HLk := Lib.hid (HLf2.out x wr hxl)
        have hnx : hitP ps zs (j + 1) = fun s => hitP ps zs j s || lftN ps x == s := by
          funext s; rw [hitP, hx, Int.toNat_natCast]
        have HNx := Lib.hid hnx
        clear hrow hx hnx
        generalize lftN ps x = y at HLk HNx hxn
        have hyl : (y : Int) < 32 := by omega
        go_wp2_with fail
        refine HLk.out.mono ?_
        rintro e w3 ⟨rfl, b3⟩
        have hK3 := HK.out.below b3 HK.out.lt
        have hcx := hK3.cell (trC_get 32 (hitP ps zs j) y (by omega))
        have hf := hK3.free y
        have hset := hK3.set y (.bool true)
        rw [trC_set, ← HNx.out] at hset
        have HSt := Lib.hid hset
        have O3 := Lib.hid (show OwnI w3 _ _ zs from HO.out.belowB b3 (Nat.le_refl _))
        have B3 := Lib.hid (HB.out.trans (b3.mono HB.out.size))
        have hw1 := hK3.lt
        have HG1 := Lib.hid (fun jj hjj => (World.ownsRow.lt O3.out jj hjj).1)
        clear hK3 hset b3
        go_wp2_with fail
        go_roundw
        case rel =>
          refine ⟨j + 1, by omega, by go_num, HSt.out, World.ownsRow.kept O3.out (grownBy_setCell (World.grownBy.refl w3 (some w1.heap.size)) (a := ⟨w1.heap.size, y, none⟩) rfl (.bool true)) (.inr fun e => ?_), B3.out.setCell ?_ _⟩
          · have := HG1.out _ e; omega
          · exact HWs.out
        case measure => simp [intOf] <;> omega
      · obtain rfl : j = zs.length := by omega
        have hlt' : ¬ (zs.length : Int) < (zs.length : Int) := by omega
        have HS3 := Lib.hid (HSo.out _ _ _ HK.out)
        rw [HS1.out] at HS3
        go_wp2_with fail
        refine HS3.out.mono ?_
        rintro e w3 ⟨v3, rfl, o3, b3⟩
        go_wp2_with fail
        go_ret
        exact ⟨_, rfl, OwnI.base' o3 HB.out.size, HB.out.trans (b3.mono HB.out.size)⟩

end Go.Proofs.YtcmjogojlijdgaaGreatDoor
/- Walks: the chain of removals of the program. -/
namespace Go.Proofs.YtcmjogojlijdgaaGreatDoor
open Go.RowKit

/-- The networks of the chain, and the switches that go. -/
def chP (ps : List ByteArray) : Nat → List ByteArray
  | 0 => ps
  | j + 1 => match fstF (chP ps j) with
    | some i => rdP (chP ps j) i
    | none => chP ps j
def chI (ps : List ByteArray) (j : Nat) : Nat := (fstF (chP ps j)).getD 0
def Chn (ps : List ByteArray) (k : Nat) : Prop := ∀ j, j < k → fstF (chP ps j) = some (chI ps j)
theorem chP_next {ps : List ByteArray} {j i : Nat} (h : fstF (chP ps j) = some i) : chP ps (j + 1) = rdP (chP ps j) i := by rw [chP, h]
theorem chI_at {ps : List ByteArray} {j i : Nat} (h : fstF (chP ps j) = some i) : chI ps j = i := by rw [chI, h]; rfl
theorem Chn.next {ps : List ByteArray} {k i : Nat} (h : Chn ps k) (hi : fstF (chP ps k) = some i) : Chn ps (k + 1) := fun j hj => by
  by_cases e : j = k
  · rw [e, chI_at hi, hi]
  · exact h j (by omega)
theorem Chn.facts {ps : List ByteArray} (hn : netB ps = true) (h0 : 0 < ps.length) {k : Nat} (h : Chn ps k) : ∀ j, j ≤ k → netB (chP ps j) = true ∧ 0 < (chP ps j).length ∧ (chP ps j).length + j = ps.length ∧ leftP (chP ps j) = leftP ps
  | 0, _ => ⟨hn, h0, rfl, rfl⟩
  | j + 1, hj => by
    obtain ⟨a1, a2, a3, a4⟩ := Chn.facts hn h0 h j (by omega)
    have hf := h j (by omega)
    obtain ⟨b1, b2, b3, b4⟩ := rdP_facts a1 hf
    rw [chP_next hf]
    exact ⟨b3, by omega, by omega, by rw [← leftP_some hf, a4]⟩
theorem Chn.lft {ps : List ByteArray} {k : Nat} (h : Chn ps k) {j : Nat} (hj : j < k) (s : Nat) : lftN (chP ps j) s = lfN (chP ps j) (chI ps j) (lftN (chP ps (j + 1)) s) := by
  rw [lftN_some (h j hj), chP_next (h j hj)]
/-- The switches that have gone, as numbers. -/
def chL (ps : List ByteArray) (k : Nat) : List Int := (List.range k).map fun j => ((chI ps j : Nat) : Int)
theorem chL_next (ps : List ByteArray) (k : Nat) : chL ps (k + 1) = chL ps k ++ [((chI ps k : Nat) : Int)] := by simp [chL, List.range_succ]
theorem chL_len (ps : List ByteArray) (k : Nat) : (chL ps k).length = k := by simp [chL]
theorem chL_get (ps : List ByteArray) {k j : Nat} (h : j < k) : gI (chL ps k) j = ((chI ps j : Nat) : Int) := by simp [gI, chL, List.getD, h]

theorem iM : (Tryz.prog.info? 37).map (fun i => (i.zero, i.size, i.bytes)) = some (some (.slice none 0 0), 1, 24) := by kernel_rfl
/-- A slice of networks that the call itself makes. -/
def OwnM (w : World) (B : Nat) (v : Value) (xs : List Value) : Prop := w.ownsRow B 37 1 v xs.length xs
theorem OwnM.alloc {w : World} {B : Nat} {v : Value} {xs : List Value} (h : OwnM w B v xs) (o : Obj) : OwnM (w.alloc o) B v xs := World.ownsRow.alloc h o
theorem OwnM.below {w w' : World} {B B' : Nat} {v : Value} {xs : List Value} (h : OwnM w B v xs) (hb : Below B' w w') (hB : w.heap.size ≤ B') : OwnM w' B v xs := by
  obtain ⟨h0, h1 | ⟨g, cap, cur, e, hg, hh, h2⟩⟩ := h
  · exact ⟨h0, .inl h1⟩
  · exact ⟨h0, .inr ⟨g, cap, cur, e, hg, by rw [hb.block g (by have := lt_of_block hh; omega)]; exact hh, h2⟩⟩
theorem OwnM.base {w : World} {B B' : Nat} {v : Value} {xs : List Value} (h : OwnM w B v xs) (hB : B' ≤ B) : OwnM w B' v xs := by
  obtain ⟨h0, h1 | ⟨g, cap, cur, e, hg, h2⟩⟩ := h
  · exact ⟨h0, .inl h1⟩
  · exact ⟨h0, .inr ⟨g, cap, cur, e, Nat.le_trans hB hg, h2⟩⟩
theorem OwnM.one (w : World) (B : Nat) (u : Value) (hB : B ≤ w.heap.size) : OwnM (w.alloc (.cells #[u] 37)) B (.slice (some ⟨w.heap.size, 0, none⟩) 1 1) [u] :=
  ⟨by simp, .inr ⟨w.heap.size, 1, _, rfl, hB, heap_alloc_new w _, Nat.le_refl _, (by decide), by simp, by simp⟩⟩
theorem OwnM.out {w : World} {B : Nat} {v : Value} {xs : List Value} (h : OwnM w B v xs) (h0 : 0 < xs.length) : ∃ g c, v = .slice (some ⟨g, 0, none⟩) xs.length c ∧ g < w.heap.size ∧ B ≤ g ∧ xs.length ≤ c ∧ c ≤ maxLen ∧ ∀ j u, xs[j]? = some u → w.cell? ⟨g, j, none⟩ = some u := by
  obtain ⟨_, ⟨_, hn⟩ | ⟨g, cap, cur, rfl, hg, hh, hle, hm, hs, ht⟩⟩ := h
  · omega
  · refine ⟨g, cap, rfl, lt_of_block hh, hg, hle, hm, fun j u hj => ?_⟩
    have hjl := (List.getElem?_eq_some_iff.1 hj).1
    rw [cell_of_row w g j cur 37 (0, 0) hh]
    rw [← ht, List.getElem?_take, if_pos (by omega)] at hj
    simpa using hj

/-- 'append(met, w)'. -/
theorem wpList_appM {w : World} {ops : Array Oper} {rest : List Oper} {o : Oper} {a : Act} {Q : Exit → Act → World → Prop} {B : Nat} {v u : Value} {xs : List Value} {g : Nat} (hown : OwnM w B v xs) (hr : w.cell? ⟨g, 0, none⟩ = some u) (hu : u.oneCell' = true)
    (hgd : o.guard = none) (s x : Operand) (ho : o.op = .call { callee := .builtin .append, args := #[s, x], argTypes := #[40, 40] }) (hs : a.eval s = v) (hx : a.eval x = .slice (some ⟨g, 0, none⟩) 1 1)
    (hbytes : xs.length + 1 ≤ 1048576) (hB : B ≤ w.heap.size)
    (h : ∀ v' w', OwnM w' B v' (xs ++ [u]) → w.grownBy w' v.ownBlock → wpList Tryz.prog ops Q rest (a.put o.dst v') w') : wpList Tryz.prog ops Q (o :: rest) a w := by
  obtain ⟨i, hi, hz, hsz, hby⟩ := info_parts iM
  have e1 : xs.length + 1 = (xs ++ [u]).length := by simp
  refine wpList_append_own w hgd s x _ ho B 37 i (.slice none 0 0) 1 24 Tryz.underlying40 hi hz hsz hby rfl (by decide) v _ _ hs hown ⟨g, 0, none⟩ 1 1 [u] hx rfl (fun j y hj => ?_) (fun y hy => by simp at hy; subst hy; exact hu) (by unfold maxLen; omega) (by omega) hB ?_
  · cases j with
    | zero => simp at hj; subst hj; exact hr
    | succ j => simp at hj
  · intro v' w' r1 r2 _
    exact h v' w' (by unfold OwnM; rw [← e1]; exact r1) r2

/-- The networks met: the given one, then those that the call has made. -/
def MetIs (w : World) (B : Nat) (ps : List ByteArray) (ao : Option Addr) (c0 : Nat) (k : Nat) (xs : List Value) : Prop :=
  xs.length = k + 1 ∧ ∀ j, j ≤ k → ∃ a c, xs[j]? = some (.slice a (chP ps j).length c) ∧ (j = 0 → a = ao ∧ c = c0) ∧ (0 < j → OwnN w B (.slice a (chP ps j).length c) (chP ps j).length (bitsN (chP ps j) (chP ps j).length))
theorem MetIs.keep {w w' : World} {B : Nat} {ps : List ByteArray} {ao : Option Addr} {c0 k : Nat} {xs : List Value} (h : MetIs w B ps ao c0 k xs) (hk : ∀ v n bss, OwnN w B v n bss → OwnN w' B v n bss) : MetIs w' B ps ao c0 k xs :=
  ⟨h.1, fun j hj => let ⟨a, c, e, h0, h1⟩ := h.2 j hj; ⟨a, c, e, h0, fun hp => hk _ _ _ (h1 hp)⟩⟩
theorem MetIs.base {w : World} {B B' : Nat} {ps : List ByteArray} {ao : Option Addr} {c0 k : Nat} {xs : List Value} (h : MetIs w B ps ao c0 k xs) (hB : B' ≤ B) : MetIs w B' ps ao c0 k xs :=
  ⟨h.1, fun j hj => let ⟨a, c, e, h0, h1⟩ := h.2 j hj; ⟨a, c, e, h0, fun hp => (h1 hp).base hB⟩⟩
theorem MetIs.below {w w' : World} {B B' : Nat} {ps : List ByteArray} {ao : Option Addr} {c0 k : Nat} {xs : List Value} (h : MetIs w B ps ao c0 k xs) (hb : Below B' w w') (hB : w.heap.size ≤ B') : MetIs w' B ps ao c0 k xs := h.keep fun _ _ _ ho => ho.below hb hB
theorem MetIs.row {w : World} {B : Nat} {ps : List ByteArray} {ao : Option Addr} {c0 k : Nat} {xs : List Value} (h : MetIs w B ps ao c0 k xs) (h0 : RowN w ao ps.length c0 ps.length (bitsN ps ps.length)) {j : Nat} (hj : j ≤ k) :
    ∃ a c, xs[j]? = some (.slice a (chP ps j).length c) ∧ RowN w a (chP ps j).length c (chP ps j).length (bitsN (chP ps j) (chP ps j).length) := by
  obtain ⟨a, c, e, h1, h2⟩ := h.2 j hj
  refine ⟨a, c, e, ?_⟩
  by_cases hz : j = 0
  · subst hz
    obtain ⟨rfl, rfl⟩ := h1 rfl
    exact h0
  · have ho := h2 (by omega)
    obtain ⟨a', c', e', r⟩ := ho.row (bitsN_wide _ _)
    rw [bitsN_len] at e' r
    injection e' with e1 e2 e3
    subst e1 e3
    exact r
theorem MetIs.zero (w : World) (B : Nat) (ps : List ByteArray) (ao : Option Addr) (c0 : Nat) : MetIs w B ps ao c0 0 [.slice ao ps.length c0] :=
  ⟨rfl, fun j hj => by
    obtain rfl : j = 0 := by omega
    exact ⟨ao, c0, rfl, fun _ => ⟨rfl, rfl⟩, fun h => absurd h (Nat.lt_irrefl _)⟩⟩
theorem MetIs.next {w : World} {B : Nat} {ps : List ByteArray} {ao : Option Addr} {c0 k : Nat} {xs : List Value} {v : Value} (h : MetIs w B ps ao c0 k xs) (ho : OwnN w B v (chP ps (k + 1)).length (bitsN (chP ps (k + 1)) (chP ps (k + 1)).length)) : MetIs w B ps ao c0 (k + 1) (xs ++ [v]) := by
  obtain ⟨a, c, rfl, _⟩ := ho.row (bitsN_wide _ _)
  rw [bitsN_len] at ho ⊢
  refine ⟨by simp [h.1], fun j hj => ?_⟩
  by_cases e : j = k + 1
  · subst e
    exact ⟨a, c, by rw [List.getElem?_append_right (by rw [h.1]; omega), h.1]; simp, fun h => by omega, fun _ => ho⟩
  · obtain ⟨a', c', e', h1, h2⟩ := h.2 j (by omega)
    exact ⟨a', c', by rw [List.getElem?_append_left (by rw [h.1]; omega)]; exact e', h1, h2⟩

end Go.Proofs.YtcmjogojlijdgaaGreatDoor
/- Walks: reduce. -/
namespace Go.Proofs.YtcmjogojlijdgaaGreatDoor
open Go.RowKit

/-- What reduce gives. -/
def RedR (w : World) (ps : List ByteArray) (ao : Option Addr) (c0 : Nat) (mv gv : Value) (w' : World) : Prop :=
  ∃ (k : Nat) (xs : List Value), OwnM w' w.heap.size mv xs ∧ OwnI w' w.heap.size gv (chL ps k) ∧ MetIs w' w.heap.size ps ao c0 k xs ∧ Chn ps k ∧ fstF (chP ps k) = none ∧ Below w.heap.size w w'
theorem OwnM.kept {w w' : World} {B : Nat} {v : Value} {xs : List Value} {row : Option Nat} (h : OwnM w B v xs) (hg : w.grownBy w' row) (hne : v.ownBlock = none ∨ v.ownBlock ≠ row) : OwnM w' B v xs := World.ownsRow.kept h hg hne
theorem OwnN.kept {w w' : World} {B : Nat} {v : Value} {n : Int} {bss : List (List Int)} {row : Option Nat} (h : OwnN w B v n bss) (hg : w.grownBy w' row) (hne : v.ownBlock = none ∨ v.ownBlock ≠ row) : OwnN w' B v n bss := World.ownsRow.kept h hg hne
theorem OwnI.keptR {w w' : World} {B : Nat} {v : Value} {zs : List Int} {row : Option Nat} (h : OwnI w B v zs) (hg : w.grownBy w' row) (hne : v.ownBlock = none ∨ v.ownBlock ≠ row) : OwnI w' B v zs := World.ownsRow.kept h hg hne

set_option maxRecDepth 100000 in
set_option maxHeartbeats 8000000 in
theorem reduce_ok (ao : Option Addr) (c : Nat) (ps : List ByteArray) (w : World) (h : RowN w ao ps.length c ps.length (bitsN ps ps.length)) (hn : netB ps = true) (h0 : 0 < ps.length) :
    Calls Tryz.prog 17 #[.slice ao ps.length c] w fun e w' => ∃ mv gv, e = .returned (.tuple #[mv, gv]) ∧ RedR w ps ao c mv gv w' := by
  have h5 := net_le hn h0
  have HFr := Lib.hid (fun a (L : Nat) c (qs : List ByteArray) i W (h : RowN W a qs.length c qs.length (bitsN qs qs.length)) (hn : netB qs = true) (hL : L = qs.length) (hl : L ≤ 5) (hi : i < L) => (show Calls Tryz.prog 39 #[.slice a L c, .int .i64 i] W fun e w' => e = .returned (.bool (freeB qs i)) ∧ Below W.heap.size W w' by subst hL; exact removable_ok a c qs i W h hn hl hi))
  have HRm := Lib.hid (fun a (L : Nat) c (qs : List ByteArray) i W (h : RowN W a qs.length c qs.length (bitsN qs qs.length)) (hn : netB qs = true) (hL : L = qs.length) (hl : L ≤ 5) (h1 : 1 < L) (hi : i < L) => (show Calls Tryz.prog 40 #[.slice a L c, .int .i64 i] W fun e w' => ∃ v, e = .returned v ∧ OwnN w' W.heap.size v (rdP qs i).length (bitsN (rdP qs i) (rdP qs i).length) ∧ Below W.heap.size W w' by subst hL; rw [rdP_len]; exact remove_ok a c qs i W h hn hl h1 hi))
  have HROW := Lib.hid h
  have HFa := Lib.hid (fun k (h : Chn ps k) => h.facts hn h0 k (Nat.le_refl _))
  have M0 := Lib.hid (OwnM.one w w.heap.size (.slice ao ps.length c) (Nat.le_refl _))
  have B0 := Lib.hid ((Below.refl w.heap.size w).alloc (Nat.le_refl _) (.cells #[.slice ao ps.length c] 37))
  clear h hn
  go_enter Tryz.func17, Tryz.ntmps17
  go_wp2_with fail
  go_loopw [4, 5] (fun u v wr => ∃ (k : Nat) (xs : List Value), OwnM wr w.heap.size u xs ∧ OwnI wr w.heap.size v (chL ps k) ∧ MetIs wr w.heap.size ps ao c k xs ∧ Chn ps k ∧ Below w.heap.size w wr) (fun u _ _ => 6 - slN u)
  case atStart => exact ⟨0, [.slice ao ps.length c], M0.out, OwnI.nil _ _, MetIs.zero _ _ _ _ _, fun j hj => absurd hj (Nat.not_lt_zero _), B0.out⟩
  case round =>
    obtain ⟨k, xs, hm, hg, hmet, hch, hb⟩ := hrel
    have HG := Lib.hid hg
    have HMet := Lib.hid hmet
    have HCh := Lib.hid hch
    have HB := Lib.hid hb
    have HM := Lib.hid hm
    obtain ⟨q1, q2, q3, _⟩ := HFa.out k hch
    have hxl := hmet.1
    obtain ⟨g, cm, rfl, hgl, hgB, hle, hcm, hcell⟩ := hm.out (by omega)
    obtain ⟨a1, c1, e1, r1⟩ := hmet.row (HROW.out.below hb (Nat.le_refl _)) (Nat.le_refl k)
    have hcx := hcell k _ e1
    have HXk := Lib.hid e1
    have R1 := Lib.hid r1
    have HQn := Lib.hid q1
    obtain ⟨Q, hQ⟩ : ∃ Q, Q = chP ps k := ⟨_, rfl⟩
    have HQ := Lib.hid hQ
    rw [← hQ] at R1 HQn q2 q3 hcx HXk
    obtain ⟨L, hL⟩ : ∃ L, L = Q.length := ⟨_, rfl⟩
    have HL := Lib.hid hL
    rw [← hL] at hcx q2 q3
    have h5' : L ≤ 5 := by omega
    have hkk : (k : Int) + 1 - 1 = (k : Int) := by omega
    rw [hxl] at HM ⊢
    clear hm hg hmet hch hb hcell e1 r1 q1 hQ hL hle hcm
    go_wp2_with fail
    obtain ⟨wo, hwo⟩ : ∃ wo : World, wo = wr := ⟨_, rfl⟩
    subst hwo
    go_loopw [7] (fun q wi => ∃ i : Nat, i ≤ L ∧ q = .int .i64 i ∧ (∀ j, j < i → freeB Q j = false) ∧ Below wo.heap.size wo wi) (fun q _ => L - (intOf q).toNat)
    case atStart => exact ⟨0, Nat.zero_le _, rfl, fun j hj => absurd hj (Nat.not_lt_zero _), Below.refl _ _⟩
    case round =>
      obtain ⟨i, hi, rfl, hall, hbi⟩ := hrel
      have HA := Lib.hid hall
      have HBi := Lib.hid hbi
      have HW := Lib.hid (HB.out.trans (hbi.mono HB.out.size))
      have HMi := Lib.hid (HM.out.below hbi (Nat.le_refl _))
      have HGi := Lib.hid (HG.out.belowB hbi (Nat.le_refl _))
      have HTi := Lib.hid (HMet.out.below hbi (Nat.le_refl _))
      have HRi := Lib.hid (R1.out.below hbi (Nat.le_refl _))
      clear hall hbi
      by_cases hlt : i < L
      · have hlt' : (i : Int) < (L : Int) := by omega
        have HFk := Lib.hid (HFr.out a1 L c1 Q i _ HRi.out HQn.out HL.out h5' hlt)
        cases hf : freeB Q i with
        | false =>
          have HNf := Lib.hid hf
          rw [hf] at HFk
          clear hf
          go_wp2_with fail
          refine HFk.out.mono ?_
          rintro e w2 ⟨rfl, b2⟩
          have B2 := Lib.hid (HBi.out.trans (b2.mono HBi.out.size))
          clear b2
          go_wp2_with fail
          go_roundw
          case rel => exact ⟨i + 1, by omega, by go_num, fun j hj => by
            by_cases e : j = i
            · rw [e]; exact HNf.out
            · exact HA.out j (by omega), B2.out⟩
          case measure => simp [intOf]; omega
        | true =>
          have HF := Lib.hid (fstF_at (by rw [← HL.out]; exact hlt) hf HA.out)
          rw [HQ.out] at HF
          have hfree := hf
          rw [freeB, Bool.and_eq_true, decide_eq_true_iff, ← HL.out] at hfree
          have h1 := hfree.1
          have hne : ((i : Int) == (L : Int)) = false := by rw [beq_eq_false_iff_ne]; omega
          have HCI := Lib.hid (chI_at HF.out)
          have HCN := Lib.hid (chL_next ps k)
          rw [HCI.out] at HCN
          have hcl := chL_len ps k
          rw [hf] at HFk
          clear hf hfree
          go_wp2_with fail
          refine HFk.out.mono ?_
          rintro e w2 ⟨rfl, b2⟩
          have B2 := Lib.hid (HW.out.trans (b2.mono HW.out.size))
          have M2 := Lib.hid (HMi.out.below b2 (Nat.le_refl _))
          have G2 := Lib.hid (HGi.out.belowB b2 (Nat.le_refl _))
          have T2 := Lib.hid (HTi.out.below b2 (Nat.le_refl _))
          clear b2
          go_wp2_with (at_builtin; refine wpList_appI (OwnI.alloc G2.out _) (RowI.one _ _) rfl _ _ rfl rfl rfl (by omega) (by have := B2.out.size; simp; omega) ?_; intro v6 w6 o6 g6)
          have MA := OwnM.alloc M2.out (.cells #[.int .i64 i] 3)
          have GA := OwnI.alloc G2.out (.cells #[.int .i64 i] 3)
          have C6 := Lib.hid ((B2.out.alloc B2.out.size (.cells #[.int .i64 i] 3)).grown g6 (by have := B2.out.size; simp; omega) (fun j hj => (World.ownsRow.lt G2.out j hj).1))
          have M6 := Lib.hid (MA.kept g6 (own_ne (by decide) MA GA))
          have T6 := Lib.hid (T2.out.keep fun v n bss ho => (OwnN.alloc ho (.cells #[.int .i64 i] 3)).kept g6 (own_ne (by decide) (OwnN.alloc ho (.cells #[.int .i64 i] 3)) GA))
          have G6 := Lib.hid o6
          have R6 : Hid (RowN w6 a1 Q.length c1 Q.length (bitsN Q Q.length)) := by
            obtain ⟨a', c', e', r'⟩ := T6.out.row (HROW.out.below C6.out (Nat.le_refl _)) (Nat.le_refl k)
            rw [← HQ.out] at e' r'
            have e2 := HXk.out
            rw [e'] at e2
            injection e2 with e2
            injection e2 with e3 e4 e5
            subst e3 e5
            exact r'
          have HRk := Lib.hid (HRm.out a1 L c1 Q i _ R6.out HQn.out HL.out h5' h1 hlt)
          clear MA GA o6 g6
          go_wp2_with fail
          refine HRk.out.mono ?_
          rintro e w7 ⟨v7, rfl, o7, b7⟩
          obtain ⟨a7, l7, c7, rfl⟩ : ∃ a l c, v7 = .slice a l c := let ⟨a, c, e, _⟩ := o7.row (bitsN_wide _ _); ⟨a, _, c, e⟩
          have C7 := Lib.hid (C6.out.trans (b7.mono C6.out.size))
          have M7 := Lib.hid (M6.out.below b7 (Nat.le_refl _))
          have G7 := Lib.hid (G6.out.belowB b7 (Nat.le_refl _))
          have T7 := Lib.hid (T6.out.below b7 (Nat.le_refl _))
          have O7 := Lib.hid (o7.base C6.out.size)
          clear o7 b7
          go_wp2_with (at_builtin; go_must (refine wpList_appM (OwnM.alloc M7.out _) ((Blk.new w7 37 [Value.slice a7 l7 c7]).cell (i := 0) rfl) rfl rfl _ _ rfl rfl rfl (by omega) (by have := C7.out.size; simp; omega) ?_); intro v8 w8 o8 g8)
          have MA := OwnM.alloc M7.out (.cells #[Value.slice a7 l7 c7] 37)
          have GA := OwnI.alloc G7.out (.cells #[Value.slice a7 l7 c7] 37)
          have OA := OwnN.alloc O7.out (.cells #[Value.slice a7 l7 c7] 37)
          have C8 := Lib.hid ((C7.out.alloc C7.out.size (.cells #[Value.slice a7 l7 c7] 37)).grown g8 (by have := C7.out.size; simp; omega) (fun j hj => (World.ownsRow.lt M7.out j hj).1))
          have G8 := Lib.hid (GA.keptR g8 (own_ne (by decide) GA MA))
          have T8 := Lib.hid (T7.out.keep fun v n bss ho => (OwnN.alloc ho (.cells #[Value.slice a7 l7 c7] 37)).kept g8 (own_ne (by decide) (OwnN.alloc ho (.cells #[Value.slice a7 l7 c7] 37)) MA))
          have O8 := Lib.hid (OA.kept g8 (own_ne (by decide) OA MA))
          have T9 := Lib.hid (T8.out.next (v := .slice a7 l7 c7) (by rw [chP_next HF.out, ← HQ.out]; exact O8.out))
          have HS8 : Hid (slN v8 = k + 2) := by
            obtain ⟨g', c', e', _⟩ := o8.out (by simp)
            rw [e']
            show (xs ++ [Value.slice a7 l7 c7]).length = k + 2
            simp [hxl]
          have HO8 := Lib.hid o8
          clear MA GA OA g8 o8
          go_roundw
          case rel => exact ⟨k + 1, xs ++ [Value.slice a7 l7 c7], HO8.out, by rw [HCN.out]; exact G8.out, T9.out, HCh.out.next HF.out, C8.out⟩
          case measure => have := HS8.out; simp [slN] at this ⊢; omega
      · obtain rfl : i = L := by omega
        have HF := Lib.hid (fstF_not (fun j hj => HA.out j (by rw [HL.out]; exact hj)))
        rw [HQ.out] at HF
        have hlt' : ¬ (i : Int) < (i : Int) := by omega
        go_wp2_with fail
        go_ret2
        exact ⟨_, _, rfl, k, xs, HMi.out, HGi.out, HTi.out, HCh.out, HF.out, HW.out⟩

end Go.Proofs.YtcmjogojlijdgaaGreatDoor
/- Walks: liftAll. -/
namespace Go.Proofs.YtcmjogojlijdgaaGreatDoor
open Go.RowKit

/-- What reduce has left, to be read. -/
structure Held (w : World) (ps : List ByteArray) (k g cm : Nat) (ga : Option Addr) (cg : Nat) : Prop where
  lt : g < w.heap.size
  le : k + 1 ≤ cm
  cap : cm ≤ maxLen
  met : ∀ j, j ≤ k → ∃ a c, w.cell? ⟨g, j, none⟩ = some (.slice a (chP ps j).length c) ∧ RowN w a (chP ps j).length c (chP ps j).length (bitsN (chP ps j) (chP ps j).length)
  gone : RowI w ga k cg (chL ps k)
  sp : ∀ a, ga = some a → ∃ b o, a = ⟨b, o, none⟩
theorem Held.below {w w' : World} {B : Nat} {ps : List ByteArray} {k g cm : Nat} {ga : Option Addr} {cg : Nat} (h : Held w ps k g cm ga cg) (hb : Below B w w') (hB : w.heap.size ≤ B) : Held w' ps k g cm ga cg :=
  ⟨Nat.lt_of_lt_of_le h.lt hb.size, h.le, h.cap, fun j hj => let ⟨a, c, e, r⟩ := h.met j hj; ⟨a, c, (hb.cell (p := ⟨g, j, none⟩) (Nat.lt_of_lt_of_le h.lt hB)).trans e, r.below hb hB⟩, h.gone.below hb hB, h.sp⟩
theorem RedR.held {w w' : World} {ps : List ByteArray} {ao : Option Addr} {c0 : Nat} {mv gv : Value} (h : RedR w ps ao c0 mv gv w') (h0 : RowN w ao ps.length c0 ps.length (bitsN ps ps.length)) :
    ∃ k g cm ga cg, mv = .slice (some ⟨g, 0, none⟩) (k + 1) cm ∧ gv = .slice ga k cg ∧ Held w' ps k g cm ga cg ∧ Chn ps k ∧ fstF (chP ps k) = none ∧ Below w.heap.size w w' := by
  obtain ⟨k, xs, hm, hg, hmet, hch, hf, hb⟩ := h
  have hxl := hmet.1
  obtain ⟨g, cm, rfl, hgl, hgB, hle, hcm, hcell⟩ := hm.out (by omega)
  obtain ⟨ga, cg, rfl, hgo, hsp⟩ := hg.outC
  have hcl := chL_len ps k
  have hr := hgo.rowI
  rw [hcl] at hr ⊢
  rw [hxl]
  refine ⟨k, g, cm, ga, cg, rfl, rfl, ⟨hgl, by omega, hcm, fun j hj => ?_, hr, hsp⟩, hch, hf, hb⟩
  obtain ⟨a, c, e, r⟩ := hmet.row (h0.below hb (Nat.le_refl _)) hj
  exact ⟨a, c, hcell j _ e, r⟩
theorem held2o {wr W w5 : World} {q1 o1 q2 o2 : Nat} {v1 v2 : Value} (h : Below wr.heap.size wr W ∧ W.cell? ⟨q1, o1, none⟩ = some v1 ∧ W.cell? ⟨q2, o2, none⟩ = some v2) (b : Below W.heap.size W w5) (h1 : q1 < wr.heap.size) (h2 : q2 < wr.heap.size) :
    Below wr.heap.size wr w5 ∧ w5.cell? ⟨q1, o1, none⟩ = some v1 ∧ w5.cell? ⟨q2, o2, none⟩ = some v2 :=
  ⟨h.1.trans (b.mono h.1.size), (b.cell (p := ⟨q1, o1, none⟩) (Nat.lt_of_lt_of_le h1 h.1.size)).trans h.2.1, (b.cell (p := ⟨q2, o2, none⟩) (Nat.lt_of_lt_of_le h2 h.1.size)).trans h.2.2⟩

set_option maxRecDepth 100000 in
set_option maxHeartbeats 4000000 in
theorem liftAll_ok (ps : List ByteArray) (k g cm : Nat) (ga : Option Addr) (cg s : Nat) (w : World) (h : Held w ps k g cm ga cg) (hn : netB ps = true) (h0 : 0 < ps.length) (hch : Chn ps k) (hf : fstF (chP ps k) = none) (hs : s < 2 ^ (leftP ps).length) :
    Calls Tryz.prog 19 #[.slice (some ⟨g, 0, none⟩) (k + 1) cm, .slice ga k cg, .int .i64 s] w fun e w' => e = .returned (.int .i64 (lftN ps s : Nat)) ∧ Below w.heap.size w w' := by
  have h5 := net_le hn h0
  have HH := Lib.hid h
  have HE : Hid (lftN (chP ps k) s = s) := lftN_none hf s
  have HZ : Hid (lftN ps s = lftN (chP ps 0) s) := rfl
  have hks : k ≤ 5 := by have := (hch.facts hn h0 k (Nat.le_refl _)).2.2.1; omega
  have HLf := Lib.hid (fun j a c W (hj : j < k) (hr : RowN W a (chP ps j).length c (chP ps j).length (bitsN (chP ps j) (chP ps j).length)) => (show Calls Tryz.prog 41 #[.slice a (chP ps j).length c, .int .i64 (chI ps j), .int .i64 (lftN (chP ps (j + 1)) s : Nat)] W fun e w' => e = .returned (.int .i64 (lftN (chP ps j) s : Nat)) ∧ Below W.heap.size W w' by
    obtain ⟨q1, q2, q3, q4⟩ := hch.facts hn h0 j (by omega)
    obtain ⟨p1, p2, p3, p4⟩ := hch.facts hn h0 (j + 1) (by omega)
    obtain ⟨hi, hfr⟩ := fstF_some (hch j hj)
    have h1 := (free_one hfr).1
    have hlt := ((left_facts p1 p2).2.2.2.1 s (by rw [p4]; exact hs)).1
    rw [show (chP ps (j + 1)).length = (chP ps j).length - 1 by omega] at hlt
    have := lift_ok a c (chP ps j) (chI ps j) (lftN (chP ps (j + 1)) s) W hr q1 (by omega) h1 hi hlt
    rw [← hch.lft hj s] at this
    exact this))
  clear h hn hch hf hs
  go_enter Tryz.func19, Tryz.ntmps19
  go_wp2_with fail
  go_loopw [2, 7] (fun v q wr => ∃ j : Nat, j ≤ k ∧ q = .int .i64 ((j : Int) - 1) ∧ v = .int .i64 (lftN (chP ps j) s : Nat) ∧ Below w.heap.size w wr) (fun _ q _ => (intOf q + 1).toNat)
  case atStart => exact ⟨k, Nat.le_refl _, rfl, by rw [HE.out], Below.refl _ _⟩
  case round =>
    obtain ⟨j, hj, rfl, rfl, hb⟩ := hrel
    have HB := Lib.hid hb
    have HW := Lib.hid (HH.out.below hb (Nat.le_refl _))
    clear hb
    cases j with
    | zero =>
      have hq : ¬ (0 : Int) ≤ ((0 : Nat) : Int) - 1 := by omega
      go_wp2_with fail
      go_ret
      exact ⟨rfl, HB.out⟩
    | succ j =>
      have hq : (((j + 1 : Nat) : Int) - 1) = (j : Int) := by omega
      rw [hq]
      have hq2 : (0 : Int) ≤ (j : Int) := by omega
      obtain ⟨a, c, hc1, hr⟩ := HW.out.met j (by omega)
      obtain ⟨b, o, rfl, hbo⟩ := HW.out.gone.2.some (by omega)
      have hc2 := HW.out.gone.2.cell b o rfl j (by omega)
      simp only [chL_get ps (show j < k by omega)] at hc2
      have l1 := HW.out.lt
      have HLk := Lib.hid (fun W (hW : Below wr.heap.size wr W) => HLf.out j a c W (by omega) (hr.below hW (Nat.le_refl _)))
      have hjk : (j : Int) < (k : Int) := by omega
      have hjk1 : (j : Int) < (k : Int) + 1 := by omega
      have hjk2 : (j : Int) < ((k + 1 : Nat) : Int) := by omega
      have hjk3 : j < k + 1 := by omega
      clear hr hq
      generalize lftN (chP ps (j + 1)) s = x at HLk
      generalize chI ps j = i at HLk hc2
      generalize (chP ps j).length = L at HLk hc1
      go_wp2_with fail
      go_region_held3 (fun w' => Below wr.heap.size wr w' ∧ w'.cell? ⟨g, j, none⟩ = some (.slice a L c) ∧ w'.cell? ⟨b, o + j, none⟩ = some (.int .i64 i))
        (first | exact ⟨⟨rfl, rfl, rfl, Nat.le_refl _, fun _ _ => rfl⟩, hc1, hc2⟩ | exact held2o (by assumption) b5 l1 hbo)
        ((refine (HLk.out _ ?_).mono ?_; (exact (by assumption : _ ∧ _ ∧ _).1); rintro e w5 ⟨rfl, b5⟩))
      have HB5 : Hid (Below wr.heap.size wr w5) := (by assumption : Below wr.heap.size wr w5 ∧ _ ∧ _).1
      go_wp2_with fail
      go_roundw
      case rel => exact ⟨j, by omega, by go_num, rfl, HB.out.trans (HB5.out.mono HB.out.size)⟩
      case measure => simp [intOf] <;> omega

end Go.Proofs.YtcmjogojlijdgaaGreatDoor
/- Walks: the program's ReduceNetwork, LiftPoint. -/
namespace Go.Proofs.YtcmjogojlijdgaaGreatDoor
open Go.RowKit

theorem chn_left {ps : List ByteArray} (hn : netB ps = true) (h0 : 0 < ps.length) {k : Nat} (h : Chn ps k) (hf : fstF (chP ps k) = none) : chP ps k = leftP ps := by
  rw [← (h.facts hn h0 k (Nat.le_refl _)).2.2.2, leftP_none hf]
/-- What is left, to be read. -/
theorem Held.last {w : World} {ps : List ByteArray} {k g cm : Nat} {ga : Option Addr} {cg : Nat} (h : Held w ps k g cm ga cg) (e : chP ps k = leftP ps) :
    ∃ a c, w.cell? ⟨g, k, none⟩ = some (.slice a (leftP ps).length c) ∧ RowN w a (leftP ps).length c (leftP ps).length (bitsN (leftP ps) (leftP ps).length) := by
  obtain ⟨a, c, h1, h2⟩ := h.met k (Nat.le_refl _)
  rw [e] at h1 h2
  exact ⟨a, c, h1, h2⟩

set_option maxHeartbeats 4000000 in
theorem redI_ok (t : ByteArray) (w : World) (hs : t.size ≤ 1048576) (hm : MaxLenIs w) :
    Calls Tryz.prog 8 #[.string t] w fun e w' => ∃ v, e = .returned (.tuple #[.string (rdT (cutsP 44 t)), v, .bool (netB (cutsP 44 t))]) ∧ Below w.heap.size w w' := by
  have HO := Lib.hid (readNetwork_ok t w hs hm)
  have hp0 := cutsP_pos 44 t
  generalize cutsP 44 t = ps at HO hp0 ⊢
  cases hb : netB ps with
  | false =>
    have HV := Lib.hid (rdT_no hb)
    rw [hb] at HO
    clear hb
    go_enter Tryz.func8, Tryz.ntmps8
    go_wp2_with fail
    refine HO.out.mono ?_
    rintro e w1 ⟨v, rfl, o1, b1⟩
    clear o1
    go_wp2_with fail
    go_ret3
    exact ⟨_, ret3 HV.out.symm rfl, b1⟩
  | true =>
    have HV := Lib.hid (rdT_yes hb)
    have h5 := net_le hb hp0
    have HN := Lib.hid (netN_yes hb)
    have hlen := bitsN_len ps ps.length
    have HR := Lib.hid (fun a c W (h : RowN W a ps.length c ps.length (bitsN ps ps.length)) => reduce_ok a c ps W h hb hp0)
    have HE := Lib.hid (fun k (h : Chn ps k) (hf : fstF (chP ps k) = none) => chn_left hb hp0 h hf)
    have HK5 := Lib.hid (fun k (h : Chn ps k) => (h.facts hb hp0 k (Nat.le_refl _)).2.2.1)
    obtain ⟨l1, l2, l3, _⟩ := left_facts hb hp0
    have HT := Lib.hid (fun a c W (h : RowN W a (leftP ps).length c (leftP ps).length (bitsN (leftP ps) (leftP ps).length)) => (show Calls Tryz.prog 25 #[.slice a (leftP ps).length c] W fun e w' => e = .returned (.string (rdT ps)) ∧ Below W.heap.size W w' by
      rw [bits_tabs l1] at h
      rw [HV.out]
      exact netText_ok a _ c (bitN (leftP ps)) W h (by omega) fun k s hk _ => bitN_lt (netB_get l1 k hk).1 s))
    rw [hb] at HO
    clear hb l1
    go_enter Tryz.func8, Tryz.ntmps8
    go_wp2_with fail
    refine HO.out.mono ?_
    rintro e w1 ⟨v, rfl, o1, b1⟩
    rw [HN.out] at o1
    obtain ⟨a1, c1, rfl, r1⟩ := o1.row (bitsN_wide ps ps.length)
    rw [hlen] at r1 ⊢
    have HR1 := Lib.hid (HR.out _ _ _ r1)
    have R1 := Lib.hid r1
    have B1 := Lib.hid b1
    clear o1 r1 b1 hlen
    go_wp2_with fail
    refine HR1.out.mono ?_
    rintro e w2 ⟨mv, gv, rfl, hr2⟩
    obtain ⟨k, g, cm, ga, cg, rfl, rfl, hh2, hch, hf, b2⟩ := hr2.held R1.out
    obtain ⟨a, c, hc1, hr⟩ := hh2.last (HE.out k hch hf)
    have HT1 := Lib.hid (HT.out _ _ _ hr)
    have HH := Lib.hid hh2
    have B2 := Lib.hid (B1.out.trans (b2.mono B1.out.size))
    have hkk : (k : Int) + 1 - 1 = (k : Int) := by omega
    have hk5 : k ≤ 5 := by have := HK5.out k hch; omega
    have HCl := Lib.hid (fun W => ClipI_ok ga k cg W HH.out.gone.2.le HH.out.gone.2.cap HH.out.gone.2.nil HH.out.sp)
    clear hr2 hr hh2 hch hf b2
    generalize (leftP ps).length = L at hc1 HT1 l2 l3
    go_wp2_with fail
    refine HT1.out.mono ?_
    rintro e w3 ⟨rfl, b3⟩
    have B3 := Lib.hid (B2.out.trans (b3.mono B2.out.size))
    clear b3
    go_wp2_with fail
    refine (HCl.out _).mono ?_
    rintro e w4 ⟨rfl, rfl⟩
    go_wp2_with fail
    go_ret3
    exact ⟨_, rfl, B3.out⟩

set_option maxHeartbeats 4000000 in
theorem liftI_ok (t : ByteArray) (s : Nat) (w : World) (hs : t.size ≤ 1048576) (hm : MaxLenIs w) (hn : netB (cutsP 44 t) = true) (hlt : s < 2 ^ (leftP (cutsP 44 t)).length) :
    Calls Tryz.prog 10 #[.string t, .int .i64 s] w fun e w' => e = .returned (.int .i64 (lftN (cutsP 44 t) s : Nat)) ∧ Below w.heap.size w w' := by
  have HO := Lib.hid (readNetwork_ok t w hs hm)
  have hp0 := cutsP_pos 44 t
  generalize cutsP 44 t = ps at HO hp0 hn hlt ⊢
  have h5 := net_le hn hp0
  have HN := Lib.hid (netN_yes hn)
  have hlen := bitsN_len ps ps.length
  have HR := Lib.hid (fun a c W (h : RowN W a ps.length c ps.length (bitsN ps ps.length)) => reduce_ok a c ps W h hn hp0)
  have HE := Lib.hid (fun k (h : Chn ps k) (hf : fstF (chP ps k) = none) => chn_left hn hp0 h hf)
  have HK5 := Lib.hid (fun k (h : Chn ps k) => (h.facts hn hp0 k (Nat.le_refl _)).2.2.1)
  obtain ⟨l1, l2, l3, _⟩ := left_facts hn hp0
  have HSt := Lib.hid (fun a c W => states_ok a (leftP ps).length c W (by omega))
  have HLa := Lib.hid (fun k g cm ga cg W (h : Held W ps k g cm ga cg) (hch : Chn ps k) (hf : fstF (chP ps k) = none) => liftAll_ok ps k g cm ga cg s W h hn hp0 hch hf hlt)
  rw [hn] at HO
  have hlt' : (s : Int) < ((2 ^ (leftP ps).length : Nat) : Int) := by omega
  have hs0 : ¬ ((s : Int) < 0) := by omega
  clear hn l1 hlt
  generalize lftN ps s = r at HLa ⊢
  generalize (2 ^ (leftP ps).length : Nat) = N at HSt hlt'
  go_enter Tryz.func10, Tryz.ntmps10
  go_wp2_with fail
  refine HO.out.mono ?_
  rintro e w1 ⟨v, rfl, o1, b1⟩
  rw [HN.out] at o1
  obtain ⟨a1, c1, rfl, r1⟩ := o1.row (bitsN_wide ps ps.length)
  rw [hlen] at r1 ⊢
  have HR1 := Lib.hid (HR.out _ _ _ r1)
  have R1 := Lib.hid r1
  have B1 := Lib.hid b1
  clear o1 r1 b1 hlen
  go_wp2_with fail
  refine HR1.out.mono ?_
  rintro e w2 ⟨mv, gv, rfl, hr2⟩
  obtain ⟨k, g, cm, ga, cg, rfl, rfl, hh2, hch, hf, b2⟩ := hr2.held R1.out
  obtain ⟨a, c, hc1, hr⟩ := hh2.last (HE.out k hch hf)
  have HL2 := Lib.hid (HLa.out _ _ _ _ _ _ hh2 hch hf)
  have B2 := Lib.hid (B1.out.trans (b2.mono B1.out.size))
  have hkk : (k : Int) + 1 - 1 = (k : Int) := by omega
  have hk5 : k ≤ 5 := by have := HK5.out k hch; omega
  clear hr2 hr hh2 hch hf b2
  generalize (leftP ps).length = L at hc1 HSt l2 l3
  have HSt2 := Lib.hid (HSt.out a c w2)
  go_wp2_with fail
  refine HSt2.out.mono ?_
  rintro e w3 ⟨rfl, rfl⟩
  go_wp2_with fail
  refine HL2.out.mono ?_
  rintro e w4 ⟨rfl, b4⟩
  go_wp2_with fail
  go_ret
  exact ⟨rfl, B2.out.trans (b4.mono B2.out.size)⟩

end Go.Proofs.YtcmjogojlijdgaaGreatDoor
/- Walks: the program's PointsByReducing. -/
namespace Go.Proofs.YtcmjogojlijdgaaGreatDoor
open Go.RowKit

theorem arr_gI {zs : List Int} {j : Nat} (h : j < zs.length) : zs.toArray[j]! = gI zs j := by
  rw [getElem!_pos _ j (by simpa using h)]
  simp [gI, List.getD, h]
/-- slices.Sort of a row that the call has made. -/
theorem sortO_ok (B : Nat) (ao : Option Addr) (n c : Nat) (zs : List Int) (w : World) (h : OutI w B ao n c zs) (hn : n ≤ 1048576) :
    Calls Tryz.prog 20 #[.slice ao n c] w fun e w' => e = .returned (.tuple #[]) ∧ RowI w' ao n c (zs.mergeSort fun x y => decide (x ≤ y)) ∧ ∀ w0, Below B w0 w → Below B w0 w' := by
  obtain ⟨rfl, ho⟩ := h
  cases zs with
  | nil =>
    refine (Tryz.slices_Sort_int_none ao c w).mono ?_
    rintro e w' ⟨rfl, rfl⟩
    exact ⟨rfl, by simpa using OutI.rowI ⟨rfl, ho⟩, fun _ hb => hb⟩
  | cons z zs0 =>
    generalize hzs : z :: zs0 = zs at *
    have h0 : 0 < zs.length := by rw [← hzs]; simp
    clear hzs
    obtain ⟨b, o, rfl, hbl⟩ := ho.row.some h0
    have hBb : B ≤ b := ho.own _ rfl
    have hH : Go.Sort.Holds (Value.int .i64) w b o zs.toArray := fun j hj => by
      have hj' : j < zs.length := by simpa using hj
      rw [arr_gI hj']
      exact ⟨ho.row.cell b o rfl j hj', ho.free b o rfl j hj'⟩
    refine (Tryz.slices_Sort_int b o c zs w hH hbl (by omega)).mono ?_
    rintro e w' ⟨rfl, m, os, rfl⟩
    have hml : (zs.mergeSort fun x y => decide (x ≤ y)).length = zs.length := List.length_mergeSort _
    generalize (zs.mergeSort fun x y => decide (x ≤ y)) = ys at hml ⊢
    have hHa : Go.Sort.Holds (Value.int .i64) (Go.Sort.ahead w m) b o zs.toArray := hH
    have hH2 := Go.Sort.holds_putRow (Value.int .i64) (Go.Sort.ahead w m) b o zs.toArray ys.toArray hHa (by simpa using hml)
    have hs2 : (Go.Sort.putRow (Value.int .i64) (Go.Sort.ahead w m) b o ys.toArray).heap.size = w.heap.size := by simp
    have hH3 := Go.Sort.holds_grow (Value.int .i64) (Go.Sort.putRow (Value.int .i64) (Go.Sort.ahead w m) b o ys.toArray) os b o ys.toArray (by rw [hs2]; exact hbl) hH2
    have hs3 : (Go.Sort.grow (Go.Sort.putRow (Value.int .i64) (Go.Sort.ahead w m) b o ys.toArray) os).heap.size = w.heap.size + os.size := by simp
    refine ⟨rfl, ⟨hml, ho.row.le, ho.row.cap, fun e => (by cases e), fun _ => ⟨b, o, rfl, by rw [hs3]; omega⟩, fun b' o' e' i hi => ?_⟩, fun w0 hb => ⟨hb.os, hb.tape, hb.output, by rw [hs3]; have := hb.size; omega, fun i hi => ?_⟩⟩
    · cases e'
      rw [(hH3 i (by simpa using (by omega : i < ys.length))).1, arr_gI (by omega)]
    · have h1 : i < w.heap.size := by omega
      rw [Go.Sort.heap_grow_old _ _ (by rw [hs2]; exact h1), ← hb.block i hi]
      show (w.heap.modify b _)[i]? = _
      rw [Array.getElem?_modify, if_neg (by omega)]

theorem RowI.clipR {w : World} {ao : Option Addr} {n c : Nat} {zs : List Int} (h : RowI w ao n c zs) : RowI w ao n n zs :=
  ⟨h.1, Nat.le_refl _, Nat.le_trans h.2.le h.2.cap, fun e => by have := h.2.nil e; have := h.2.le; omega, h.2.some, h.2.cell⟩
/-- The first j lifted ones. -/
def lfJ (ps : List ByteArray) (zs : List Int) (j : Nat) : List Int := (List.range j).map fun i => ((lftN ps (gI zs i).toNat : Nat) : Int)
theorem lfJ_next (ps : List ByteArray) (zs : List Int) (j : Nat) : lfJ ps zs (j + 1) = lfJ ps zs j ++ [((lftN ps (gI zs j).toNat : Nat) : Int)] := by simp [lfJ, List.range_succ]
theorem lfJ_len (ps : List ByteArray) (zs : List Int) (j : Nat) : (lfJ ps zs j).length = j := by simp [lfJ]
theorem lfJ_all (ps : List ByteArray) : lfJ ps (fpL (leftP ps) (2 ^ (leftP ps).length)) (fpL (leftP ps) (2 ^ (leftP ps).length)).length = lfsL ps := by
  rw [lfsL, fxL_int]
  generalize fxL (leftP ps) (2 ^ (leftP ps).length) = l
  apply List.ext_getElem?
  intro i
  rw [lfJ]
  by_cases hi : i < l.length
  · simp [hi, gI, List.getD]
  · rw [List.getElem?_eq_none (by simp; omega), List.getElem?_eq_none (by simp; omega)]

set_option maxHeartbeats 4000000 in
theorem prI_ok (t : ByteArray) (w : World) (hs : t.size ≤ 1048576) (hm : MaxLenIs w) :
    Calls Tryz.prog 5 #[.string t] w fun e w' => ∃ a, e = .returned (.slice a (fpV (cutsP 44 t)).length (fpV (cutsP 44 t)).length) ∧ RowI w' a (fpV (cutsP 44 t)).length (fpV (cutsP 44 t)).length (fpV (cutsP 44 t)) ∧ Below w.heap.size w w' := by
  have HO := Lib.hid (readNetwork_ok t w hs hm)
  have hp0 := cutsP_pos 44 t
  generalize cutsP 44 t = ps at HO hp0 ⊢
  cases hb : netB ps with
  | false =>
    have HV := Lib.hid (fpV_no hb)
    rw [HV.out]
    rw [hb] at HO
    clear hb
    go_enter Tryz.func5, Tryz.ntmps5
    go_wp2_with fail
    refine HO.out.mono ?_
    rintro e w1 ⟨v, rfl, o1, b1⟩
    clear o1
    go_wp2_with fail
    go_ret
    exact ⟨none, rfl, RowI.empty _ _ _ (Nat.zero_le _) (fun _ => rfl), b1⟩
  | true =>
    have h5 := net_le hb hp0
    have HN := Lib.hid (netN_yes hb)
    have hlen := bitsN_len ps ps.length
    have HR := Lib.hid (fun a c W (h : RowN W a ps.length c ps.length (bitsN ps ps.length)) => reduce_ok a c ps W h hb hp0)
    have HE := Lib.hid (fun k (h : Chn ps k) (hf : fstF (chP ps k) = none) => chn_left hb hp0 h hf)
    have HK5 := Lib.hid (fun k (h : Chn ps k) => (h.facts hb hp0 k (Nat.le_refl _)).2.2.1)
    obtain ⟨l1, l2, l3, _⟩ := left_facts hb hp0
    have HFx := Lib.hid (fun a c W (h : RowN W a (leftP ps).length c (leftP ps).length (bitsN (leftP ps) (leftP ps).length)) => fixed_ok a c (leftP ps) W h l1 (by omega))
    have HLa := Lib.hid (fun k g cm ga cg s W (h : Held W ps k g cm ga cg) (hch : Chn ps k) (hf : fstF (chP ps k) = none) (hlt : s < 2 ^ (leftP ps).length) => liftAll_ok ps k g cm ga cg s W h hb hp0 hch hf hlt)
    have HSrt := Lib.hid (lfs_sort hb hp0)
    rw [← lfJ_all, ← fpV_yes hb] at HSrt
    have hfl := fpL_len (leftP ps) (2 ^ (leftP ps).length)
    have hpl := pow_32 (show (leftP ps).length ≤ 5 by omega)
    have HG := Lib.hid (fun j (hj : j < (fpL (leftP ps) (2 ^ (leftP ps).length)).length) => fpL_get hj)
    have HVl := Lib.hid (fpV_len ps hp0)
    rw [hb] at HO
    clear hb l1
    generalize fpV ps = ys at HSrt HVl ⊢
    generalize fpL (leftP ps) (2 ^ (leftP ps).length) = zs at HFx HSrt hfl HG
    generalize (2 ^ (leftP ps).length : Nat) = N at HLa hfl hpl HG
    go_enter Tryz.func5, Tryz.ntmps5
    go_wp2_with fail
    refine HO.out.mono ?_
    rintro e w1 ⟨v, rfl, o1, b1⟩
    rw [HN.out] at o1
    obtain ⟨a1, c1, rfl, r1⟩ := o1.row (bitsN_wide ps ps.length)
    rw [hlen] at r1 ⊢
    have HR1 := Lib.hid (HR.out _ _ _ r1)
    have R1 := Lib.hid r1
    have B1 := Lib.hid b1
    clear o1 r1 b1 hlen
    go_wp2_with fail
    refine HR1.out.mono ?_
    rintro e w2 ⟨mv, gv, rfl, hr2⟩
    obtain ⟨k, g, cm, ga, cg, rfl, rfl, hh2, hch, hf, b2⟩ := hr2.held R1.out
    obtain ⟨a, c, hc1, hr⟩ := hh2.last (HE.out k hch hf)
    have HF1 := Lib.hid (HFx.out _ _ _ hr)
    have HH := Lib.hid hh2
    have HLk := Lib.hid (fun s W (hW : Below w2.heap.size w2 W) (hlt : s < N) => HLa.out k g cm ga cg s W (HH.out.below hW (Nat.le_refl _)) hch hf hlt)
    have B2 := Lib.hid (B1.out.trans (b2.mono B1.out.size))
    have hkk : (k : Int) + 1 - 1 = (k : Int) := by omega
    have hk5 : k ≤ 5 := by have := HK5.out k hch; omega
    clear hr2 hr hh2 hch hf b2
    generalize (leftP ps).length = L at hc1 HF1 l2 l3
    go_wp2_with fail
    refine HF1.out.mono ?_
    rintro e w3 ⟨v3, rfl, o3, b3⟩
    obtain ⟨a3, c3, rfl, q3⟩ := o3.out
    have Q3 := Lib.hid q3.rowI
    have B3 := Lib.hid b3
    have W3 := Lib.hid (B2.out.trans (b3.mono B2.out.size))
    clear o3 q3 b3
    go_wp2_with fail
    go_loopw [7, 30] (fun v q wr => ∃ j : Nat, j ≤ zs.length ∧ q = .int .i64 j ∧ OwnI wr w3.heap.size v (lfJ ps zs j) ∧ Below w3.heap.size w3 wr) (fun _ q _ => zs.length - (intOf q).toNat)
    case atStart => exact ⟨0, Nat.zero_le _, rfl, OwnI.nil _ _, Below.refl _ _⟩
    case round =>
      obtain ⟨j, hj, rfl, ho, hbr⟩ := hrel
      have HO := Lib.hid ho
      have HB := Lib.hid hbr
      have hll := lfJ_len ps zs j
      clear ho hbr
      by_cases hlt : j < zs.length
      · have hlt' : (j : Int) < (zs.length : Int) := by omega
        obtain ⟨x, hx, hxl, _⟩ := HG.out j hlt
        have HNx := Lib.hid (lfJ_next ps zs j)
        rw [hx, Int.toNat_natCast] at HNx
        have hrow := Q3.out.below HB.out (Nat.le_refl _)
        obtain ⟨q, o, rfl, hbo⟩ := hrow.2.some (by omega)
        have hc := hrow.2.cell q o rfl j hlt
        simp only [hx] at hc
        have HLx := Lib.hid (HLk.out x wr (B3.out.trans (HB.out.mono B3.out.size)) hxl)
        clear hrow hx
        generalize lftN ps x = y at HLx HNx
        go_wp2_with fail
        refine HLx.out.mono ?_
        rintro e w5 ⟨rfl, b5⟩
        have B5 := Lib.hid (HB.out.trans (b5.mono HB.out.size))
        have O5 := Lib.hid (HO.out.belowB b5 (Nat.le_refl _))
        clear b5
        go_wp2_with (at_builtin; refine wpList_appI (OwnI.alloc O5.out _) (RowI.one _ _) rfl _ _ rfl rfl rfl (by omega) (by have := B5.out.size; simp; omega) ?_; intro v6 w6 o6 g6)
        go_roundw
        case rel => exact ⟨j + 1, by omega, by go_num, by rw [HNx.out]; exact o6, (B5.out.alloc B5.out.size _).grown g6 (by have := B5.out.size; simp; omega) (fun jj hjj => (World.ownsRow.lt O5.out jj hjj).1)⟩
        case measure => simp [intOf] <;> omega
      · obtain rfl : j = zs.length := by omega
        have hlt' : ¬ (zs.length : Int) < (zs.length : Int) := by omega
        obtain ⟨a4, c4, rfl, q4, hsp⟩ := HO.out.outC
        have HS := Lib.hid (sortO_ok _ a4 _ c4 _ wr q4 (by omega))
        have HQ4 := Lib.hid q4
        have HSp := Lib.hid hsp
        rw [HSrt.out, hll] at HS
        rw [hll] at HQ4 ⊢
        clear q4 hsp
        have HCl := Lib.hid (fun W => ClipI_ok a4 zs.length c4 W HQ4.out.2.row.le HQ4.out.2.row.cap HQ4.out.2.row.nil HSp.out)
        clear HQ4
        go_wp2_with fail
        refine HS.out.mono ?_
        rintro e w6 ⟨rfl, r6, hb6⟩
        have R6 := Lib.hid r6
        have B6 := Lib.hid (hb6 _ HB.out)
        have hyl : zs.length = ys.length := r6.1.symm
        have HYl := Lib.hid hyl
        clear r6 hb6 hyl
        go_wp2_with fail
        refine (HCl.out _).mono ?_
        rintro e w7 ⟨rfl, rfl⟩
        go_wp2_with fail
        go_ret
        have hr := R6.out
        have he := HYl.out
        rw [he] at hr
        refine ⟨a4, by show Ending.returned (.slice a4 zs.length zs.length) = _; rw [he], RowI.clipR hr, W3.out.trans (B6.out.mono W3.out.size)⟩

end Go.Proofs.YtcmjogojlijdgaaGreatDoor
/- Walks: whether two rows are the same, by the laws' own function. -/
namespace Go.Proofs.YtcmjogojlijdgaaGreatDoor
open Go.RowKit

set_option maxHeartbeats 1000000 in
theorem bnSame_ok (ao bo : Option Addr) (c d : Nat) (zs : List Int) (w : World) (h : RowI w ao zs.length c zs) (h' : RowI w bo zs.length d zs) :
    Calls Tryz.prog 6 #[.slice ao zs.length c, .slice bo zs.length d] w fun e w' => e = .returned (.bool true) ∧ Below w.heap.size w w' := by
  have hcap := h.2.cap
  have hle := h.2.le
  unfold maxLen at hcap
  go_enter Tryz.func6, Tryz.ntmps6
  go_wp2_with fail
  go_loopw [5] (fun q wr => ∃ k : Nat, k ≤ zs.length ∧ q = .int .i64 k ∧ Below w.heap.size w wr) (fun q _ => zs.length - (intOf q).toNat)
  case atStart => exact ⟨0, Nat.zero_le _, rfl, Below.refl _ _⟩
  case round =>
    obtain ⟨k, hk, rfl, hb⟩ := hrel
    by_cases hlt : k < zs.length
    · obtain ⟨b, o, rfl, _⟩ := h.2.some (by omega)
      obtain ⟨b', o', rfl, _⟩ := h'.2.some (by omega)
      have hc1 := (h.below hb (Nat.le_refl _)).2.cell b o rfl k hlt
      have hc2 := (h'.below hb (Nat.le_refl _)).2.cell b' o' rfl k hlt
      have hlt' : (k : Int) < (zs.length : Int) := by omega
      clear h h'
      go_wp2_with fail
      go_quiet (fail)
      go_wp2_with fail
      go_roundw
      case rel => exact ⟨k + 1, by omega, by go_num, hb.trans ⟨rfl, rfl, rfl, Nat.le_refl _, fun _ _ => rfl⟩⟩
      case measure => simp [intOf]; omega
    · obtain rfl : k = zs.length := by omega
      go_wp2_with fail
      go_ret
      exact ⟨rfl, hb⟩

end Go.Proofs.YtcmjogojlijdgaaGreatDoor
/- The law FnPointsByReducing. -/
namespace Go.Proofs.YtcmjogojlijdgaaGreatDoor
open Go.RowKit

/-- A text is drawn. -/
def DrawPR (w : World) (e : Ending) (w' : World) : Prop := ∃ u : ByteArray, e = .returned (.string u) ∧ u.size ≤ 1048576 ∧ Below w.heap.size w w'
set_option maxHeartbeats 2000000 in
theorem drawPR_ok (ao : Option Addr) (l c : Nat) (cs : List Int) (w : World) (h : RowU w ao l c cs) (hl : l ≤ 1048576) :
    Calls Tryz.prog 4 #[.slice ao l c] w (DrawPR w) := by
  have HO := Lib.hid (l14Open_ok ao l c cs w h hl)
  clear h
  go_enter Tryz.func4, Tryz.ntmps4
  go_wp2_with fail
  refine HO.out.mono ?_
  rintro e w1 ⟨g, rfl, hg, r1, b1⟩
  have B1 := Lib.hid b1
  have R1 := Lib.hid r1
  clear r1 b1
  go_wp2_with fail
  refine (l7Open_ok g 0 _ R1.out (by omega)).mono ?_
  rintro e w2 ⟨u, rfl, hu, r2, d2⟩
  have D2 := Lib.hid ((DrB.ofB (g := g) B1.out).trans (d2.mono B1.out.size))
  have HU := Lib.hid hu
  clear r2 d2 hu
  go_wp2_with fail
  go_ret
  exact ⟨u, rfl, Nat.le_trans HU.out (by decide), D2.out.below hg⟩

theorem xor_zero_iff (a b : Nat) : (((a ^^^ b : Nat) : Int) == 0) = decide (a = b) := by
  rw [Bool.eq_iff_iff, beq_iff_eq, decide_eq_true_iff]
  constructor
  · intro h
    have h' : a ^^^ b = 0 := by omega
    apply Nat.eq_of_testBit_eq
    intro i
    have := congrArg (fun x => x.testBit i) h'
    simp only [Nat.testBit_xor, Nat.zero_testBit] at this
    cases h1 : a.testBit i <;> cases h2 : b.testBit i <;> simp_all
  · rintro rfl
    simp
/-- A lifted state is at rest just if the state is. -/
theorem rest_same {ps : List ByteArray} (hn : netB ps = true) (h0 : 0 < ps.length) {s : Nat} (hs : s < 2 ^ (leftP ps).length) : (rsV ps (lftN ps s : Nat) == 0) = (rsV (leftP ps) (s : Nat) == 0) := by
  obtain ⟨a1, a2, a3, a4, _⟩ := left_facts hn h0
  obtain ⟨b1, b2⟩ := a4 s hs
  rw [rsV_yes (by rw [stB'_in hn, stOk_iff]; omega), rsV_yes (by rw [stB'_in a1, stOk_iff]; omega), xor_zero_iff, xor_zero_iff]
  exact decide_eq_decide.2 b2

set_option maxRecDepth 100000 in
set_option maxHeartbeats 8000000 in
theorem FnPointsByReducing_ok (ao : Option Addr) (l c : Nat) (cs : List Int) (w : World) (h : RowU w ao l c cs) (hm : MaxLenIs w) :
    Calls Tryz.prog 3 #[.slice ao l c] w fun e w' => e = .returned (.bool true) ∧ Below w.heap.size w w' := by
  go_enter Tryz.func3, Tryz.ntmps3
  by_cases hbig : 1048576 < l
  · have hbig' : (1048576 : Int) < (l : Int) := by omega
    go_wp2_with fail
    go_ret
    exact ⟨rfl, Below.refl _ _⟩
  · have hbig' : ¬ (1048576 : Int) < (l : Int) := by omega
    have HD := Lib.hid (drawPR_ok ao l c cs w h (by omega))
    have HM := Lib.hid (fun W (hW : Below w.heap.size w W) => hm.below hW (Nat.le_refl _))
    clear h hm
    go_wp2_with fail
    refine HD.out.mono ?_
    rintro e w1 ⟨u, rfl, hu, b1⟩
    have B1 := Lib.hid b1
    have HM1 := Lib.hid (fun W (hW : Below w1.heap.size w1 W) => HM.out W (B1.out.trans (hW.mono B1.out.size)))
    have HPi := Lib.hid (fun W (hW : Below w1.heap.size w1 W) => prI_ok u W hu (HM1.out W hW))
    have HPs := Lib.hid (fun W => prS_ok u W hu)
    have HRi := Lib.hid (fun W (hW : Below w1.heap.size w1 W) => redI_ok u W hu (HM1.out W hW))
    have HLi := Lib.hid (fun s W (hW : Below w1.heap.size w1 W) hn hlt => liftI_ok u s W hu (HM1.out W hW) hn hlt)
    have HLs := Lib.hid (fun s W hn hlt => liftS_ok u s W hu hn hlt)
    have HRe := Lib.hid (fun s W (hW : Below w1.heap.size w1 W) => restlessI_ok u s W hu (HM1.out W hW))
    have HFp := Lib.hid (fun W (hW : Below w1.heap.size w1 W) => fpI_ok u W hu (HM1.out W hW))
    have hp0 := cutsP_pos 44 u
    obtain ⟨ps, hps⟩ : ∃ ps, cutsP 44 u = ps := ⟨_, rfl⟩
    rw [hps] at HPi HPs HRi HLi HLs HRe HFp hp0
    clear b1 HD hps
    cases hb : netB ps with
    | false =>
      rw [hb, rdT_no hb] at HRi
      rw [fpV_no hb] at HPi HPs HFp
      have HBn := Lib.hid (fun a c b d W (h : RowI W a 0 c []) (h' : RowI W b 0 d []) => bnSame_ok a b c d [] W h h')
      clear hb HLi HLs HRe
      go_wp2_with fail
      refine (HPi.out _ (Below.refl _ _)).mono ?_
      rintro e w2 ⟨a2, rfl, q2, b2⟩
      have B2 := Lib.hid b2
      have L2 := Lib.hid (fun W (hW : Below w2.heap.size w2 W) => q2.below hW (Nat.le_refl _))
      clear b2 q2
      go_wp2_with fail
      refine (HPs.out _).mono ?_
      rintro e w3 ⟨v3, rfl, o3, b3⟩
      have B3 := Lib.hid (B2.out.trans (b3.mono B2.out.size))
      have C3 := Lib.hid b3
      obtain ⟨a3, c3, rfl, q3⟩ := o3.out
      have HB1 := Lib.hid (HBn.out _ _ _ _ _ (L2.out _ C3.out) q3.rowI)
      clear b3 o3 q3
      go_wp2_with fail
      refine HB1.out.mono ?_
      rintro e w4 ⟨rfl, b4⟩
      have B4 := Lib.hid (B3.out.trans (b4.mono B3.out.size))
      have C4 := Lib.hid (C3.out.trans (b4.mono C3.out.size))
      clear b4
      go_wp2_with fail
      refine (HRi.out _ B4.out).mono ?_
      rintro e w5 ⟨v5, rfl, b5⟩
      have B5 := Lib.hid (B4.out.trans (b5.mono B4.out.size))
      have C5 := Lib.hid (C4.out.trans (b5.mono C4.out.size))
      clear b5
      go_wp2_with fail
      go_loopw [8] (fun q wr => q = .int .i64 0 ∧ wr = w5) (fun _ _ => 0)
      case atStart => exact ⟨rfl, rfl⟩
      case round =>
        obtain ⟨rfl, rfl⟩ := hrel
        go_wp2_with fail
        refine (HFp.out _ B5.out).mono ?_
        rintro e w6 ⟨v6, rfl, o6, b6⟩
        have B6 := Lib.hid (B5.out.trans (b6.mono B5.out.size))
        have C6 := Lib.hid (C5.out.trans (b6.mono C5.out.size))
        obtain ⟨a6, c6, rfl, q6⟩ := o6.out
        have HB6 := Lib.hid (HBn.out _ _ _ _ _ (L2.out _ C6.out) q6.rowI)
        clear b6 o6 q6
        go_wp2_with fail
        refine HB6.out.mono ?_
        rintro e w7 ⟨rfl, b7⟩
        go_wp2_with fail
        go_ret
        exact ⟨rfl, B1.out.trans ((B6.out.trans (b7.mono B6.out.size)).mono B1.out.size)⟩
    | true =>
      obtain ⟨l1, l2, l3, _⟩ := left_facts hb hp0
      have h5 := net_le hb hp0
      have hz := txtP_size (ps := leftP ps) (by omega)
      have HSz := Lib.hid (fun W (hW : Below w1.heap.size w1 W) => sizeI_ok (txtP (leftP ps)) W (by omega) (HM1.out W hW))
      have HRk := Lib.hid (fun s W (hW : Below w1.heap.size w1 W) => restlessI_ok (txtP (leftP ps)) s W (by omega) (HM1.out W hW))
      rw [txtP_cuts l1 l3] at HSz HRk
      rw [sizV_yes l1] at HSz
      have HSm := Lib.hid (fun s (hs : s < 2 ^ (leftP ps).length) => rest_same hb hp0 hs)
      rw [hb, rdT_yes hb] at HRi
      have HLi2 := Lib.hid (fun s W (hW : Below w1.heap.size w1 W) hlt => HLi.out s W hW hb hlt)
      have HLs2 := Lib.hid (fun s W hlt => HLs.out s W hb hlt)
      have HBn := Lib.hid (fun a c b d W (h : RowI W a (fpV ps).length c (fpV ps)) (h' : RowI W b (fpV ps).length d (fpV ps)) => bnSame_ok a b c d (fpV ps) W h h')
      have hpw := wrap_pow_nat (leftP ps).length (by omega)
      have hpl := pow_32 (show (leftP ps).length ≤ 5 by omega)
      have hL5 : (leftP ps).length ≤ 5 := by omega
      clear hb HLi HLs l1 hz
      generalize fpV ps = zs at HPi HPs HFp HBn
      generalize txtP (leftP ps) = k at HRi HSz HRk
      generalize (2 ^ (leftP ps).length : Nat) = N at HLi2 HLs2 HSm hpw hpl
      generalize (leftP ps).length = m at HSz hpw hL5
      have hmw : IntKind.u64.wrap (m : Int) = (m : Int) := by rw [IntKind.wrap_u64]; omega
      clear l2 l3
      go_wp2_with fail
      refine (HPi.out _ (Below.refl _ _)).mono ?_
      rintro e w2 ⟨a2, rfl, q2, b2⟩
      have B2 := Lib.hid b2
      have L2 := Lib.hid (fun W (hW : Below w2.heap.size w2 W) => q2.below hW (Nat.le_refl _))
      clear b2 q2
      go_wp2_with fail
      refine (HPs.out _).mono ?_
      rintro e w3 ⟨v3, rfl, o3, b3⟩
      have B3 := Lib.hid (B2.out.trans (b3.mono B2.out.size))
      have C3 := Lib.hid b3
      obtain ⟨a3, c3, rfl, q3⟩ := o3.out
      have HB1 := Lib.hid (HBn.out _ _ _ _ _ (L2.out _ C3.out) q3.rowI)
      clear b3 o3 q3
      go_wp2_with fail
      refine HB1.out.mono ?_
      rintro e w4 ⟨rfl, b4⟩
      have B4 := Lib.hid (B3.out.trans (b4.mono B3.out.size))
      have C4 := Lib.hid (C3.out.trans (b4.mono C3.out.size))
      clear b4
      go_wp2_with fail
      refine (HRi.out _ B4.out).mono ?_
      rintro e w5 ⟨v5, rfl, b5⟩
      have B5 := Lib.hid (B4.out.trans (b5.mono B4.out.size))
      have C5 := Lib.hid (C4.out.trans (b5.mono C4.out.size))
      clear b5
      go_wp2_with fail
      go_loopw [8] (fun q wr => ∃ s : Nat, s ≤ N ∧ q = .int .i64 s ∧ Below w1.heap.size w1 wr ∧ Below w2.heap.size w2 wr) (fun q _ => N - (intOf q).toNat)
      case atStart => exact ⟨0, Nat.zero_le _, rfl, B5.out, C5.out⟩
      case round =>
        obtain ⟨s, hs, rfl, hb1, hb2⟩ := hrel
        have HB := Lib.hid hb1
        have HC := Lib.hid hb2
        have HS1 := Lib.hid (HSz.out _ hb1)
        clear hb1 hb2
        by_cases hlt : s < N
        · have hlt' : (s : Int) < (N : Int) := by omega
          have HI := Lib.hid (fun W hW => HLi2.out s W hW hlt)
          have HS := Lib.hid (fun W => HLs2.out s W hlt)
          have hsame := HSm.out s hlt
          generalize lftN ps s = p at HI HS hsame
          have HR1 := Lib.hid (fun W hW => HRe.out (p : Int) W hW)
          have HR2 := Lib.hid (fun W hW => HRk.out (s : Int) W hW)
          generalize rsV ps (p : Int) = x at hsame HR1
          generalize rsV (leftP ps) (s : Int) = y at hsame HR2
          go_wp2_with fail
          refine HS1.out.mono ?_
          rintro e w6 ⟨rfl, b6⟩
          have B6 := Lib.hid (HB.out.trans (b6.mono HB.out.size))
          have C6 := Lib.hid (HC.out.trans (b6.mono HC.out.size))
          clear b6
          go_wp2_with fail
          refine (HI.out _ B6.out).mono ?_
          rintro e w7 ⟨rfl, b7⟩
          have B7 := Lib.hid (B6.out.trans (b7.mono B6.out.size))
          have C7 := Lib.hid (C6.out.trans (b7.mono C6.out.size))
          clear b7
          go_wp2_with fail
          refine (HS.out _).mono ?_
          rintro e w8 ⟨rfl, b8⟩
          have B8 := Lib.hid (B7.out.trans (b8.mono B7.out.size))
          have C8 := Lib.hid (C7.out.trans (b8.mono C7.out.size))
          clear b8
          go_wp2_with fail
          refine (HR1.out _ B8.out).mono ?_
          rintro e w9 ⟨rfl, b9⟩
          have B9 := Lib.hid (B8.out.trans (b9.mono B8.out.size))
          have C9 := Lib.hid (C8.out.trans (b9.mono C8.out.size))
          clear b9
          go_wp2_with fail
          refine (HR2.out _ B9.out).mono ?_
          rintro e wA ⟨rfl, bA⟩
          have BA := Lib.hid (B9.out.trans (bA.mono B9.out.size))
          have CA := Lib.hid (C9.out.trans (bA.mono C9.out.size))
          clear bA
          cases hy : (y == 0) with
          | true =>
            rw [hy] at hsame
            go_wp2_with fail
            go_roundw
            case rel => exact ⟨s + 1, by omega, by go_num, BA.out, CA.out⟩
            case measure => simp [intOf]; omega
          | false =>
            rw [hy] at hsame
            go_wp2_with fail
            go_roundw
            case rel => exact ⟨s + 1, by omega, by go_num, BA.out, CA.out⟩
            case measure => simp [intOf]; omega
        · obtain rfl : s = N := by omega
          have hlt' : ¬ (s : Int) < (s : Int) := by omega
          go_wp2_with fail
          refine HS1.out.mono ?_
          rintro e w6 ⟨rfl, b6⟩
          have B6 := Lib.hid (HB.out.trans (b6.mono HB.out.size))
          have C6 := Lib.hid (HC.out.trans (b6.mono HC.out.size))
          clear b6
          go_wp2_with fail
          refine (HFp.out _ B6.out).mono ?_
          rintro e w7 ⟨v7, rfl, o7, b7⟩
          have B7 := Lib.hid (B6.out.trans (b7.mono B6.out.size))
          have C7 := Lib.hid (C6.out.trans (b7.mono C6.out.size))
          obtain ⟨a7, c7, rfl, q7⟩ := o7.out
          have HB7 := Lib.hid (HBn.out _ _ _ _ _ (L2.out _ C7.out) q7.rowI)
          clear b7 o7 q7
          go_wp2_with fail
          refine HB7.out.mono ?_
          rintro e w8 ⟨rfl, b8⟩
          go_wp2_with fail
          go_ret
          exact ⟨rfl, B1.out.trans ((B7.out.trans (b8.mono B7.out.size)).mono B1.out.size)⟩

end Go.Proofs.YtcmjogojlijdgaaGreatDoor
