/- Walks: rows of seen steps. -/
import Derived.Test.YthgjmciiaikgoaaDoorA2
import Derived.Deep.RegionWith
import Derived.Deep.RegionHeld3
namespace Go.Proofs.YthgjmciiaikgoaaDoor
open Go.RowKit

/-- Element i of a list of steps. -/
def gS (zs : List (Int × Int)) (i : Nat) : Int × Int := zs.getD i (0, 0)
theorem gS_lt {zs : List (Int × Int)} {i : Nat} (h : i < zs.length) : zs[i]? = some (gS zs i) := by simp [gS, List.getD, List.getElem?_eq_getElem h]

/-- A slice value reads as a list of steps, two cells each. -/
structure RowS (w : World) (ao : Option Addr) (n c : Nat) (zs : List (Int × Int)) : Prop where
  len : zs.length = n
  le : n ≤ c
  cap : c ≤ maxLen
  some : 0 < n → ∃ b o, ao = some ⟨b, o, none⟩ ∧ b < w.heap.size
  before : ∀ b o, ao = Option.some ⟨b, o, none⟩ → ∀ i, i < n → w.cell? ⟨b, o + i * 2, none⟩ = Option.some (.int .i64 (gS zs i).1)
  after : ∀ b o, ao = Option.some ⟨b, o, none⟩ → ∀ i, i < n → w.cell? ⟨b, o + i * 2 + 1, none⟩ = Option.some (.int .i64 (gS zs i).2)

theorem RowS.below {B : Nat} {w w' : World} {ao : Option Addr} {n c : Nat} {zs : List (Int × Int)} (h : RowS w ao n c zs) (hb : Below B w w') (hB : w.heap.size ≤ B) : RowS w' ao n c zs :=
  ⟨h.len, h.le, h.cap, fun hn => let ⟨b, o, e, hbo⟩ := h.some hn; ⟨b, o, e, Nat.lt_of_lt_of_le hbo hb.size⟩,
   fun b o e i hi => by
    obtain ⟨b', o', e', hbo⟩ := h.some (by omega)
    rw [e] at e'
    cases e'
    exact (hb.cell (p := ⟨b, o + i * 2, none⟩) (by show b < B; omega)).trans (h.before b o e i hi),
   fun b o e i hi => by
    obtain ⟨b', o', e', hbo⟩ := h.some (by omega)
    rw [e] at e'
    cases e'
    exact (hb.cell (p := ⟨b, o + i * 2 + 1, none⟩) (by show b < B; omega)).trans (h.after b o e i hi)⟩

def eqP (x y x' y' : Int) : Bool := decide ((x, y) = (x', y'))
theorem eqP_iff (p q : Int × Int) : eqP p.1 p.2 q.1 q.2 = true ↔ p = q := by simp [eqP, Prod.ext_iff]

set_option maxHeartbeats 400000 in
theorem eqSeen_ok (x y x' y' : Int) (w : World) :
    Calls Tryd.prog 61 #[.agg #[.int .i64 x, .int .i64 y], .agg #[.int .i64 x', .int .i64 y']] w fun e w' => e = .returned (.bool (eqP x y x' y')) ∧ Below w.heap.size w w' := by
  by_cases h1 : x = x'
  · by_cases h2 : y = y'
    · subst h1 h2
      go_enter Tryd.func61, Tryd.ntmps61
      go_wp2
      go_ret
      exact ⟨retb (by simp [eqP]), ((Below.refl _ _).alloc (Nat.le_refl _) _).alloc (by simp) _⟩
    · have t1 := eq_int h1
      have t2 := ne_int h2
      have H := Lib.hid h2
      clear h1 h2
      go_enter Tryd.func61, Tryd.ntmps61
      go_wp2
      go_ret
      exact ⟨retb (by have := H.out; simp [eqP, this]), ((Below.refl _ _).alloc (Nat.le_refl _) _).alloc (by simp) _⟩
  · have t1 := ne_int h1
    have H := Lib.hid h1
    clear h1
    go_enter Tryd.func61, Tryd.ntmps61
    go_wp2
    go_ret
    exact ⟨retb (by have := H.out; simp [eqP, this]), ((Below.refl _ _).alloc (Nat.le_refl _) _).alloc (by simp) _⟩

/-- The cells of a list of steps. -/
def cellsS (zs : List (Int × Int)) : List Value := zs.flatMap fun p => [.int .i64 p.1, .int .i64 p.2]
theorem cellsS_len (zs : List (Int × Int)) : (cellsS zs).length = 2 * zs.length := by
  induction zs with
  | nil => rfl
  | cons p zs ih => simp only [cellsS, List.flatMap_cons, List.length_append, List.length_cons, List.length_nil] at ih ⊢; omega
theorem cellsS_get (zs : List (Int × Int)) (i : Nat) (h : i < zs.length) : (cellsS zs)[i * 2]? = some (.int .i64 (gS zs i).1) ∧ (cellsS zs)[i * 2 + 1]? = some (.int .i64 (gS zs i).2) := by
  induction zs generalizing i with
  | nil => simp at h
  | cons p zs ih =>
    cases i with
    | zero => simp [cellsS, gS]
    | succ i =>
      have := ih i (by simpa using h)
      simp only [cellsS, List.flatMap_cons, gS, List.getD_cons_succ] at this ⊢
      rw [show (i + 1) * 2 = i * 2 + 1 + 1 by omega]
      simpa using this
theorem cellsS_set (zs : List (Int × Int)) (i : Nat) (p : Int × Int) (h : i < zs.length) : ((cellsS zs).set (i * 2) (.int .i64 p.1)).set (i * 2 + 1) (.int .i64 p.2) = cellsS (zs.set i p) := by
  induction zs generalizing i with
  | nil => simp at h
  | cons q zs ih =>
    cases i with
    | zero => simp [cellsS]
    | succ i =>
      have := ih i (by simpa using h)
      simp only [cellsS, List.flatMap_cons, List.set_cons_succ] at this ⊢
      rw [show (i + 1) * 2 = i * 2 + 1 + 1 by omega]
      simpa using this

theorem i47 : (Tryd.prog.info? 63).map (fun i => (i.zero, i.size, i.bytes)) = some (some (.agg #[.int .i64 0, .int .i64 0]), 2, 16) := by kernel_rfl

theorem made_seen (n : Nat) : madeCells (Value.cells (.agg #[.int .i64 0, .int .i64 0])) (n * 2) = (cellsS (List.replicate n (0, 0))).toArray := by
  apply Array.ext
  · simp [madeCells, cellsS_len]; omega
  · intro i h1 h2
    have hi : i < n * 2 := by simpa [madeCells] using h1
    have hh := cellsS_get (List.replicate n (0, 0)) (i / 2) (by simp; omega)
    have hg : gS (List.replicate n (0, 0)) (i / 2) = (0, 0) := by
      simp [gS, List.getD, List.getElem?_replicate]; split <;> rfl
    rw [hg] at hh
    have hx : (cellsS (List.replicate n (0, 0)))[i]? = some (.int .i64 0) := by
      rcases Nat.mod_two_eq_zero_or_one i with h | h
      · rw [show i = i / 2 * 2 by omega]; exact hh.1
      · rw [show i = i / 2 * 2 + 1 by omega]; exact hh.2
    have h3 : (cellsS (List.replicate n (0, 0))).toArray[i] = .int .i64 0 := by
      simpa [List.getElem?_eq_getElem (show i < (cellsS (List.replicate n (0, 0))).length by simpa using h2)] using hx
    rw [h3]
    simp only [madeCells, Array.getElem_map, Array.getElem_range]
    rcases Nat.mod_two_eq_zero_or_one i with h | h <;> simp [Value.cells, h]

theorem run_make_seen (n : Nat) (hn : n * 16 ≤ 281474976710656) (w : World) :
    (Instr.makeSlice 27 (.int .i64 (n : Int)) (.int .i64 (n : Int))).run Tryd.prog w = .ok (.slice (some ⟨w.heap.size, 0, none⟩) n n) (w.alloc (.cells (cellsS (List.replicate n (0, 0))).toArray 63)) := by
  obtain ⟨i, hi, hz, hs, hby⟩ := info_parts i47
  have := run_make (P := Tryd.prog) w 27 63 i _ Tryd.underlying27 hi hz .i64 .i64 n n (by omega) (Int.le_refl _) (by rw [hby]; omega) (by omega)
  rw [this, hs]
  simp only [Int.toNat_natCast, made_seen]

/-- What toSeenS has written after k rounds. -/
def partS (zs : List (Int × Int)) (k : Nat) : List (Int × Int) := zs.take k ++ List.replicate (zs.length - k) (0, 0)
theorem partS_set (zs : List (Int × Int)) (k : Nat) (h : k < zs.length) : (partS zs k).set k (gS zs k) = partS zs (k + 1) := by
  apply List.ext_getElem?
  intro i
  simp [partS, List.getElem?_set, List.getElem?_append, List.getElem?_take, gS, List.getD]
  have := List.getElem?_eq_getElem h
  grind
theorem partS_len (zs : List (Int × Int)) (k : Nat) (h : k ≤ zs.length) : (partS zs k).length = zs.length := by simp [partS]; omega
theorem partS_get (zs : List (Int × Int)) (k : Nat) (h : k < zs.length) : gS (partS zs k) k = (0, 0) := by
  simp [gS, partS, List.getD, List.getElem?_append, List.getElem?_replicate, Nat.min_eq_left (Nat.le_of_lt h)]; split <;> rfl
theorem partS_end (zs : List (Int × Int)) : partS zs zs.length = zs := by simp [partS]

theorem RowS.of_blk {w : World} {g n : Nat} {t : TypeId} {zs : List (Int × Int)} (h : Blk w g t (cellsS zs)) (hn : zs.length = n) (hm : n ≤ maxLen) : RowS w (Option.some ⟨g, 0, none⟩) n n zs :=
  ⟨hn, Nat.le_refl _, hm, fun _ => ⟨g, 0, rfl, h.lt⟩, fun b o e i hi => by
    cases e
    rw [Nat.zero_add]
    exact h.cell (cellsS_get zs i (by omega)).1, fun b o e i hi => by
    cases e
    rw [Nat.zero_add]
    exact h.cell (cellsS_get zs i (by omega)).2⟩

theorem takeS_same {xs ys : List (Int × Int)} {k : Nat} (h : xs.take k = ys.take k) (hx : k < xs.length) (hy : k < ys.length) (he : gS xs k = gS ys k) : xs.take (k + 1) = ys.take (k + 1) := by
  rw [take_succ_of xs k _ (gS_lt hx), take_succ_of ys k _ (gS_lt hy), h, he]

set_option maxHeartbeats 1000000 in
/-- eqSeenS at two lists that are the same. -/
theorem eqSeenS_ok (ao bo : Option Addr) (n m c d : Nat) (xs ys : List (Int × Int)) (w : World) (h : RowS w ao n c xs) (h' : RowS w bo m d ys) :
    Calls Tryd.prog 23 #[.slice ao n c, .slice bo m d] w fun e w' => e = .returned (.bool (decide (xs = ys))) ∧ Below w.heap.size w w' := by
  obtain rfl := h.len
  obtain rfl := h'.len
  have hml := h.cap
  have hml' := h.le
  unfold maxLen at hml
  by_cases hlen : xs.length = ys.length
  · have hne : (((xs.length : Nat) : Int) != (ys.length : Int)) = false := by simp [hlen]
    have HL := Lib.hid hlen
    clear hlen
    go_enter Tryd.func23, Tryd.ntmps23
    go_wp2
    go_loopw [5] (fun i wr => ∃ k : Nat, k ≤ xs.length ∧ i = .int .i64 k ∧ xs.take k = ys.take k ∧ Below w.heap.size w wr) (fun i _ => xs.length - (intOf i).toNat)
    case atStart => exact ⟨0, Nat.zero_le _, rfl, rfl, Below.refl _ _⟩
    case round =>
      obtain ⟨k, hk, rfl, hsame, hb⟩ := hrel
      have HS := Lib.hid hsame
      clear hsame
      by_cases hlt : k < xs.length
      · obtain ⟨b, o, rfl, hbo⟩ := h.some (by omega)
        obtain ⟨b', o', rfl, hbo'⟩ := h'.some (by rw [← HL.out]; omega)
        have hx0 : wr.cell? ⟨b, o + k * 2, none⟩ = some (.int .i64 (gS xs k).1) := (hb.cell (by exact hbo)).trans (h.before b o rfl k hlt)
        have hx1 : wr.cell? ⟨b, o + k * 2 + 1, none⟩ = some (.int .i64 (gS xs k).2) := (hb.cell (by exact hbo)).trans (h.after b o rfl k hlt)
        have hy0 : wr.cell? ⟨b', o' + k * 2, none⟩ = some (.int .i64 (gS ys k).1) := (hb.cell (by exact hbo')).trans (h'.before b' o' rfl k (by rw [← HL.out]; omega))
        have hy1 : wr.cell? ⟨b', o' + k * 2 + 1, none⟩ = some (.int .i64 (gS ys k).2) := (hb.cell (by exact hbo')).trans (h'.after b' o' rfl k (by rw [← HL.out]; omega))
        have hlt' : (k : Int) < (xs.length : Int) := by omega
        have hlt2 : (k : Int) < (ys.length : Int) := by rw [← HL.out]; omega
        by_cases hq : gS xs k = gS ys k
        · have hqb : eqP (gS xs k).1 (gS xs k).2 (gS ys k).1 (gS ys k).2 = true := (eqP_iff _ _).2 hq
          have HQ := Lib.hid hq
          clear hq
          go_wp2
          go_region_with (go_at_call 61; refine (eqSeen_ok _ _ _ _ _).mono ?_; rintro e w1 ⟨rfl, b1⟩)
          all_goals
            go_wp2
            go_roundw
            case rel => exact ⟨k + 1, by omega, by go_num, takeS_same HS.out hlt (by rw [← HL.out]; exact hlt) HQ.out, (hb.drew).trans (b1.mono hb.size)⟩
            case measure => simp [intOf]; omega
        · have hqb : eqP (gS xs k).1 (gS xs k).2 (gS ys k).1 (gS ys k).2 = false := by rw [← Bool.not_eq_true]; exact fun h => hq ((eqP_iff _ _).1 h)
          have HQ := Lib.hid hq
          clear hq
          go_wp2
          go_region_with (go_at_call 61; refine (eqSeen_ok _ _ _ _ _).mono ?_; rintro e w1 ⟨rfl, b1⟩)
          all_goals
            go_wp2
            go_ret
            exact ⟨retb (by simp; intro h; exact HQ.out (by rw [h])), (hb.drew).trans (b1.mono hb.size)⟩
      · obtain rfl : k = xs.length := by omega
        go_wp2
        go_ret
        exact ⟨retb (by have h := HS.out; rw [List.take_length, List.take_of_length_le (by rw [← HL.out]; exact Nat.le_refl _)] at h; simp [h]), hb⟩
  · have hne : (((xs.length : Nat) : Int) != (ys.length : Int)) = true := by simp; omega
    go_enter Tryd.func23, Tryd.ntmps23
    go_wp2
    go_ret
    exact ⟨retb (by simp; intro h; simp [h] at hlen), Below.refl _ _⟩

end Go.Proofs.YthgjmciiaikgoaaDoor
