/- Walks: SeenValid, and a search by a closure. -/
import Derived.Test.YtlfeipibhdggcaaA3
namespace Go.Proofs.Ytlfeipibhdggcaa
open Go.RowKit

def okS (top : Int) (p : Int × Int) : Bool := decide (0 ≤ p.1) && decide (p.1 < top) && decide (0 ≤ p.2) && decide (p.2 < top)
def seenB (zs : List (Int × Int)) (m : Int) : Bool := decide (1 ≤ m ∧ m ≤ 5) && decide (zs.length ≤ 32) && zs.all (okS (2 ^ m.toNat))
theorem okS_iff {top : Int} {p : Int × Int} : okS top p = true ↔ 0 ≤ p.1 ∧ p.1 < top ∧ 0 ≤ p.2 ∧ p.2 < top := by simp [okS, and_assoc]

theorem allS_of {zs : List (Int × Int)} {f : Int × Int → Bool} (h : ∀ i, i < zs.length → f (gS zs i) = true) : zs.all f = true := by
  refine List.all_eq_true.2 fun p hp => ?_
  obtain ⟨i, hi, rfl⟩ := List.getElem_of_mem hp
  have := h i hi
  rwa [show gS zs i = zs[i] by simp [gS, List.getD, hi]] at this
theorem allS_not {zs : List (Int × Int)} {f : Int × Int → Bool} {k : Nat} (hk : k < zs.length) (h : f (gS zs k) = false) : zs.all f = false := by
  rw [List.all_eq_false]
  exact ⟨gS zs k, by rw [show gS zs k = zs[k] by simp [gS, List.getD, hk]]; exact List.getElem_mem _, by simp [h]⟩

/-- Where the first element stands for which f says yes, or -1. -/
def idxS (f : Int × Int → Bool) (zs : List (Int × Int)) : Int := match zs.findIdx? f with | some i => i | none => -1

set_option maxHeartbeats 1000000 in
theorem IndexFuncS_ok (ao : Option Addr) (n c : Nat) (zs : List (Int × Int)) (g : Nat) (cap : Array Value) (f : Int × Int → Bool) (w : World) (h : RowS w ao n c zs) (hg : ∀ args W, (callFunc g args).run Try.prog W = .ok (.enter g args) W)
    (hf : ∀ k, k < n → ∀ W, Below w.heap.size w W → Calls Try.prog g (#[.agg #[.int .i64 (gS zs k).1, .int .i64 (gS zs k).2]] ++ cap) W fun e W' => e = .returned (.bool (f (gS zs k))) ∧ Below W.heap.size W W') :
    Calls Try.prog 54 #[.slice ao n c, .func (.func g) #[] cap] w fun e w' => e = .returned (.int .i64 (idxS f zs)) ∧ Below w.heap.size w w' := by
  obtain rfl := h.len
  have hml := h.cap
  have hml' := h.le
  unfold maxLen at hml
  have HF := Lib.hid hf
  clear hf
  go_enter Try.func54, Try.ntmps54
  go_wp2
  go_loopw [8] (fun i wr => ∃ k : Nat, k ≤ zs.length ∧ i = .int .i64 k ∧ (∀ j, j < k → f (gS zs j) = false) ∧ Below w.heap.size w wr) (fun i _ => zs.length - (intOf i).toNat)
  case atStart => exact ⟨0, Nat.zero_le _, rfl, fun j h => absurd h (Nat.not_lt_zero _), Below.refl _ _⟩
  case round =>
    obtain ⟨k, hk, rfl, hno, hb⟩ := hrel
    have HN := Lib.hid hno
    clear hno
    by_cases hlt : k < zs.length
    · obtain ⟨b, o, rfl, hbo⟩ := h.some (by omega)
      have hx0 : wr.cell? ⟨b, o + k * 2, none⟩ = some (.int .i64 (gS zs k).1) := (hb.cell (by exact hbo)).trans (h.before b o rfl k hlt)
      have hx1 : wr.cell? ⟨b, o + k * 2 + 1, none⟩ = some (.int .i64 (gS zs k).2) := (hb.cell (by exact hbo)).trans (h.after b o rfl k hlt)
      by_cases hq : f (gS zs k) = true
      · go_wp2_with fail
        refine (HF.out k hlt wr hb).mono ?_
        rintro e w1 ⟨rfl, b1⟩
        rw [hq]
        have HQ := Lib.hid hq
        clear hq
        go_wp2
        go_ret
        refine ⟨reti ?_, hb.trans (b1.mono hb.size)⟩
        rw [idxS, show zs.findIdx? f = some k from ?_]
        rw [List.findIdx?_eq_some_iff_getElem]
        exact ⟨hlt, by have := HQ.out; rwa [show gS zs k = zs[k] by simp [gS, List.getD, hlt]] at this, fun j hj => by
          have := HN.out j hj
          rw [show gS zs j = zs[j] by simp [gS, List.getD, show j < zs.length by omega]] at this
          simp [this]⟩
      · have hqb : f (gS zs k) = false := by simpa using hq
        clear hq
        go_wp2_with fail
        refine (HF.out k hlt wr hb).mono ?_
        rintro e w1 ⟨rfl, b1⟩
        rw [hqb]
        have HQ := Lib.hid hqb
        clear hqb
        go_wp2
        go_roundw
        case rel => exact ⟨k + 1, by omega, by go_num, fun j hj => by
            by_cases e : j = k
            · subst e; exact HQ.out
            · exact HN.out j (by omega), hb.trans (b1.mono hb.size)⟩
        case measure => simp [intOf]; omega
    · go_wp2
      go_ret
      refine ⟨reti ?_, hb⟩
      rw [idxS, show zs.findIdx? f = none from ?_]
      rw [List.findIdx?_eq_none_iff]
      intro p hp
      obtain ⟨i, hi, rfl⟩ := List.getElem_of_mem hp
      have := HN.out i (by omega)
      rwa [show gS zs i = zs[i] by simp [gS, List.getD, hi]] at this

theorem idxS_neg (f : Int × Int → Bool) (zs : List (Int × Int)) : decide (0 ≤ idxS f zs) = zs.any f := by
  unfold idxS
  cases h : zs.findIdx? f with
  | none =>
    rw [List.findIdx?_eq_none_iff] at h
    have : zs.any f = false := by rw [List.any_eq_false]; intro p hp; simp [h p hp]
    rw [this]; rfl
  | some i =>
    rw [List.findIdx?_eq_some_iff_getElem] at h
    obtain ⟨hi, hf, _⟩ := h
    have : zs.any f = true := by rw [List.any_eq_true]; exact ⟨zs[i], List.getElem_mem _, hf⟩
    rw [this]; simp

set_option maxHeartbeats 1000000 in
theorem ContainsFuncS_ok (ao : Option Addr) (n c : Nat) (zs : List (Int × Int)) (g : Nat) (cap : Array Value) (f : Int × Int → Bool) (w : World) (h : RowS w ao n c zs) (hg : ∀ args W, (callFunc g args).run Try.prog W = .ok (.enter g args) W)
    (hf : ∀ k, k < n → ∀ W, Below w.heap.size w W → Calls Try.prog g (#[.agg #[.int .i64 (gS zs k).1, .int .i64 (gS zs k).2]] ++ cap) W fun e W' => e = .returned (.bool (f (gS zs k))) ∧ Below W.heap.size W W') :
    Calls Try.prog 38 #[.slice ao n c, .func (.func g) #[] cap] w fun e w' => e = .returned (.bool (zs.any f)) ∧ Below w.heap.size w w' := by
  have HC := Lib.hid (IndexFuncS_ok ao n c zs g cap f w h hg hf)
  clear hf hg h
  go_enter Try.func38, Try.ntmps38
  go_wp2_with fail
  refine HC.out.mono ?_
  rintro e w1 ⟨rfl, b1⟩
  go_wp2
  all_goals
    go_ret
    exact ⟨retb (idxS_neg _ _), b1⟩

set_option maxHeartbeats 1000000 in
theorem seenClosure_ok (x y m : Int) (pb : Nat) (w : World) (hm : 1 ≤ m ∧ m ≤ 5) (hc : w.cell? ⟨pb, 0, none⟩ = some (.int .i64 m)) (hp : pb < w.heap.size) :
    Calls Try.prog 48 #[.agg #[.int .i64 x, .int .i64 y], .pointer (some ⟨pb, 0, none⟩)] w fun e w' => e = .returned (.bool (!okS (2 ^ m.toNat) (x, y))) ∧ Below w.heap.size w w' := by
  have hca : ∀ o, (w.alloc o).cell? ⟨pb, 0, none⟩ = some (.int .i64 m) := fun o => ((((Below.refl w.heap.size w).alloc (Nat.le_refl _) o).cell (p := ⟨pb, 0, none⟩) hp)).trans hc
  clear hc
  have HP := Lib.hid (wrap_pow hm)
  have HC2 := Lib.hid (show ((2 ^ m.toNat : Nat) : Int) = 2 ^ m.toNat by simp)
  by_cases h1 : x < 0
  · go_enter Try.func48, Try.ntmps48
    go_wp2
    go_quiet (fail)
    go_wp2
    go_ret
    exact ⟨retb (by simp [okS]; omega), below_drewN ((Below.refl _ _).alloc (Nat.le_refl _) _) _⟩
  have d1 : decide (x < 0) = false := by simp; omega
  by_cases h2 : wrap64 (2 ^ m.toNat) ≤ x
  · go_enter Try.func48, Try.ntmps48
    go_wp2
    go_quiet (fail)
    go_wp2
    go_ret
    exact ⟨retb (by have := HP.out; have := HC2.out; simp [okS]; omega), below_drewN ((Below.refl _ _).alloc (Nat.le_refl _) _) _⟩
  have d2 : decide (wrap64 (2 ^ m.toNat) ≤ x) = false := by simp; omega
  by_cases h3 : y < 0
  · go_enter Try.func48, Try.ntmps48
    go_wp2
    go_quiet (fail)
    go_wp2
    go_ret
    exact ⟨retb (by have := HP.out; have := HC2.out; simp [okS]; omega), below_drewN ((Below.refl _ _).alloc (Nat.le_refl _) _) _⟩
  have d3 : decide (y < 0) = false := by simp; omega
  by_cases h4 : wrap64 (2 ^ m.toNat) ≤ y
  · go_enter Try.func48, Try.ntmps48
    go_wp2
    go_quiet (fail)
    go_wp2
    go_ret
    exact ⟨retb (by have := HP.out; have := HC2.out; simp [okS]; omega), below_drewN ((Below.refl _ _).alloc (Nat.le_refl _) _) _⟩
  · have d4 : decide (wrap64 (2 ^ m.toNat) ≤ y) = false := by simp; omega
    go_enter Try.func48, Try.ntmps48
    go_wp2
    go_quiet (fail)
    go_wp2
    go_ret
    exact ⟨retb (by have := HP.out; have := HC2.out; simp [okS]; omega), below_drewN ((Below.refl _ _).alloc (Nat.le_refl _) _) _⟩

set_option maxHeartbeats 1000000 in
theorem svI_ok (ao : Option Addr) (n c : Nat) (zs : List (Int × Int)) (m : Int) (w : World) (h : RowS w ao n c zs) :
    Calls Try.prog 26 #[.slice ao n c, .int .i64 m] w fun e w' => e = .returned (.bool (seenB zs m)) ∧ Below w.heap.size w w' := by
  have hml := h.cap
  have hml' := h.le
  unfold maxLen at hml
  by_cases h1 : m < 1
  · go_enter Try.func26, Try.ntmps26
    go_wp2
    go_ret
    exact ⟨retb (by simp [seenB]; omega), (Below.refl _ _).alloc (Nat.le_refl _) _⟩
  by_cases h2 : 5 < m
  · go_enter Try.func26, Try.ntmps26
    go_wp2
    go_ret
    exact ⟨retb (by simp [seenB]; omega), (Below.refl _ _).alloc (Nat.le_refl _) _⟩
  by_cases h3 : 32 < n
  · go_enter Try.func26, Try.ntmps26
    go_wp2
    go_ret
    exact ⟨retb (by have := h.len; simp [seenB]; omega), (Below.refl _ _).alloc (Nat.le_refl _) _⟩
  have hm : 1 ≤ m ∧ m ≤ 5 := by omega
  go_enter Try.func26, Try.ntmps26
  go_wp2_with fail
  have b0 : Below w.heap.size w (w.alloc (.cells #[.int .i64 m] 3)) := (Below.refl _ _).alloc (Nat.le_refl _) _
  have hcell : (w.alloc (.cells #[.int .i64 m] 3)).cell? ⟨w.heap.size, 0, none⟩ = some (.int .i64 m) := by
    have := Blk.new w 3 [.int .i64 m]
    exact this.cell (i := 0) rfl
  refine (ContainsFuncS_ok ao n c zs 48 #[.pointer (some ⟨w.heap.size, 0, none⟩)] (fun p => !okS (2 ^ m.toNat) p) _ (h.below b0 (Nat.le_refl _)) (fun _ _ => by kernel_rfl) ?hf).mono ?_
  case hf =>
    intro k hk W hB
    exact seenClosure_ok _ _ m w.heap.size W hm ((hB.cell (p := ⟨w.heap.size, 0, none⟩) (by simp)).trans hcell) (Nat.lt_of_lt_of_le (by simp) hB.size)
  rintro e w1 ⟨rfl, b1⟩
  have HL := Lib.hid h.len
  have hany : zs.any (fun p => !okS (2 ^ m.toNat) p) = !zs.all (okS (2 ^ m.toNat)) := by rw [List.not_all_eq_any_not]
  rw [hany]
  clear h hcell hany
  generalize hb : zs.all (okS (2 ^ m.toNat)) = b
  have HB := Lib.hid hb
  clear hb
  go_wp2
  go_ret
  exact ⟨retb (by rw [seenB, HB.out, decide_eq_true hm, decide_eq_true (by have := HL.out; omega)]; simp), b0.trans (b1.mono b0.size)⟩


set_option maxHeartbeats 1000000 in
theorem svS_ok (ao : Option Addr) (n c : Nat) (zs : List (Int × Int)) (m : Int) (w : World) (h : RowS w ao n c zs) :
    Calls Try.prog 41 #[.slice ao n c, .int .i64 m] w fun e w' => e = .returned (.bool (seenB zs m)) ∧ w = w' := by
  have hml := h.cap
  have hml' := h.le
  unfold maxLen at hml
  by_cases hm : 1 ≤ m ∧ m ≤ 5
  rotate_left
  · have hq := inB_false hm
    go_enter Try.func41, Try.ntmps41
    go_wp2_with (go_at_call 29; refine (l1In_ok _ _ _ _).mono ?_; rintro e w' ⟨rfl, rfl⟩)
    go_ret
    exact ⟨retb (by rw [seenB, decide_eq_false hm]; rfl), rfl⟩
  have hq := inB_true hm
  by_cases h3 : 32 < n
  · have HL := Lib.hid h.len
    go_enter Try.func41, Try.ntmps41
    go_wp2_with (go_at_call 29; refine (l1In_ok _ _ _ _).mono ?_; rintro e w' ⟨rfl, rfl⟩)
    go_ret
    exact ⟨retb (by rw [seenB, decide_eq_false (show ¬ zs.length ≤ 32 by have := HL.out; omega)]; simp), rfl⟩
  obtain rfl := h.len
  have HT := Lib.hid (wrap_top hm)
  have HC2 := Lib.hid (show ((2 ^ m.toNat : Nat) : Int) = 2 ^ m.toNat by simp)
  have HPos := Lib.hid (show 0 < (2 ^ m.toNat : Nat) from Nat.two_pow_pos _)
  go_enter Try.func41, Try.ntmps41
  go_wp2_with (go_at_call 29; refine (l1In_ok _ _ _ _).mono ?_; rintro e w' ⟨rfl, rfl⟩)
  clear hq
  go_loop [5] (fun i => ∃ k : Nat, k ≤ zs.length ∧ i = .int .i64 k ∧ (∀ j, j < k → okS (2 ^ m.toNat) (gS zs j) = true)) (fun i => zs.length - (intOf i).toNat)
  case atStart => exact ⟨0, Nat.zero_le _, rfl, fun j h => absurd h (Nat.not_lt_zero _)⟩
  case round =>
    obtain ⟨k, hk, rfl, hno⟩ := hrel
    have HN := Lib.hid hno
    clear hno
    by_cases hlt : k < zs.length
    · obtain ⟨b, o, rfl, hbo⟩ := h.some (by omega)
      have hx0 : w.cell? ⟨b, o + k * 2, none⟩ = some (.int .i64 (gS zs k).1) := h.before b o rfl k hlt
      have hx1 : w.cell? ⟨b, o + k * 2 + 1, none⟩ = some (.int .i64 (gS zs k).2) := h.after b o rfl k hlt
      clear h
      by_cases h1 : 0 ≤ (gS zs k).1 ∧ (gS zs k).1 ≤ wrap64 (wrap64 (2 ^ m.toNat) - 1)
      · have q1 := inB_true h1
        have H1 := Lib.hid h1
        clear h1
        by_cases h2 : 0 ≤ (gS zs k).2 ∧ (gS zs k).2 ≤ wrap64 (wrap64 (2 ^ m.toNat) - 1)
        · have q2 := inB_true h2
          have H2 := Lib.hid h2
          clear h2
          go_wp2_with (go_at_call 29; refine (l1In_ok _ _ _ _).mono ?_; rintro e w' ⟨rfl, rfl⟩)
          go_round
          case rel => exact ⟨k + 1, by omega, by go_num, fun j hj => by
              by_cases e : j = k
              · subst e
                have a1 := H1.out
                have a2 := H2.out
                rw [HT.out] at a1 a2
                have a3 := HC2.out
                have a4 := HPos.out
                exact okS_iff.2 (by omega)
              · exact HN.out j (by omega)⟩
          case measure => simp [intOf]; omega
        · have q2 := inB_false h2
          have H2 := Lib.hid h2
          clear h2
          go_wp2_with (go_at_call 29; refine (l1In_ok _ _ _ _).mono ?_; rintro e w' ⟨rfl, rfl⟩)
          go_ret
          refine ⟨retb ?_, rfl⟩
          have hno : okS (2 ^ m.toNat) (gS zs k) = false := by
            rw [← Bool.not_eq_true, okS_iff]
            have a2 := H2.out
            rw [HT.out] at a2
            have a3 := HC2.out
            have a4 := HPos.out
            omega
          rw [seenB, allS_not hlt hno]; simp
      · have q1 := inB_false h1
        have H1 := Lib.hid h1
        clear h1
        go_wp2_with (go_at_call 29; refine (l1In_ok _ _ _ _).mono ?_; rintro e w' ⟨rfl, rfl⟩)
        go_ret
        refine ⟨retb ?_, rfl⟩
        have hno : okS (2 ^ m.toNat) (gS zs k) = false := by
          rw [← Bool.not_eq_true, okS_iff]
          have a2 := H1.out
          rw [HT.out] at a2
          have a3 := HC2.out
          have a4 := HPos.out
          omega
        rw [seenB, allS_not hlt hno]; simp
    · have HA := Lib.hid (allS_of (zs := zs) (f := okS (2 ^ m.toNat)) fun i hi => HN.out i (by omega))
      go_wp2
      go_ret
      exact ⟨retb (by rw [seenB, HA.out, decide_eq_true hm, decide_eq_true (by omega)]; rfl), rfl⟩

end Go.Proofs.Ytlfeipibhdggcaa
