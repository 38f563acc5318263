/- Walks and plain facts: several of my texts in one. -/
import Derived.Test.YtcmjogojlijdgaaGreatDoorGrA
import Derived.Test.YtcmjogojlijdgaaGreatDoorGrB
import Derived.Deep.RegionHeld3
/- Walks: the source of drawn numbers: in range, whatever the bytes. -/
namespace Go.Proofs.YtcmjogojlijdgaaGreatDoor
open Go.RowKit

/-- Of one-cell bytes. -/
def RowU (w : World) (ao : Option Addr) (n c : Nat) (zs : List Int) : Prop := zs.length = n ∧ Row w ao n c (fun i => .int .u8 (gI zs i)) ∧ ∀ i, i < n → 0 ≤ gI zs i ∧ gI zs i < 256
theorem RowU.below {B : Nat} {w w' : World} {ao : Option Addr} {n c : Nat} {zs : List Int} (h : RowU w ao n c zs) (hb : Below B w w') (hB : w.heap.size ≤ B) : RowU w' ao n c zs := ⟨h.1, h.2.1.below hb hB, h.2.2⟩
theorem wf_u8 {z : Int} (h : (Lit.int .u8 z).wf = true) : 0 ≤ z ∧ z < 256 := by
  simp only [Lit.wf] at h
  have e1 : IntKind.u8.min = 0 := rfl
  have e2 : IntKind.u8.max = 255 := rfl
  rw [e1, e2] at h
  have : 0 ≤ z ∧ z ≤ 255 := by simpa using h
  omega
theorem IsRow.rowU {w : World} {a : Option Addr} {n c : Nat} {zs : List Int} (h : IsRow .u8 w a n c zs) : RowU w a n c (zs.take n) := by
  rcases h with ⟨rfl, rfl, rfl, rfl⟩ | ⟨x, rfl, hl, hm, hz, hcell, hwf⟩
  · exact ⟨rfl, ⟨Nat.le_refl _, Nat.zero_le _, fun _ => rfl, fun h => absurd h (Nat.lt_irrefl _), fun b o e => by cases e⟩, fun i hi => absurd hi (Nat.not_lt_zero _)⟩
  · refine ⟨by simp; omega, ⟨hl, hm, fun e => (by cases e), fun hn => ?_, fun b o e i hi => ?_⟩, fun i hi => ?_⟩
    · obtain ⟨b, off, spot⟩ := x
      have hc := hcell 0 (by omega)
      have hs : spot = none := by simpa [Addr.add] using World.cell?_spot hc
      subst hs
      exact ⟨b, off, rfl, World.block_lt_of_cell? w ⟨b, off, none⟩ (by simpa [Addr.add] using hc)⟩
    · cases e
      have hc := hcell i (by omega)
      have ha : (⟨b, o, none⟩ : Addr).add i = ⟨b, o + i, none⟩ := by unfold Addr.add; split <;> simp_all
      rw [ha] at hc
      rw [hc]
      simp [gI, List.getD, hi]
    · have hil : i < zs.length := by omega
      have := hwf zs[i] (List.getElem_mem _)
      have e : gI (zs.take n) i = zs[i] := by simp [gI, List.getD, hi, hil]
      rw [e]
      exact wf_u8 this

/-- The source: its bytes, and how many numbers were drawn at most. -/
structure Rd (w : World) (g P : Nat) : Prop where
  ex : ∃ ao l c zs, ∃ p : Nat, Blk w g 62 [.slice ao l c, .int .i64 p] ∧ RowU w ao l c zs ∧ l ≤ 2000 ∧ p ≤ P ∧ (∀ a, ao = some a → 0 < l → a.block < g)
theorem Rd.lt {w : World} {g P : Nat} (h : Rd w g P) : g < w.heap.size := let ⟨_, _, _, _, _, hb, _⟩ := h.ex; hb.lt
theorem Rd.more {w : World} {g P Q : Nat} (h : Rd w g P) (hq : P ≤ Q) : Rd w g Q := by
  obtain ⟨ao, l, c, zs, p, h1, h2, h3, h4, h5⟩ := h.ex
  exact ⟨ao, l, c, zs, p, h1, h2, h3, by omega, h5⟩
theorem Rd.below {w w' : World} {g P B : Nat} (h : Rd w g P) (hb : Below B w w') (hg : w.heap.size ≤ B) : Rd w' g P := by
  obtain ⟨ao, l, c, zs, p, h1, h2, h3, h4, h5⟩ := h.ex
  exact ⟨ao, l, c, zs, p, h1.below hb (Nat.lt_of_lt_of_le h1.lt hg), h2.below hb hg, h3, h4, h5⟩
theorem Rd.grown {w w' : World} {g P : Nat} {row : Option Nat} (h : Rd w g P) (hb : w.grownBy w' row) (hr : ∀ j, row = some j → g < j) : Rd w' g P := by
  obtain ⟨ao, l, c, zs, p, h1, ⟨h2, h2r, h2b⟩, h3, h4, h5⟩ := h.ex
  have hblk : ∀ i, i ≤ g → w'.heap[i]? = w.heap[i]? := fun i hi => hb.block i (Nat.lt_of_le_of_lt hi h1.lt) (fun e => by have := hr i (by rw [e]); omega)
  refine ⟨ao, l, c, zs, p, by unfold Blk; rw [hblk g (Nat.le_refl _)]; exact h1, ⟨h2, ⟨h2r.le, h2r.cap, h2r.nil, fun hn => ?_, fun b o e i hi => ?_⟩, h2b⟩, h3, h4, h5⟩
  · obtain ⟨b, o, e, hbo⟩ := h2r.some hn
    exact ⟨b, o, e, Nat.lt_of_lt_of_le hbo hb.size⟩
  · rw [← h2r.cell b o e i hi]
    have := h5 _ e (by omega)
    simp only [World.cell?]
    rw [hblk b (Nat.le_of_lt this)]

end Go.Proofs.YtcmjogojlijdgaaGreatDoor
/- Walks: a drawn number lies in its range. -/
namespace Go.Proofs.YtcmjogojlijdgaaGreatDoor
open Go.RowKit

/-- What a draw of a number below n does. -/
def PickP (g P n : Nat) (w : World) (e : Ending) (w' : World) : Prop := ∃ v : Nat, e = .returned (.int .i64 v) ∧ (v < n ∨ v = 0) ∧ Rd w' g P ∧ w.grownBy w' (some g)

theorem rd_set {w : World} {g P l c p : Nat} {ao : Option Addr} {zs : List Int} (h1 : Blk w g 62 [.slice ao l c, .int .i64 p]) (h2 : RowU w ao l c zs) (h3 : l ≤ 2000) (h4 : p ≤ P) (h5 : ∀ a, ao = some a → 0 < l → a.block < g) :
    Rd (w.setCell ⟨g, 1, none⟩ (.int .i64 ((p : Int) + 1))) g (P + 1) := by
  refine ⟨ao, l, c, zs, p + 1, by simpa using h1.set 1 (.int .i64 ((p : Int) + 1)), ⟨h2.1, ⟨h2.2.1.le, h2.2.1.cap, h2.2.1.nil, fun hn => ?_, fun b o e i hi => ?_⟩, h2.2.2⟩, h3, by omega, h5⟩
  · obtain ⟨b, o, e, hbo⟩ := h2.2.1.some hn
    exact ⟨b, o, e, by simpa using hbo⟩
  · rw [← h2.2.1.cell b o e i hi]
    have := h5 _ e (by omega)
    refine World.cell?_setCell_other _ _ _ _ fun e => ?_
    have e2 := congrArg Addr.block e
    simp only at e2 this
    omega
theorem tmod_nat (a b : Nat) : Int.tmod (a : Int) (b : Int) = ((a % b : Nat) : Int) := rfl
theorem tdiv_nat (a b : Nat) : Int.tdiv (a : Int) (b : Int) = ((a / b : Nat) : Int) := rfl

set_option maxHeartbeats 4000000 in
set_option maxRecDepth 100000 in
theorem pick_ok (g P n : Nat) (w : World) (h : Rd w g P) (hP : P ≤ 1000000) (hn : n ≤ 1048576) :
    Calls Tryz.prog 33 #[.pointer (some ⟨g, 0, none⟩), .int .i64 n] w (PickP g (P + 1) n w) := by
  obtain ⟨ao, l, c, zs, p, h1, h2, h3, h4, h5⟩ := h.ex
  have c0 := h1.cell (i := 0) rfl
  have c1 := h1.cell (i := 1) rfl
  have f1 := h1.free 1
  have HR := Lib.hid (rd_set h1 h2 h3 h4 h5)
  have HG : Hid (w.grownBy (w.setCell ⟨g, 1, none⟩ (.int .i64 ((p : Int) + 1))) (some g)) := grownBy_setCell (World.grownBy.refl _ _) rfl _
  clear h h1
  by_cases hn0 : n = 0
  · subst hn0
    clear h2 h5
    go_enter Tryz.func33, Tryz.ntmps33
    go_wp2_with fail
    go_ret
    exact ⟨0, rfl, .inr rfl, HR.out, HG.out⟩
  by_cases hl0 : l = 0
  · subst hl0
    have hn1 : ¬ (n : Int) < 1 := by omega
    clear h2 h5
    go_enter Tryz.func33, Tryz.ntmps33
    go_wp2_with fail
    go_ret
    exact ⟨0, rfl, .inr rfl, HR.out, HG.out⟩
  have hn1 : ¬ (n : Int) < 1 := by omega
  have hl1 : ¬ (l : Int) = 0 := by omega
  obtain ⟨b, o, rfl, hbo⟩ := h2.2.1.some (by omega)
  have hbg : b < g := h5 _ rfl (by omega)
  have hne : ¬ b = g := by omega
  have hne2 : ¬ g = b := by omega
  by_cases hpl : p < l
  · have hcx := h2.2.1.cell b o rfl p hpl
    obtain ⟨hz0, hz1⟩ := h2.2.2 p hpl
    obtain ⟨z, hz⟩ := Int.eq_ofNat_of_zero_le hz0
    rw [hz] at hcx hz1
    have hpl' : (p : Int) < (l : Int) := by omega
    have hml : z % n < n := Nat.mod_lt _ (by omega)
    clear h2 h5 hz0 hz
    go_enter Tryz.func33, Tryz.ntmps33
    go_wp2_with fail
    go_ret
    exact ⟨z % n, rfl, .inl hml, HR.out, HG.out⟩
  · have hpl' : ¬ (p : Int) < (l : Int) := by omega
    have m1 : p % l < l := Nat.mod_lt _ (by omega)
    have m2 : (p * 7 + 3) % l < l := Nat.mod_lt _ (by omega)
    have hc1 := h2.2.1.cell b o rfl _ m1
    have hc2 := h2.2.1.cell b o rfl _ m2
    obtain ⟨ha0, ha1⟩ := h2.2.2 _ m1
    obtain ⟨hb0, hb1⟩ := h2.2.2 _ m2
    obtain ⟨za, ea⟩ := Int.eq_ofNat_of_zero_le ha0
    obtain ⟨zb, eb⟩ := Int.eq_ofNat_of_zero_le hb0
    rw [ea] at hc1 ha1
    rw [eb] at hc2 hb1
    have cc : ∀ j v, w.cell? ⟨b, o + j, none⟩ = some v → (w.setCell ⟨g, 1, none⟩ (.int .i64 ((p : Int) + 1))).cell? ⟨b, o + j, none⟩ = some v := fun j v hv => (World.cell?_setCell_other _ _ _ _ fun e => hne2 (congrArg Addr.block e)).trans hv
    have d0 : (w.setCell ⟨g, 1, none⟩ (.int .i64 ((p : Int) + 1))).cell? ⟨g, 0, none⟩ = some (.slice (some ⟨b, o, none⟩) l c) := (World.cell?_setCell_other _ _ _ _ fun e => by cases e).trans c0
    have d1 := cc _ _ hc1
    have d2 := cc _ _ hc2
    have hpn : ((p : Int)).tmod (l : Int) = ((p % l : Nat) : Int) := rfl
    have hqn : ((p : Int) * 7 + 3).tmod (l : Int) = (((p * 7 + 3) % l : Nat) : Int) := by
      rw [show (p : Int) * 7 + 3 = ((p * 7 + 3 : Nat) : Int) by omega]; rfl
    have hdn : ((p : Int)).tdiv (l : Int) = ((p / l : Nat) : Int) := rfl
    have hdl : p / l ≤ p := Nat.div_le_self _ _
    clear h2 h5 ha0 hb0 ea eb hc1 hc2 cc
    go_enter Tryz.func33, Tryz.ntmps33
    go_wp2_with fail
    generalize w.setCell ⟨g, 1, none⟩ (.int .i64 ((p : Int) + 1)) = w0 at HR HG d0 d1 d2 ⊢
    generalize p % l = i1 at m1 d1 hpn
    generalize (p * 7 + 3) % l = i2 at m2 d2 hqn
    generalize p / l = pd at hdn hdl
    go_quiet (fail)
    go_wp2_with fail
    go_ret
    refine ⟨(za * 131 + zb * 1117 + p * 29 + pd * 53 ^^^ (za * 131 + zb * 1117 + p * 29 + pd * 53) / 64) % n, reti ?_, .inl (Nat.mod_lt _ (by omega)), HR.out.below (B := w0.heap.size) ⟨rfl, rfl, rfl, Nat.le_refl _, fun _ _ => rfl⟩ (Nat.le_refl _), HG.out.trans ⟨rfl, rfl, rfl, Nat.le_refl _, fun _ _ _ => rfl⟩⟩
    have e1 : (za : Int) * 131 + (zb : Int) * 1117 + (p : Int) * 29 + (pd : Int) * 53 = ((za * 131 + zb * 1117 + p * 29 + pd * 53 : Nat) : Int) := by omega
    rw [e1]
    have hb : za * 131 + zb * 1117 + p * 29 + pd * 53 < 2 ^ 62 := by omega
    generalize za * 131 + zb * 1117 + p * 29 + pd * 53 = X at hb
    have e2 : ((X : Nat) : Int) / 64 = ((X / 64 : Nat) : Int) := by omega
    rw [e2, xor_nat X (X / 64) (by omega) (by omega)]
    rfl

/-- An element of a list of numbers; it lies at place v. -/
def NumP (g P : Nat) (zs : List Int) (w : World) (e : Ending) (w' : World) : Prop := ∃ v : Nat, v < zs.length ∧ e = .returned (.int .i64 (gI zs v)) ∧ Rd w' g P ∧ w.grownBy w' (some g)
theorem Row.grown {w w' : World} {row : Option Nat} {ao : Option Addr} {n c : Nat} {f : Nat → Value} (h : Row w ao n c f) (hg : w.grownBy w' row) (hne : ∀ a, ao = Option.some a → Option.some a.block ≠ row) : Row w' ao n c f :=
  ⟨h.le, h.cap, h.nil, fun hn => let ⟨b, o, e, hbo⟩ := h.some hn; ⟨b, o, e, Nat.lt_of_lt_of_le hbo hg.size⟩, fun b o e i hi => by
    obtain ⟨b', o', e', hbo⟩ := h.some (by omega)
    rw [e] at e'
    cases e'
    rw [← h.cell b o e i hi]
    simp only [World.cell?]
    rw [hg.block b hbo (hne _ e)]⟩

set_option maxHeartbeats 1000000 in
theorem num_ok (g P n c : Nat) (ao : Option Addr) (zs : List Int) (w : World) (h : Rd w g P) (hr : RowI w ao n c zs) (hn : 0 < n) (hn2 : n ≤ 1048576) (hg : ∀ a, ao = some a → a.block ≠ g) (hP : P ≤ 1000000) :
    Calls Tryz.prog 56 #[.pointer (some ⟨g, 0, none⟩), .slice ao n c] w (NumP g (P + 1) zs w) := by
  have HK := Lib.hid (pick_ok g P n w h hP hn2)
  have HR := Lib.hid hr
  obtain ⟨b, o, rfl, hbo⟩ := hr.2.some hn
  have hl := hr.1
  clear h hr
  go_enter Tryz.func56, Tryz.ntmps56
  go_wp2_with fail
  refine HK.out.mono ?_
  rintro e w1 ⟨v, rfl, hv, r1, g1⟩
  have hv' : v < n := by omega
  have hvi : (v : Int) < (n : Int) := by omega
  have hcx := (HR.out.2.grown g1 (fun a e => fun e2 => hg a e (Option.some.inj e2))).cell b o rfl v hv'
  have R1 := Lib.hid r1
  have G1 := Lib.hid g1
  clear r1 g1 hv
  go_wp2_with fail
  go_ret
  exact ⟨v, by omega, rfl, R1.out, G1.out⟩

def OfP (g P : Nat) (ts : List ByteArray) (w : World) (e : Ending) (w' : World) : Prop := ∃ v : Nat, v < ts.length ∧ e = .returned (.string (gT ts v)) ∧ Rd w' g P ∧ w.grownBy w' (some g)
set_option maxHeartbeats 1000000 in
theorem of_ok (g P n c : Nat) (ao : Option Addr) (ts : List ByteArray) (w : World) (h : Rd w g P) (hr : RowT w ao n c ts) (hn : 0 < n) (hn2 : n ≤ 1048576) (hg : ∀ a, ao = some a → a.block ≠ g) (hP : P ≤ 1000000) :
    Calls Tryz.prog 57 #[.pointer (some ⟨g, 0, none⟩), .slice ao n c] w (OfP g (P + 1) ts w) := by
  have HK := Lib.hid (pick_ok g P n w h hP hn2)
  have HR := Lib.hid hr
  obtain ⟨b, o, rfl, hbo⟩ := hr.2.some hn
  have hl := hr.1
  clear h hr
  go_enter Tryz.func57, Tryz.ntmps57
  go_wp2_with fail
  refine HK.out.mono ?_
  rintro e w1 ⟨v, rfl, hv, r1, g1⟩
  have hv' : v < n := by omega
  have hvi : (v : Int) < (n : Int) := by omega
  have hcx := (HR.out.2.grown g1 (fun a e => fun e2 => hg a e (Option.some.inj e2))).cell b o rfl v hv'
  have R1 := Lib.hid r1
  have G1 := Lib.hid g1
  clear r1 g1 hv
  go_wp2_with fail
  go_ret
  exact ⟨v, by omega, rfl, R1.out, G1.out⟩

/-- A source is opened. -/
def OpenP (P : Nat) (w : World) (e : Ending) (w' : World) : Prop := ∃ g : Nat, e = .returned (.pointer (some ⟨g, 0, none⟩)) ∧ w.heap.size ≤ g ∧ Rd w' g P ∧ Below w.heap.size w w'
set_option maxHeartbeats 1000000 in
theorem l14Open_ok (ao : Option Addr) (n c : Nat) (zs : List Int) (w : World) (h : RowU w ao n c zs) (hn : n ≤ 1048576) :
    Calls Tryz.prog 15 #[.slice ao n c] w (OpenP 0 w) := by
  have hle := h.2.1.le
  have hcap := h.2.1.cap
  have H := Lib.hid h
  have hlt : ∀ a, ao = some a → 0 < n → a.block < w.heap.size := fun a e hn => by
    obtain ⟨b, o, e2, hb⟩ := h.2.1.some hn
    rw [e] at e2; cases e2; exact hb
  have HL := Lib.hid hlt
  clear h hlt
  by_cases hbig : 2000 < n
  · obtain ⟨b, o, rfl, hbo⟩ := H.out.2.1.some (by omega)
    have hbig' : (2000 : Int) < (n : Int) := by omega
    have hcc : (2000 : Int) ≤ (c : Int) := by omega
    have HB := Lib.hid (Blk.new w 62 [.slice (some ⟨b, o, none⟩) 2000 c, .int .i64 0])
    go_enter Tryz.func15, Tryz.ntmps15
    go_wp2_with fail
    go_ret
    refine ⟨w.heap.size, rfl, Nat.le_refl _, ⟨_, 2000, c, zs.take 2000, 0, HB.out, RowU.below ⟨?_, ⟨by omega, hcap, fun e => (by cases e), fun _ => ⟨b, o, rfl, hbo⟩, fun b' o' e i hi => ?_⟩, fun i hi => ?_⟩ ((Below.refl _ _).alloc (Nat.le_refl _) _) (Nat.le_refl _), Nat.le_refl _, Nat.zero_le _, fun a e h0 => ?_⟩, (Below.refl _ _).alloc (Nat.le_refl _) _⟩
    · rw [List.length_take, H.out.1]; omega
    · rw [H.out.2.1.cell b' o' e i (by omega)]
      have : gI (zs.take 2000) i = gI zs i := by simp [gI, List.getD, hi]
      rw [this]
    · have : gI (zs.take 2000) i = gI zs i := by simp [gI, List.getD, hi]
      rw [this]
      exact H.out.2.2 i (by omega)
    · cases e; exact hbo
  · have hbig' : ¬ (2000 : Int) < (n : Int) := by omega
    have HB := Lib.hid (Blk.new w 62 [.slice ao n c, .int .i64 0])
    go_enter Tryz.func15, Tryz.ntmps15
    go_wp2_with fail
    go_ret
    refine ⟨w.heap.size, rfl, Nat.le_refl _, ⟨ao, n, c, zs, 0, HB.out, H.out.below ((Below.refl _ _).alloc (Nat.le_refl _) _) (Nat.le_refl _), by omega, Nat.zero_le _, fun a e h0 => ?_⟩, (Below.refl _ _).alloc (Nat.le_refl _) _⟩
    exact HL.out a e h0

end Go.Proofs.YtcmjogojlijdgaaGreatDoor
/- Walks: tables and networks that are drawn. -/
namespace Go.Proofs.YtcmjogojlijdgaaGreatDoor
open Go.RowKit

/-- What lay below B is as it was, but for the source. -/
structure DrB (g B : Nat) (w w' : World) : Prop where
  os : w'.os = w.os
  tape : w'.tape = w.tape
  output : w'.output = w.output
  size : w.heap.size ≤ w'.heap.size
  block : ∀ i, i < B → i ≠ g → w'.heap[i]? = w.heap[i]?
theorem DrB.refl (g B : Nat) (w : World) : DrB g B w w := ⟨rfl, rfl, rfl, Nat.le_refl _, fun _ _ _ => rfl⟩
theorem DrB.trans {g B : Nat} {w w1 w2 : World} (h : DrB g B w w1) (k : DrB g B w1 w2) : DrB g B w w2 := ⟨k.os.trans h.os, k.tape.trans h.tape, k.output.trans h.output, Nat.le_trans h.size k.size, fun i a b => (k.block i a b).trans (h.block i a b)⟩
theorem DrB.mono {g B C : Nat} {w w' : World} (h : DrB g C w w') (hB : B ≤ C) : DrB g B w w' := ⟨h.os, h.tape, h.output, h.size, fun i a b => h.block i (by omega) b⟩
theorem DrB.ofB {g B : Nat} {w w' : World} (h : Below B w w') : DrB g B w w' := ⟨h.os, h.tape, h.output, h.size, fun i a _ => h.block i a⟩
theorem DrB.ofG {g : Nat} {w w' : World} (h : w.grownBy w' (some g)) : DrB g w.heap.size w w' := ⟨h.os, h.tape, h.output, h.size, fun i a b => h.block i a (fun e => b (Option.some.inj e))⟩
theorem DrB.grown {g B : Nat} {a w w' : World} {row : Option Nat} (h : DrB g B a w) (hg : w.grownBy w' row) (hB : B ≤ w.heap.size) (hr : ∀ k, row = some k → B ≤ k) : DrB g B a w' :=
  h.trans ⟨hg.os, hg.tape, hg.output, hg.size, fun i x _ => hg.block i (by omega) (fun e => by have := hr i (by rw [e]); omega)⟩
theorem DrB.alloc {g B : Nat} {a w : World} (h : DrB g B a w) (hB : B ≤ w.heap.size) (o : Obj) : DrB g B a (w.alloc o) := h.trans (DrB.ofB ((Below.refl B w).alloc hB o))
theorem DrB.below {g B : Nat} {w w' : World} (h : DrB g B w w') (hg : B ≤ g) : Below B w w' := ⟨h.os, h.tape, h.output, h.size, fun i a => h.block i a (by omega)⟩
theorem OwnI.dr {w w' : World} {B g C : Nat} {v : Value} {zs : List Int} (h : OwnI w B v zs) (hb : DrB g C w w') (hC : w.heap.size ≤ C) (hg : g < B) : OwnI w' B v zs := by
  obtain ⟨h0, h1 | ⟨q, cap, cur, e, hq, hh, h2⟩⟩ := h
  · exact ⟨h0, .inl h1⟩
  · exact ⟨h0, .inr ⟨q, cap, cur, e, hq, by rw [hb.block q (by have := lt_of_block hh; omega) (by omega)]; exact hh, h2⟩⟩
theorem OwnT.dr {w w' : World} {B g C : Nat} {v : Value} {ts : List ByteArray} (h : OwnT w B v ts) (hb : DrB g C w w') (hC : w.heap.size ≤ C) (hg : g < B) : OwnT w' B v ts := by
  obtain ⟨h0, h1 | ⟨q, cap, cur, e, hq, hh, h2⟩⟩ := h
  · exact ⟨h0, .inl h1⟩
  · exact ⟨h0, .inr ⟨q, cap, cur, e, hq, by rw [hb.block q (by have := lt_of_block hh; omega) (by omega)]; exact hh, h2⟩⟩

/-- A text of n inputs' digits. -/
def DT (n : Nat) (t : ByteArray) : Prop := digB t = true ∧ t.size = 2 ^ n
def bitsL (zs : List Int) : Prop := ∀ i, i < zs.length → gI zs i = 0 ∨ gI zs i = 1
theorem bitsL.nil : bitsL [] := fun i h => absurd h (by simp)
theorem bitsL.snoc {zs : List Int} {v : Int} (h : bitsL zs) (hv : v = 0 ∨ v = 1) : bitsL (zs ++ [v]) := fun i hi => by
  by_cases e : i < zs.length
  · have : gI (zs ++ [v]) i = gI zs i := by rw [gI, gI, List.getD_eq_getElem?_getD, List.getElem?_append_left e, ← List.getD_eq_getElem?_getD]
    rw [this]; exact h i e
  · have e2 : i = zs.length := by simp at hi; omega
    have : gI (zs ++ [v]) i = v := by simp [gI, List.getD, e2]
    rw [this]; exact hv
theorem digT_dig {zs : List Int} (h : bitsL zs) : digB (digT zs) = true := by
  rw [digB, List.all_eq_true]
  intro b hb
  simp only [digT] at hb
  obtain ⟨v, hv, rfl⟩ := List.mem_map.1 hb
  obtain ⟨i, hi, rfl⟩ := List.getElem_of_mem hv
  rw [gI_eq hi]
  rcases h i hi with e | e <;> rw [e] <;> rfl

/-- A text is drawn. -/
def TextP (g P : Nat) (Q : ByteArray → Prop) (w : World) (e : Ending) (w' : World) : Prop := ∃ t, e = .returned (.string t) ∧ Q t ∧ Rd w' g P ∧ DrB g w.heap.size w w'

theorem OwnI.oneApp {w w' : World} {B g P : Nat} {v : Value} {zs : List Int} {x : Int} {t : TypeId} (h : OwnI w B v zs) (hg : g < B) (hr : Rd w g P) (g5 : (w.alloc (.cells #[.int .i64 x] t)).grownBy w' v.ownBlock) : Rd w' g P :=
  (hr.below ((Below.refl _ _).alloc (Nat.le_refl _) _) (Nat.le_refl _)).grown g5 (fun j hj => by have := (World.ownsRow.lt h j hj).1; omega)

set_option maxHeartbeats 8000000 in
theorem l1Draw_ok (g P n : Nat) (w : World) (h : Rd w g P) (hn : 1 ≤ n ∧ n ≤ 5) (hP : P ≤ 900000) :
    Calls Tryz.prog 61 #[.pointer (some ⟨g, 0, none⟩), .int .i64 n] w (TextP g (P + 40) (DT n) w) := by
  have hgw := h.lt
  have hp : (2 ^ n : Nat) ≤ 32 := Nat.pow_le_pow_right (n := 2) (by decide) hn.2
  have hpw : wrap64 (2 ^ n) = ((2 ^ n : Nat) : Int) := wrap_pow_nat n (by omega)
  have HD : Hid (∀ zs, zs.length = 2 ^ n → bitsL zs → DT n (digT zs)) := fun zs h1 h2 => ⟨digT_dig h2, by rw [digT_size, h1]⟩
  generalize (2 ^ n : Nat) = N at hp hpw HD
  have HK := Lib.hid (fun Q m W (h : Rd W g Q) (hQ : Q ≤ 1000000) (hm : m ≤ 1048576) => pick_ok g Q m W h hQ hm)
  have b0 : Below w.heap.size w (w.alloc (.cells #[] 3)) := (Below.refl _ _).alloc (Nat.le_refl _) _
  have R0 := Lib.hid (h.below b0 (Nat.le_refl _))
  have D0 := Lib.hid (DrB.ofB (g := g) b0)
  have O0 := Lib.hid (OwnI.lit w w.heap.size [] (Nat.le_refl _) (by decide))
  have hs0 : (w.alloc (.cells #[] 3)).heap.size = w.heap.size + 1 := by simp
  clear h b0
  go_enter Tryz.func61, Tryz.ntmps61
  go_wp2_with fail
  refine (HK.out P n _ R0.out (by omega) (by omega)).mono ?_
  rintro e w1 ⟨a, rfl, ha, r1, g1⟩
  have R1 := Lib.hid r1
  have D1 := Lib.hid (D0.out.trans ((DrB.ofG g1).mono (by rw [hs0]; omega)))
  have O1 := Lib.hid (O0.out.dr (DrB.ofG g1) (Nat.le_refl _) hgw)
  clear r1 g1
  go_wp2_with fail
  refine (HK.out (P + 1) n _ R1.out (by omega) (by omega)).mono ?_
  rintro e w2 ⟨b, rfl, hb, r2, g2⟩
  have R2 := Lib.hid r2
  have D2 := Lib.hid (D1.out.trans ((DrB.ofG g2).mono D1.out.size))
  have O2 := Lib.hid (O1.out.dr (DrB.ofG g2) (Nat.le_refl _) hgw)
  clear r2 g2
  go_wp2_with fail
  refine (HK.out (P + 2) 7 _ R2.out (by omega) (by omega)).mono ?_
  rintro e w3 ⟨kd, rfl, hk, r3, g3⟩
  have R3 := Lib.hid r3
  have D3 := Lib.hid (D2.out.trans ((DrB.ofG g3).mono D2.out.size))
  have O3 := Lib.hid (O2.out.dr (DrB.ofG g3) (Nat.le_refl _) hgw)
  clear r3 g3
  go_wp2_with fail
  refine (HK.out (P + 3) 2 _ R3.out (by omega) (by omega)).mono ?_
  rintro e w4 ⟨sg, rfl, hsg, r4, g4⟩
  have R4 := Lib.hid r4
  have D4 := Lib.hid (D3.out.trans ((DrB.ofG g4).mono D3.out.size))
  have O4 := Lib.hid (O3.out.dr (DrB.ofG g4) (Nat.le_refl _) hgw)
  clear r4 g4 hs0
  have hsg2 : sg < 2 := by omega
  go_wp2_with fail
  go_loopw [5, 10] (fun v q wr => ∃ (k : Nat) (zs : List Int), k ≤ N ∧ q = .int .i64 k ∧ zs.length = k ∧ OwnI wr w.heap.size v zs ∧ bitsL zs ∧ Rd wr g (P + 4 + k) ∧ DrB g w.heap.size w wr) (fun _ q _ => N - (intOf q).toNat)
  case atStart => exact ⟨0, [], Nat.zero_le _, rfl, rfl, O4.out, bitsL.nil, R4.out, D4.out⟩
  case round =>
    obtain ⟨k, zs, hk, rfl, hl, ho, hbl, hr, hd⟩ := hrel
    have HO := Lib.hid ho
    have HBl := Lib.hid hbl
    have HR := Lib.hid hr
    have HDr := Lib.hid hd
    have HL := Lib.hid hl
    clear ho hbl hr hd hl
    by_cases hkN : k < N
    · have hkw : (k : Int) < (N : Int) := by omega
      have hx : bits .xor .i64 ((bN k a : Nat) : Int) (sg : Int) = ((bN k a ^^^ sg : Nat) : Int) := xor_nat _ _ (by have := bN_lt k a; omega) (by omega)
      have hx2 : bN k a ^^^ sg < 2 := Nat.xor_lt_two_pow (n := 1) (bN_lt k a) hsg2
      have hy2 := bN_lt k b
      have hBa := Lib.hid (fun W => l1Bit_ok (k : Int) (a : Int) W (by omega) (by omega) (by omega) (by omega))
      have hBb := Lib.hid (fun W => l1Bit_ok (k : Int) (b : Int) W (by omega) (by omega) (by omega) (by omega))
      rw [Int.toNat_natCast, Int.toNat_natCast] at hBa hBb
      generalize bN k a = xa at hx hx2 hBa
      generalize bN k b = y at hy2 hBb
      generalize xa ^^^ sg = x at hx hx2
      have fin : ∀ (v' : Value) (w' W : World) (v : Nat) (vv : Value) (Q : Nat), v < 2 → OwnI W w.heap.size vv zs → Rd W g Q → Q ≤ P + 4 + k + 1 → DrB g w.heap.size w W → OwnI w' w.heap.size v' (zs ++ [(v : Int)]) → (W.alloc (.cells #[.int .i64 v] 3)).grownBy w' vv.ownBlock →
          (zs ++ [(v : Int)]).length = k + 1 ∧ OwnI w' w.heap.size v' (zs ++ [(v : Int)]) ∧ bitsL (zs ++ [(v : Int)]) ∧ Rd w' g (P + 4 + (k + 1)) ∧ DrB g w.heap.size w w' := fun v' w' W v vv Q hv hO hR hQ hD o5 g5 =>
        ⟨by simp [HL.out], o5, HBl.out.snoc (by omega), (hO.oneApp hgw hR g5).more (by omega), (hD.alloc hD.size _).grown g5 (by have := hD.size; simp; omega) (fun j hj => (World.ownsRow.lt hO j hj).1)⟩
      have HF := Lib.hid fin
      clear fin
      by_cases k0 : kd = 0
      · have t0 : ((kd : Int) == 0) = true := by rw [k0]; rfl
        clear hk k0
        go_wp2_with fail
        refine (hBa.out _).mono ?_
        rintro e w5 ⟨rfl, rfl⟩
        go_wp2_with fail
        refine (hBb.out _).mono ?_
        rintro e w5 ⟨rfl, rfl⟩
        go_wp2_with (at_builtin; refine wpList_appI (OwnI.alloc HO.out _) (RowI.one _ _) rfl _ _ rfl rfl rfl (by have := HL.out; omega) (by have := HDr.out.size; simp; omega) ?_; intro v6 w6 o6 g6)
        go_roundw
        case rel => exact ⟨k + 1, _, by omega, by go_num, HF.out _ _ _ x _ _ hx2 HO.out HR.out (by omega) HDr.out o6 g6⟩
        case measure => simp [intOf] <;> omega
      by_cases k1 : kd = 1
      · have t0 : ((kd : Int) == 0) = false := by rw [k1]; rfl
        have t1 : ((kd : Int) == 1) = true := by rw [k1]; rfl
        clear hk k1
        have hv : bits .and .i64 (x : Int) (y : Int) = ((x &&& y : Nat) : Int) := and_nat _ _ (by omega) (by omega)
        have hv2 : x &&& y < 2 := Nat.lt_of_le_of_lt Nat.and_le_left hx2
        generalize (x &&& y : Nat) = z at hv hv2
        go_wp2_with fail
        refine (hBa.out _).mono ?_
        rintro e w5 ⟨rfl, rfl⟩
        go_wp2_with fail
        refine (hBb.out _).mono ?_
        rintro e w5 ⟨rfl, rfl⟩
        go_wp2_with (at_builtin; refine wpList_appI (OwnI.alloc HO.out _) (RowI.one _ _) rfl _ _ rfl rfl rfl (by have := HL.out; omega) (by have := HDr.out.size; simp; omega) ?_; intro v6 w6 o6 g6)
        go_roundw
        case rel => exact ⟨k + 1, _, by omega, by go_num, HF.out _ _ _ z _ _ hv2 HO.out HR.out (by omega) HDr.out o6 g6⟩
        case measure => simp [intOf] <;> omega
      by_cases k2 : kd = 2
      · have t0 : ((kd : Int) == 0) = false := by rw [k2]; rfl
        have t1 : ((kd : Int) == 1) = false := by rw [k2]; rfl
        have t2 : ((kd : Int) == 2) = true := by rw [k2]; rfl
        clear hk k2
        have hv : bits .or .i64 (x : Int) (y : Int) = ((x ||| y : Nat) : Int) := or_nat _ _ (by omega) (by omega)
        have hv2 : x ||| y < 2 := Nat.or_lt_two_pow (n := 1) hx2 hy2
        generalize (x ||| y : Nat) = z at hv hv2
        go_wp2_with fail
        refine (hBa.out _).mono ?_
        rintro e w5 ⟨rfl, rfl⟩
        go_wp2_with fail
        refine (hBb.out _).mono ?_
        rintro e w5 ⟨rfl, rfl⟩
        go_wp2_with (at_builtin; refine wpList_appI (OwnI.alloc HO.out _) (RowI.one _ _) rfl _ _ rfl rfl rfl (by have := HL.out; omega) (by have := HDr.out.size; simp; omega) ?_; intro v6 w6 o6 g6)
        go_roundw
        case rel => exact ⟨k + 1, _, by omega, by go_num, HF.out _ _ _ z _ _ hv2 HO.out HR.out (by omega) HDr.out o6 g6⟩
        case measure => simp [intOf] <;> omega
      by_cases k3 : kd = 3
      · have t0 : ((kd : Int) == 0) = false := by rw [k3]; rfl
        have t1 : ((kd : Int) == 1) = false := by rw [k3]; rfl
        have t2 : ((kd : Int) == 2) = false := by rw [k3]; rfl
        have t3 : ((kd : Int) == 3) = true := by rw [k3]; rfl
        clear hk k3
        have hv : bits .xor .i64 (x : Int) (y : Int) = ((x ^^^ y : Nat) : Int) := xor_nat _ _ (by omega) (by omega)
        have hv2 : x ^^^ y < 2 := Nat.xor_lt_two_pow (n := 1) hx2 hy2
        generalize (x ^^^ y : Nat) = z at hv hv2
        go_wp2_with fail
        refine (hBa.out _).mono ?_
        rintro e w5 ⟨rfl, rfl⟩
        go_wp2_with fail
        refine (hBb.out _).mono ?_
        rintro e w5 ⟨rfl, rfl⟩
        go_wp2_with (at_builtin; refine wpList_appI (OwnI.alloc HO.out _) (RowI.one _ _) rfl _ _ rfl rfl rfl (by have := HL.out; omega) (by have := HDr.out.size; simp; omega) ?_; intro v6 w6 o6 g6)
        go_roundw
        case rel => exact ⟨k + 1, _, by omega, by go_num, HF.out _ _ _ z _ _ hv2 HO.out HR.out (by omega) HDr.out o6 g6⟩
        case measure => simp [intOf] <;> omega
      by_cases k4 : kd = 4
      · have t0 : ((kd : Int) == 0) = false := by rw [k4]; rfl
        have t1 : ((kd : Int) == 1) = false := by rw [k4]; rfl
        have t2 : ((kd : Int) == 2) = false := by rw [k4]; rfl
        have t3 : ((kd : Int) == 3) = false := by rw [k4]; rfl
        have t4 : ((kd : Int) == 4) = true := by rw [k4]; rfl
        clear hk k4
        go_wp2_with fail
        refine (hBa.out _).mono ?_
        rintro e w5 ⟨rfl, rfl⟩
        go_wp2_with fail
        refine (hBb.out _).mono ?_
        rintro e w5 ⟨rfl, rfl⟩
        go_wp2_with (at_builtin; refine wpList_appI (OwnI.alloc HO.out _) (RowI.one _ _) rfl _ _ rfl rfl rfl (by have := HL.out; omega) (by have := HDr.out.size; simp; omega) ?_; intro v6 w6 o6 g6)
        go_roundw
        case rel => exact ⟨k + 1, _, by omega, by go_num, HF.out _ _ _ sg _ _ hsg2 HO.out HR.out (by omega) HDr.out o6 g6⟩
        case measure => simp [intOf] <;> omega
      · have t0 : ((kd : Int) == 0) = false := by rw [beq_eq_false_iff_ne]; omega
        have t1 : ((kd : Int) == 1) = false := by rw [beq_eq_false_iff_ne]; omega
        have t2 : ((kd : Int) == 2) = false := by rw [beq_eq_false_iff_ne]; omega
        have t3 : ((kd : Int) == 3) = false := by rw [beq_eq_false_iff_ne]; omega
        have t4 : ((kd : Int) == 4) = false := by rw [beq_eq_false_iff_ne]; omega
        clear hk k0 k1 k2 k3 k4
        go_wp2_with fail
        refine (hBa.out _).mono ?_
        rintro e w5 ⟨rfl, rfl⟩
        go_wp2_with fail
        refine (hBb.out _).mono ?_
        rintro e w5 ⟨rfl, rfl⟩
        go_wp2_with fail
        refine (HK.out _ 2 _ HR.out (by omega) (by omega)).mono ?_
        rintro e w5 ⟨z, rfl, hz, r5, g5⟩
        have hz2 : z < 2 := by omega
        have R5 := Lib.hid r5
        have D5 := Lib.hid (HDr.out.trans ((DrB.ofG g5).mono HDr.out.size))
        have O5 := Lib.hid (HO.out.dr (DrB.ofG g5) (Nat.le_refl _) hgw)
        clear r5 g5 hz
        go_wp2_with (at_builtin; refine wpList_appI (OwnI.alloc O5.out _) (RowI.one _ _) rfl _ _ rfl rfl rfl (by have := HL.out; omega) (by have := D5.out.size; simp; omega) ?_; intro v6 w6 o6 g6)
        go_roundw
        case rel => exact ⟨k + 1, _, by omega, by go_num, HF.out _ _ _ z _ _ hz2 O5.out R5.out (by omega) D5.out o6 g6⟩
        case measure => simp [intOf] <;> omega
    · obtain rfl : k = N := by omega
      obtain ⟨ao, c, rfl, q⟩ := HO.out.out
      have hlk := HL.out
      have HT := Lib.hid (l1Text_ok ao _ c zs wr q.rowI HBl.out (by omega))
      have HDT := Lib.hid (HD.out zs HL.out HBl.out)
      rw [hlk] at HT ⊢
      clear q hlk
      go_wp2_with fail
      refine HT.out.mono ?_
      rintro e w5 ⟨rfl, b5⟩
      have R5 := Lib.hid (HR.out.below b5 (Nat.le_refl _))
      have D5 := Lib.hid (HDr.out.trans ((DrB.ofB b5).mono HDr.out.size))
      clear b5
      go_wp2_with fail
      go_ret
      exact ⟨_, rfl, HDT.out, R5.out.more (by omega), D5.out⟩

end Go.Proofs.YtcmjogojlijdgaaGreatDoor
/- Walks: the tables of an input, of the opposite, of both. -/
namespace Go.Proofs.YtcmjogojlijdgaaGreatDoor
open Go.RowKit

theorem DT.val {n : Nat} {t : ByteArray} (h : DT n t) (hn : 1 ≤ n ∧ n ≤ 5) : tvB t = true := by
  rw [tvB, h.1, h.2, inpV_pow n hn]
  simp; omega

set_option maxHeartbeats 2000000 in
theorem inTab_ok (n k : Nat) (w : World) (hn : 1 ≤ n ∧ n ≤ 5) (hk : k < n) :
    Calls Tryz.prog 58 #[.int .i64 n, .int .i64 k] w fun e w' => ∃ t, e = .returned (.tuple #[.string t, .bool true]) ∧ DT n t ∧ Below w.heap.size w w' := by
  have hp : (2 ^ n : Nat) ≤ 32 := Nat.pow_le_pow_right (n := 2) (by decide) hn.2
  have hpw : wrap64 (2 ^ n) = ((2 ^ n : Nat) : Int) := wrap_pow_nat n (by omega)
  have HD : Hid (∀ zs, zs.length = 2 ^ n → bitsL zs → DT n (digT zs)) := fun zs h1 h2 => ⟨digT_dig h2, by rw [digT_size, h1]⟩
  have q1 : inB (n : Int) 1 5 = true := inB_true (by omega)
  have q2 : inB (k : Int) 0 ((n : Int) - 1) = true := inB_true (by omega)
  generalize (2 ^ n : Nat) = N at hp hpw HD
  have O0 := Lib.hid (OwnI.lit w w.heap.size [] (Nat.le_refl _) (by decide))
  have B0 : Hid (Below w.heap.size w (w.alloc (.cells #[] 3))) := (Below.refl _ _).alloc (Nat.le_refl _) _
  go_enter Tryz.func58, Tryz.ntmps58
  go_wp2_with (go_at_call 28; refine (l1In_ok _ _ _ _).mono ?_; rintro e w' ⟨rfl, rfl⟩)
  go_loopw [6, 7] (fun v q wr => ∃ (s : Nat) (zs : List Int), s ≤ N ∧ q = .int .i64 s ∧ zs.length = s ∧ OwnI wr w.heap.size v zs ∧ bitsL zs ∧ Below w.heap.size w wr) (fun _ q _ => N - (intOf q).toNat)
  case atStart => exact ⟨0, [], Nat.zero_le _, rfl, rfl, O0.out, bitsL.nil, B0.out⟩
  case round =>
    obtain ⟨s, zs, hs, rfl, hl, ho, hbl, hb⟩ := hrel
    have HO := Lib.hid ho
    have HBl := Lib.hid hbl
    have HB := Lib.hid hb
    have HL := Lib.hid hl
    clear ho hbl hb hl
    by_cases hkN : s < N
    · have hkw : (s : Int) < (N : Int) := by omega
      have hx2 := bN_lt s k
      have hBa := Lib.hid (fun W => l1Bit_ok (s : Int) (k : Int) W (by omega) (by omega) (by omega) (by omega))
      rw [Int.toNat_natCast, Int.toNat_natCast] at hBa
      generalize bN s k = x at hx2 hBa
      go_wp2_with fail
      refine (hBa.out _).mono ?_
      rintro e w5 ⟨rfl, rfl⟩
      go_wp2_with (at_builtin; refine wpList_appI (OwnI.alloc HO.out _) (RowI.one _ _) rfl _ _ rfl rfl rfl (by have := HL.out; omega) (by have := HB.out.size; simp; omega) ?_; intro v6 w6 o6 g6)
      go_roundw
      case rel => exact ⟨s + 1, _, by omega, by go_num, by simp [HL.out], o6, HBl.out.snoc (by omega), (HB.out.alloc HB.out.size _).grown g6 (by have := HB.out.size; simp; omega) (fun j hj => (World.ownsRow.lt HO.out j hj).1)⟩
      case measure => simp [intOf] <;> omega
    · obtain rfl : s = N := by omega
      obtain ⟨ao, c, rfl, q⟩ := HO.out.out
      have hlk := HL.out
      have HT := Lib.hid (l1Text_ok ao _ c zs wr q.rowI HBl.out (by omega))
      have HDT := Lib.hid (HD.out zs HL.out HBl.out)
      rw [hlk] at HT ⊢
      clear q hlk
      go_wp2_with fail
      refine HT.out.mono ?_
      rintro e w5 ⟨rfl, b5⟩
      go_wp2_with fail
      go_ret2
      exact ⟨_, rfl, HDT.out, HB.out.trans (b5.mono HB.out.size)⟩

set_option maxHeartbeats 2000000 in
theorem l1Not_ok (n : Nat) (t : ByteArray) (w : World) (hn : 1 ≤ n ∧ n ≤ 5) (h : DT n t) :
    Calls Tryz.prog 59 #[.string t] w fun e w' => ∃ t', e = .returned (.string t') ∧ DT n t' ∧ Below w.heap.size w w' := by
  have hp : (2 ^ n : Nat) ≤ 32 := Nat.pow_le_pow_right (n := 2) (by decide) hn.2
  have HD : Hid (∀ zs, zs.length = t.size → bitsL zs → DT n (digT zs)) := fun zs h1 h2 => ⟨digT_dig h2, by rw [digT_size, h1, h.2]⟩
  have hz : t.size ≤ 32 := by rw [h.2]; exact hp
  have HBit := Lib.hid (fun s => byD_bit h.1 s)
  clear h hp
  have O0 := Lib.hid (OwnI.lit w w.heap.size [] (Nat.le_refl _) (by decide))
  have B0 : Hid (Below w.heap.size w (w.alloc (.cells #[] 3))) := (Below.refl _ _).alloc (Nat.le_refl _) _
  go_enter Tryz.func59, Tryz.ntmps59
  go_wp2_with fail
  go_loopw [3, 4] (fun v q wr => ∃ (s : Nat) (zs : List Int), s ≤ t.size ∧ q = .int .i64 s ∧ zs.length = s ∧ OwnI wr w.heap.size v zs ∧ bitsL zs ∧ Below w.heap.size w wr) (fun _ q _ => t.size - (intOf q).toNat)
  case atStart => exact ⟨0, [], Nat.zero_le _, rfl, rfl, O0.out, bitsL.nil, B0.out⟩
  case round =>
    obtain ⟨s, zs, hs, rfl, hl, ho, hbl, hb⟩ := hrel
    have HO := Lib.hid ho
    have HBl := Lib.hid hbl
    have HB := Lib.hid hb
    have HL := Lib.hid hl
    clear ho hbl hb hl
    by_cases hkN : s < t.size
    · have hkw : (s : Int) < (t.size : Int) := by omega
      have hx2 := HBit.out s
      have hAt := Lib.hid (fun W => l1At_ok t s W hkN)
      generalize byD t s = x at hx2 hAt
      have hx0 : 0 ≤ x := by omega
      have hx1 : x ≤ 1 := by omega
      have HX := Lib.hid hx2
      clear hx2
      go_wp2_with fail
      refine (hAt.out _).mono ?_
      rintro e w5 ⟨rfl, rfl⟩
      go_wp2_with (at_builtin; refine wpList_appI (OwnI.alloc HO.out _) (RowI.one _ _) rfl _ _ rfl rfl rfl (by have := HL.out; omega) (by have := HB.out.size; simp; omega) ?_; intro v6 w6 o6 g6)
      go_roundw
      case rel => exact ⟨s + 1, _, by omega, by go_num, by simp [HL.out], o6, HBl.out.snoc (by have := HX.out; omega), (HB.out.alloc HB.out.size _).grown g6 (by have := HB.out.size; simp; omega) (fun j hj => (World.ownsRow.lt HO.out j hj).1)⟩
      case measure => simp [intOf] <;> omega
    · obtain rfl : s = t.size := by omega
      obtain ⟨ao, c, rfl, q⟩ := HO.out.out
      have hlk := HL.out
      have HT := Lib.hid (l1Text_ok ao _ c zs wr q.rowI HBl.out (by omega))
      have HDT := Lib.hid (HD.out zs HL.out HBl.out)
      rw [hlk] at HT ⊢
      clear q hlk
      go_wp2_with fail
      refine HT.out.mono ?_
      rintro e w5 ⟨rfl, b5⟩
      go_wp2_with fail
      go_ret
      exact ⟨_, rfl, HDT.out, HB.out.trans (b5.mono HB.out.size)⟩

set_option maxHeartbeats 1000000 in
theorem l1Both_ok (n : Nat) (f t : ByteArray) (w : World) (hn : 1 ≤ n ∧ n ≤ 5) (h : DT n f) (h' : DT n t) :
    Calls Tryz.prog 92 #[.string f, .string t] w fun e w' => e = .returned (.bool true) ∧ w = w' := by
  have hp : (2 ^ n : Nat) ≤ 32 := Nat.pow_le_pow_right (n := 2) (by decide) hn.2
  have H1 := Lib.hid (fun W => tblS_ok f (by rw [h.2]; omega) W)
  have H2 := Lib.hid (fun W => tblS_ok t (by rw [h'.2]; omega) W)
  rw [h.val hn] at H1
  rw [h'.val hn] at H2
  have hz : ((f.size : Int) == (t.size : Int)) = true := by rw [h.2, h'.2]; simp
  have hz1 : f.size ≤ 32 := by rw [h.2]; exact hp
  have hz2 : t.size ≤ 32 := by rw [h'.2]; exact hp
  clear h h' hp
  go_enter Tryz.func92, Tryz.ntmps92
  go_wp2_with fail
  refine (H1.out _).mono ?_
  rintro e w5 ⟨rfl, rfl⟩
  go_wp2_with fail
  refine (H2.out _).mono ?_
  rintro e w5 ⟨rfl, rfl⟩
  go_wp2_with fail
  go_ret
  exact ⟨rfl, rfl⟩

set_option maxHeartbeats 2000000 in
theorem andTab_ok (n : Nat) (f t : ByteArray) (w : World) (hn : 1 ≤ n ∧ n ≤ 5) (h : DT n f) (h' : DT n t) :
    Calls Tryz.prog 60 #[.string f, .string t] w fun e w' => ∃ t', e = .returned (.tuple #[.string t', .bool true]) ∧ DT n t' ∧ Below w.heap.size w w' := by
  have hp : (2 ^ n : Nat) ≤ 32 := Nat.pow_le_pow_right (n := 2) (by decide) hn.2
  have HD : Hid (∀ zs, zs.length = f.size → bitsL zs → DT n (digT zs)) := fun zs h1 h2 => ⟨digT_dig h2, by rw [digT_size, h1, h.2]⟩
  have hz : f.size ≤ 32 := by rw [h.2]; exact hp
  have hz2 : t.size = f.size := by rw [h.2, h'.2]
  have HBt := Lib.hid (fun W => l1Both_ok n f t W hn h h')
  have HF := Lib.hid (fun s => byD_bit h.1 s)
  have HG := Lib.hid (fun s => byD_bit h'.1 s)
  have HZ := Lib.hid hz2
  clear h h' hp hz2
  have O0 := Lib.hid (OwnI.lit w w.heap.size [] (Nat.le_refl _) (by decide))
  have B0 : Hid (Below w.heap.size w (w.alloc (.cells #[] 3))) := (Below.refl _ _).alloc (Nat.le_refl _) _
  go_enter Tryz.func60, Tryz.ntmps60
  go_wp2_with fail
  refine (HBt.out _).mono ?_
  rintro e w5 ⟨rfl, rfl⟩
  go_wp2_with fail
  go_loopw [6, 7] (fun v q wr => ∃ (s : Nat) (zs : List Int), s ≤ f.size ∧ q = .int .i64 s ∧ zs.length = s ∧ OwnI wr w.heap.size v zs ∧ bitsL zs ∧ Below w.heap.size w wr) (fun _ q _ => f.size - (intOf q).toNat)
  case atStart => exact ⟨0, [], Nat.zero_le _, rfl, rfl, O0.out, bitsL.nil, B0.out⟩
  case round =>
    obtain ⟨s, zs, hs, rfl, hl, ho, hbl, hb⟩ := hrel
    have HO := Lib.hid ho
    have HBl := Lib.hid hbl
    have HB := Lib.hid hb
    have HL := Lib.hid hl
    clear ho hbl hb hl
    by_cases hkN : s < f.size
    · have hkw : (s : Int) < (f.size : Int) := by omega
      have hA1 := Lib.hid (fun W => l1At_ok f s W hkN)
      have hA2 := Lib.hid (fun W => l1At_ok t s W (by rw [HZ.out]; exact hkN))
      have h1 := HF.out s
      have h2 := HG.out s
      generalize byD f s = x at h1 hA1
      generalize byD t s = y at h2 hA2
      have HM : Hid (wrap64 (x * y) = 0 ∨ wrap64 (x * y) = 1) := by
        rcases h1 with rfl | rfl <;> rcases h2 with rfl | rfl <;> unfold Hid <;> decide +kernel
      clear h1 h2
      go_wp2_with fail
      refine (hA1.out _).mono ?_
      rintro e w5 ⟨rfl, rfl⟩
      go_wp2_with fail
      refine (hA2.out _).mono ?_
      rintro e w5 ⟨rfl, rfl⟩
      go_wp2_with (at_builtin; refine wpList_appI (OwnI.alloc HO.out _) (RowI.one _ _) rfl _ _ rfl rfl rfl (by have := HL.out; omega) (by have := HB.out.size; simp; omega) ?_; intro v6 w6 o6 g6)
      go_roundw
      case rel => exact ⟨s + 1, _, by omega, by go_num, by simp [HL.out], o6, HBl.out.snoc HM.out, (HB.out.alloc HB.out.size _).grown g6 (by have := HB.out.size; simp; omega) (fun j hj => (World.ownsRow.lt HO.out j hj).1)⟩
      case measure => simp [intOf] <;> omega
    · obtain rfl : s = f.size := by omega
      obtain ⟨ao, c, rfl, q⟩ := HO.out.out
      have hlk := HL.out
      have HT := Lib.hid (l1Text_ok ao _ c zs wr q.rowI HBl.out (by omega))
      have HDT := Lib.hid (HD.out zs HL.out HBl.out)
      rw [hlk] at HT ⊢
      clear q hlk
      go_wp2_with fail
      refine HT.out.mono ?_
      rintro e w5 ⟨rfl, b5⟩
      go_wp2_with fail
      go_ret2
      exact ⟨_, rfl, HDT.out, HB.out.trans (b5.mono HB.out.size)⟩

end Go.Proofs.YtcmjogojlijdgaaGreatDoor
/- Walks: networks that are drawn. -/
namespace Go.Proofs.YtcmjogojlijdgaaGreatDoor
open Go.RowKit

theorem OwnT.oneApp {w w' : World} {B g P : Nat} {v : Value} {zs : List ByteArray} {x : ByteArray} {t : TypeId} (h : OwnT w B v zs) (hg : g < B) (hr : Rd w g P) (g5 : (w.alloc (.cells #[.string x] t)).grownBy w' v.ownBlock) : Rd w' g P :=
  (hr.below ((Below.refl _ _).alloc (Nat.le_refl _) _) (Nat.le_refl _)).grown g5 (fun j hj => by have := (World.ownsRow.lt h j hj).1; omega)
def allDT (n : Nat) (ts : List ByteArray) : Prop := ∀ i, i < ts.length → DT n (gT ts i)
theorem allDT.nil (n : Nat) : allDT n [] := fun i h => absurd h (by simp)
theorem allDT.snoc {n : Nat} {ts : List ByteArray} {v : ByteArray} (h : allDT n ts) (hv : DT n v) : allDT n (ts ++ [v]) := fun i hi => by
  by_cases e : i < ts.length
  · have : gT (ts ++ [v]) i = gT ts i := by rw [gT, gT, List.getD_eq_getElem?_getD, List.getElem?_append_left e, ← List.getD_eq_getElem?_getD]
    rw [this]; exact h i e
  · have e2 : i = ts.length := by simp at hi; omega
    have : gT (ts ++ [v]) i = v := by simp [gT, List.getD, e2]
    rw [this]; exact hv
theorem RowT.ofBlk {w : World} {g : Nat} {t : TypeId} {ts : List ByteArray} (h : Blk w g t (strs ts)) (hm : ts.length ≤ maxLen) : RowT w (some ⟨g, 0, none⟩) ts.length ts.length ts :=
  ⟨rfl, Nat.le_refl _, hm, fun e => (by cases e), fun _ => ⟨g, 0, rfl, h.lt⟩, fun b o e i hi => by
    cases e
    rw [Nat.zero_add]
    exact h.cell (strs_get ts i hi)⟩
/-- A text that is neither empty nor long. -/
def Wt (M : Nat) (t : ByteArray) : Prop := 1 ≤ t.size ∧ t.size ≤ M
theorem gT_out {ts : List ByteArray} {i : Nat} (h : ¬ i < ts.length) : gT ts i = ⟨#[]⟩ := by
  rw [gT, List.getD_eq_getElem?_getD, List.getElem?_eq_none (by omega)]; rfl
theorem allDT.size {n : Nat} {ts : List ByteArray} (h : allDT n ts) (hn : n ≤ 5) (i : Nat) : (gT ts i).size ≤ 32 := by
  by_cases e : i < ts.length
  · rw [(h i e).2]; exact Nat.pow_le_pow_right (n := 2) (by decide) hn
  · rw [gT_out e]; exact Nat.zero_le _
theorem joinF_pos (f : Nat → ByteArray) (sep : ByteArray) (h : 0 < (f 0).size) : ∀ k, 0 < k → 0 < (joinF f sep k).size
  | 1, _ => by rw [joinF_one, ByteArray.size_append]; omega
  | k + 2, _ => by
    have := joinF_pos f sep h (k + 1) (by omega)
    rw [joinF_next f sep (k + 1) (by omega), ByteArray.size_append, ByteArray.size_append]
    omega
theorem join_wt {n : Nat} {ts : List ByteArray} (h : allDT n ts) (hn : n ≤ 5) (h0 : 0 < ts.length) (h5 : ts.length ≤ 5) : Wt 165 (joinF (gT ts) ⟨#[44]⟩ ts.length) := by
  refine ⟨joinF_pos _ _ (by rw [(h 0 h0).2]; exact Nat.two_pow_pos n) _ h0, ?_⟩
  have := joinF_size (gT ts) ⟨#[44]⟩ 32 (by decide) (fun i => h.size hn i) ts.length
  have : ts.length * (32 + 1) ≤ 5 * (32 + 1) := Nat.mul_le_mul_right _ h5
  omega

set_option maxHeartbeats 2000000 in
theorem l3Draw_ok (g P n : Nat) (w : World) (h : Rd w g P) (hn : 1 ≤ n ∧ n ≤ 5) (hP : P ≤ 800000) :
    Calls Tryz.prog 55 #[.pointer (some ⟨g, 0, none⟩), .int .i64 n] w (TextP g (P + 200) (Wt 165) w) := by
  have hgw := h.lt
  have HK := Lib.hid (fun Q W (h : Rd W g Q) (hQ : Q ≤ 900000) => l1Draw_ok g Q n W h hn hQ)
  have b0 : Below w.heap.size w (w.alloc (.cells #[] 9)) := (Below.refl _ _).alloc (Nat.le_refl _) _
  have R0 := Lib.hid (h.below b0 (Nat.le_refl _))
  have D0 := Lib.hid (DrB.ofB (g := g) b0)
  have O0 := Lib.hid (OwnT.lit w w.heap.size [] (Nat.le_refl _) (by decide))
  clear h b0
  go_enter Tryz.func55, Tryz.ntmps55
  go_wp2_with fail
  go_loopw [5, 6] (fun v q wr => ∃ (k : Nat) (ts : List ByteArray), k ≤ n ∧ q = .int .i64 k ∧ ts.length = k ∧ OwnT wr w.heap.size v ts ∧ allDT n ts ∧ Rd wr g (P + 40 * k) ∧ DrB g w.heap.size w wr) (fun _ q _ => n - (intOf q).toNat)
  case atStart => exact ⟨0, [], Nat.zero_le _, rfl, rfl, O0.out, allDT.nil n, R0.out, D0.out⟩
  case round =>
    obtain ⟨k, ts, hk, rfl, hl, ho, hbl, hr, hd⟩ := hrel
    have HO := Lib.hid ho
    have HBl := Lib.hid hbl
    have HR := Lib.hid hr
    have HDr := Lib.hid hd
    have HL := Lib.hid hl
    clear ho hbl hr hd hl
    by_cases hkN : k < n
    · have hkw : (k : Int) < (n : Int) := by omega
      go_wp2_with fail
      refine (HK.out _ _ HR.out (by omega)).mono ?_
      rintro e w5 ⟨t, rfl, ht, r5, d5⟩
      have HT := Lib.hid ht
      have hz : t.size ≤ 32 := by rw [ht.2]; exact Nat.pow_le_pow_right (n := 2) (by decide) hn.2
      have R5 := Lib.hid r5
      have O5 := Lib.hid (HO.out.dr d5 (Nat.le_refl _) hgw)
      have D5 := Lib.hid (HDr.out.trans (d5.mono HDr.out.size))
      have HCe := Lib.hid (fun (W : World) => (Blk.new W 9 [.string t]).cell (i := 0) rfl)
      clear ht r5 d5
      go_wp2_with (at_builtin; refine wpList_appT (OwnT.alloc O5.out _) (HCe.out _) rfl _ _ rfl rfl rfl (by have := HL.out; omega) (by have := D5.out.size; simp; omega) ?_; intro v6 w6 o6 g6)
      go_roundw
      case rel => exact ⟨k + 1, _, by omega, by go_num, by simp [HL.out], o6, HBl.out.snoc HT.out, (O5.out.oneApp hgw R5.out g6).more (by omega), (D5.out.alloc D5.out.size _).grown g6 (by have := D5.out.size; simp; omega) (fun j hj => (World.ownsRow.lt O5.out j hj).1)⟩
      case measure => simp [intOf] <;> omega
    · obtain rfl : k = n := by omega
      obtain ⟨ao, c, rfl, q⟩ := HO.out.row
      have hlk := HL.out
      have HT := Lib.hid (l3Text_ok ao _ c ts (gT ts) wr q (fun _ _ => rfl) (fun i => Nat.le_trans (HBl.out.size hn.2 i) (by decide)) (by omega))
      have HW := Lib.hid (join_wt HBl.out hn.2 (by omega) (by omega))
      rw [hlk] at HT HW ⊢
      clear q hlk
      go_wp2_with fail
      refine HT.out.mono ?_
      rintro e w5 ⟨rfl, rfl⟩
      go_wp2_with fail
      go_ret
      exact ⟨_, rfl, HW.out, HR.out.more (by omega), HDr.out⟩

theorem of_three {x : Nat} (hx : x < [(⟨#[]⟩ : ByteArray), ⟨#[44]⟩, ⟨#[50]⟩].length) : (gT [⟨#[]⟩, ⟨#[44]⟩, ⟨#[50]⟩] x).size ≤ 1 := by
  have : x = 0 ∨ x = 1 ∨ x = 2 := by simp at hx; omega
  rcases this with rfl | rfl | rfl <;> decide
/-- A short text. -/
def Short (M : Nat) (t : ByteArray) : Prop := t.size ≤ M
set_option maxHeartbeats 4000000 in
theorem l3Bad_ok (g P : Nat) (t : ByteArray) (w : World) (h : Rd w g P) (ht : Wt 165 t) (hP : P ≤ 900000) :
    Calls Tryz.prog 35 #[.pointer (some ⟨g, 0, none⟩), .string t] w (TextP g (P + 3) (Short 200) w) := by
  have hgw := h.lt
  have HK := Lib.hid (fun Q m W (h : Rd W g Q) (hQ : Q ≤ 1000000) (hm : m ≤ 1048576) => pick_ok g Q m W h hQ hm)
  have HOf := Lib.hid (fun Q n (ts : List ByteArray) W q (h : Rd W g Q) (hW : Blk W q 9 (strs ts)) (hq : q ≠ g) (hn : ts.length = n) (hn0 : 0 < n) (hn1 : n ≤ 100) (hQ : Q ≤ 1000000) => of_ok g Q n n (some ⟨q, 0, none⟩) ts W h (by subst hn; exact RowT.ofBlk hW (by unfold maxLen; omega)) hn0 (by omega) (fun a e => by cases e; exact hq) hQ)
  have R0 := Lib.hid h
  have hz1 := ht.1
  have hz2 := ht.2
  clear h ht
  go_enter Tryz.func35, Tryz.ntmps35
  go_wp2_with fail
  refine (HK.out P 30 _ R0.out (by omega) (by omega)).mono ?_
  rintro e w1 ⟨a, rfl, ha, r1, g1⟩
  have R1 := Lib.hid r1
  have D1 := Lib.hid (DrB.ofG g1)
  clear r1 g1
  by_cases a0 : a = 0
  · have t0 : ((a : Int) == 0) = true := by rw [a0]; rfl
    have hb : Blk (w1.alloc (.cells (strs [⟨#[44]⟩, ⟨#[48]⟩, ⟨#[44, 48, 49]⟩, ⟨#[120]⟩]).toArray 9)) w1.heap.size 9 (strs [⟨#[44]⟩, ⟨#[48]⟩, ⟨#[44, 48, 49]⟩, ⟨#[120]⟩]) := Blk.new _ _ _
    have bb : Below w1.heap.size w1 (w1.alloc (.cells (strs [⟨#[44]⟩, ⟨#[48]⟩, ⟨#[44, 48, 49]⟩, ⟨#[120]⟩]).toArray 9)) := (Below.refl _ _).alloc (Nat.le_refl _) _
    have HX := Lib.hid (HOf.out (P + 1) 4 _ _ _ (R1.out.below bb (Nat.le_refl _)) hb (by have := R1.out.lt; omega) rfl (by omega) (by omega) (by omega))
    have D2 := Lib.hid (D1.out.trans (DrB.ofB (g := g) (bb.mono D1.out.size)))
    have hs := bb.size
    clear hb bb a0 ha
    go_wp2_with fail
    refine HX.out.mono ?_
    rintro e w3 ⟨x, hx, rfl, r3, g3⟩
    have hxs : (gT [⟨#[44]⟩, ⟨#[48]⟩, ⟨#[44, 48, 49]⟩, ⟨#[120]⟩] x).size ≤ 3 := by
      have : x = 0 ∨ x = 1 ∨ x = 2 ∨ x = 3 := by simp at hx; omega
      rcases this with rfl | rfl | rfl | rfl <;> decide
    generalize gT [⟨#[44]⟩, ⟨#[48]⟩, ⟨#[44, 48, 49]⟩, ⟨#[120]⟩] x = u at hxs
    have R3 := Lib.hid r3
    have D3 := Lib.hid (D2.out.trans ((DrB.ofG g3).mono D2.out.size))
    clear r3 g3 hx
    go_wp2_with fail
    go_ret
    exact ⟨_, rfl, by unfold Short; rw [ByteArray.size_append]; omega, R3.out.more (by omega), D3.out⟩
  · have t0 : ((a : Int) == 0) = false := by rw [beq_eq_false_iff_ne]; omega
    by_cases a1 : a = 1
    · have t1 : ((a : Int) == 1) = true := by rw [a1]; rfl
      clear a0 a1 ha
      go_wp2_with fail
      refine (HK.out (P + 1) t.size _ R1.out (by omega) (by omega)).mono ?_
      rintro e w2 ⟨k, rfl, hk, r2, g2⟩
      have hk2 : k < t.size := by omega
      have R2 := Lib.hid r2
      have D2 := Lib.hid (D1.out.trans ((DrB.ofG g2).mono D1.out.size))
      clear r2 g2 hk
      have hb : Blk (w2.drew.alloc (.cells (strs [⟨#[]⟩, ⟨#[44]⟩, ⟨#[50]⟩]).toArray 9)) w2.heap.size 9 (strs [⟨#[]⟩, ⟨#[44]⟩, ⟨#[50]⟩]) := Blk.new w2.drew _ _
      have bb : Below w2.heap.size w2 (w2.drew.alloc (.cells (strs [⟨#[]⟩, ⟨#[44]⟩, ⟨#[50]⟩]).toArray 9)) := (show Below w2.heap.size w2 w2.drew from ⟨rfl, rfl, rfl, Nat.le_refl _, fun _ _ => rfl⟩).trans ((Below.refl w2.heap.size w2.drew).alloc (Nat.le_refl _) _)
      have HX := Lib.hid (HOf.out (P + 2) 3 _ _ _ (R2.out.below bb (Nat.le_refl _)) hb (by have := R2.out.lt; omega) rfl (by omega) (by omega) (by omega))
      have D3 := Lib.hid (D2.out.trans (DrB.ofB (g := g) (bb.mono D2.out.size)))
      have hk0 : (0 : Int) ≤ (k : Int) := by omega
      have hk1 : (k : Int) ≤ (t.size : Int) := by omega
      have hkw : IntKind.i64.wrap ((k : Int) + 1) = (k : Int) + 1 := wraps_i64 _ (by omega) (by omega)
      have hk10 : (0 : Int) ≤ (k : Int) + 1 := by omega
      have hk1n : ((k : Int) + 1).toNat = k + 1 := by omega
      have hk11 : (k : Int) + 1 ≤ (t.size : Int) := by omega
      obtain ⟨p1, hp1, hq1⟩ : ∃ p, t.extract 0 k = p ∧ p.size ≤ k := ⟨_, rfl, by simp; omega⟩
      obtain ⟨p2, hp2, hq2⟩ : ∃ p, t.extract (k + 1) t.size = p ∧ p.size ≤ t.size - (k + 1) := ⟨_, rfl, by simp⟩
      clear hb bb
      go_wp2_with fail
      go_region_with (go_at_call 57; refine HX.out.mono ?_; rintro e w3 ⟨x, hx, rfl, r3, g3⟩; have hxs := of_three hx; generalize gT [⟨#[]⟩, ⟨#[44]⟩, ⟨#[50]⟩] x = u at hxs; clear hx)
      have R3 := Lib.hid r3
      have D4 := Lib.hid (D3.out.trans ((DrB.ofG g3).mono D3.out.size))
      clear r3 g3
      go_wp2_with fail
      go_ret
      exact ⟨_, rfl, by unfold Short; rw [ByteArray.size_append, ByteArray.size_append]; omega, R3.out.more (by omega), D4.out⟩
    · have t1 : ((a : Int) == 1) = false := by rw [beq_eq_false_iff_ne]; omega
      clear a0 a1 ha
      go_wp2_with fail
      go_ret
      exact ⟨t, rfl, by unfold Short; omega, R1.out.more (by omega), D1.out⟩

/-- The number of switches of a network told as a text, or -1. -/
def szV (ps : List ByteArray) : Int := if netB ps = true then ps.length else -1
set_option maxHeartbeats 1000000 in
theorem sizeOf_ok (t : ByteArray) (w : World) (hs : t.size ≤ 1048576) :
    Calls Tryz.prog 29 #[.string t] w fun e w' => e = .returned (.int .i64 (szV (cutsP 44 t))) ∧ Below w.heap.size w w' := by
  have HO := Lib.hid (l3Open_ok t w hs)
  generalize cutsP 44 t = ps at HO
  cases hb : netB ps with
  | false =>
    have HV : Hid (szV ps = -1) := by unfold Hid szV; rw [hb]; rfl
    rw [hb] at HO
    clear hb
    go_enter Tryz.func29, Tryz.ntmps29
    go_wp2_with fail
    refine HO.out.mono ?_
    rintro e w1 ⟨v, rfl, o1, b1⟩
    clear o1
    go_wp2_with fail
    go_ret
    exact ⟨reti HV.out.symm, b1⟩
  | true =>
    have HV : Hid (szV ps = ps.length) := by unfold Hid szV; rw [hb]; rfl
    have HN := Lib.hid (netL_yes hb)
    rw [hb] at HO
    clear hb
    go_enter Tryz.func29, Tryz.ntmps29
    go_wp2_with fail
    refine HO.out.mono ?_
    rintro e w1 ⟨v, rfl, o1, b1⟩
    rw [HN.out] at o1
    obtain ⟨a, c, rfl, _⟩ := o1.row
    clear o1
    go_wp2_with fail
    go_ret
    exact ⟨reti HV.out.symm, b1⟩
theorem szV_range (t : ByteArray) : szV (cutsP 44 t) = -1 ∨ ∃ n : Nat, szV (cutsP 44 t) = n ∧ 1 ≤ n ∧ n ≤ 5 ∧ (cutsP 44 t).length = n := by
  unfold szV
  split
  · rename_i h
    exact .inr ⟨_, rfl, cutsP_pos 44 t, net_le h (cutsP_pos 44 t), rfl⟩
  · exact .inl rfl

/-- A text and a number are drawn. -/
def TextNP (g P : Nat) (Q : ByteArray → Prop) (w : World) (e : Ending) (w' : World) : Prop := ∃ t, ∃ s : Int, e = .returned (.tuple #[.string t, .int .i64 s]) ∧ Q t ∧ Rd w' g P ∧ DrB g w.heap.size w w'
theorem RowI.ofBlk {w : World} {g : Nat} {zs : List Int} (h : Blk w g 3 (ints zs)) (hm : zs.length ≤ maxLen) : RowI w (some ⟨g, 0, none⟩) zs.length zs.length zs := (OutI.of_blk h (Nat.zero_le _) (Nat.le_refl _) hm).rowI

/-- 'r.num' of a list that was just made. -/
theorem num_lit (g Q n : Nat) (zs : List Int) (W : World) (q : Nat) (h : Rd W g Q) (hW : Blk W q 3 (ints zs)) (hq : q ≠ g) (hn : zs.length = n) (hn0 : 0 < n) (hn1 : n ≤ 100) (hQ : Q ≤ 1000000) :
    Calls Tryz.prog 56 #[.pointer (some ⟨g, 0, none⟩), .slice (some ⟨q, 0, none⟩) n n] W (NumP g (Q + 1) zs W) :=
  num_ok g Q n n (some ⟨q, 0, none⟩) zs W h (by subst hn; exact RowI.ofBlk hW (by unfold maxLen; omega)) hn0 (by omega) (fun a e => by cases e; exact hq) hQ

set_option maxHeartbeats 4000000 in
theorem l5Small_ok (g P : Nat) (w : World) (h : Rd w g P) (hP : P ≤ 700000) :
    Calls Tryz.prog 34 #[.pointer (some ⟨g, 0, none⟩)] w (TextNP g (P + 300) (Short 200) w) := by
  have hgw := h.lt
  have b0 : Below w.heap.size w (w.alloc (.cells (ints [3, 2, 3, 1, 2]).toArray 3)) := (Below.refl _ _).alloc (Nat.le_refl _) _
  have HX := Lib.hid (num_lit g P 5 [3, 2, 3, 1, 2] _ _ (h.below b0 (Nat.le_refl _)) (Blk.new w 3 (ints [3, 2, 3, 1, 2])) (by omega) rfl (by omega) (by omega) (by omega))
  have D0 := Lib.hid (DrB.ofB (g := g) b0)
  have hs := b0.size
  have HK := Lib.hid (fun Q m W (h : Rd W g Q) (hQ : Q ≤ 1000000) (hm : m ≤ 1048576) => pick_ok g Q m W h hQ hm)
  clear h b0
  go_enter Tryz.func34, Tryz.ntmps34
  go_wp2_with fail
  refine HX.out.mono ?_
  rintro e w1 ⟨x, hx, rfl, r1, g1⟩
  have hn : ∃ n : Nat, gI [3, 2, 3, 1, 2] x = n ∧ 1 ≤ n ∧ n ≤ 5 := by
    have : x = 0 ∨ x = 1 ∨ x = 2 ∨ x = 3 ∨ x = 4 := by simp at hx; omega
    rcases this with rfl | rfl | rfl | rfl | rfl
    · exact ⟨3, rfl, by omega, by omega⟩
    · exact ⟨2, rfl, by omega, by omega⟩
    · exact ⟨3, rfl, by omega, by omega⟩
    · exact ⟨1, rfl, by omega, by omega⟩
    · exact ⟨2, rfl, by omega, by omega⟩
  obtain ⟨n, hnv, hn1, hn5⟩ := hn
  rw [hnv]
  have R1 := Lib.hid r1
  have D1 := Lib.hid (D0.out.trans ((DrB.ofG g1).mono (by omega)))
  clear r1 g1 hx hnv hs
  go_wp2_with fail
  refine (l3Draw_ok g _ n _ R1.out ⟨hn1, hn5⟩ (by omega)).mono ?_
  rintro e w2 ⟨t, rfl, ht, r2, d2⟩
  have R2 := Lib.hid r2
  have HT := Lib.hid ht
  have D2 := Lib.hid (D1.out.trans (d2.mono D1.out.size))
  clear r2 d2 ht
  go_wp2_with fail
  refine (l3Bad_ok g _ t _ R2.out HT.out (by omega)).mono ?_
  rintro e w3 ⟨u, rfl, hu, r3, d3⟩
  have R3 := Lib.hid r3
  have HU := Lib.hid hu
  have D3 := Lib.hid (D2.out.trans (d3.mono D2.out.size))
  clear r3 d3 hu
  go_wp2_with fail
  refine (sizeOf_ok u _ (Nat.le_trans HU.out (by decide))).mono ?_
  rintro e w4 ⟨rfl, b4⟩
  have R4 := Lib.hid (R3.out.below b4 (Nat.le_refl _))
  have D4 := Lib.hid (D3.out.trans ((DrB.ofB b4).mono D3.out.size))
  clear b4
  have R4' : Hid (Rd w4 g (P + 204)) := R4.out.more (by omega)
  rcases szV_range u with hz | ⟨m, hz, hm1, hm5, _⟩
  · rw [hz]
    clear hz
    have bb : Below w4.heap.size w4 (w4.alloc (.cells (ints [0, -1, 32, 9223372036854775807]).toArray 3)) := (Below.refl _ _).alloc (Nat.le_refl _) _
    have HY := Lib.hid (num_lit g (P + 204) 4 [0, -1, 32, 9223372036854775807] _ _ (R4'.out.below bb (Nat.le_refl _)) (Blk.new w4 3 (ints [0, -1, 32, 9223372036854775807])) (by have := R4'.out.lt; omega) rfl (by omega) (by omega) (by omega))
    have E5 := Lib.hid (D4.out.trans (DrB.ofB (g := g) (bb.mono D4.out.size)))
    have hs5 := bb.size
    clear bb
    go_wp2_with fail
    refine HY.out.mono ?_
    rintro e w6 ⟨x, hx, rfl, r6, g6⟩
    generalize gI [0, -1, 32, 9223372036854775807] x = y
    have R6 := Lib.hid r6
    have D6 := Lib.hid (E5.out.trans ((DrB.ofG g6).mono E5.out.size))
    clear r6 g6 hx
    go_wp2_with fail
    go_ret2
    exact ⟨_, _, rfl, HU.out, R6.out.more (by omega), D6.out⟩
  · rw [hz]
    clear hz
    have hm0 : (0 : Int) < (m : Int) := by omega
    have hpw : wrap64 (2 ^ m) = ((2 ^ m : Nat) : Int) := wrap_pow_nat m (by omega)
    have hp : (2 ^ m : Nat) ≤ 32 := Nat.pow_le_pow_right (n := 2) (by decide) hm5
    generalize (2 ^ m : Nat) = N at hpw hp
    go_wp2_with fail
    refine (HK.out _ 16 _ R4'.out (by omega) (by omega)).mono ?_
    rintro e w5 ⟨y, rfl, hy, r5, g5⟩
    have R5 := Lib.hid r5
    have D5 := Lib.hid (D4.out.trans ((DrB.ofG g5).mono D4.out.size))
    clear r5 g5 hy
    by_cases y0 : 0 < y
    · have hy0 : (0 : Int) < (y : Int) := by omega
      go_wp2_with fail
      refine (HK.out _ N _ R5.out (by omega) (by omega)).mono ?_
      rintro e w6 ⟨z, rfl, hz, r6, g6⟩
      have R6 := Lib.hid r6
      have D6 := Lib.hid (D5.out.trans ((DrB.ofG g6).mono D5.out.size))
      clear r6 g6 hz
      go_wp2_with fail
      go_ret2
      exact ⟨_, _, rfl, HU.out, R6.out.more (by omega), D6.out⟩
    · obtain rfl : y = 0 := by omega
      have bb : Below w5.heap.size w5 (w5.alloc (.cells (ints [0, -1, 32, 9223372036854775807]).toArray 3)) := (Below.refl _ _).alloc (Nat.le_refl _) _
      have HY := Lib.hid (num_lit g (P + 204 + 1) 4 [0, -1, 32, 9223372036854775807] _ _ (R5.out.below bb (Nat.le_refl _)) (Blk.new w5 3 (ints [0, -1, 32, 9223372036854775807])) (by have := R5.out.lt; omega) rfl (by omega) (by omega) (by omega))
      have E5 := Lib.hid (D5.out.trans (DrB.ofB (g := g) (bb.mono D5.out.size)))
      have hs5 := bb.size
      clear bb
      go_wp2_with fail
      refine HY.out.mono ?_
      rintro e w6 ⟨x, hx, rfl, r6, g6⟩
      generalize gI [0, -1, 32, 9223372036854775807] x = y
      have R6 := Lib.hid r6
      have D6 := Lib.hid (E5.out.trans ((DrB.ofG g6).mono E5.out.size))
      clear r6 g6 hx
      go_wp2_with fail
      go_ret2
      exact ⟨_, _, rfl, HU.out, R6.out.more (by omega), D6.out⟩
end Go.Proofs.YtcmjogojlijdgaaGreatDoor
/- Walks: networks in which few switches act, drawn. -/
namespace Go.Proofs.YtcmjogojlijdgaaGreatDoor
open Go.RowKit

theorem DT.small {n : Nat} {t : ByteArray} (h : DT n t) (hn : n ≤ 5) : t.size ≤ 32 := by rw [h.2]; exact Nat.pow_le_pow_right (n := 2) (by decide) hn

set_option maxHeartbeats 8000000 in
theorem l7Chain_ok (g P : Nat) (w : World) (h : Rd w g P) (hP : P ≤ 600000) :
    Calls Tryz.prog 36 #[.pointer (some ⟨g, 0, none⟩)] w (TextP g (P + 300) (Wt 165) w) := by
  have hgw := h.lt
  have b0 : Below w.heap.size w (w.alloc (.cells (ints [3, 2, 3, 4, 1]).toArray 3)) := (Below.refl _ _).alloc (Nat.le_refl _) _
  have HX := Lib.hid (num_lit g P 5 [3, 2, 3, 4, 1] _ _ (h.below b0 (Nat.le_refl _)) (Blk.new w 3 (ints [3, 2, 3, 4, 1])) (by omega) rfl (by omega) (by omega) (by omega))
  have D0 := Lib.hid (DrB.ofB (g := g) b0)
  have hs := b0.size
  have HK := Lib.hid (fun Q m W (h : Rd W g Q) (hQ : Q ≤ 1000000) (hm : m ≤ 1048576) => pick_ok g Q m W h hQ hm)
  clear h b0
  go_enter Tryz.func36, Tryz.ntmps36
  go_wp2_with fail
  refine HX.out.mono ?_
  rintro e w1 ⟨x, hx, rfl, r1, g1⟩
  have hn : ∃ n : Nat, gI [3, 2, 3, 4, 1] x = n ∧ 1 ≤ n ∧ n ≤ 4 := by
    have : x = 0 ∨ x = 1 ∨ x = 2 ∨ x = 3 ∨ x = 4 := by simp at hx; omega
    rcases this with rfl | rfl | rfl | rfl | rfl
    · exact ⟨3, rfl, by omega, by omega⟩
    · exact ⟨2, rfl, by omega, by omega⟩
    · exact ⟨3, rfl, by omega, by omega⟩
    · exact ⟨4, rfl, by omega, by omega⟩
    · exact ⟨1, rfl, by omega, by omega⟩
  obtain ⟨n, hnv, hn1, hn4⟩ := hn
  rw [hnv]
  have R1 := Lib.hid r1
  have D1 := Lib.hid (D0.out.trans ((DrB.ofG g1).mono (by omega)))
  clear r1 g1 hx hnv hs HX
  have b2 : Below w1.heap.size w1 (w1.alloc (.cells #[] 9)) := (Below.refl _ _).alloc (Nat.le_refl _) _
  have R2 := Lib.hid (R1.out.below b2 (Nat.le_refl _))
  have D2 := Lib.hid (D1.out.trans ((DrB.ofB (g := g) b2).mono D1.out.size))
  have O2 := Lib.hid (OwnT.lit w1 w.heap.size [] D1.out.size (by decide))
  clear b2
  go_wp2_with fail
  go_loopw [4, 5] (fun v q wr => ∃ (k : Nat) (ts : List ByteArray), k ≤ n ∧ q = .int .i64 k ∧ ts.length = k ∧ OwnT wr w.heap.size v ts ∧ allDT n ts ∧ Rd wr g (P + 1 + 50 * k) ∧ DrB g w.heap.size w wr) (fun _ q _ => n - (intOf q).toNat)
  case atStart => exact ⟨0, [], Nat.zero_le _, rfl, rfl, O2.out, allDT.nil n, R2.out, D2.out⟩
  case round =>
    obtain ⟨k, ts, hk, rfl, hl, ho, hbl, hr, hd⟩ := hrel
    have HO := Lib.hid ho
    have HBl := Lib.hid hbl
    have HR := Lib.hid hr
    have HDr := Lib.hid hd
    have HL := Lib.hid hl
    clear ho hbl hr hd hl
    by_cases hkN : k < n
    · have hkw : (k : Int) < (n : Int) := by omega
      have hm0 : (0 : Int) < (n : Int) := by omega
      have hn0 : ¬ (n : Int) = 0 := by omega
      have hmod : ((k : Int) + 1) % (n : Int) = (((k + 1) % n : Nat) : Int) := rfl
      have hml : (k + 1) % n < n := Nat.mod_lt _ (by omega)
      generalize (k + 1) % n = km at hmod hml
      go_wp2_with fail
      refine (HK.out _ 3 _ HR.out (by omega) (by omega)).mono ?_
      rintro e w3 ⟨y, rfl, hy, r3, g3⟩
      have R3 := Lib.hid r3
      have D3 := Lib.hid (HDr.out.trans ((DrB.ofG g3).mono HDr.out.size))
      have O3 := Lib.hid (HO.out.dr (DrB.ofG g3) (Nat.le_refl _) hgw)
      clear r3 g3
      by_cases y0 : y = 0
      · have ty : ((y : Int) == 0) = true := by rw [y0]; rfl
        clear y0 hy
        go_wp2_with fail
        refine (HK.out _ n _ R3.out (by omega) (by omega)).mono ?_
        rintro e w4 ⟨z, rfl, hz, r4, g4⟩
        have hzn : z < n := by omega
        have R4 := Lib.hid r4
        have D4 := Lib.hid (D3.out.trans ((DrB.ofG g4).mono D3.out.size))
        have O4 := Lib.hid (O3.out.dr (DrB.ofG g4) (Nat.le_refl _) hgw)
        clear r4 g4 hz
        go_wp2_with fail
        refine (inTab_ok n z _ (by omega) hzn).mono ?_
        rintro e w5 ⟨t, rfl, ht, b5⟩
        have HT5 := Lib.hid ht
        have hts : t.size ≤ 32 := ht.small (by omega)
        have R5 := Lib.hid (R4.out.below b5 (Nat.le_refl _))
        have D5 := Lib.hid (D4.out.trans ((DrB.ofB b5).mono D4.out.size))
        have O5 := Lib.hid (O4.out.below b5 (Nat.le_refl _))
        clear b5 ht
        go_wp2_with fail
        refine (HK.out _ 5 _ R5.out (by omega) (by omega)).mono ?_
        rintro e w6 ⟨m, rfl, hm, r6, g6⟩
        have R6 := Lib.hid r6
        have D6 := Lib.hid (D5.out.trans ((DrB.ofG g6).mono D5.out.size))
        have O6 := Lib.hid (O5.out.dr (DrB.ofG g6) (Nat.le_refl _) hgw)
        clear r6 g6
        by_cases m0 : m = 0
        · have t0 : ((m : Int) == 0) = true := by rw [m0]; rfl
          clear hm m0
          go_wp2_with fail
          refine (l1Not_ok n t _ (by omega) HT5.out).mono ?_
          rintro e w7 ⟨t7, rfl, ht7, b7⟩
          have HT7 := Lib.hid ht7
          have hts7 : t7.size ≤ 32 := ht7.small (by omega)
          have R7 := Lib.hid (R6.out.below b7 (Nat.le_refl _))
          have D7 := Lib.hid (D6.out.trans ((DrB.ofB b7).mono D6.out.size))
          have O7 := Lib.hid (O6.out.below b7 (Nat.le_refl _))
          clear b7 ht7
          have HCe := Lib.hid (fun (W : World) => (Blk.new W 9 [.string t7]).cell (i := 0) rfl)
          go_wp2_with (at_builtin; refine wpList_appT (OwnT.alloc O7.out _) (HCe.out _) rfl _ _ rfl rfl rfl (by have := HL.out; omega) (by have := D7.out.size; simp; omega) ?_; intro vz wz oz gz)
          go_roundw
          case rel => exact ⟨k + 1, _, by omega, by go_num, by simp [HL.out], oz, HBl.out.snoc HT7.out, (O7.out.oneApp hgw R7.out gz).more (by omega), (D7.out.alloc D7.out.size _).grown gz (by have := D7.out.size; simp; omega) (fun j hj => (World.ownsRow.lt O7.out j hj).1)⟩
          case measure => simp [intOf] <;> omega
        · have t0 : ((m : Int) == 0) = false := by rw [beq_eq_false_iff_ne]; omega
          by_cases m1 : m = 1
          · have t1 : ((m : Int) == 1) = true := by rw [m1]; rfl
            clear hm m0 m1
            go_wp2_with fail
            refine (l1Not_ok n t _ (by omega) HT5.out).mono ?_
            rintro e w7 ⟨t7, rfl, ht7, b7⟩
            have HT7 := Lib.hid ht7
            have hts7 : t7.size ≤ 32 := ht7.small (by omega)
            have R7 := Lib.hid (R6.out.below b7 (Nat.le_refl _))
            have D7 := Lib.hid (D6.out.trans ((DrB.ofB b7).mono D6.out.size))
            have O7 := Lib.hid (O6.out.below b7 (Nat.le_refl _))
            clear b7 ht7
            have HCe := Lib.hid (fun (W : World) => (Blk.new W 9 [.string t7]).cell (i := 0) rfl)
            go_wp2_with (at_builtin; refine wpList_appT (OwnT.alloc O7.out _) (HCe.out _) rfl _ _ rfl rfl rfl (by have := HL.out; omega) (by have := D7.out.size; simp; omega) ?_; intro vz wz oz gz)
            go_roundw
            case rel => exact ⟨k + 1, _, by omega, by go_num, by simp [HL.out], oz, HBl.out.snoc HT7.out, (O7.out.oneApp hgw R7.out gz).more (by omega), (D7.out.alloc D7.out.size _).grown gz (by have := D7.out.size; simp; omega) (fun j hj => (World.ownsRow.lt O7.out j hj).1)⟩
            case measure => simp [intOf] <;> omega
          · have t1 : ((m : Int) == 1) = false := by rw [beq_eq_false_iff_ne]; omega
            by_cases m2 : m = 2
            · have t2 : ((m : Int) == 2) = true := by rw [m2]; rfl
              clear hm m0 m1 m2
              go_wp2_with fail
              refine (l1Draw_ok g _ n _ R6.out (by omega) (by omega)).mono ?_
              rintro e w7 ⟨t7, rfl, ht7, r7, d7⟩
              have HT7 := Lib.hid ht7
              have R7 := Lib.hid r7
              have D7 := Lib.hid (D6.out.trans (d7.mono D6.out.size))
              have O7 := Lib.hid (O6.out.dr d7 (Nat.le_refl _) hgw)
              clear r7 d7 ht7
              go_wp2_with fail
              refine (andTab_ok n t t7 _ (by omega) HT5.out HT7.out).mono ?_
              rintro e w8 ⟨t8, rfl, ht8, b8⟩
              have HT8 := Lib.hid ht8
              have hts8 : t8.size ≤ 32 := ht8.small (by omega)
              have R8 := Lib.hid (R7.out.below b8 (Nat.le_refl _))
              have D8 := Lib.hid (D7.out.trans ((DrB.ofB b8).mono D7.out.size))
              have O8 := Lib.hid (O7.out.below b8 (Nat.le_refl _))
              clear b8 ht8
              have HCe := Lib.hid (fun (W : World) => (Blk.new W 9 [.string t8]).cell (i := 0) rfl)
              go_wp2_with (at_builtin; refine wpList_appT (OwnT.alloc O8.out _) (HCe.out _) rfl _ _ rfl rfl rfl (by have := HL.out; omega) (by have := D8.out.size; simp; omega) ?_; intro vz wz oz gz)
              go_roundw
              case rel => exact ⟨k + 1, _, by omega, by go_num, by simp [HL.out], oz, HBl.out.snoc HT8.out, (O8.out.oneApp hgw R8.out gz).more (by omega), (D8.out.alloc D8.out.size _).grown gz (by have := D8.out.size; simp; omega) (fun j hj => (World.ownsRow.lt O8.out j hj).1)⟩
              case measure => simp [intOf] <;> omega
            · have t2 : ((m : Int) == 2) = false := by rw [beq_eq_false_iff_ne]; omega
              clear hm m0 m1 m2
              have HCe := Lib.hid (fun (W : World) => (Blk.new W 9 [.string t]).cell (i := 0) rfl)
              go_wp2_with (at_builtin; refine wpList_appT (OwnT.alloc O6.out _) (HCe.out _) rfl _ _ rfl rfl rfl (by have := HL.out; omega) (by have := D6.out.size; simp; omega) ?_; intro vz wz oz gz)
              go_roundw
              case rel => exact ⟨k + 1, _, by omega, by go_num, by simp [HL.out], oz, HBl.out.snoc HT5.out, (O6.out.oneApp hgw R6.out gz).more (by omega), (D6.out.alloc D6.out.size _).grown gz (by have := D6.out.size; simp; omega) (fun j hj => (World.ownsRow.lt O6.out j hj).1)⟩
              case measure => simp [intOf] <;> omega
      · have ty : ((y : Int) == 0) = false := by rw [beq_eq_false_iff_ne]; omega
        clear y0 hy
        go_wp2_with fail
        refine (inTab_ok n km _ (by omega) hml).mono ?_
        rintro e w5 ⟨t, rfl, ht, b5⟩
        have HT5 := Lib.hid ht
        have hts : t.size ≤ 32 := ht.small (by omega)
        have R5 := Lib.hid (R3.out.below b5 (Nat.le_refl _))
        have D5 := Lib.hid (D3.out.trans ((DrB.ofB b5).mono D3.out.size))
        have O5 := Lib.hid (O3.out.below b5 (Nat.le_refl _))
        clear b5 ht
        go_wp2_with fail
        refine (HK.out _ 5 _ R5.out (by omega) (by omega)).mono ?_
        rintro e w6 ⟨m, rfl, hm, r6, g6⟩
        have R6 := Lib.hid r6
        have D6 := Lib.hid (D5.out.trans ((DrB.ofG g6).mono D5.out.size))
        have O6 := Lib.hid (O5.out.dr (DrB.ofG g6) (Nat.le_refl _) hgw)
        clear r6 g6
        by_cases m0 : m = 0
        · have t0 : ((m : Int) == 0) = true := by rw [m0]; rfl
          clear hm m0
          go_wp2_with fail
          refine (l1Not_ok n t _ (by omega) HT5.out).mono ?_
          rintro e w7 ⟨t7, rfl, ht7, b7⟩
          have HT7 := Lib.hid ht7
          have hts7 : t7.size ≤ 32 := ht7.small (by omega)
          have R7 := Lib.hid (R6.out.below b7 (Nat.le_refl _))
          have D7 := Lib.hid (D6.out.trans ((DrB.ofB b7).mono D6.out.size))
          have O7 := Lib.hid (O6.out.below b7 (Nat.le_refl _))
          clear b7 ht7
          have HCe := Lib.hid (fun (W : World) => (Blk.new W 9 [.string t7]).cell (i := 0) rfl)
          go_wp2_with (at_builtin; refine wpList_appT (OwnT.alloc O7.out _) (HCe.out _) rfl _ _ rfl rfl rfl (by have := HL.out; omega) (by have := D7.out.size; simp; omega) ?_; intro vz wz oz gz)
          go_roundw
          case rel => exact ⟨k + 1, _, by omega, by go_num, by simp [HL.out], oz, HBl.out.snoc HT7.out, (O7.out.oneApp hgw R7.out gz).more (by omega), (D7.out.alloc D7.out.size _).grown gz (by have := D7.out.size; simp; omega) (fun j hj => (World.ownsRow.lt O7.out j hj).1)⟩
          case measure => simp [intOf] <;> omega
        · have t0 : ((m : Int) == 0) = false := by rw [beq_eq_false_iff_ne]; omega
          by_cases m1 : m = 1
          · have t1 : ((m : Int) == 1) = true := by rw [m1]; rfl
            clear hm m0 m1
            go_wp2_with fail
            refine (l1Not_ok n t _ (by omega) HT5.out).mono ?_
            rintro e w7 ⟨t7, rfl, ht7, b7⟩
            have HT7 := Lib.hid ht7
            have hts7 : t7.size ≤ 32 := ht7.small (by omega)
            have R7 := Lib.hid (R6.out.below b7 (Nat.le_refl _))
            have D7 := Lib.hid (D6.out.trans ((DrB.ofB b7).mono D6.out.size))
            have O7 := Lib.hid (O6.out.below b7 (Nat.le_refl _))
            clear b7 ht7
            have HCe := Lib.hid (fun (W : World) => (Blk.new W 9 [.string t7]).cell (i := 0) rfl)
            go_wp2_with (at_builtin; refine wpList_appT (OwnT.alloc O7.out _) (HCe.out _) rfl _ _ rfl rfl rfl (by have := HL.out; omega) (by have := D7.out.size; simp; omega) ?_; intro vz wz oz gz)
            go_roundw
            case rel => exact ⟨k + 1, _, by omega, by go_num, by simp [HL.out], oz, HBl.out.snoc HT7.out, (O7.out.oneApp hgw R7.out gz).more (by omega), (D7.out.alloc D7.out.size _).grown gz (by have := D7.out.size; simp; omega) (fun j hj => (World.ownsRow.lt O7.out j hj).1)⟩
            case measure => simp [intOf] <;> omega
          · have t1 : ((m : Int) == 1) = false := by rw [beq_eq_false_iff_ne]; omega
            by_cases m2 : m = 2
            · have t2 : ((m : Int) == 2) = true := by rw [m2]; rfl
              clear hm m0 m1 m2
              go_wp2_with fail
              refine (l1Draw_ok g _ n _ R6.out (by omega) (by omega)).mono ?_
              rintro e w7 ⟨t7, rfl, ht7, r7, d7⟩
              have HT7 := Lib.hid ht7
              have R7 := Lib.hid r7
              have D7 := Lib.hid (D6.out.trans (d7.mono D6.out.size))
              have O7 := Lib.hid (O6.out.dr d7 (Nat.le_refl _) hgw)
              clear r7 d7 ht7
              go_wp2_with fail
              refine (andTab_ok n t t7 _ (by omega) HT5.out HT7.out).mono ?_
              rintro e w8 ⟨t8, rfl, ht8, b8⟩
              have HT8 := Lib.hid ht8
              have hts8 : t8.size ≤ 32 := ht8.small (by omega)
              have R8 := Lib.hid (R7.out.below b8 (Nat.le_refl _))
              have D8 := Lib.hid (D7.out.trans ((DrB.ofB b8).mono D7.out.size))
              have O8 := Lib.hid (O7.out.below b8 (Nat.le_refl _))
              clear b8 ht8
              have HCe := Lib.hid (fun (W : World) => (Blk.new W 9 [.string t8]).cell (i := 0) rfl)
              go_wp2_with (at_builtin; refine wpList_appT (OwnT.alloc O8.out _) (HCe.out _) rfl _ _ rfl rfl rfl (by have := HL.out; omega) (by have := D8.out.size; simp; omega) ?_; intro vz wz oz gz)
              go_roundw
              case rel => exact ⟨k + 1, _, by omega, by go_num, by simp [HL.out], oz, HBl.out.snoc HT8.out, (O8.out.oneApp hgw R8.out gz).more (by omega), (D8.out.alloc D8.out.size _).grown gz (by have := D8.out.size; simp; omega) (fun j hj => (World.ownsRow.lt O8.out j hj).1)⟩
              case measure => simp [intOf] <;> omega
            · have t2 : ((m : Int) == 2) = false := by rw [beq_eq_false_iff_ne]; omega
              clear hm m0 m1 m2
              have HCe := Lib.hid (fun (W : World) => (Blk.new W 9 [.string t]).cell (i := 0) rfl)
              go_wp2_with (at_builtin; refine wpList_appT (OwnT.alloc O6.out _) (HCe.out _) rfl _ _ rfl rfl rfl (by have := HL.out; omega) (by have := D6.out.size; simp; omega) ?_; intro vz wz oz gz)
              go_roundw
              case rel => exact ⟨k + 1, _, by omega, by go_num, by simp [HL.out], oz, HBl.out.snoc HT5.out, (O6.out.oneApp hgw R6.out gz).more (by omega), (D6.out.alloc D6.out.size _).grown gz (by have := D6.out.size; simp; omega) (fun j hj => (World.ownsRow.lt O6.out j hj).1)⟩
              case measure => simp [intOf] <;> omega
    · obtain rfl : k = n := by omega
      obtain ⟨ao, c, rfl, q⟩ := HO.out.row
      have hlk := HL.out
      have HT := Lib.hid (l3Text_ok ao _ c ts (gT ts) wr q (fun _ _ => rfl) (fun i => Nat.le_trans (HBl.out.size (by omega) i) (by decide)) (by omega))
      have HW := Lib.hid (join_wt HBl.out (by omega) (by omega) (by omega))
      rw [hlk] at HT HW ⊢
      clear q hlk
      go_wp2_with fail
      refine HT.out.mono ?_
      rintro e w5 ⟨rfl, rfl⟩
      go_wp2_with fail
      go_ret
      exact ⟨_, rfl, HW.out, HR.out.more (by omega), HDr.out⟩

set_option maxHeartbeats 2000000 in
theorem l7Open_ok (g P : Nat) (w : World) (h : Rd w g P) (hP : P ≤ 500000) :
    Calls Tryz.prog 14 #[.pointer (some ⟨g, 0, none⟩)] w (TextP g (P + 400) (Short 200) w) := by
  have HK := Lib.hid (pick_ok g P 3 w h (by omega) (by omega))
  clear h
  go_enter Tryz.func14, Tryz.ntmps14
  go_wp2_with fail
  refine HK.out.mono ?_
  rintro e w1 ⟨y, rfl, hy, r1, g1⟩
  have R1 := Lib.hid r1
  have D1 := Lib.hid (DrB.ofG g1)
  clear r1 g1 HK
  by_cases y0 : y = 0
  · have ty : ((y : Int) == 0) = true := by rw [y0]; rfl
    clear y0 hy
    go_wp2_with fail
    refine (l5Small_ok g _ _ R1.out (by omega)).mono ?_
    rintro e w2 ⟨t, s, rfl, ht, r2, d2⟩
    have R2 := Lib.hid r2
    have HT := Lib.hid ht
    have D2 := Lib.hid (D1.out.trans (d2.mono D1.out.size))
    clear r2 d2 ht
    go_wp2_with fail
    go_ret
    exact ⟨_, rfl, HT.out, R2.out.more (by omega), D2.out⟩
  · have ty : ((y : Int) == 0) = false := by rw [beq_eq_false_iff_ne]; omega
    clear y0 hy
    go_wp2_with fail
    refine (l7Chain_ok g _ _ R1.out (by omega)).mono ?_
    rintro e w2 ⟨t, rfl, ht, r2, d2⟩
    have R2 := Lib.hid r2
    have HT := Lib.hid ht
    have D2 := Lib.hid (D1.out.trans (d2.mono D1.out.size))
    clear r2 d2 ht
    go_wp2_with fail
    refine (l3Bad_ok g _ _ _ R2.out HT.out (by omega)).mono ?_
    rintro e w3 ⟨u, rfl, hu, r3, d3⟩
    have R3 := Lib.hid r3
    have HU := Lib.hid hu
    have D3 := Lib.hid (D2.out.trans (d3.mono D2.out.size))
    clear r3 d3 hu
    go_wp2_with fail
    go_ret
    exact ⟨_, rfl, HU.out, R3.out.more (by omega), D3.out⟩

end Go.Proofs.YtcmjogojlijdgaaGreatDoor
