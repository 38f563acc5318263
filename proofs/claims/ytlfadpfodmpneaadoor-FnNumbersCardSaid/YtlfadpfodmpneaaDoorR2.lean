/- Walks: a drawn number lies in its range. -/
import Derived.Test.YtlfadpfodmpneaaDoorR1
namespace Go.Proofs.YtlfadpfodmpneaaDoor
open Go.RowKit

/-- What a draw of a number below n does. -/
def PickP (g P n : Nat) (w : World) (e : Ending) (w' : World) : Prop := ∃ v : Nat, e = .returned (.int .i64 v) ∧ (v < n ∨ v = 0) ∧ Rd w' g P ∧ w.grownBy w' (some g)

theorem rd_set {w : World} {g P l c p : Nat} {ao : Option Addr} {zs : List Int} (h1 : Blk w g 64 [.slice ao l c, .int .i64 p]) (h2 : RowU w ao l c zs) (h3 : l ≤ 2000) (h4 : p ≤ P) (h5 : ∀ a, ao = some a → 0 < l → a.block < g) :
    Rd (w.setCell ⟨g, 1, none⟩ (.int .i64 ((p : Int) + 1))) g (P + 1) := by
  refine ⟨ao, l, c, zs, p + 1, by simpa using h1.set 1 (.int .i64 ((p : Int) + 1)), ⟨h2.1, ⟨h2.2.1.le, h2.2.1.cap, h2.2.1.nil, fun hn => ?_, fun b o e i hi => ?_⟩, h2.2.2⟩, h3, by omega, h5⟩
  · obtain ⟨b, o, e, hbo⟩ := h2.2.1.some hn
    exact ⟨b, o, e, by simpa using hbo⟩
  · rw [← h2.2.1.cell b o e i hi]
    have := h5 _ e (by omega)
    refine World.cell?_setCell_other _ _ _ _ fun e => ?_
    have e2 := congrArg Addr.block e
    simp only at e2 this
    omega
theorem tmod_nat (a b : Nat) : Int.tmod (a : Int) (b : Int) = ((a % b : Nat) : Int) := rfl
theorem tdiv_nat (a b : Nat) : Int.tdiv (a : Int) (b : Int) = ((a / b : Nat) : Int) := rfl

set_option maxHeartbeats 4000000 in
set_option maxRecDepth 100000 in
theorem pick_ok (g P n : Nat) (w : World) (h : Rd w g P) (hP : P ≤ 1000000) (hn : n ≤ 1048576) :
    Calls Tryd.prog 30 #[.pointer (some ⟨g, 0, none⟩), .int .i64 n] w (PickP g (P + 1) n w) := by
  obtain ⟨ao, l, c, zs, p, h1, h2, h3, h4, h5⟩ := h.ex
  have c0 := h1.cell (i := 0) rfl
  have c1 := h1.cell (i := 1) rfl
  have f1 := h1.free 1
  have HR := Lib.hid (rd_set h1 h2 h3 h4 h5)
  have HG : Hid (w.grownBy (w.setCell ⟨g, 1, none⟩ (.int .i64 ((p : Int) + 1))) (some g)) := grownBy_setCell (World.grownBy.refl _ _) rfl _
  clear h h1
  by_cases hn0 : n = 0
  · subst hn0
    clear h2 h5
    go_enter Tryd.func30, Tryd.ntmps30
    go_wp2_with fail
    go_ret
    exact ⟨0, rfl, .inr rfl, HR.out, HG.out⟩
  by_cases hl0 : l = 0
  · subst hl0
    have hn1 : ¬ (n : Int) < 1 := by omega
    clear h2 h5
    go_enter Tryd.func30, Tryd.ntmps30
    go_wp2_with fail
    go_ret
    exact ⟨0, rfl, .inr rfl, HR.out, HG.out⟩
  have hn1 : ¬ (n : Int) < 1 := by omega
  have hl1 : ¬ (l : Int) = 0 := by omega
  obtain ⟨b, o, rfl, hbo⟩ := h2.2.1.some (by omega)
  have hbg : b < g := h5 _ rfl (by omega)
  have hne : ¬ b = g := by omega
  have hne2 : ¬ g = b := by omega
  by_cases hpl : p < l
  · have hcx := h2.2.1.cell b o rfl p hpl
    obtain ⟨hz0, hz1⟩ := h2.2.2 p hpl
    obtain ⟨z, hz⟩ := Int.eq_ofNat_of_zero_le hz0
    rw [hz] at hcx hz1
    have hpl' : (p : Int) < (l : Int) := by omega
    have hml : z % n < n := Nat.mod_lt _ (by omega)
    clear h2 h5 hz0 hz
    go_enter Tryd.func30, Tryd.ntmps30
    go_wp2_with fail
    go_ret
    exact ⟨z % n, rfl, .inl hml, HR.out, HG.out⟩
  · have hpl' : ¬ (p : Int) < (l : Int) := by omega
    have m1 : p % l < l := Nat.mod_lt _ (by omega)
    have m2 : (p * 7 + 3) % l < l := Nat.mod_lt _ (by omega)
    have hc1 := h2.2.1.cell b o rfl _ m1
    have hc2 := h2.2.1.cell b o rfl _ m2
    obtain ⟨ha0, ha1⟩ := h2.2.2 _ m1
    obtain ⟨hb0, hb1⟩ := h2.2.2 _ m2
    obtain ⟨za, ea⟩ := Int.eq_ofNat_of_zero_le ha0
    obtain ⟨zb, eb⟩ := Int.eq_ofNat_of_zero_le hb0
    rw [ea] at hc1 ha1
    rw [eb] at hc2 hb1
    have cc : ∀ j v, w.cell? ⟨b, o + j, none⟩ = some v → (w.setCell ⟨g, 1, none⟩ (.int .i64 ((p : Int) + 1))).cell? ⟨b, o + j, none⟩ = some v := fun j v hv => (World.cell?_setCell_other _ _ _ _ fun e => hne2 (congrArg Addr.block e)).trans hv
    have d0 : (w.setCell ⟨g, 1, none⟩ (.int .i64 ((p : Int) + 1))).cell? ⟨g, 0, none⟩ = some (.slice (some ⟨b, o, none⟩) l c) := (World.cell?_setCell_other _ _ _ _ fun e => by cases e).trans c0
    have d1 := cc _ _ hc1
    have d2 := cc _ _ hc2
    have hpn : ((p : Int)).tmod (l : Int) = ((p % l : Nat) : Int) := rfl
    have hqn : ((p : Int) * 7 + 3).tmod (l : Int) = (((p * 7 + 3) % l : Nat) : Int) := by
      rw [show (p : Int) * 7 + 3 = ((p * 7 + 3 : Nat) : Int) by omega]; rfl
    have hdn : ((p : Int)).tdiv (l : Int) = ((p / l : Nat) : Int) := rfl
    have hdl : p / l ≤ p := Nat.div_le_self _ _
    clear h2 h5 ha0 hb0 ea eb hc1 hc2 cc
    go_enter Tryd.func30, Tryd.ntmps30
    go_wp2_with fail
    generalize w.setCell ⟨g, 1, none⟩ (.int .i64 ((p : Int) + 1)) = w0 at HR HG d0 d1 d2 ⊢
    generalize p % l = i1 at m1 d1 hpn
    generalize (p * 7 + 3) % l = i2 at m2 d2 hqn
    generalize p / l = pd at hdn hdl
    go_quiet (fail)
    go_wp2_with fail
    go_ret
    refine ⟨(za * 131 + zb * 1117 + p * 29 + pd * 53 ^^^ (za * 131 + zb * 1117 + p * 29 + pd * 53) / 64) % n, reti ?_, .inl (Nat.mod_lt _ (by omega)), HR.out.below (B := w0.heap.size) ⟨rfl, rfl, rfl, Nat.le_refl _, fun _ _ => rfl⟩ (Nat.le_refl _), HG.out.trans ⟨rfl, rfl, rfl, Nat.le_refl _, fun _ _ _ => rfl⟩⟩
    have e1 : (za : Int) * 131 + (zb : Int) * 1117 + (p : Int) * 29 + (pd : Int) * 53 = ((za * 131 + zb * 1117 + p * 29 + pd * 53 : Nat) : Int) := by omega
    rw [e1]
    have hb : za * 131 + zb * 1117 + p * 29 + pd * 53 < 2 ^ 62 := by omega
    generalize za * 131 + zb * 1117 + p * 29 + pd * 53 = X at hb
    have e2 : ((X : Nat) : Int) / 64 = ((X / 64 : Nat) : Int) := by omega
    rw [e2, xor_nat X (X / 64) (by omega) (by omega)]
    rfl

/-- An element of a list of numbers; it lies at place v. -/
def NumP (g P : Nat) (zs : List Int) (w : World) (e : Ending) (w' : World) : Prop := ∃ v : Nat, v < zs.length ∧ e = .returned (.int .i64 (gI zs v)) ∧ Rd w' g P ∧ w.grownBy w' (some g)
theorem Row.grown {w w' : World} {row : Option Nat} {ao : Option Addr} {n c : Nat} {f : Nat → Value} (h : Row w ao n c f) (hg : w.grownBy w' row) (hne : ∀ a, ao = Option.some a → Option.some a.block ≠ row) : Row w' ao n c f :=
  ⟨h.le, h.cap, h.nil, fun hn => let ⟨b, o, e, hbo⟩ := h.some hn; ⟨b, o, e, Nat.lt_of_lt_of_le hbo hg.size⟩, fun b o e i hi => by
    obtain ⟨b', o', e', hbo⟩ := h.some (by omega)
    rw [e] at e'
    cases e'
    rw [← h.cell b o e i hi]
    simp only [World.cell?]
    rw [hg.block b hbo (hne _ e)]⟩

set_option maxHeartbeats 1000000 in
theorem num_ok (g P n c : Nat) (ao : Option Addr) (zs : List Int) (w : World) (h : Rd w g P) (hr : RowI w ao n c zs) (hn : 0 < n) (hn2 : n ≤ 1048576) (hg : ∀ a, ao = some a → a.block ≠ g) (hP : P ≤ 1000000) :
    Calls Tryd.prog 31 #[.pointer (some ⟨g, 0, none⟩), .slice ao n c] w (NumP g (P + 1) zs w) := by
  have HK := Lib.hid (pick_ok g P n w h hP hn2)
  have HR := Lib.hid hr
  obtain ⟨b, o, rfl, hbo⟩ := hr.2.some hn
  have hl := hr.1
  clear h hr
  go_enter Tryd.func31, Tryd.ntmps31
  go_wp2_with fail
  refine HK.out.mono ?_
  rintro e w1 ⟨v, rfl, hv, r1, g1⟩
  have hv' : v < n := by omega
  have hvi : (v : Int) < (n : Int) := by omega
  have hcx := (HR.out.2.grown g1 (fun a e => fun e2 => hg a e (Option.some.inj e2))).cell b o rfl v hv'
  have R1 := Lib.hid r1
  have G1 := Lib.hid g1
  clear r1 g1 hv
  go_wp2_with fail
  go_ret
  exact ⟨v, by omega, rfl, R1.out, G1.out⟩

def OfP (g P : Nat) (ts : List ByteArray) (w : World) (e : Ending) (w' : World) : Prop := ∃ v : Nat, v < ts.length ∧ e = .returned (.string (gT ts v)) ∧ Rd w' g P ∧ w.grownBy w' (some g)
set_option maxHeartbeats 1000000 in
theorem of_ok (g P n c : Nat) (ao : Option Addr) (ts : List ByteArray) (w : World) (h : Rd w g P) (hr : RowT w ao n c ts) (hn : 0 < n) (hn2 : n ≤ 1048576) (hg : ∀ a, ao = some a → a.block ≠ g) (hP : P ≤ 1000000) :
    Calls Tryd.prog 32 #[.pointer (some ⟨g, 0, none⟩), .slice ao n c] w (OfP g (P + 1) ts w) := by
  have HK := Lib.hid (pick_ok g P n w h hP hn2)
  have HR := Lib.hid hr
  obtain ⟨b, o, rfl, hbo⟩ := hr.2.some hn
  have hl := hr.1
  clear h hr
  go_enter Tryd.func32, Tryd.ntmps32
  go_wp2_with fail
  refine HK.out.mono ?_
  rintro e w1 ⟨v, rfl, hv, r1, g1⟩
  have hv' : v < n := by omega
  have hvi : (v : Int) < (n : Int) := by omega
  have hcx := (HR.out.2.grown g1 (fun a e => fun e2 => hg a e (Option.some.inj e2))).cell b o rfl v hv'
  have R1 := Lib.hid r1
  have G1 := Lib.hid g1
  clear r1 g1 hv
  go_wp2_with fail
  go_ret
  exact ⟨v, by omega, rfl, R1.out, G1.out⟩

/-- A source is opened. -/
def OpenP (P : Nat) (w : World) (e : Ending) (w' : World) : Prop := ∃ g : Nat, e = .returned (.pointer (some ⟨g, 0, none⟩)) ∧ w.heap.size ≤ g ∧ Rd w' g P ∧ Below w.heap.size w w'
set_option maxHeartbeats 1000000 in
theorem l14Open_ok (ao : Option Addr) (n c : Nat) (zs : List Int) (w : World) (h : RowU w ao n c zs) (hn : n ≤ 1048576) :
    Calls Tryd.prog 29 #[.slice ao n c] w (OpenP 0 w) := by
  have hle := h.2.1.le
  have hcap := h.2.1.cap
  have H := Lib.hid h
  have hlt : ∀ a, ao = some a → 0 < n → a.block < w.heap.size := fun a e hn => by
    obtain ⟨b, o, e2, hb⟩ := h.2.1.some hn
    rw [e] at e2; cases e2; exact hb
  have HL := Lib.hid hlt
  clear h hlt
  by_cases hbig : 2000 < n
  · obtain ⟨b, o, rfl, hbo⟩ := H.out.2.1.some (by omega)
    have hbig' : (2000 : Int) < (n : Int) := by omega
    have hcc : (2000 : Int) ≤ (c : Int) := by omega
    have HB := Lib.hid (Blk.new w 64 [.slice (some ⟨b, o, none⟩) 2000 c, .int .i64 0])
    go_enter Tryd.func29, Tryd.ntmps29
    go_wp2_with fail
    go_ret
    refine ⟨w.heap.size, rfl, Nat.le_refl _, ⟨_, 2000, c, zs.take 2000, 0, HB.out, RowU.below ⟨?_, ⟨by omega, hcap, fun e => (by cases e), fun _ => ⟨b, o, rfl, hbo⟩, fun b' o' e i hi => ?_⟩, fun i hi => ?_⟩ ((Below.refl _ _).alloc (Nat.le_refl _) _) (Nat.le_refl _), Nat.le_refl _, Nat.zero_le _, fun a e h0 => ?_⟩, (Below.refl _ _).alloc (Nat.le_refl _) _⟩
    · rw [List.length_take, H.out.1]; omega
    · rw [H.out.2.1.cell b' o' e i (by omega)]
      have : gI (zs.take 2000) i = gI zs i := by simp [gI, List.getD, hi]
      rw [this]
    · have : gI (zs.take 2000) i = gI zs i := by simp [gI, List.getD, hi]
      rw [this]
      exact H.out.2.2 i (by omega)
    · cases e; exact hbo
  · have hbig' : ¬ (2000 : Int) < (n : Int) := by omega
    have HB := Lib.hid (Blk.new w 64 [.slice ao n c, .int .i64 0])
    go_enter Tryd.func29, Tryd.ntmps29
    go_wp2_with fail
    go_ret
    refine ⟨w.heap.size, rfl, Nat.le_refl _, ⟨ao, n, c, zs, 0, HB.out, H.out.below ((Below.refl _ _).alloc (Nat.le_refl _) _) (Nat.le_refl _), by omega, Nat.zero_le _, fun a e h0 => ?_⟩, (Below.refl _ _).alloc (Nat.le_refl _) _⟩
    exact HL.out a e h0

end Go.Proofs.YtlfadpfodmpneaaDoor
