/- Walks: LearnRule; the law on it. -/
import Derived.Test.YtlfeipibhdggcaaE1
import Derived.Test.YtlfeipibhdggcaaT3
namespace Go.Proofs.Ytlfeipibhdggcaa
open Go.RowKit Go.Maps

theorem Best.exists (E : Nat → Prop) : ∀ N, ∃ b, Best E 0 N b
  | 0 => ⟨-1, Best.start E 0⟩
  | N + 1 => by
    obtain ⟨b, hb⟩ := Best.exists E N
    by_cases h : ¬ E N ∨ ∃ s : Nat, b = s ∧ popN s ≤ popN N
    · exact ⟨b, hb.skip h⟩
    · have hE : E N := Classical.byContradiction fun e => h (.inl e)
      exact ⟨N, hb.take (Nat.zero_le _) hE fun s hs => by
        rcases Nat.lt_or_ge (popN N) (popN s) with h1 | h1
        · exact h1
        · exact absurd (.inr ⟨s, hs, h1⟩) h⟩
theorem least_of {E : Nat → Prop} {N r : Nat} (h : least E N = (r : Int)) : r < N ∧ E r := by
  obtain ⟨b, hb⟩ := Best.exists E N
  have e := hb.eq_least
  rw [h] at e
  subst e
  rcases hb with ⟨h1, _⟩ | ⟨s, h1, _, h2, h3, _⟩
  · omega
  · have : r = s := by omega
    subst this
    exact ⟨h2, h3⟩
theorem leastI_of {zs : List (Int × Int)} {m i : Int} {r : Nat} (h : leastI zs m i = (r : Int)) : swB zs m i = true ∧ r < 2 ^ m.toNat ∧ Exp zs i.toNat r := by
  cases hs : swB zs m i with
  | false => rw [leastI_no hs] at h; omega
  | true =>
    rw [leastI_yes hs] at h
    exact ⟨rfl, least_of h⟩

noncomputable def lrT (zs : List (Int × Int)) (m i : Int) : ByteArray := if leastI zs m i < 0 then ⟨#[]⟩ else digT (ruleL zs i.toNat (leastI zs m i).toNat (2 ^ m.toNat))
noncomputable def lrB (zs : List (Int × Int)) (m i : Int) : Bool := decide (0 ≤ leastI zs m i)
theorem lr_no {zs : List (Int × Int)} {m i : Int} (h : leastI zs m i < 0) : lrT zs m i = ⟨#[]⟩ ∧ lrB zs m i = false := ⟨by simp [lrT, h], by simp [lrB]; omega⟩
theorem lr_yes {zs : List (Int × Int)} {m i r : Nat} (h : leastI zs m i = (r : Int)) : lrT zs m i = digT (ruleL zs i r (2 ^ m)) ∧ lrB zs m i = true := ⟨by simp [lrT, h]; omega, by simp [lrB, h]⟩
theorem ret2 {a b : ByteArray} {c d : Bool} (h : a = b) (h' : c = d) : Ending.returned (.tuple #[.string a, .bool c]) = .returned (.tuple #[.string b, .bool d]) := by rw [h, h']

set_option maxHeartbeats 1000000 in
theorem lrS_ok (ao : Option Addr) (n c : Nat) (zs : List (Int × Int)) (m i : Int) (w : World) (h : RowS w ao n c zs) :
    Calls Try.prog 15 #[.slice ao n c, .int .i64 m, .int .i64 i] w fun e w' => e = .returned (.tuple #[.string (lrT zs m i), .bool (lrB zs m i)]) ∧ Below w.heap.size w w' := by
  have HL := Lib.hid (leS_ok ao n c zs m i w h)
  by_cases hneg : leastI zs m i < 0
  · have HR := Lib.hid (lr_no hneg)
    go_enter Try.func15, Try.ntmps15
    go_wp2_with fail
    refine HL.out.mono ?_
    rintro e w1 ⟨rfl, b1⟩
    go_wp2
    go_ret2
    exact ⟨ret2 HR.out.1.symm HR.out.2.symm, b1⟩
  · obtain ⟨r, hr⟩ := Int.eq_ofNat_of_zero_le (show 0 ≤ leastI zs m i by omega)
    obtain ⟨hsw, hrN, hE⟩ := leastI_of hr
    have hsw' := hsw
    simp only [swB, Bool.and_eq_true] at hsw'
    obtain ⟨hm, hl, hz, hlt⟩ := seen_parts hsw'.1
    have hi := inB_iff.1 hsw'.2
    clear hsw' hlt
    obtain ⟨p, rfl⟩ := Int.eq_ofNat_of_zero_le (show 0 ≤ m by omega)
    obtain ⟨j, rfl⟩ := Int.eq_ofNat_of_zero_le hi.1
    rw [Int.toNat_natCast] at hrN
    have hp : (2 ^ p : Nat) ≤ 32 := Nat.pow_le_pow_right (n := 2) (by decide) (show p ≤ 5 by omega)
    have HX := Lib.hid (fun W hW => l12Rule_ok ao n c zs p j r (by omega) (by omega) (by omega) hz W hW)
    have HR := Lib.hid (lr_yes hr)
    rw [hr] at HL
    clear hsw hE hz hrN hr hneg
    go_enter Try.func15, Try.ntmps15
    go_wp2_with fail
    refine HL.out.mono ?_
    rintro e w1 ⟨rfl, b1⟩
    go_wp2_with fail
    refine (HX.out _ (h.below b1 (Nat.le_refl _))).mono ?_
    rintro e w2 ⟨rfl, b2⟩
    go_wp2
    go_ret2
    exact ⟨ret2 HR.out.1.symm HR.out.2.symm, b1.trans (b2.mono b1.size)⟩

set_option maxHeartbeats 1000000 in
theorem lrClosure_ok (s inp v n mb pm ps : Nat) (F : Int → Option Int) (w : World) (hs : s < 32) (hi : inp < 32) (hm : MapI w mb n F) (hcm : w.cell? ⟨pm, 0, none⟩ = some (.map (some mb))) (hcs : w.cell? ⟨ps, 0, none⟩ = some (.int .i64 inp))
    (hv : (F ((s &&& inp : Nat) : Int)).getD 0 = v) (hv2 : v < 2) :
    Calls Try.prog 35 #[.int .i64 s, .pointer (some ⟨pm, 0, none⟩), .pointer (some ⟨ps, 0, none⟩)] w fun e w' => e = .returned (.int .u8 v) ∧ Below w.heap.size w w' := by
  have ea : bits .and .i64 (s : Int) (inp : Int) = ((s &&& inp : Nat) : Int) := and_nat _ _ (by omega) (by omega)
  have hle : s &&& inp ≤ inp := Nat.and_le_right
  have hk := hm.look ((s &&& inp : Nat) : Int) (by omega)
  rw [hv] at hk
  have hw : IntKind.u8.wrap (v : Int) = (v : Int) := by rw [IntKind.wrap_u8]; omega
  clear hm hv
  generalize ((s &&& inp : Nat) : Int) = u at ea hk
  go_enter Try.func35, Try.ntmps35
  go_wp2
  go_ret
  exact ⟨rfl, Below.refl _ _⟩

end Go.Proofs.Ytlfeipibhdggcaa
