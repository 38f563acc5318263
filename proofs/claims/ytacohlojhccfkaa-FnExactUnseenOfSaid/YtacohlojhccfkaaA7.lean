/- Walks: Explains, IsPossible. -/
import Derived.Test.YtacohlojhccfkaaA6
namespace Go.Proofs.Ytacohlojhccfkaa
open Go.RowKit Go.Maps

theorem seen_parts {zs : List (Int × Int)} {m : Int} (h : seenB zs m = true) : (1 ≤ m ∧ m ≤ 5) ∧ zs.length ≤ 32 ∧ Small zs ∧ ∀ k, k < zs.length → (gS zs k).1 < 2 ^ m.toNat ∧ (gS zs k).2 < 2 ^ m.toNat := by
  simp only [seenB, Bool.and_eq_true, decide_eq_true_iff] at h
  obtain ⟨⟨hm, hl⟩, ha⟩ := h
  have hp : (2 ^ m.toNat : Nat) ≤ 32 := Nat.pow_le_pow_right (n := 2) (by decide) (show m.toNat ≤ 5 by omega)
  have hc : ((2 ^ m.toNat : Nat) : Int) = 2 ^ m.toNat := by simp
  have key : ∀ k, k < zs.length → okS (2 ^ m.toNat) (gS zs k) = true := fun k hk => by
    rw [show gS zs k = zs[k] by simp [gS, List.getD, hk]]
    exact List.all_eq_true.1 ha _ (List.getElem_mem _)
  refine ⟨hm, hl, fun k hk => ?_, fun k hk => ?_⟩
  · obtain ⟨a, b, c, d⟩ := okS_iff.1 (key k hk)
    exact ⟨a, by omega, c, by omega⟩
  · obtain ⟨a, b, c, d⟩ := okS_iff.1 (key k hk)
    exact ⟨b, d⟩

open Classical in
noncomputable def agreeB (zs : List (Int × Int)) (i inp n : Nat) : Bool := decide (Agree zs i inp n)
theorem agreeB_true {zs : List (Int × Int)} {i inp n : Nat} (h : Agree zs i inp n) : agreeB zs i inp n = true := by simp [agreeB, h]
theorem agreeB_false {zs : List (Int × Int)} {i inp n : Nat} (h : ¬ Agree zs i inp n) : agreeB zs i inp n = false := by simp [agreeB, h]
theorem agreeB_iff {zs : List (Int × Int)} {i inp n : Nat} : agreeB zs i inp n = true ↔ Agree zs i inp n := by simp [agreeB]

/-- Whether a set of inputs explains a switch. -/
noncomputable def explV (zs : List (Int × Int)) (m i inp : Int) : Bool :=
  seenB zs m && inB i 0 (m - 1) && inB inp 0 (2 ^ m.toNat - 1) && agreeB zs i.toNat inp.toNat zs.length

def swB (zs : List (Int × Int)) (m i : Int) : Bool := seenB zs m && inB i 0 (m - 1)

set_option maxHeartbeats 400000 in
theorem l12Switch_ok (ao : Option Addr) (n c : Nat) (zs : List (Int × Int)) (m i : Int) (w : World) (h : RowS w ao n c zs) :
    Calls Try.prog 37 #[.slice ao n c, .int .i64 m, .int .i64 i] w fun e w' => e = .returned (.bool (swB zs m i)) ∧ w = w' := by
  cases hs : seenB zs m with
  | false =>
    have H := Lib.hid hs
    go_enter Try.func37, Try.ntmps37
    go_wp2_with (go_at_call 29; refine (svS_ok _ _ _ zs _ _ h).mono ?_; rintro e w' ⟨rfl, rfl⟩)
    go_ret
    exact ⟨retb (by simp [swB, H.out]), rfl⟩
  | true =>
    have H := Lib.hid hs
    obtain ⟨hm, -⟩ := seen_parts hs
    go_enter Try.func37, Try.ntmps37
    go_wp2_with (first | (go_at_call 29; refine (svS_ok _ _ _ zs _ _ h).mono ?_; rintro e w' ⟨rfl, rfl⟩) | (go_at_call 52; refine (l1In_ok _ _ _ _).mono ?_; rintro e w' ⟨rfl, rfl⟩))
    go_ret
    exact ⟨retb (by simp [swB, H.out]), rfl⟩

end Go.Proofs.Ytacohlojhccfkaa
