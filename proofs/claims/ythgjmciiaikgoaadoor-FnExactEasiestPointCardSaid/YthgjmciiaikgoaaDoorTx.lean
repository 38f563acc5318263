/- Walks: digits as a text. -/
import Derived.Test.YthgjmciiaikgoaaDoorA1
namespace Go.Proofs.YthgjmciiaikgoaaDoor
open Go.RowKit

/-- Digits as a text. -/
def digT (zs : List Int) : ByteArray := ⟨(zs.map fun v => UInt8.ofNat (48 + v.toNat)).toArray⟩
theorem digT_size (zs : List Int) : (digT zs).size = zs.length := by simp [digT, ByteArray.size]
theorem digT_app (xs ys : List Int) : digT xs ++ digT ys = digT (xs ++ ys) := by
  apply ByteArray.ext
  simp [digT]
theorem digT_nil : digT [] = ⟨#[]⟩ := rfl
theorem digT_0 : digT [0] = ⟨#[48]⟩ := rfl
theorem digT_1 : digT [1] = ⟨#[49]⟩ := rfl
theorem digT_next {zs : List Int} {k : Nat} (hk : k < zs.length) : digT (zs.take (k + 1)) = digT (zs.take k) ++ digT [gI zs k] := by
  rw [digT_app, take_succ_of zs k _ (gI_lt hk)]

set_option maxHeartbeats 1000000 in
theorem l1Text_ok (ao : Option Addr) (n c : Nat) (zs : List Int) (w : World) (h : RowI w ao n c zs) (hd : ∀ i, i < n → gI zs i = 0 ∨ gI zs i = 1) (hn : n ≤ 1048576) :
    Calls Tryd.prog 106 #[.slice ao n c] w fun e w' => e = .returned (.string (digT zs)) ∧ Below w.heap.size w w' := by
  obtain rfl := h.1
  go_enter Tryd.func106, Tryd.ntmps106
  go_wp2
  go_loopw [3, 4] (fun s i wr => ∃ k : Nat, k ≤ zs.length ∧ i = .int .i64 k ∧ s = .string (digT (zs.take k)) ∧ Below w.heap.size w wr) (fun _ i _ => zs.length - (intOf i).toNat)
  case atStart => exact ⟨0, Nat.zero_le _, rfl, rfl, Below.refl _ _⟩
  case round =>
    obtain ⟨k, hk, rfl, rfl, hb⟩ := hrel
    by_cases hlt : k < zs.length
    · obtain ⟨b, o, rfl, hbo⟩ := h.2.some (by omega)
      have hcx := (h.below hb (Nat.le_refl _)).2.cell b o rfl k hlt
      have hlt' : (k : Int) < (zs.length : Int) := by omega
      have HN := Lib.hid (digT_next hlt)
      have hsz := digT_size (zs.take k)
      have hsz2 : (digT (zs.take k)).size ≤ 1048576 := by rw [hsz]; simp; omega
      clear hsz
      rcases hd k hlt with h0 | h0
      · rw [h0] at hcx
        have H0 := Lib.hid h0
        clear h h0 hd
        generalize digT (zs.take k) = t at hsz2 HN
        go_wp2
        go_quiet (fail)
        go_wp2
        go_roundw
        case rel => exact ⟨k + 1, by omega, by go_num, by rw [HN.out, H0.out]; rfl, below_drewN hb _⟩
        case measure => simp [intOf]; omega
      · rw [h0] at hcx
        have H0 := Lib.hid h0
        clear h h0 hd
        generalize digT (zs.take k) = t at hsz2 HN
        go_wp2
        go_quiet (fail)
        go_wp2
        go_roundw
        case rel => exact ⟨k + 1, by omega, by go_num, by rw [HN.out, H0.out]; rfl, below_drewN hb _⟩
        case measure => simp [intOf]; omega
    · obtain rfl : k = zs.length := by omega
      rw [List.take_length]
      go_wp2
      go_ret
      exact ⟨rfl, hb⟩

end Go.Proofs.YthgjmciiaikgoaaDoor
