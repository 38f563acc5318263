/- Walks: a table of a value for each state; its text. -/
import Derived.Test.YtfopimahnmpciaaDoorT1
namespace Go.Proofs.YtfopimahnmpciaaDoor
open Go.RowKit

def eachL (f : Nat → Int) (k : Nat) : List Int := (List.range 32).map fun j => if j < k then f j else 0
theorem eachL_zero (f : Nat → Int) : eachL f 0 = z32 := by simp [eachL, z32]; rfl
theorem eachL_len (f : Nat → Int) (k : Nat) : (eachL f k).length = 32 := by simp [eachL]
theorem eachL_next (f : Nat → Int) (k : Nat) (hk : k < 32) : (eachL f k).set k (f k) = eachL f (k + 1) := by
  apply List.ext_getElem?
  intro i
  simp [eachL, List.getElem?_set]
  grind
theorem eachL_get (f : Nat → Int) (k j : Nat) (hj : j < 32) (h : j < k) : gI (eachL f k) j = f j := by simp [gI, eachL, List.getD, hj, h]

set_option maxHeartbeats 4000000 in
theorem each_ok (p : Nat) (hp : p ≤ 5) (g : Nat) (cap : Array Value) (f : Nat → Int) (w : World) (hg : ∀ args W, (callFunc g args).run Tryd.prog W = .ok (.enter g args) W)
    (hf : ∀ s, s < 2 ^ p → ∀ W, Below w.heap.size w W → Calls Tryd.prog g (#[.int .i64 s] ++ cap) W fun e W' => e = .returned (.int .u8 (f s)) ∧ Below W.heap.size W W') :
    Calls Tryd.prog 35 #[.int .i64 p, .func (.func g) #[] cap] w fun e w' => e = .returned (tabV p (eachL f (2 ^ p))) ∧ Below w.heap.size w w' := by
  have HF := Lib.hid hf
  clear hf
  have hp32 : (2 ^ p : Nat) ≤ 32 := Nat.pow_le_pow_right (n := 2) (by decide) hp
  have HW := Lib.hid (fun (bs : List Int) (W : World) => width_ok p bs (by omega) W)
  generalize hN : (2 ^ p : Nat) = N at hp32 HF HW
  clear hN
  have HB1 := Lib.hid (Blk.new (w.alloc (.cells (tabC 0 z32).toArray 50)) 50 (tabC 0 z32))
  go_enter Tryd.func35, Tryd.ntmps35
  go_wp2_with (first | (refine wpList_tabAlloc rfl rfl ?_) | (refine wpList_tabBuild rfl _ rfl _ rfl ?_) | (refine wpList_tabStore rfl _ _ rfl _ _ z32 rfl rfl rfl _ _ HB1.out rfl ?_; intro w1 k1 g1 z1) | (refine wpList_tabLoad rfl _ rfl _ _ z32 rfl rfl _ k1 ?_))
  have hsz : (w.alloc (.cells (tabC 0 z32).toArray 50)).heap.size = w.heap.size + 1 := by simp
  have hsz2 : ((w.alloc (.cells (tabC 0 z32).toArray 50)).alloc (.cells (tabC 0 z32).toArray 50)).heap.size = w.heap.size + 2 := by simp
  have k0 : Blk w1 w.heap.size 50 (tabC 0 z32) := by
    have h0 : Blk ((w.alloc (.cells (tabC 0 z32).toArray 50)).alloc (.cells (tabC 0 z32).toArray 50)) w.heap.size 50 (tabC 0 z32) := (Blk.new w 50 (tabC 0 z32)).alloc _
    unfold Blk at h0 ⊢
    rw [g1.block _ (by omega) (by rw [hsz]; simp)]
    exact h0
  have c1 : Below w.heap.size w w1 := (((Below.refl _ _).alloc (Nat.le_refl _) _).alloc (by omega) _).grown g1 (by omega) (fun j hj => by cases hj; omega)
  rw [hsz] at k1
  rw [hsz2] at z1
  clear g1 HB1 hsz hsz2
  refine (HW.out _ _).mono ?_
  rintro e w2 ⟨rfl, b2⟩
  have c2 : Below w.heap.size w w2 := c1.trans (b2.mono c1.size)
  have k0' := k0.below b2 k0.lt
  have k1' := k1.below b2 k1.lt
  have z2 : w.heap.size + 2 ≤ w2.heap.size := by have := b2.size; omega
  clear b2 c1 k0 k1 z1
  rw [show (z32 : List Int) = eachL f 0 from (eachL_zero f).symm] at k1'
  go_wp2_with fail
  go_loopw [11] (fun s wr => ∃ k : Nat, k ≤ N ∧ s = .int .i64 k ∧ Blk wr (w.heap.size + 1) 50 (tabC p (eachL f k)) ∧ Blk wr w.heap.size 50 (tabC 0 z32) ∧ Below w.heap.size w wr ∧ w.heap.size + 2 ≤ wr.heap.size) (fun s _ => N - (intOf s).toNat)
  case atStart => exact ⟨0, Nat.zero_le _, rfl, k1', k0', c2, z2⟩
  case round =>
    obtain ⟨k, hk, rfl, hB, h0, hb, hz⟩ := hrel
    have HZ := Lib.hid hz
    clear k1' k0' c2 z2 hz
    by_cases hkN : k < N
    · have hkw : (k : Int) < (N : Int) := by omega
      have hk32 : (k : Int) < 32 := by omega
      have HC := Lib.hid (HF.out k hkN wr hb)
      go_wp2_with fail
      refine HC.out.mono ?_
      rintro e w3 ⟨rfl, b3⟩
      have hB3 := hB.below b3 hB.lt
      have h03 := h0.below b3 h0.lt
      have hx3 := hB3.cell (tabC_get p (eachL f k) k (by rw [eachL_len]; omega))
      have hf3 := hB3.free (1 + k)
      have HS := Lib.hid (hB3.set (1 + k) (.int .u8 (f k)))
      have HO := Lib.hid (h03.other (a := ⟨w.heap.size + 1, 1 + k, none⟩) (by simp) (.int .u8 (f k)))
      have HB3 := Lib.hid (hb.trans (b3.mono hb.size))
      have HL3 := Lib.hid b3.size
      clear hB h0 hb b3 hB3 h03
      go_wp2_with fail
      go_roundw
      case rel => exact ⟨k + 1, by omega, by go_num, by have := HS.out; rw [tabC_set, eachL_next f k (by omega)] at this; exact this, HO.out, HB3.out.setCell (by simp) _, by have := HZ.out; have := HL3.out; simp [World.setCell]; omega⟩
      case measure => simp [intOf]; omega
    · obtain rfl : k = N := by omega
      have hkw : ¬ (k : Int) < (k : Int) := by omega
      go_wp2_with (first | (refine wpList_tabLoad rfl _ rfl _ _ (eachL f k) rfl (eachL_len f k) _ hB ?_) | (refine wpList_tabStore rfl _ _ rfl _ _ (eachL f k) rfl rfl (eachL_len f k) _ _ h0 rfl ?_; intro w4 k4 g4 z4))
      have c4 : Below w.heap.size w w4 := hb.grown g4 (by have := HZ.out; omega) (fun j hj => by cases hj; omega)
      have hrd := tab_read k4 (eachL_len f k)
      clear k4 hB h0 g4 HF HW hb
      refine bodyPost_ret (v := tabV p (eachL f k)) (by simp [results, Tryd.results35, asAddr, hrd]) rfl ⟨rfl, c4⟩
end Go.Proofs.YtfopimahnmpciaaDoor
