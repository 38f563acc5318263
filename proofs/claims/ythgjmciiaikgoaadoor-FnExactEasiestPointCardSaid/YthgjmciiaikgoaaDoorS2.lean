/- Walks: a network made of its step. -/
import Derived.Test.YthgjmciiaikgoaaDoorM3
import Derived.Test.YthgjmciiaikgoaaDoorPop
import Derived.Test.YthgjmciiaikgoaaDoorBit
import Derived.Deep.RegionHeld3
namespace Go.Proofs.YthgjmciiaikgoaaDoor
open Go.RowKit

theorem held2b {wr W w5 : World} {q1 q2 : Nat} {v1 v2 : Value} (h : Below wr.heap.size wr W ∧ W.cell? ⟨q1, 0, none⟩ = some v1 ∧ W.cell? ⟨q2, 0, none⟩ = some v2) (b : Below W.heap.size W w5) (h1 : q1 < wr.heap.size) (h2 : q2 < wr.heap.size) :
    Below wr.heap.size wr w5 ∧ w5.cell? ⟨q1, 0, none⟩ = some v1 ∧ w5.cell? ⟨q2, 0, none⟩ = some v2 :=
  ⟨h.1.trans (b.mono h.1.size), (b.cell (p := ⟨q1, 0, none⟩) (Nat.lt_of_lt_of_le h1 h.1.size)).trans h.2.1, (b.cell (p := ⟨q2, 0, none⟩) (Nat.lt_of_lt_of_le h2 h.1.size)).trans h.2.2⟩

set_option maxHeartbeats 2000000 in
set_option maxRecDepth 100000 in
theorem fsClosure_ok (s i p3 p6 g fs : Nat) (cap : Array Value) (w : World) (hg : ∀ args W, (callFunc g args).run Tryd.prog W = .ok (.enter g args) W)
    (hf : ∀ W, Below w.heap.size w W → Calls Tryd.prog g (#[.int .i64 s] ++ cap) W fun e W' => e = .returned (.int .i64 (fs : Nat)) ∧ Below W.heap.size W W') (hfs : fs < 32) (hi : i < 5)
    (h3 : w.cell? ⟨p3, 0, none⟩ = some (.func (.func g) #[] cap)) (h6 : w.cell? ⟨p6, 0, none⟩ = some (.int .i64 i)) :
    Calls Tryd.prog 107 #[.int .i64 s, .pointer (some ⟨p3, 0, none⟩), .pointer (some ⟨p6, 0, none⟩)] w fun e w' => e = .returned (.int .u8 ((bN fs i : Nat) : Int)) ∧ Below w.heap.size w w' := by
  have l3 := World.block_lt_of_cell? w ⟨p3, 0, none⟩ h3
  have l6 := World.block_lt_of_cell? w ⟨p6, 0, none⟩ h6
  have HF := Lib.hid hf
  have ev : bits .and .i64 ((fs : Int) / 2 ^ i) 1 = ((bN fs i : Nat) : Int) := bit_int (fs : Int) i (by omega) (by omega)
  have hbl := bN_lt fs i
  have hw1 : IntKind.u8.wrap ((bN fs i : Nat) : Int) = ((bN fs i : Nat) : Int) := by rw [IntKind.wrap_u8]; omega
  clear hf
  generalize bN fs i = u at ev hbl hw1 ⊢
  go_enter Tryd.func107, Tryd.ntmps107
  go_wp2_with fail
  go_region_held3 (fun w' => Below w.heap.size w w' ∧ w'.cell? ⟨p3, 0, none⟩ = some (.func (.func g) #[] cap) ∧ w'.cell? ⟨p6, 0, none⟩ = some (.int .i64 i))
    (first | exact ⟨⟨rfl, rfl, rfl, Nat.le_refl _, fun _ _ => rfl⟩, h3, h6⟩ | exact held2b (by assumption) b5 l3 l6)
    ((refine (HF.out _ ?_).mono ?_; (exact (by assumption : _ ∧ _ ∧ _).1); rintro e w5 ⟨rfl, b5⟩))
  have HB5 : Hid (Below w.heap.size w w5) := (by assumption : Below w.heap.size w w5 ∧ _ ∧ _).1
  go_wp2_with fail
  go_ret
  exact ⟨rfl, HB5.out⟩

/-- The tables of a step. -/
def fromL (f : Nat → Nat) (n k : Nat) : List (List Int) := (List.range k).map fun i => eachL (fun s => ((bN (f s) i : Nat) : Int)) (2 ^ n)
theorem fromL_next (f : Nat → Nat) (n k : Nat) : fromL f n (k + 1) = fromL f n k ++ [eachL (fun s => ((bN (f s) k : Nat) : Int)) (2 ^ n)] := by simp [fromL, List.range_succ]
theorem fromL_len (f : Nat → Nat) (n k : Nat) : (fromL f n k).length = k := by simp [fromL]
theorem fromL_wide (f : Nat → Nat) (n k : Nat) : W32 (fromL f n k) := fun bs hb => by
  simp only [fromL, List.mem_map] at hb
  obtain ⟨i, _, rfl⟩ := hb
  exact eachL_len _ _

set_option maxRecDepth 100000 in
set_option maxHeartbeats 4000000 in
theorem fromStep_ok (n : Nat) (hn : n ≤ 5) (g : Nat) (cap : Array Value) (f : Nat → Nat) (w : World) (hg : ∀ args W, (callFunc g args).run Tryd.prog W = .ok (.enter g args) W)
    (hf : ∀ s, s < 2 ^ n → ∀ W, Below w.heap.size w W → Calls Tryd.prog g (#[.int .i64 s] ++ cap) W fun e W' => e = .returned (.int .i64 (f s : Nat)) ∧ Below W.heap.size W W') (hf2 : ∀ s, s < 2 ^ n → f s < 32) :
    Calls Tryd.prog 74 #[.int .i64 n, .func (.func g) #[] cap] w fun e w' => ∃ v, e = .returned v ∧ OwnN w' w.heap.size v n (fromL f n n) ∧ Below w.heap.size w w' := by
  have HF := Lib.hid hf
  have HF2 := Lib.hid hf2
  have HG := Lib.hid hg
  have b0 : Below w.heap.size w (w.alloc (.cells #[.func (.func g) #[] cap] 61)) := (Below.refl _ _).alloc (Nat.le_refl _) _
  have c0 : (w.alloc (.cells #[.func (.func g) #[] cap] 61)).cell? ⟨w.heap.size, 0, none⟩ = some (.func (.func g) #[] cap) := (Blk.new w 61 [.func (.func g) #[] cap]).cell (i := 0) rfl
  have s0 : (w.alloc (.cells #[.func (.func g) #[] cap] 61)).heap.size = w.heap.size + 1 := by simp
  have B0 := Lib.hid b0
  have C0 := Lib.hid c0
  have S0 := Lib.hid s0
  clear hf hf2 hg b0 c0 s0
  go_enter Tryd.func74, Tryd.ntmps74
  go_wp2_with fail
  generalize w.alloc (.cells #[.func (.func g) #[] cap] 61) = w0 at B0 C0 S0 ⊢
  go_loopw [5, 8] (fun v q wr => ∃ k : Nat, k ≤ n ∧ q = .int .i64 k ∧ OwnN wr w0.heap.size v n (fromL f n k) ∧ Below w0.heap.size w0 wr) (fun _ q _ => n - (intOf q).toNat)
  case atStart => exact ⟨0, Nat.zero_le _, rfl, OwnN.nil _ _ _, Below.refl _ _⟩
  case round =>
    obtain ⟨k, hk, rfl, ho, hb⟩ := hrel
    have HO := Lib.hid ho
    have HB := Lib.hid hb
    have hlen := fromL_len f n k
    clear ho hb
    by_cases hlt : k < n
    · have hlt' : (k : Int) < (n : Int) := by omega
      have HN := Lib.hid (fromL_next f n k)
      have HL := Lib.hid (eachL_len (fun s => ((bN (f s) k : Nat) : Int)) (2 ^ n))
      have d1 : (wr.alloc (.cells #[.int .i64 k] 3)).cell? ⟨wr.heap.size, 0, none⟩ = some (.int .i64 k) := (Blk.new wr 3 [.int .i64 k]).cell (i := 0) rfl
      have e1 : Below w0.heap.size w0 (wr.alloc (.cells #[.int .i64 k] 3)) := HB.out.alloc HB.out.size _
      have o1 : OwnN (wr.alloc (.cells #[.int .i64 k] 3)) w0.heap.size (Value.slice none 0 0) n [] := OwnN.nil _ _ _
      have hbel : Below wr.heap.size wr (wr.alloc (.cells #[.int .i64 k] 3)) := (Below.refl _ _).alloc (Nat.le_refl _) _
      have O1 := Lib.hid (HO.out.below hbel (Nat.le_refl _))
      have c3 : (wr.alloc (.cells #[.int .i64 k] 3)).cell? ⟨w.heap.size, 0, none⟩ = some (.func (.func g) #[] cap) := (e1.cell (p := ⟨w.heap.size, 0, none⟩) (by show w.heap.size < w0.heap.size; rw [S0.out]; omega)).trans C0.out
      have E1 := Lib.hid e1
      have D1 := Lib.hid d1
      have C3 := Lib.hid c3
      have HE := Lib.hid (fun (W1 : World) (q : Nat) (E1 : Below w0.heap.size w0 W1) (D1 : W1.cell? ⟨q, 0, none⟩ = some (.int .i64 k)) (C3 : W1.cell? ⟨w.heap.size, 0, none⟩ = some (.func (.func g) #[] cap)) =>
        each_ok n hn 107 #[.pointer (some ⟨w.heap.size, 0, none⟩), .pointer (some ⟨q, 0, none⟩)] (fun s => ((bN (f s) k : Nat) : Int)) W1 (fun _ _ => by kernel_rfl)
          (fun s hs W hW => fsClosure_ok s k w.heap.size q g (f s) cap W HG.out (fun W' hW' => HF.out s hs W' (B0.out.trans ((E1.trans ((hW.mono E1.size).trans (hW'.mono (Nat.le_trans E1.size hW.size)))).mono B0.out.size))) (HF2.out s hs) (by omega)
            ((hW.cell (p := ⟨w.heap.size, 0, none⟩) (World.block_lt_of_cell? W1 ⟨w.heap.size, 0, none⟩ C3)).trans C3) ((hW.cell (p := ⟨q, 0, none⟩) (World.block_lt_of_cell? W1 ⟨q, 0, none⟩ D1)).trans D1)))
      have HEk := Lib.hid (HE.out _ _ E1.out D1.out C3.out)
      clear d1 e1 o1 hbel c3 HE
      generalize eachL (fun s => ((bN (f s) k : Nat) : Int)) (2 ^ n) = bs at HN HL HEk
      go_wp2_with fail
      refine HEk.out.mono ?_
      rintro e w5 ⟨rfl, b5⟩
      have C5 := Lib.hid (E1.out.trans (b5.mono E1.out.size))
      have O5 := Lib.hid (O1.out.below b5 (Nat.le_refl _))
      clear b5
      go_wp2_with (first | (refine wpList_tabSlice rfl _ rfl (n : Int) bs rfl HL.out ?_) | (at_builtin; refine wpList_appN (O5.out.alloc _) HL.out (Blk.new _ _ _) rfl _ _ rfl rfl rfl (by omega) (by have := C5.out.size; simp; omega) ?_; intro v6 w6 o6 g6))
      go_roundw
      case rel => exact ⟨k + 1, by omega, by go_num, by rw [HN.out]; exact o6, (C5.out.alloc C5.out.size _).grown g6 (by have := C5.out.size; simp; omega) (fun j hj => (World.ownsRow.lt O5.out j hj).1)⟩
      case measure => simp [intOf] <;> omega
    · obtain rfl : k = n := by omega
      have hkw : ¬ (k : Int) < (k : Int) := by omega
      go_wp2_with fail
      go_ret
      exact ⟨_, rfl, HO.out.base B0.out.size, B0.out.trans (HB.out.mono B0.out.size)⟩

end Go.Proofs.YthgjmciiaikgoaaDoor
