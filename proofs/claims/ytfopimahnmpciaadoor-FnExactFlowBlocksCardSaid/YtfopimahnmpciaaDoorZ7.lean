/- Walks: all circuits, IsFlowing and FlowBlocks by the program. -/
import Derived.Test.YtfopimahnmpciaaDoorZ6
import Derived.Laws.EntriesVeiled
namespace Go.Proofs.YtfopimahnmpciaaDoor
open Go.RowKit

theorem cs_start (w : World) (wv kv : Value) : CS (((w.alloc (.cells #[wv] 36)).alloc (.cells #[.slice none 0 0] 39)).alloc (.cells #[kv] 53)) (w.heap.size + 1 + 1 + 1) w.heap.size (w.heap.size + 1) (w.heap.size + 1 + 1) wv kv (.slice none 0 0) 0 := by
  have h1 := ((Blk.new w 36 [wv]).alloc (.cells #[.slice none 0 0] 39)).alloc (.cells #[kv] 53)
  have h2 := (Blk.new (w.alloc (.cells #[wv] 36)) 39 [.slice none 0 0]).alloc (.cells #[kv] 53)
  have h3 := Blk.new ((w.alloc (.cells #[wv] 36)).alloc (.cells #[.slice none 0 0] 39)) 53 [kv]
  rw [show (w.alloc (.cells #[wv] 36)).heap.size = w.heap.size + 1 by simp] at h2
  rw [show ((w.alloc (.cells #[wv] 36)).alloc (.cells #[.slice none 0 0] 39)).heap.size = w.heap.size + 1 + 1 by simp] at h3
  exact ⟨by simp, h1, h2, h3, OwnC.nil _ _⟩

/-- What circuits gives: a row, empty if there is no circuit. -/
def CirP (b : Bool) (w : World) (e : Ending) (w' : World) : Prop := ∃ a c m, e = .returned (.slice a m c) ∧ (0 < m ↔ b = true) ∧ m ≤ 1000000 ∧ Below w.heap.size w w'

set_option maxRecDepth 100000 in
set_option maxHeartbeats 4000000 in
theorem circuits_ok (ps : List ByteArray) (hn : netB ps = true) (h5 : ps.length ≤ 5) (ao : Option Addr) (c : Nat) (w : World) (h : RowN w ao ps.length c ps.length (bitsN ps ps.length)) :
    Calls Tryd.prog 15 #[.slice ao ps.length c] w (CirP (cirB ps) w) := by
  have hmf : ∀ (fn : Fn) (first cap : Array Value) (w : World), (Instr.makeFunc fn first cap).run Tryd.prog w = .ok (.func fn first cap) w := fun _ _ _ _ => rfl
  have hord : Ord w.heap.size (w.heap.size + 1 + 1 + 1) w.heap.size (w.heap.size + 1) (w.heap.size + 1 + 1) := ⟨by omega, by omega, by omega, by omega, by omega, by omega, by omega, by omega⟩
  have HE : Hid (cirB ps = anyTo (fun i => walkB (actB ps) ps.length i 6 i (2 ^ i)) ps.length) := rfl
  have HW : Hid (∀ (i : Nat) ro rc W u m, RowI W ro 1 rc [(i : Int)] → Prot (w.heap.size + 1) u ro → i < ps.length → m + 46656 ≤ 1000000 → Below w.heap.size w W →
      CS W (w.heap.size + 1 + 1 + 1) w.heap.size (w.heap.size + 1) (w.heap.size + 1 + 1) (.slice ao ps.length c) (.func (.func 26) #[] #[.pointer (some ⟨w.heap.size, 0, none⟩), .pointer (some ⟨w.heap.size + 1, 0, none⟩), .pointer (some ⟨w.heap.size + 1 + 1, 0, none⟩)]) u m →
      Calls Tryd.prog 26 #[.slice ro 1 rc, .int .i64 (2 ^ i : Nat), .pointer (some ⟨w.heap.size, 0, none⟩), .pointer (some ⟨w.heap.size + 1, 0, none⟩), .pointer (some ⟨w.heap.size + 1 + 1, 0, none⟩)] W
        (CwP w.heap.size w (w.heap.size + 1 + 1 + 1) w.heap.size (w.heap.size + 1) (w.heap.size + 1 + 1) (.slice ao ps.length c) (.func (.func 26) #[] #[.pointer (some ⟨w.heap.size, 0, none⟩), .pointer (some ⟨w.heap.size + 1, 0, none⟩), .pointer (some ⟨w.heap.size + 1 + 1, 0, none⟩)]) W u m 46656 (walkB (actB ps) ps.length i 6 i (2 ^ i)))) := by
    intro i ro rc W u m g1 g2 g3 g4 g5 g6
    have := cwalk_ok ps hn h5 ao c w w.heap.size (w.heap.size + 1 + 1 + 1) w.heap.size (w.heap.size + 1) (w.heap.size + 1 + 1) hord (fun W hW => h.below hW (Nat.le_refl _)) 6 [i] i i ro rc W u m g1 g2 (fun x hx => by rw [List.mem_singleton.1 hx]; exact g3) rfl rfl (by have := freeN_one g3; omega) (by simp) (by rw [show (6 : Nat) ^ 6 = 46656 by decide]; exact g4) g5 g6
    rw [show setW [i] = 2 ^ i by simp [setW]] at this
    exact this
  have C0 := Lib.hid (cs_start w (.slice ao ps.length c) (.func (.func 26) #[] #[.pointer (some ⟨w.heap.size, 0, none⟩), .pointer (some ⟨w.heap.size + 1, 0, none⟩), .pointer (some ⟨w.heap.size + 1 + 1, 0, none⟩)]))
  have hwr : ∀ k : Nat, k ≤ 62 → IntKind.i64.wrap (2 ^ k) = ((2 ^ k : Nat) : Int) := fun k hk => by
    rw [← wrap_pow_nat k hk, IntKind.wrap_i64, wrap64]
  have HWr := Lib.hid hwr
  clear hn h hord hwr
  generalize cirB ps = bE at HE ⊢
  go_enter Tryd.func15, Tryd.ntmps15
  go_wp2_with fail
  go_loopw [9] (fun q wr => ∃ (k : Nat) (u : Value) (m : Nat), k ≤ ps.length ∧ q = .int .i64 k ∧ CS wr (w.heap.size + 1 + 1 + 1) w.heap.size (w.heap.size + 1) (w.heap.size + 1 + 1) (.slice ao ps.length c) (.func (.func 26) #[] #[.pointer (some ⟨w.heap.size, 0, none⟩), .pointer (some ⟨w.heap.size + 1, 0, none⟩), .pointer (some ⟨w.heap.size + 1 + 1, 0, none⟩)]) u m ∧ Below w.heap.size w wr ∧ m ≤ k * 46656 ∧ (0 < m ↔ anyTo (fun i => walkB (actB ps) ps.length i 6 i (2 ^ i)) k = true)) (fun q _ => ps.length - (intOf q).toNat)
  case atStart => exact ⟨0, _, 0, Nat.zero_le _, rfl, C0.out, (((Below.refl _ _).alloc (Nat.le_refl _) _).alloc (by simp) _).alloc (by simp; omega) _, by simp, by simp [anyTo]⟩
  case round =>
    obtain ⟨k, u, m, hk, rfl, hcs, hb, hmb, hiff⟩ := hrel
    have HCS := Lib.hid hcs
    have HB := Lib.hid hb
    have HIff := Lib.hid hiff
    have ck3 := hcs.ck.cell (i := 0) rfl
    have co3 := hcs.co.cell (i := 0) rfl
    clear hcs hb hiff
    by_cases hkn : k < ps.length
    · have hkw : (k : Int) < (ps.length : Int) := by omega
      have HN := Lib.hid (anyTo_next (fun i => walkB (actB ps) ps.length i 6 i (2 ^ i)) k)
      have hsh := HWr.out k (by omega)
      have hBo := HCS.out.co.lt
      have HWk := Lib.hid (HW.out k (some ⟨wr.heap.size, 0, none⟩) 1 (wr.alloc (.cells #[.int .i64 (k : Int)] 3)).drew u m (RowI.drew (RowI.one wr (k : Int))) (fun a e => by
        cases e
        exact ⟨by show wr.heap.size ≠ w.heap.size + 1; omega, fun e2 => by have := (HCS.out.own.lt _ e2.symm).2; exact absurd this (Nat.lt_irrefl _)⟩) hkn (by omega) (HB.out.trans ((below_ad wr _).mono HB.out.size)) (HCS.out.below (below_ad wr _)))
      have hkA : ∀ o, (wr.alloc o).cell? ⟨w.heap.size + 1 + 1, 0, none⟩ = some (.func (.func 26) #[] #[.pointer (some ⟨w.heap.size, 0, none⟩), .pointer (some ⟨w.heap.size + 1, 0, none⟩), .pointer (some ⟨w.heap.size + 1 + 1, 0, none⟩)]) := fun o => (HCS.out.alloc o).ck.cell (i := 0) rfl
      have HKA := Lib.hid hkA
      generalize walkB (actB ps) ps.length k 6 k (2 ^ k) = bR at HN HWk
      generalize (2 ^ k : Nat) = N at hsh HWk
      clear hkA hBo
      go_wp2_with fail
      go_region_held3 (fun w' => w'.cell? ⟨w.heap.size + 1 + 1, 0, none⟩ = some (.func (.func 26) #[] #[.pointer (some ⟨w.heap.size, 0, none⟩), .pointer (some ⟨w.heap.size + 1, 0, none⟩), .pointer (some ⟨w.heap.size + 1 + 1, 0, none⟩)]))
        (first | exact ck3 | exact HKA.out _ | exact hk7)
        (first
          | (go_at_call 26; refine HWk.out.mono ?_; rintro e w7 ⟨rfl, u7, m7, cs7, kp7, bb7, l7, n7, i7⟩; have hk7 := cs7.ck.cell (i := 0) rfl))
      all_goals
        have CS7 := Lib.hid cs7
        have BB7 := Lib.hid bb7
        have I7 := Lib.hid i7
        clear cs7 kp7 bb7 i7
        go_wp2_with fail
        go_roundw
        case rel => exact ⟨k + 1, u7, m7, by omega, by go_num, CS7.out, BB7.out, by omega, by rw [HN.out]; exact grow_iff (Nat.zero_le _) l7 HIff.out I7.out⟩
        case measure => simp [intOf] <;> omega
    · obtain rfl : k = ps.length := by omega
      have hend := HIff.out
      rw [← HE.out] at hend
      have HE2 := Lib.hid hend
      obtain ⟨za, zc, rfl⟩ := HCS.out.own.slice
      clear hend
      go_wp2_with fail
      go_ret
      exact ⟨za, zc, m, rfl, HE2.out, by omega, HB.out⟩

end Go.Proofs.YtfopimahnmpciaaDoor
