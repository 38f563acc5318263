/- Walks: a text cut at a byte. -/
import Derived.Test.YtlfadpfodmpneaaDoorN1
import Derived.Test.YtlfadpfodmpneaaDoorS1
namespace Go.Proofs.YtlfadpfodmpneaaDoor
open Go.RowKit

theorem at_byte (s : ByteArray) (k : Nat) (h : k < s.size) : s.data.toList[k]? = some s[k] := Lib.data_getElem? s k h
theorem cutTo_le (c : UInt8) (s : ByteArray) (i : Nat) (h : i ≤ s.size) : (cutTo c s i).2 ≤ i := (cutTo_inv c s i h).1
theorem cutTo_len (c : UInt8) (s : ByteArray) : ∀ i, (cutTo c s i).1.length ≤ i
  | 0 => Nat.le_refl _
  | i + 1 => by
    have := cutTo_len c s i
    by_cases h : s.data.toList[i]? = some c
    · rw [cutTo_hit h]; simp; omega
    · rw [cutTo_miss h]; omega

set_option maxHeartbeats 4000000 in
theorem l14Cut_ok (s : ByteArray) (c : UInt8) (w : World) (hs : s.size ≤ 1048576) :
    Calls Tryd.prog 23 #[.string s, .int .u8 c.toNat] w fun e w' => ∃ v, e = .returned v ∧ OwnT w' w.heap.size v (cutsP c s) ∧ Below w.heap.size w w' := by
  go_enter Tryd.func23, Tryd.ntmps23
  go_wp2
  go_loopw [5, 6, 7] (fun v f i wr => ∃ k : Nat, k ≤ s.size + 1 ∧ i = .int .i64 k ∧ (k ≤ s.size → OwnT wr w.heap.size v (cutTo c s k).1 ∧ f = .int .i64 (cutTo c s k).2) ∧ (s.size < k → OwnT wr w.heap.size v (cutsP c s)) ∧ Below w.heap.size w wr) (fun _ _ i _ => s.size + 1 - (intOf i).toNat)
  case atStart => exact ⟨0, Nat.zero_le _, rfl, fun _ => ⟨OwnT.lit _ _ [] (Nat.le_refl _) (by decide), rfl⟩, fun h => absurd h (Nat.not_lt_zero _), (Below.refl _ _).alloc (Nat.le_refl _) _⟩
  case round =>
    obtain ⟨k, hk, rfl, h1, h2, hb⟩ := hrel
    have HB := Lib.hid hb
    have H2 := Lib.hid h2
    clear h2 hb
    by_cases hle : k ≤ s.size
    · obtain ⟨ho, rfl⟩ := h1 hle
      have HO := Lib.hid ho
      have hfr := cutTo_le c s k hle
      have HL := Lib.hid (cutTo_len c s k)
      have hle' : (k : Int) ≤ (s.size : Int) := by omega
      clear h1 ho
      by_cases hlt : k < s.size
      · have hne : ((k : Int) == (s.size : Int)) = false := by
          have : ¬ (k : Int) = (s.size : Int) := by omega
          simpa using this
        by_cases hq : s[k] = c
        · have hqb : (((s[k].toNat : Nat) : Int) == ((c.toNat : Nat) : Int)) = true := by simp [hq]
          have HH := Lib.hid (cutTo_hit (c := c) (s := s) (i := k) (by rw [at_byte s k hlt, hq]))
          have HCe := Lib.hid (fun (W : World) => (Blk.new W 9 [.string (s.extract (cutTo c s k).2 k)]).cell (i := 0) rfl)
          clear hq
          generalize (cutTo c s k).2 = fr at hfr HH HCe
          have hfr' : (fr : Int) ≤ (k : Int) := by omega
          go_wp2_with (at_builtin; go_must (refine wpList_appT (OwnT.alloc HO.out _) (HCe.out _) rfl _ _ rfl rfl rfl (by have := HL.out; omega) (by have := HB.out.size; simp; omega) ?_); intro v3 w3 o3 g3)
          go_roundw
          case rel => exact ⟨k + 1, by omega, by go_num, fun _ => by rw [HH.out]; exact ⟨o3, by go_num⟩, fun h => by omega, (HB.out.alloc HB.out.size _).grown g3 (by have := HB.out.size; simp; omega) (fun j hj => (World.ownsRow.lt HO.out j hj).1)⟩
          case measure => simp [intOf] <;> omega
        · have hqb : (((s[k].toNat : Nat) : Int) == ((c.toNat : Nat) : Int)) = false := by
            rw [beq_eq_false_iff_ne]
            exact fun e => hq (Lib.byte_eq_of_toNat e)
          have HH := Lib.hid (cutTo_miss (c := c) (s := s) (i := k) (by rw [at_byte s k hlt]; simpa using hq))
          clear hq
          go_wp2_with fail
          go_roundw
          case rel => exact ⟨k + 1, by omega, by go_num, fun _ => by rw [HH.out]; exact ⟨HO.out, rfl⟩, fun h => by omega, HB.out⟩
          case measure => simp [intOf] <;> omega
      · obtain rfl : k = s.size := by omega
        have HE := Lib.hid (cutTo_end c s)
        have HCe := Lib.hid (fun (W : World) => (Blk.new W 9 [.string (s.extract (cutTo c s s.size).2 s.size)]).cell (i := 0) rfl)
        generalize (cutTo c s s.size).2 = fr at hfr HE HCe
        have hfr' : (fr : Int) ≤ (s.size : Int) := by omega
        go_wp2_with (at_builtin; go_must (refine wpList_appT (OwnT.alloc HO.out _) (HCe.out _) rfl _ _ rfl rfl rfl (by have := HL.out; omega) (by have := HB.out.size; simp; omega) ?_); intro v3 w3 o3 g3)
        go_roundw
        case rel => exact ⟨s.size + 1, by omega, by go_num, fun h => by omega, fun _ => by rw [HE.out]; exact o3, (HB.out.alloc HB.out.size _).grown g3 (by have := HB.out.size; simp; omega) (fun j hj => (World.ownsRow.lt HO.out j hj).1)⟩
        case measure => simp [intOf] <;> omega
    · have hlt : s.size < k := by omega
      have hle' : ¬ (k : Int) ≤ (s.size : Int) := by omega
      clear h1
      go_wp2
      go_ret
      exact ⟨_, rfl, H2.out hlt, HB.out⟩

end Go.Proofs.YtlfadpfodmpneaaDoor
