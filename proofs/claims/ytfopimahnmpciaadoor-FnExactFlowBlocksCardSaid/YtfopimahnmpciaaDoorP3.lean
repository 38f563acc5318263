/- Walks: on which switches one acts, on both sides; CanJoin. -/
import Derived.Test.YtfopimahnmpciaaDoorP2
import Derived.Test.YtfopimahnmpciaaDoorM9
namespace Go.Proofs.YtfopimahnmpciaaDoor
open Go.RowKit

theorem tabIs_of {ps : List ByteArray} (hn : netB ps = true) (h5 : ps.length ≤ 5) {k : Nat} (hk : k < ps.length) : TabIs (eachL (byD (gT ps k)) (gT ps k).size) (bitN ps k) ps.length := by
  have hd := (netB_get hn k hk).1
  have hz := net_size hn k hk
  have hp : (2 ^ ps.length : Nat) ≤ 32 := Nat.pow_le_pow_right (n := 2) (by decide) h5
  exact ⟨eachL_len _ _, fun s hs => ⟨by rw [eachL_get _ _ _ (by omega) (by omega), bitN_eq hd s], bitN_lt hd s⟩⟩

theorem sgT_list (u d : Bool) : ((sgT u d).toList == [48]) = !(u || d) := by cases u <;> cases d <;> decide +kernel
/-- Whether a switch acts on another one. -/
def actB (ps : List ByteArray) (i k : Nat) : Bool := upB (bitN ps k) i ps.length || dnB (bitN ps k) i ps.length
def actsN (ps : List ByteArray) (i : Nat) : Nat := setTo (actB ps i) ps.length

set_option maxHeartbeats 4000000 in
theorem acts_ok (ao : Option Addr) (c : Nat) (ps : List ByteArray) (i : Nat) (w : World) (h : RowN w ao ps.length c ps.length (bitsN ps ps.length)) (hn : netB ps = true) (h5 : ps.length ≤ 5) (hi : i < ps.length) :
    Calls Tryd.prog 17 #[.slice ao ps.length c, .int .i64 i] w fun e w' => e = .returned (.int .i64 (actsN ps i : Nat)) ∧ Below w.heap.size w w' := by
  have HS := Lib.hid (fun k (hk : k < ps.length) W => sign_ok ps.length i _ _ W h5 hi (tabIs_of hn h5 hk))
  have HEnd : Hid (actsN ps i = setTo (actB ps i) ps.length) := rfl
  clear hn
  go_enter Tryd.func17, Tryd.ntmps17
  go_wp2
  go_loopw [5, 10] (fun v q wr => ∃ k : Nat, k ≤ ps.length ∧ q = .int .i64 k ∧ v = .int .i64 (setTo (actB ps i) k : Nat) ∧ Below w.heap.size w wr) (fun _ q _ => ps.length - (intOf q).toNat)
  case atStart => exact ⟨0, Nat.zero_le _, rfl, rfl, Below.refl _ _⟩
  case round =>
    obtain ⟨k, hk, rfl, rfl, hb⟩ := hrel
    have HB := Lib.hid hb
    by_cases hlt : k < ps.length
    · obtain ⟨q, o, rfl, hbo⟩ := h.some (by omega)
      have hrow := h.below hb (Nat.le_refl _)
      have hbs : (bitsN ps ps.length)[k]? = some (eachL (byD (gT ps k)) (gT ps k).size) := by simp [bitsN, hlt]
      have HRg := Lib.hid (hrow.range q o rfl k _ hbs)
      have hlt' : (k : Int) < (ps.length : Int) := by omega
      have HL := Lib.hid (eachL_len (byD (gT ps k)) (gT ps k).size)
      have HBn := Lib.hid (Blk.new wr 50 (tabC 0 z32))
      have HSk := Lib.hid (HS.out k hlt)
      have hor := or_shl (setTo (actB ps i) k) k (setTo_lt63 _ _ (by omega)) (by omega)
      have hacc : actB ps i k = (upB (bitN ps k) i ps.length || dnB (bitN ps k) i ps.length) := rfl
      have hst := setTo_lt63 (actB ps i) k (by omega)
      clear hrow hbs h hb
      generalize eachL (byD (gT ps k)) (gT ps k).size = bs at HRg HL HSk
      generalize upB (bitN ps k) i ps.length = u at HSk hacc
      generalize dnB (bitN ps k) i ps.length = d at HSk hacc
      cases ha : actB ps i k with
      | true =>
        have hne : ((sgT u d).toList == [48]) = false := by
          rw [sgT_list, ← hacc, ha]; rfl
        have HN := Lib.hid (setTo_hit ha)
        clear ha hacc
        generalize sgT u d = sg at HSk hne
        go_wp2_with (first | (refine wpList_tabLoadAt rfl _ rfl q (o + k * 33) (ps.length : Int) bs rfl HL.out HRg.out ?_) | (refine wpList_tabAlloc rfl rfl ?_) | (refine wpList_tabStore rfl _ _ rfl _ (ps.length : Int) bs rfl rfl HL.out _ _ HBn.out rfl ?_; intro w4 k4 g4 z4; have c4 := Lib.hid ((HB.out.alloc HB.out.size _).grown g4 (by have := HB.out.size; simp; omega) (fun j hj => by cases hj; exact HB.out.size)); have K4 := Lib.hid k4; clear k4 g4) | (refine wpList_tabLoad rfl _ rfl _ (ps.length : Int) bs rfl HL.out _ K4.out ?_))
        refine (HSk.out _).mono ?_
        rintro e w5 ⟨rfl, b5⟩
        have C5 := Lib.hid (c4.out.trans (b5.mono c4.out.size))
        clear b5
        go_wp2_with fail
        go_roundw
        case rel => exact ⟨k + 1, by omega, by go_num, by rw [HN.out], C5.out⟩
        case measure => simp [intOf] <;> omega
      | false =>
        have hne : ((sgT u d).toList == [48]) = true := by
          rw [sgT_list, ← hacc, ha]; rfl
        have HN := Lib.hid (setTo_miss ha)
        clear ha hacc
        generalize sgT u d = sg at HSk hne
        go_wp2_with (first | (refine wpList_tabLoadAt rfl _ rfl q (o + k * 33) (ps.length : Int) bs rfl HL.out HRg.out ?_) | (refine wpList_tabAlloc rfl rfl ?_) | (refine wpList_tabStore rfl _ _ rfl _ (ps.length : Int) bs rfl rfl HL.out _ _ HBn.out rfl ?_; intro w4 k4 g4 z4; have c4 := Lib.hid ((HB.out.alloc HB.out.size _).grown g4 (by have := HB.out.size; simp; omega) (fun j hj => by cases hj; exact HB.out.size)); have K4 := Lib.hid k4; clear k4 g4) | (refine wpList_tabLoad rfl _ rfl _ (ps.length : Int) bs rfl HL.out _ K4.out ?_))
        refine (HSk.out _).mono ?_
        rintro e w5 ⟨rfl, b5⟩
        have C5 := Lib.hid (c4.out.trans (b5.mono c4.out.size))
        clear b5
        go_wp2_with fail
        go_roundw
        case rel => exact ⟨k + 1, by omega, by go_num, by rw [HN.out], C5.out⟩
        case measure => simp [intOf] <;> omega
    · obtain rfl : k = ps.length := by omega
      go_wp2
      go_ret
      exact ⟨reti (by rw [HEnd.out]), hb⟩

set_option maxHeartbeats 1000000 in
theorem l7Sign_ok (ao : Option Addr) (n c : Nat) (ps : List ByteArray) (i k : Nat) (w : World) (h : RowT w ao n c ps) (hn : netB ps = true) (h5 : n ≤ 5) (hi : i < n) (hk : k < n) :
    Calls Tryd.prog 13 #[.slice ao n c, .int .i64 i, .int .i64 k] w fun e w' => e = .returned (.int .i64 ((sgV (upB (bitN ps k) i n) (dnB (bitN ps k) i n) : Nat) : Int)) ∧ w = w' := by
  obtain rfl := h.1
  have hd := (netB_get hn k hk).1
  have HS := Lib.hid (fun W => l1Sign_ok (gT ps k) ps.length i (bitN ps k) W h5 hi (net_size hn k hk) (fun s _ => ⟨bitN_eq hd s, bitN_lt hd s⟩))
  obtain ⟨q, o, rfl, hbo⟩ := h.2.some (by omega)
  have hcx := h.2.cell q o rfl k hk
  have hlt' : (k : Int) < (ps.length : Int) := by omega
  clear h hd hn
  generalize sgV (upB (bitN ps k) i ps.length) (dnB (bitN ps k) i ps.length) = v at HS ⊢
  go_enter Tryd.func13, Tryd.ntmps13
  go_wp2_with fail
  refine (HS.out _).mono ?_
  rintro e w2 ⟨rfl, rfl⟩
  go_wp2_with fail
  go_ret
  exact ⟨rfl, rfl⟩

end Go.Proofs.YtfopimahnmpciaaDoor
