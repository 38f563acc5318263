/- Walks: a step of a network, as the program does it. -/
import Derived.Test.YthgjmciiaikgoaaDoorM3
import Derived.Test.YthgjmciiaikgoaaDoorM4
namespace Go.Proofs.YthgjmciiaikgoaaDoor
open Go.RowKit

theorem RowN.at_ {w : World} {b o l c : Nat} {n : Int} {bss : List (List Int)} (h : RowN w (Option.some ⟨b, o, none⟩) l c n bss) (k : Nat) (hk : k < l) : ∃ bs, bss[k]? = Option.some bs ∧ bs.length = 32 ∧ w.rangeAt b (o + k * 33) (tabC n bs) := by
  have hk' : k < bss.length := by rw [h.len]; exact hk
  exact ⟨bss[k], List.getElem?_eq_getElem hk', h.wide _ (List.getElem_mem _), h.range b o rfl k _ (List.getElem?_eq_getElem hk')⟩

/-- A whole table is read out of a row. -/
theorem wpList_tabLoadAt {ops : Array Oper} {rest : List Oper} {o : Oper} {a : Act} {w : World} {Q : Exit → Act → World → Prop} (hg : o.guard = none) (x : Operand) (ho : o.op = .load 76 x)
    (b off : Nat) (n : Int) (bs : List Int) (hx : a.eval x = .pointer (some ⟨b, off, none⟩)) (hl : bs.length = 32) (hr : w.rangeAt b off (tabC n bs))
    (h : wpList Tryd.prog ops Q rest (a.put o.dst (tabV n bs)) w) : wpList Tryd.prog ops Q (o :: rest) a w := by
  obtain ⟨d, hd, hd2⟩ := tab_under
  exact wpList_load_mid hg 76 x ho b off hx (tabC n bs) d hr hd hd2 (by rw [tabC_len, hl]; exact tab_size) h

set_option maxHeartbeats 1000000 in
theorem states_ok (ao : Option Addr) (l c : Nat) (w : World) (hl : l ≤ 62) :
    Calls Tryd.prog 51 #[.slice ao l c] w fun e w' => e = .returned (.int .i64 ((2 ^ l : Nat) : Int)) ∧ w = w' := by
  have HP : Hid (wrap64 (2 ^ l) = ((2 ^ l : Nat) : Int)) := wrap_pow_nat l hl
  go_enter Tryd.func51, Tryd.ntmps51
  go_wp2
  go_ret
  exact ⟨reti HP.out, rfl⟩

/-- A step of the first k switches, all of them. -/
def allTo (ps : List ByteArray) (s : Nat) : Nat → Nat
  | 0 => 0
  | k + 1 => allTo ps s k ||| (bitN ps k s * 2 ^ k)
theorem all_fin : ∀ (a : Fin 32) (i : Fin 5) (v : Fin 2), (a.val ||| (v.val * 2 ^ i.val)) < 32 ∧ ∀ j : Fin 5, (a.val ||| (v.val * 2 ^ i.val)).testBit j.val = (a.val.testBit j.val || (decide (j = i) && decide (v.val = 1))) := by decide +kernel
theorem allTo_inv {ps : List ByteArray} (hn : netB ps = true) (h5 : ps.length ≤ 5) (s : Nat) : ∀ k, k ≤ ps.length → allTo ps s k < 32 ∧ ∀ j, j < 5 → (allTo ps s k).testBit j = (decide (j < k) && decide (bitN ps j s = 1))
  | 0, _ => ⟨by show 0 < 32; decide, fun j _ => by simp [allTo]⟩
  | k + 1, hk => by
    obtain ⟨h1, h2⟩ := allTo_inv hn h5 s k (by omega)
    have hd := bitN_lt (netB_get hn k (by omega)).1 s
    obtain ⟨h3, h4⟩ := all_fin ⟨_, h1⟩ ⟨k, by omega⟩ ⟨_, hd⟩
    refine ⟨h3, fun j hj => ?_⟩
    have h6 := h4 ⟨j, hj⟩
    simp only [Fin.mk.injEq] at h6
    show (allTo ps s k ||| (bitN ps k s * 2 ^ k)).testBit j = _
    rw [h6, h2 j hj]
    by_cases e : j = k
    · subst e
      simp
    · by_cases h7 : j < k
      · simp [e, h7, show j < k + 1 by omega]
      · simp [e, h7, show ¬ j < k + 1 by omega]

theorem shl_bit (v k : Nat) (hv : v < 2) (hk : k < 5) : wrap64 ((v : Int) * 2 ^ k) = ((v * 2 ^ k : Nat) : Int) := by
  rcases (show v = 0 ∨ v = 1 by omega) with rfl | rfl
  · simp; decide +kernel
  · simpa using wrap_pow_nat k (by omega)

set_option maxHeartbeats 2000000 in
theorem step_ok (ao : Option Addr) (c : Nat) (ps : List ByteArray) (s : Nat) (w : World) (h : RowN w ao ps.length c ps.length (bitsN ps ps.length)) (hn : netB ps = true) (h5 : ps.length ≤ 5) (hs : s < 2 ^ ps.length) :
    Calls Tryd.prog 59 #[.slice ao ps.length c, .int .i64 s] w fun e w' => e = .returned (.int .i64 (allTo ps s ps.length : Nat)) ∧ Below w.heap.size w w' := by
  have hp : (2 ^ ps.length : Nat) ≤ 32 := Nat.pow_le_pow_right (n := 2) (by decide) h5
  have HI := Lib.hid (allTo_inv hn h5 s)
  have HN := Lib.hid hn
  have HS := Lib.hid (fun k hk => net_size hn k hk)
  have HSl := Lib.hid hs
  have hs32 : (s : Int) < 32 := by omega
  clear hn hs
  go_enter Tryd.func59, Tryd.ntmps59
  go_wp2
  go_loopw [5, 10] (fun v i wr => ∃ k : Nat, k ≤ ps.length ∧ i = .int .i64 k ∧ v = .int .i64 (allTo ps s k : Nat) ∧ Below w.heap.size w wr) (fun _ i _ => ps.length - (intOf i).toNat)
  case atStart => exact ⟨0, Nat.zero_le _, rfl, rfl, Below.refl _ _⟩
  case round =>
    obtain ⟨k, hk, rfl, rfl, hb⟩ := hrel
    have HB := Lib.hid hb
    by_cases hlt : k < ps.length
    · obtain ⟨q, o, rfl, hbo⟩ := h.some (by omega)
      have hrow := h.below hb (Nat.le_refl _)
      have hbs : (bitsN ps ps.length)[k]? = some (eachL (byD (gT ps k)) (gT ps k).size) := by simp [bitsN, hlt]
      have HRg := Lib.hid (hrow.range q o rfl k _ hbs)
      have hlt' : (k : Int) < (ps.length : Int) := by omega
      have hL := (HI.out k hk).1
      have HD := Lib.hid (netB_get HN.out k hlt).1
      have hbit : gI (eachL (byD (gT ps k)) (gT ps k).size) s = ((bitN ps k s : Nat) : Int) := by
        rw [eachL_get _ _ _ (by omega) (by rw [HS.out k hlt]; exact HSl.out), bitN_eq HD.out s]
      have hv := bitN_lt HD.out s
      have hsh := shl_bit (bitN ps k s) k hv (by omega)
      have hw64 : IntKind.i64.wrap ((bitN ps k s : Nat) : Int) = ((bitN ps k s : Nat) : Int) := wraps_i64 _ (by omega) (by omega)
      have hp2 : (2 ^ k : Nat) ≤ 32 := Nat.pow_le_pow_right (n := 2) (by decide) (show k ≤ 5 by omega)
      have hor : bits .or .i64 ((allTo ps s k : Nat) : Int) ((bitN ps k s * 2 ^ k : Nat) : Int) = ((allTo ps s (k + 1) : Nat) : Int) := or_nat _ _ (by omega) (Nat.lt_of_le_of_lt (Nat.mul_le_mul (show bitN ps k s ≤ 1 by omega) hp2) (by decide))
      have HL := Lib.hid (eachL_len (byD (gT ps k)) (gT ps k).size)
      have HBn := Lib.hid (Blk.new wr 76 (tabC 0 z32))
      have HGet := Lib.hid (tabC_get (ps.length : Int) (eachL (byD (gT ps k)) (gT ps k).size) s (by rw [HL.out]; omega))
      rw [hbit] at HGet
      clear hrow hbs hbit h hb
      generalize eachL (byD (gT ps k)) (gT ps k).size = bs at HRg HL HGet
      generalize ((bitN ps k s * 2 ^ k : Nat) : Int) = u at hsh hor
      have HRg2 := Lib.hid (fun (ob : Obj) => ((Below.refl wr.heap.size wr).alloc (Nat.le_refl _) ob))
      go_wp2_with (first | (refine wpList_tabLoadAt rfl _ rfl q (o + k * 33) (ps.length : Int) bs rfl HL.out HRg.out ?_) | (refine wpList_tabAlloc rfl rfl ?_) | (refine wpList_tabStore rfl _ _ rfl _ (ps.length : Int) bs rfl rfl HL.out _ _ HBn.out rfl ?_; intro w4 k4 g4 z4; have c4 := Lib.hid ((HB.out.alloc HB.out.size _).grown g4 (by have := HB.out.size; simp; omega) (fun j hj => by cases hj; exact HB.out.size)); have hx4 := k4.cell HGet.out; clear k4 g4))
      go_roundw
      case rel => exact ⟨k + 1, by omega, by go_num, rfl, c4.out⟩
      case measure => simp [intOf]; omega
    · obtain rfl : k = ps.length := by omega
      go_wp2
      go_ret
      exact ⟨rfl, hb⟩

end Go.Proofs.YthgjmciiaikgoaaDoor
