/- Walks: a step of a network, as the program does it. -/
import Derived.Test.YtfopimahnmpciaaDoorM3
import Derived.Test.YtfopimahnmpciaaDoorM4
namespace Go.Proofs.YtfopimahnmpciaaDoor
open Go.RowKit

theorem RowN.at_ {w : World} {b o l c : Nat} {n : Int} {bss : List (List Int)} (h : RowN w (Option.some ⟨b, o, none⟩) l c n bss) (k : Nat) (hk : k < l) : ∃ bs, bss[k]? = Option.some bs ∧ bs.length = 32 ∧ w.rangeAt b (o + k * 33) (tabC n bs) := by
  have hk' : k < bss.length := by rw [h.len]; exact hk
  exact ⟨bss[k], List.getElem?_eq_getElem hk', h.wide _ (List.getElem_mem _), h.range b o rfl k _ (List.getElem?_eq_getElem hk')⟩

/-- A whole table is read out of a row. -/
theorem wpList_tabLoadAt {ops : Array Oper} {rest : List Oper} {o : Oper} {a : Act} {w : World} {Q : Exit → Act → World → Prop} (hg : o.guard = none) (x : Operand) (ho : o.op = .load 50 x)
    (b off : Nat) (n : Int) (bs : List Int) (hx : a.eval x = .pointer (some ⟨b, off, none⟩)) (hl : bs.length = 32) (hr : w.rangeAt b off (tabC n bs))
    (h : wpList Tryd.prog ops Q rest (a.put o.dst (tabV n bs)) w) : wpList Tryd.prog ops Q (o :: rest) a w := by
  obtain ⟨d, hd, hd2⟩ := tab_under
  exact wpList_load_mid hg 50 x ho b off hx (tabC n bs) d hr hd hd2 (by rw [tabC_len, hl]; exact tab_size) h

set_option maxHeartbeats 1000000 in
theorem states_ok (ao : Option Addr) (l c : Nat) (w : World) (hl : l ≤ 62) :
    Calls Tryd.prog 16 #[.slice ao l c] w fun e w' => e = .returned (.int .i64 ((2 ^ l : Nat) : Int)) ∧ w = w' := by
  have HP : Hid (wrap64 (2 ^ l) = ((2 ^ l : Nat) : Int)) := wrap_pow_nat l hl
  go_enter Tryd.func16, Tryd.ntmps16
  go_wp2
  go_ret
  exact ⟨reti HP.out, rfl⟩

/-- A step of the first k switches, all of them. -/
def allTo (ps : List ByteArray) (s : Nat) : Nat → Nat
  | 0 => 0
  | k + 1 => allTo ps s k ||| (bitN ps k s * 2 ^ k)
theorem all_fin : ∀ (a : Fin 32) (i : Fin 5) (v : Fin 2), (a.val ||| (v.val * 2 ^ i.val)) < 32 ∧ ∀ j : Fin 5, (a.val ||| (v.val * 2 ^ i.val)).testBit j.val = (a.val.testBit j.val || (decide (j = i) && decide (v.val = 1))) := by decide +kernel
theorem allTo_inv {ps : List ByteArray} (hn : netB ps = true) (h5 : ps.length ≤ 5) (s : Nat) : ∀ k, k ≤ ps.length → allTo ps s k < 32 ∧ ∀ j, j < 5 → (allTo ps s k).testBit j = (decide (j < k) && decide (bitN ps j s = 1))
  | 0, _ => ⟨by show 0 < 32; decide, fun j _ => by simp [allTo]⟩
  | k + 1, hk => by
    obtain ⟨h1, h2⟩ := allTo_inv hn h5 s k (by omega)
    have hd := bitN_lt (netB_get hn k (by omega)).1 s
    obtain ⟨h3, h4⟩ := all_fin ⟨_, h1⟩ ⟨k, by omega⟩ ⟨_, hd⟩
    refine ⟨h3, fun j hj => ?_⟩
    have h6 := h4 ⟨j, hj⟩
    simp only [Fin.mk.injEq] at h6
    show (allTo ps s k ||| (bitN ps k s * 2 ^ k)).testBit j = _
    rw [h6, h2 j hj]
    by_cases e : j = k
    · subst e
      simp
    · by_cases h7 : j < k
      · simp [e, h7, show j < k + 1 by omega]
      · simp [e, h7, show ¬ j < k + 1 by omega]

theorem shl_bit (v k : Nat) (hv : v < 2) (hk : k < 5) : wrap64 ((v : Int) * 2 ^ k) = ((v * 2 ^ k : Nat) : Int) := by
  rcases (show v = 0 ∨ v = 1 by omega) with rfl | rfl
  · simp; decide +kernel
  · simpa using wrap_pow_nat k (by omega)

end Go.Proofs.YtfopimahnmpciaaDoor
