/- Walks: HoldSwitches of the program. -/
import Derived.Test.YthgjmciiaikgoaaDoorH4
import Derived.Test.YthgjmciiaikgoaaDoorS3
namespace Go.Proofs.YthgjmciiaikgoaaDoor
open Go.RowKit

/-- Tables that lie side by side in one block, and may be written. -/
structure TabsAt (w : World) (g : Nat) (n : Nat) (bss : List (List Int)) : Prop where
  len : bss.length = n
  wide : W32 bss
  room : w.there g 0 (n * 33)
  range : ∀ i bs, bss[i]? = some bs → w.rangeAt g (i * 33) (tabC n bs)
  lt : g < w.heap.size
theorem TabsAt.below {w w' : World} {g n B : Nat} {bss : List (List Int)} (h : TabsAt w g n bss) (hb : Below B w w') (hB : w.heap.size ≤ B) : TabsAt w' g n bss :=
  ⟨h.len, h.wide, fun j hj => by
    have hc := hb.cell (p := ⟨g, 0 + j, none⟩) (Nat.lt_of_lt_of_le h.lt hB)
    have hf := hb.frozen (p := ⟨g, 0 + j, none⟩) (Nat.lt_of_lt_of_le h.lt hB)
    rw [hc, hf]; exact h.room j hj, fun i bs hi j v hv => (hb.cell (p := ⟨g, i * 33 + j, none⟩) (Nat.lt_of_lt_of_le h.lt hB)).trans (h.range i bs hi j v hv), Nat.lt_of_lt_of_le h.lt hb.size⟩
theorem setCells_size (b : Nat) : ∀ (vs : List Value) (o : Nat) (w : World), (w.setCells b o vs).heap.size = w.heap.size
  | [], _, _ => rfl
  | v :: r, o, w => by
    rw [World.setCells, setCells_size b r (o + 1)]
    simp [World.setCell]
theorem below_setCells {B : Nat} {a : World} (b : Nat) (hb : B ≤ b) : ∀ (vs : List Value) (o : Nat) (w : World), Below B a w → Below B a (w.setCells b o vs)
  | [], _, _, h => h
  | v :: r, o, w, h => by
    rw [World.setCells]
    exact below_setCells b hb r (o + 1) _ (h.setCell hb _)
theorem TabsAt.set {w : World} {g n : Nat} {bss : List (List Int)} (h : TabsAt w g n bss) (k : Nat) (hk : k < n) (bs : List Int) (hl : bs.length = 32) : TabsAt (w.setCells g (k * 33) (tabC n bs)) g n (bss.set k bs) := by
  have hl33 : (tabC (n : Int) bs).length = 33 := by rw [tabC_len, hl]
  refine ⟨by simp [h.len], fun b hb => ?_, World.there_setCells h.room _ _ _, fun i b hi => ?_, by rw [setCells_size]; exact h.lt⟩
  · rcases List.mem_or_eq_of_mem_set hb with hb | rfl
    · exact h.wide b hb
    · exact hl
  · have hkl : k < bss.length := by rw [h.len]; exact hk
    by_cases e : i = k
    · subst e
      rw [List.getElem?_set_self hkl] at hi
      cases hi
      exact World.rangeAt_setCells_same _ _ _ _ (fun j hj => by
        have := h.room (i * 33 + j) (by omega)
        rw [Nat.zero_add] at this; exact this)
    · rw [List.getElem?_set_ne (fun e2 => e e2.symm)] at hi
      refine World.rangeAt_setCells_apart (h.range i b hi) _ _ _ (.inr ?_)
      have hlb : (tabC (n : Int) b).length = 33 := by rw [tabC_len, h.wide b (List.mem_of_getElem? hi)]
      rw [hlb, hl33]
      omega
theorem OwnN.tabsAt {w : World} {B : Nat} {v : Value} {n : Nat} {bss : List (List Int)} (h : OwnN w B v n bss) (hw : W32 bss) (hn : bss.length = n) (h0 : 0 < n) : ∃ g c, v = .slice (some ⟨g, 0, none⟩) n c ∧ n ≤ c ∧ c ≤ maxLen ∧ B ≤ g ∧ TabsAt w g n bss := by
  obtain ⟨ao, c, rfl, hr⟩ := h.row hw
  obtain ⟨_, ⟨e, hz⟩ | ⟨g, cap, cur, e, hg, hh, hle, hm, hs, ht⟩⟩ := h
  · omega
  · cases e
    subst hn
    refine ⟨g, c, rfl, hr.le, hr.cap, hg, rfl, hw, fun j hj => ?_, fun i bs hi => ?_, lt_of_block hh⟩
    · have hjs : j < cur.size := by
        have : bss.length * 33 ≤ c * 33 := Nat.mul_le_mul_right _ hle
        omega
      constructor
      · rw [Nat.zero_add, cell_of_row w g _ cur 76 (0, 0) hh]
        simp [hjs]
      · simp [World.frozen?, hh]
    · have := hr.range g 0 rfl i bs hi
      rw [Nat.zero_add] at this; exact this
theorem TabsAt.rowN {w : World} {g n c : Nat} {bss : List (List Int)} (h : TabsAt w g n bss) (hc : n ≤ c) (hm : c ≤ maxLen) : RowN w (some ⟨g, 0, none⟩) n c n bss :=
  ⟨h.len, h.wide, hc, hm, fun _ => ⟨g, 0, rfl, h.lt⟩, fun b o e i bs hi => by
    cases e
    rw [Nat.zero_add]; exact h.range i bs hi⟩

set_option maxHeartbeats 1000000 in
theorem termOf_ok (s t : ByteArray) (w : World) (hs : s.size ≤ 1048576) (ht : t.size ≤ 1048576) (hm : MaxLenIs w) :
    Calls Tryd.prog 65 #[.string s, .string t] w fun e w' => ∃ v, e = .returned (.tuple #[v, .bool (htB (cutsP 44 s) t.data.toList)]) ∧ OwnN w' w.heap.size v (cutsP 44 s).length (netN (cutsP 44 s)) ∧ Below w.heap.size w w' := by
  have HO := Lib.hid (readNetwork_ok s w hs hm)
  have HTv := Lib.hid (fun m W => tvI_ok t m W (by unfold maxLen; omega))
  generalize cutsP 44 s = ps at HO
  cases hb : netB ps with
  | false =>
    have HV := Lib.hid (ht_no (l := t.data.toList) hb)
    rw [hb] at HO
    clear hb
    go_enter Tryd.func65, Tryd.ntmps65
    go_wp2_with fail
    refine HO.out.mono ?_
    rintro e w1 ⟨v, rfl, o1, b1⟩
    have O1 := Lib.hid o1
    clear o1
    go_wp2_with fail
    go_ret2
    exact ⟨_, retv HV.out.symm, O1.out, b1⟩
  | true =>
    have HV := Lib.hid (ht_in (l := t.data.toList) hb)
    have HN := Lib.hid (netN_yes hb)
    have hlen := bitsN_len ps ps.length
    rw [hb] at HO
    clear hb
    go_enter Tryd.func65, Tryd.ntmps65
    go_wp2_with fail
    refine HO.out.mono ?_
    rintro e w1 ⟨v, rfl, o1, b1⟩
    have O1 := Lib.hid o1
    rw [HN.out] at o1
    obtain ⟨a, c, rfl, _⟩ := o1.row (bitsN_wide ps ps.length)
    rw [hlen] at O1 ⊢
    have HTk := Lib.hid (HTv.out (ps.length : Int) w1)
    clear o1 hlen
    go_wp2_with fail
    refine HTk.out.mono ?_
    rintro e w2 ⟨rfl, rfl⟩
    go_wp2_with fail
    go_ret2
    exact ⟨_, retv HV.out.symm, O1.out, b1⟩

set_option maxHeartbeats 1000000 in
theorem hsClosure_ok (s k p3 p8 v : Nat) (t : ByteArray) (w : World) (hk : k < t.size) (hv : ((t[k].toNat : Nat) : Int) = 48 + (v : Nat)) (hv2 : v < 2) (c3 : w.cell? ⟨p3, 0, none⟩ = some (.string t)) (c8 : w.cell? ⟨p8, 0, none⟩ = some (.int .i64 k)) :
    Calls Tryd.prog 71 #[.int .i64 s, .pointer (some ⟨p3, 0, none⟩), .pointer (some ⟨p8, 0, none⟩)] w fun e w' => e = .returned (.int .u8 (v : Nat)) ∧ Below w.heap.size w w' := by
  have hkw : (k : Int) < (t.size : Int) := by omega
  have HW : Hid (IntKind.u8.wrap (((t[k].toNat : Nat) : Int) - 48) = ((v : Nat) : Int)) := by unfold Hid; rw [hv, IntKind.wrap_u8]; omega
  have hw1 := HW.out
  clear hv
  go_enter Tryd.func71, Tryd.ntmps71
  go_wp2_with fail
  go_ret
  exact ⟨rfl, Below.refl _ _⟩

end Go.Proofs.YthgjmciiaikgoaaDoor
