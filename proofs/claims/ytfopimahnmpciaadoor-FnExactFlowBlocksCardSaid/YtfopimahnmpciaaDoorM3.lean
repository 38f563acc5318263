/- Walks: a network read from a text, as the program does it. -/
import Derived.Test.YtfopimahnmpciaaDoorM2
import Derived.Test.YtfopimahnmpciaaDoorN4
import Derived.Test.YtfopimahnmpciaaDoorShelf
namespace Go.Proofs.YtfopimahnmpciaaDoor
open Go.RowKit

theorem cutsP_count (c : UInt8) (s : ByteArray) : (cutsP c s).length = Lib.countB s ⟨#[c]⟩ + 1 := Lib.splitB_all ⟨#[c]⟩ (Nat.le_refl 1) 0 _ s rfl

/-- What strings.Split asks of the world: a variable of its own holds some number. -/
def MaxLenIs (w : World) : Prop := ∃ m, w.cell? ⟨0, 0, none⟩ = some (.int .i64 m)
theorem MaxLenIs.lt {w : World} (h : MaxLenIs w) : 0 < w.heap.size := let ⟨_, hm⟩ := h; World.block_lt_of_cell? w ⟨0, 0, none⟩ hm
theorem MaxLenIs.below {w w' : World} {B : Nat} (h : MaxLenIs w) (hb : Below B w w') (hB : w.heap.size ≤ B) : MaxLenIs w' := by
  obtain ⟨m, hm⟩ := h
  have hl := MaxLenIs.lt ⟨m, hm⟩
  exact ⟨m, (hb.cell (p := ⟨0, 0, none⟩) (by show 0 < B; omega)).trans hm⟩

theorem split_ok (s : ByteArray) (c : UInt8) (w : World) (hs : s.size ≤ 1048576) (hm : MaxLenIs w) :
    Calls Tryd.prog 24 #[.string s, .string ⟨#[c]⟩] w fun e w' => e = .returned (.slice (some ⟨w.heap.size, 0, none⟩) (cutsP c s).length (cutsP c s).length) ∧ w' = w.alloc (.cells (strs (cutsP c s)).toArray 9) := by
  obtain ⟨m, hm⟩ := hm
  rw [cutsP_count]
  exact Tryd.strings_Split s ⟨#[c]⟩ m w (by omega) hm (Nat.le_refl 1)

theorem RowT.of_blk {w : World} {g : Nat} {t : TypeId} {ts : List ByteArray} (h : Blk w g t (strs ts)) (hm : ts.length ≤ maxLen) : RowT w (some ⟨g, 0, none⟩) ts.length ts.length ts :=
  ⟨rfl, Nat.le_refl _, hm, fun e => (by cases e), fun _ => ⟨g, 0, rfl, h.lt⟩, fun b o e i hi => by
    cases e
    rw [Nat.zero_add]
    exact h.cell (strs_get ts i hi)⟩

/-- The tables of a network, as rows of bits. -/
def bitsN (ps : List ByteArray) (k : Nat) : List (List Int) := (List.range k).map fun i => eachL (byD (gT ps i)) (gT ps i).size
theorem bitsN_next (ps : List ByteArray) (k : Nat) : bitsN ps (k + 1) = bitsN ps k ++ [eachL (byD (gT ps k)) (gT ps k).size] := by simp [bitsN, List.range_succ]
theorem bitsN_len (ps : List ByteArray) (k : Nat) : (bitsN ps k).length = k := by simp [bitsN]
theorem bitsN_wide (ps : List ByteArray) (k : Nat) : W32 (bitsN ps k) := fun bs hb => by
  simp only [bitsN, List.mem_map] at hb
  obtain ⟨i, _, rfl⟩ := hb
  exact eachL_len _ _
def netN (ps : List ByteArray) : List (List Int) := if netB ps = true then bitsN ps ps.length else []
theorem netN_no {ps : List ByteArray} (h : netB ps = false) : netN ps = [] := by simp [netN, h]
theorem netN_yes {ps : List ByteArray} (h : netB ps = true) : netN ps = bitsN ps ps.length := by simp [netN, h]
theorem net_five {ps : List ByteArray} (h0 : 0 < ps.length) (h : netB ps = true) : ps.length ≤ 5 := by
  obtain ⟨_, h1⟩ := netB_get h 0 h0
  exact (inpV_eq h0 h1).1

theorem OwnN.base {w : World} {B B' : Nat} {v : Value} {n : Int} {bss : List (List Int)} (h : OwnN w B v n bss) (hB : B' ≤ B) : OwnN w B' v n bss := by
  obtain ⟨h0, h1 | ⟨g, cap, cur, e, hg, h2⟩⟩ := h
  · exact ⟨h0, .inl h1⟩
  · exact ⟨h0, .inr ⟨g, cap, cur, e, by omega, h2⟩⟩
/-- A slice of tables stands where only a new block that is not its own has turned. -/
theorem OwnN.grown' {w w2 w' : World} {B g : Nat} {v : Value} {n : Int} {bss : List (List Int)} (h : OwnN w B v n bss) (h2 : OwnN w2 B v n bss) (hg : w.grownBy w' (some g)) (hlt : w2.heap.size ≤ g := by exact Nat.le_refl _) : OwnN w' B v n bss := by
  obtain ⟨h0, h1 | ⟨q, cap, cur, e, hq, hh, h3⟩⟩ := h
  · exact ⟨h0, .inl h1⟩
  · obtain ⟨_, ⟨e2, _⟩ | ⟨q2, _, _, e2, _, hh2, _⟩⟩ := h2
    · rw [e] at e2; cases e2
    · rw [e] at e2
      cases e2
      have hl := lt_of_block hh2
      have hl1 := lt_of_block hh
      exact ⟨h0, .inr ⟨q, cap, cur, e, hq, by rw [hg.block q hl1 (by simp; omega)]; exact hh, h3⟩⟩
def goodT (ps : List ByteArray) (k : Nat) : Bool := digB (gT ps k) && decide (inpV (gT ps k).size = (ps.length : Int))

set_option maxHeartbeats 4000000 in
theorem readNetwork_ok (s : ByteArray) (w : World) (hs : s.size ≤ 1048576) (hm : MaxLenIs w) :
    Calls Tryd.prog 14 #[.string s] w fun e w' => ∃ v, e = .returned (.tuple #[v, .bool (netB (cutsP 44 s))]) ∧ OwnN w' w.heap.size v (cutsP 44 s).length (netN (cutsP 44 s)) ∧ Below w.heap.size w w' := by
  have HC := Lib.hid (split_ok s 44 w hs hm)
  have hpl := cutsP_len 44 s
  have hpz := cutsP_size 44 s
  have hp0 := cutsP_pos 44 s
  generalize cutsP 44 s = ps at HC hpl hpz hp0
  have HS := Lib.hid (fun k (hk : k < ps.length) => Nat.le_trans (hpz (gT ps k) (List.mem_of_getElem? (gT_lt hk))) hs)
  clear hpz hm
  by_cases h5 : 5 < ps.length
  · have HN : Hid (netB ps = false) := by
      unfold Hid
      rw [Bool.eq_false_iff]
      intro e
      have := net_five hp0 e
      omega
    go_enter Tryd.func14, Tryd.ntmps14
    go_wp2_with fail
    refine HC.out.mono ?_
    rintro e w1 ⟨rfl, rfl⟩
    go_wp2_with fail
    go_ret2
    exact ⟨_, retv HN.out.symm, by rw [netN_no HN.out]; exact OwnN.nil _ _ _, (Below.refl _ _).alloc (Nat.le_refl _) _⟩
  · have hq0 := RowT.of_blk (Blk.new w 9 (strs ps)) (by unfold maxLen; omega)
    have hb0 : Below w.heap.size w (w.alloc (.cells (strs ps).toArray 9)) := (Below.refl _ _).alloc (Nat.le_refl _) _
    have HQ0 := Lib.hid hq0
    have HB0 := Lib.hid hb0
    clear hq0 hb0
    go_enter Tryd.func14, Tryd.ntmps14
    go_wp2_with fail
    refine HC.out.mono ?_
    rintro e w1 ⟨rfl, rfl⟩
    go_wp2_with fail
    generalize w.alloc (.cells (strs ps).toArray 9) = wa at HQ0 HB0
    go_loopw [5, 17] (fun v i wr => ∃ k : Nat, k ≤ ps.length ∧ i = .int .i64 k ∧ OwnN wr wa.heap.size v ps.length (bitsN ps k) ∧ (∀ j, j < k → goodT ps j = true) ∧ Below wa.heap.size wa wr) (fun _ i _ => ps.length - (intOf i).toNat)
    case atStart => exact ⟨0, Nat.zero_le _, rfl, OwnN.nil _ _ _, fun j h => absurd h (Nat.not_lt_zero _), Below.refl _ _⟩
    case round =>
      obtain ⟨k, hk, rfl, ho, hall, hb⟩ := hrel
      have HA := Lib.hid hall
      have HO := Lib.hid ho
      have HB := Lib.hid hb
      have hlen := bitsN_len ps k
      clear hall ho
      by_cases hlt : k < ps.length
      · have hrow := HQ0.out.below hb (Nat.le_refl _)
        obtain ⟨b, o, hbo, _⟩ := hrow.2.some (by omega)
        cases hbo
        have hcx := hrow.2.cell w.heap.size 0 rfl k hlt
        rw [Nat.zero_add] at hcx
        have hlt' : (k : Int) < (ps.length : Int) := by omega
        have HR := Lib.hid (readTable_ok (gT ps k) wr (HS.out k hlt))
        clear hrow hb
        cases ht : tvB (gT ps k) with
        | false =>
          have hg : goodT ps k = false := by
            rw [tvB, Bool.and_eq_false_iff] at ht
            rw [goodT, Bool.and_eq_false_iff]
            rcases ht with h | h
            · exact .inl h
            · refine .inr ?_
              simp only [decide_eq_false_iff_not] at h ⊢
              omega
          have HQ := Lib.hid (netB_not hlt hg)
          rw [ht, rtV_no ht] at HR
          clear ht hg
          go_wp2_with fail
          refine HR.out.mono ?_
          rintro e w2 ⟨rfl, b2⟩
          have HB2 := Lib.hid (HB.out.trans (b2.mono HB.out.size))
          have HBn := Lib.hid (Blk.new w2 50 (tabC 0 z32))
          clear b2
          go_wp2_with (first | (refine wpList_tabAlloc rfl rfl ?_) | (refine wpList_tabStore rfl _ _ rfl _ 0 z32 rfl rfl rfl _ _ HBn.out rfl ?_; intro w4 k4 g4 z4))
          have c4 : Below wa.heap.size wa w4 := (HB2.out.alloc HB2.out.size _).grown g4 (by have := HB2.out.size; simp; omega) (fun j hj => by cases hj; exact HB2.out.size)
          go_ret2
          exact ⟨_, retv HQ.out.symm, by rw [netN_no HQ.out]; exact OwnN.nil _ _ _, HB0.out.trans (c4.mono HB0.out.size)⟩
        | true =>
          have HT := Lib.hid ht
          rw [ht, rtV_yes ht] at HR
          clear ht
          by_cases he : inpV (gT ps k).size = (ps.length : Int)
          · have hg : goodT ps k = true := by
              have := HT.out
              rw [tvB, Bool.and_eq_true] at this
              rw [goodT, this.1, decide_eq_true he]; rfl
            have HG := Lib.hid hg
            have HN := Lib.hid (bitsN_next ps k)
            have hne : ((ps.length : Int) != (ps.length : Int)) = false := by simp
            rw [he] at HR
            have HL := Lib.hid (eachL_len (byD (gT ps k)) (gT ps k).size)
            generalize eachL (byD (gT ps k)) (gT ps k).size = bs at HR HN HL
            clear he hg
            go_wp2_with fail
            refine HR.out.mono ?_
            rintro e w2 ⟨rfl, b2⟩
            have HB2 := Lib.hid (HB.out.trans (b2.mono HB.out.size))
            have HO2 := Lib.hid (HO.out.below b2 (Nat.le_refl _))
            have HBn := Lib.hid (Blk.new w2 50 (tabC 0 z32))
            clear b2
            go_wp2_with (first | (refine wpList_tabAlloc rfl rfl ?_) | (refine wpList_tabStore rfl _ _ rfl _ (ps.length : Int) bs rfl rfl HL.out _ _ HBn.out rfl ?_; intro w4 k4 g4 z4; have c4 := Lib.hid ((HB2.out.alloc HB2.out.size _).grown g4 (by have := HB2.out.size; simp; omega) (fun j hj => by cases hj; exact HB2.out.size)); have o4 := Lib.hid (OwnN.grown' (HO2.out.alloc _) HO2.out g4); have hn4 := k4.cell (tabC_zero (ps.length : Int) bs); have K4 := Lib.hid k4; clear k4 g4) | (refine wpList_tabLoad rfl _ rfl _ (ps.length : Int) bs rfl HL.out _ K4.out ?_) | (refine wpList_tabSlice rfl _ rfl (ps.length : Int) bs rfl HL.out ?_) | (at_builtin; refine wpList_appN (o4.out.alloc _) HL.out (Blk.new _ _ _) rfl _ _ rfl rfl rfl (by omega) (by have := c4.out.size; simp; omega) ?_; intro v5 w5 o5 g5))
            go_roundw
            case rel => exact ⟨k + 1, by omega, by go_num, by rw [HN.out]; exact o5, fun j hj => by
                by_cases e : j = k
                · rw [e]; exact HG.out
                · exact HA.out j (by omega), (c4.out.alloc c4.out.size _).grown g5 (by have := c4.out.size; simp; omega) (fun j hj => (World.ownsRow.lt o4.out j hj).1)⟩
            case measure => simp [intOf] <;> omega
          · have hg : goodT ps k = false := by
              rw [goodT, decide_eq_false he]; simp
            have HQ := Lib.hid (netB_not hlt hg)
            have hne : (inpV (gT ps k).size != (ps.length : Int)) = true := by simp [he]
            have HL := Lib.hid (eachL_len (byD (gT ps k)) (gT ps k).size)
            generalize eachL (byD (gT ps k)) (gT ps k).size = bs at HR HL
            generalize inpV (gT ps k).size = u at HR hne
            clear he hg
            go_wp2_with fail
            refine HR.out.mono ?_
            rintro e w2 ⟨rfl, b2⟩
            have HB2 := Lib.hid (HB.out.trans (b2.mono HB.out.size))
            have HBn := Lib.hid (Blk.new w2 50 (tabC 0 z32))
            clear b2
            go_wp2_with (first | (refine wpList_tabAlloc rfl rfl ?_) | (refine wpList_tabStore rfl _ _ rfl _ u bs rfl rfl HL.out _ _ HBn.out rfl ?_; intro w4 k4 g4 z4; have c4 := Lib.hid ((HB2.out.alloc HB2.out.size _).grown g4 (by have := HB2.out.size; simp; omega) (fun j hj => by cases hj; exact HB2.out.size)); have hn4 := k4.cell (tabC_zero u bs); clear k4 g4))
            go_ret2
            exact ⟨_, retv HQ.out.symm, by rw [netN_no HQ.out]; exact OwnN.nil _ _ _, HB0.out.trans (c4.out.mono HB0.out.size)⟩
      · obtain rfl : k = ps.length := by omega
        have HQ := Lib.hid (netB_yes HA.out)
        clear hb
        go_wp2_with fail
        go_ret2
        exact ⟨_, retv HQ.out.symm, by rw [netN_yes HQ.out]; exact HO.out.base HB0.out.size, HB0.out.trans (HB.out.mono HB0.out.size)⟩

end Go.Proofs.YtfopimahnmpciaaDoor
