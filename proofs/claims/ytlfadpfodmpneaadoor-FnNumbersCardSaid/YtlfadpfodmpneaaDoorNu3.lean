/- Walks: FormatNumbers on both sides; the law on it. -/
import Derived.Test.YtlfadpfodmpneaaDoorNu2
import Derived.Test.YtlfadpfodmpneaaDoorF2
import Derived.Test.YtlfadpfodmpneaaDoorJn
import Derived.Sort.Grow
namespace Go.Proofs.YtlfadpfodmpneaaDoor
open Go.RowKit

/-- All numbers are 64-bit ones. -/
def InR (zs : List Int) : Prop := ∀ i, i < zs.length → -9223372036854775808 ≤ gI zs i ∧ gI zs i ≤ 9223372036854775807
noncomputable def nusF (zs : List Int) (i : Nat) : ByteArray := itB (gI zs i)
noncomputable def nusV (zs : List Int) : ByteArray := if zs.length = 0 then ⟨#[45]⟩ else joinF (nusF zs) ⟨#[32]⟩ zs.length
theorem nusV_nil : nusV [] = ⟨#[45]⟩ := rfl
theorem nusV_yes {zs : List Int} (h : 0 < zs.length) : nusV zs = joinF (nusF zs) ⟨#[32]⟩ zs.length := by rw [nusV, if_neg (by omega)]
theorem gI_out {zs : List Int} {i : Nat} (h : ¬ i < zs.length) : gI zs i = 0 := by simp [gI, List.getD, List.getElem?_eq_none (show zs.length ≤ i by omega)]
theorem nusF_le {zs : List Int} (h : InR zs) (i : Nat) : (nusF zs i).size ≤ 21 := by
  by_cases hi : i < zs.length
  · exact itB_le (h i hi).1 (h i hi).2
  · rw [nusF, gI_out hi]; exact itB_le (by omega) (by omega)

set_option maxHeartbeats 2000000 in
theorem nusS_ok (ao : Option Addr) (n c : Nat) (zs : List Int) (w : World) (h : RowI w ao n c zs) (hr : InR zs) (hn : n ≤ 1048576) :
    Calls Tryd.prog 6 #[.slice ao n c] w fun e w' => e = .returned (.string (nusV zs)) ∧ Below w.heap.size w w' := by
  obtain rfl := h.1
  have HF5 := Lib.hid (nusF_le hr)
  go_enter Tryd.func6, Tryd.ntmps6
  go_wp2_with fail
  go_loopw [3, 4] (fun v i wr => ∃ k : Nat, k ≤ zs.length ∧ i = .int .i64 k ∧ v = .string (joinF (nusF zs) ⟨#[32]⟩ k) ∧ Below w.heap.size w wr) (fun _ i _ => zs.length - (intOf i).toNat)
  case atStart => exact ⟨0, Nat.zero_le _, rfl, rfl, Below.refl _ _⟩
  case round =>
    obtain ⟨k, hk, rfl, rfl, hb⟩ := hrel
    have hz := joinF_size (nusF zs) ⟨#[32]⟩ 21 (by decide) HF5.out k
    by_cases hlt : k < zs.length
    · obtain ⟨b, o, rfl, hbo⟩ := h.2.some (by omega)
      have hcx := (h.below hb (Nat.le_refl _)).2.cell b o rfl k hlt
      have hlt' : (k : Int) < (zs.length : Int) := by omega
      have HS := Lib.hid (l14Dec_ok (gI zs k) (hr k hlt).1 (hr k hlt).2 wr)
      have HF : Hid (itB (gI zs k) = nusF zs k) := rfl
      have hz3 : (itB (gI zs k)).size ≤ 21 := HF5.out k
      have hz2 : (joinF (nusF zs) ⟨#[32]⟩ k).size ≤ 1099512676352 := by omega
      have HN := Lib.hid (joinF_next (nusF zs) ⟨#[32]⟩ k)
      have HN1 : Hid (joinF (nusF zs) ⟨#[32]⟩ 1 = joinF (nusF zs) ⟨#[32]⟩ 0 ++ nusF zs 0) := rfl
      have HB := Lib.hid hb
      clear h hz hr hb
      by_cases h0 : 0 < k
      · generalize joinF (nusF zs) ⟨#[32]⟩ k = t at hz2 HN
        generalize itB (gI zs k) = u at hz3 HS HF
        go_wp2_with fail
        refine HS.out.mono ?_
        rintro e w1 ⟨rfl, b1⟩
        go_wp2_with fail
        go_roundw
        case rel => exact ⟨k + 1, by omega, by go_num, by rw [HN.out h0, ← HF.out], HB.out.trans (b1.mono HB.out.size)⟩
        case measure => simp [intOf]; omega
      · obtain rfl : k = 0 := by omega
        generalize joinF (nusF zs) ⟨#[32]⟩ 0 = t at hz2 HN1
        generalize itB (gI zs 0) = u at hz3 HS HF
        rw [Nat.add_zero] at hcx
        go_wp2_with fail
        refine HS.out.mono ?_
        rintro e w1 ⟨rfl, b1⟩
        go_wp2_with fail
        go_roundw
        case rel => exact ⟨1, by omega, rfl, by rw [HN1.out, ← HF.out], HB.out.trans (b1.mono HB.out.size)⟩
        case measure => simp [intOf]; omega
    · obtain rfl : k = zs.length := by omega
      clear h hz hr
      by_cases h0 : 0 < zs.length
      · have HN := Lib.hid (nusV_yes h0)
        have hne : (joinF (nusF zs) ⟨#[32]⟩ zs.length).toList.isEmpty = false := by
          obtain ⟨q, hq⟩ : ∃ q, zs.length = q + 1 := ⟨zs.length - 1, by omega⟩
          rw [hq]
          refine ne_empty ?_
          simp only [joinF, ByteArray.size_append]
          have h2 : 0 < (nusF zs q).size := itB_pos _
          omega
        generalize joinF (nusF zs) ⟨#[32]⟩ zs.length = t at hne HN
        go_wp2_with fail
        go_ret
        exact ⟨rett HN.out.symm, hb⟩
      · have e0 : zs = [] := List.eq_nil_of_length_eq_zero (by omega)
        subst e0
        have hj0 : joinF (nusF []) ⟨#[32]⟩ 0 = ⟨#[]⟩ := rfl
        have HN := Lib.hid nusV_nil
        simp only [List.length_nil, hj0]
        go_wp2_with fail
        go_ret
        exact ⟨rett HN.out.symm, hb⟩

/-- The library's table of powers of ten is as its text lays it. -/
def PowIs (w : World) : Prop := Lib.TabIs Tryd.prog w "internal/strconv.uint64pow10" .u64 Lib.pow10Tab
theorem PowIs.below {w w' : World} {B : Nat} (h : PowIs w) (hb : Below B w w') (hB : w.heap.size ≤ B) : PowIs w' := by
  unfold PowIs Lib.TabIs World.var? at h ⊢
  cases hg : Tryd.prog.globalNamed "internal/strconv.uint64pow10" with
  | none => rw [hg] at h; cases h
  | some g =>
    rw [hg] at h
    simp only [Option.bind_some] at h ⊢
    cases hx : w.heap[g]? with
    | none => rw [hx] at h; cases h
    | some o =>
      have hlt : g < w.heap.size := (Array.getElem?_eq_some_iff.1 hx).1
      rw [hb.block g (by omega)]
      exact h
theorem below_growN (w : World) (k : Nat) (os : Array Obj) : Below w.heap.size w (Go.Sort.grow (w.drewN k) os) :=
  ⟨rfl, rfl, rfl, by simp [Go.Sort.grow, World.drewN], fun i hi => by
    show (w.heap ++ os)[i]? = w.heap[i]?
    rw [Array.getElem?_append_left hi]⟩
theorem itoa_ok (n : Int) (h0 : -9223372036854775808 ≤ n) (h1 : n ≤ 9223372036854775807) (w : World) (hp : PowIs w) :
    Calls Tryd.prog 21 #[.int .i64 n] w fun e w' => e = .returned (.string (itB n)) ∧ Below w.heap.size w w' :=
  (Tryd.strconv_Itoa n h0 h1 w hp).mono (by rintro e w' ⟨h, k, os, rfl⟩; exact ⟨h, below_growN _ _ _⟩)

set_option maxHeartbeats 2000000 in
theorem nusI_ok (ao : Option Addr) (n c : Nat) (zs : List Int) (w : World) (h : RowI w ao n c zs) (hr : InR zs) (hn : n ≤ 1048576) (hp : PowIs w) :
    Calls Tryd.prog 8 #[.slice ao n c] w fun e w' => e = .returned (.string (nusV zs)) ∧ Below w.heap.size w w' := by
  obtain rfl := h.1
  by_cases hpos : 0 < zs.length
  rotate_left
  · have e0 : zs = [] := List.eq_nil_of_length_eq_zero (by omega)
    subst e0
    have HN := Lib.hid nusV_nil
    simp only [List.length_nil]
    go_enter Tryd.func8, Tryd.ntmps8
    go_wp2
    go_ret
    exact ⟨rett HN.out.symm, Below.refl _ _⟩
  have hne0 : ((zs.length : Int) == 0) = false := by
    have : ¬ (zs.length : Int) = 0 := by omega
    simpa using this
  have hnz : ¬ zs = [] := fun e => by rw [e] at hpos; exact absurd hpos (by decide)
  have HF5 := Lib.hid (nusF_le hr)
  have HP := Lib.hid (fun W (hW : Below w.heap.size w W) => hp.below hW (Nat.le_refl _))
  clear hp
  go_enter Tryd.func8, Tryd.ntmps8
  go_wp2_with fail
  go_loopw [3, 11] (fun v i wr => ∃ k : Nat, k ≤ zs.length ∧ i = .int .i64 k ∧ OwnT wr w.heap.size v (listF (nusF zs) k) ∧ Below w.heap.size w wr) (fun _ i _ => zs.length - (intOf i).toNat)
  case atStart => exact ⟨0, Nat.zero_le _, rfl, OwnT.nil _ _, Below.refl _ _⟩
  case round =>
    obtain ⟨k, hk, rfl, ho, hb⟩ := hrel
    have HO := Lib.hid ho
    have HB := Lib.hid hb
    have hlen := listF_len (nusF zs) k
    by_cases hlt : k < zs.length
    · obtain ⟨b, o, rfl, hbo⟩ := h.2.some (by omega)
      have hcx := (h.below hb (Nat.le_refl _)).2.cell b o rfl k hlt
      have hlt' : (k : Int) < (zs.length : Int) := by omega
      have HS := Lib.hid (itoa_ok (gI zs k) (hr k hlt).1 (hr k hlt).2 wr (HP.out wr hb))
      have HF : Hid (itB (gI zs k) = nusF zs k) := rfl
      have HN := Lib.hid (listF_next (nusF zs) k)
      clear h ho hb hr
      generalize itB (gI zs k) = u at HS HF
      go_wp2_with fail
      refine HS.out.mono ?_
      rintro e w2 ⟨rfl, b2⟩
      have HB2 := Lib.hid (HB.out.trans (b2.mono HB.out.size))
      have HO2 := Lib.hid (HO.out.below b2 (Nat.le_refl _))
      have HCe := Lib.hid ((Blk.new w2 9 [.string u]).cell (i := 0) rfl)
      clear b2
      go_wp2_with (at_builtin; go_must (refine wpList_appT (OwnT.alloc HO2.out _) HCe.out rfl _ _ rfl rfl rfl (by omega) (by have := HB2.out.size; simp; omega) ?_); intro v3 w3 o3 g3)
      go_roundw
      case rel => exact ⟨k + 1, by omega, by go_num, by rw [HN.out, ← HF.out]; exact o3, (HB2.out.alloc HB2.out.size _).grown g3 (by have := HB2.out.size; simp; omega) (fun j hj => (World.ownsRow.lt HO2.out j hj).1)⟩
      case measure => simp [intOf] <;> omega
    · obtain rfl : k = zs.length := by omega
      have HN := Lib.hid (nusV_yes hpos)
      obtain ⟨a, cp, rfl, q⟩ := ho.row
      obtain ⟨bk, off, rfl, hbk⟩ := q.2.some (by omega)
      have hz := joinF_size (nusF zs) ⟨#[32]⟩ 21 (by decide) HF5.out zs.length
      have HJ := Lib.hid (Tryd.strings_Join bk off cp (listF (nusF zs) zs.length) ⟨#[32]⟩ wr (fun j x hj => by
        have hjl : j < (listF (nusF zs) zs.length).length := (List.getElem?_eq_some_iff.1 hj).1
        rw [q.2.cell bk off rfl j hjl]
        have := gT_lt hjl
        rw [hj] at this
        cases this
        rfl) hbk (by omega) q.2.le (by rw [join_len _ _ _ hpos]; omega))
      rw [hlen, join_eq _ _ _ hpos] at HJ
      clear q ho h hz hr
      go_wp2_with fail
      refine HJ.out.mono ?_
      rintro e w1 ⟨rfl, b1⟩
      go_wp2_with fail
      go_ret
      exact ⟨rett HN.out.symm, hb.trans (b1.mono hb.size)⟩

set_option maxHeartbeats 1000000 in
theorem FnExactFormatNumbers_ok (ao : Option Addr) (n c : Nat) (zs : List Int) (w : World) (h : RowI w ao n c zs) (hr : InR zs) (hp : PowIs w) :
    Calls Tryd.prog 3 #[.slice ao n c] w fun e w' => e = .returned (.bool true) ∧ Below w.heap.size w w' := by
  have hml := h.2.cap
  have hml' := h.2.le
  unfold maxLen at hml
  have HR := Lib.hid hr
  have HP := Lib.hid (fun W (hW : Below w.heap.size w W) => hp.below hW (Nat.le_refl _))
  clear hr hp
  go_enter Tryd.func3, Tryd.ntmps3
  by_cases hbig : 1048576 < n
  · go_wp2
    go_ret
    exact ⟨rfl, Below.refl _ _⟩
  · have hn : n * 8 ≤ 281474976710656 := by omega
    go_wp2_with fail
    refine (toIntS_ok _ _ _ zs _ h hn).mono ?_
    rintro e w1 ⟨x1, rfl, k1, b1⟩
    go_wp2_with fail
    refine (nusS_ok _ _ _ zs _ k1.rowI HR.out (by omega)).mono ?_
    rintro e w2 ⟨rfl, b2⟩
    go_wp2_with fail
    have c2 : Below w.heap.size w w2 := b1.trans (b2.mono b1.size)
    refine (toIntS_ok _ _ _ zs _ (h.below c2 (Nat.le_refl _)) hn).mono ?_
    rintro e w3 ⟨x3, rfl, k3, b3⟩
    have c3 : Below w.heap.size w w3 := c2.trans (b3.mono c2.size)
    go_wp2_with fail
    refine (nusI_ok _ _ _ zs _ k3.rowI HR.out (by omega) (HP.out _ c3)).mono ?_
    rintro e w4 ⟨rfl, b4⟩
    have c4 : Below w.heap.size w w4 := c3.trans (b4.mono c3.size)
    generalize nusV zs = t
    go_wp2_with fail
    refine (toIntS_ok _ _ _ zs _ (h.below c4 (Nat.le_refl _)) hn).mono ?_
    rintro e w5 ⟨x5, rfl, k5, b5⟩
    have c5 : Below w.heap.size w w5 := c4.trans (b5.mono c4.size)
    go_wp2_with fail
    refine (eqIntS_ok _ _ _ _ _ _ zs zs _ ((k3.rowI.below b4 (Nat.le_refl _)).below b5 (Nat.le_refl _)) k5.rowI).mono ?_
    rintro e w6 ⟨rfl, b6⟩
    have c6 : Below w.heap.size w w6 := c5.trans (b6.mono c5.size)
    simp only [decide_true]
    go_wp2_with fail
    go_ret
    exact ⟨rfl, c6⟩

end Go.Proofs.YtlfadpfodmpneaaDoor
