/- Walks and plain facts of one law: several of my texts in one. -/
import Derived.Test.YtjkgcgbialiipaaDoorGrC
import Derived.Test.YtjkgcgbialiipaaDoorGrE
import Derived.Maps.AppendAt
import Derived.Test.YtjkgcgbialiipaaDoorGrB
import Derived.Deep.RegionHeld3
import Derived.Test.YtjkgcgbialiipaaDoorGrD
/- Walks: blocks that are drawn. -/
namespace Go.Proofs.YtjkgcgbialiipaaDoor
open Go.RowKit

/-- A list of numbers is drawn. -/
def ListP (g P M : Nat) (w : World) (e : Ending) (w' : World) : Prop := ∃ v zs, e = .returned v ∧ zs.length ≤ M ∧ OwnI w' w.heap.size v zs ∧ Rd w' g P ∧ DrB g w.heap.size w w'

/-- What the three orders of a statement that builds a list anew have in common. -/
structure NewL (w1 W : World) (v : Value) : Prop where
  bel : Below w1.heap.size w1 W
  own : OwnI W w1.heap.size v []
theorem NewL.a (w1 : World) : NewL w1 (w1.alloc (.cells #[] 3)).drew (.slice (some ⟨w1.heap.size, 0, none⟩) 0 0) :=
  ⟨((Below.refl _ _).alloc (Nat.le_refl _) _).drew, OwnI.drew (OwnI.lit w1 w1.heap.size [] (Nat.le_refl _) (by decide))⟩
theorem NewL.b (w1 : World) (x : Int) : NewL w1 ((w1.alloc (.cells #[] 3)).alloc (.cells #[.int .i64 x] 3)).drew (.slice (some ⟨w1.heap.size, 0, none⟩) 0 0) :=
  ⟨(((Below.refl _ _).alloc (Nat.le_refl _) _).alloc (by simp) _).drew, OwnI.drew (OwnI.alloc (OwnI.lit w1 w1.heap.size [] (Nat.le_refl _) (by decide)) _)⟩
theorem NewL.c (w1 : World) (x : Int) : NewL w1 ((w1.alloc (.cells #[.int .i64 x] 3)).alloc (.cells #[] 3)).drew (.slice (some ⟨w1.heap.size + 1, 0, none⟩) 0 0) := by
  refine ⟨(((Below.refl _ _).alloc (Nat.le_refl _) _).alloc (by simp) _).drew, OwnI.drew ?_⟩
  have := OwnI.lit (w1.alloc (.cells #[.int .i64 x] 3)) w1.heap.size [] (by simp) (by decide)
  rw [show (w1.alloc (.cells #[.int .i64 x] 3)).heap.size = w1.heap.size + 1 by simp] at this
  exact this
theorem one_b (w1 : World) (x : Int) : RowI ((w1.alloc (.cells #[] 3)).alloc (.cells #[.int .i64 x] 3)).drew (some ⟨w1.heap.size + 1, 0, none⟩) 1 1 [x] := by
  have := RowI.drew (RowI.one (w1.alloc (.cells #[] 3)) x)
  rw [show (w1.alloc (.cells #[] 3)).heap.size = w1.heap.size + 1 by simp] at this
  exact this
theorem one_c (w1 : World) (x : Int) : RowI ((w1.alloc (.cells #[.int .i64 x] 3)).alloc (.cells #[] 3)).drew (some ⟨w1.heap.size, 0, none⟩) 1 1 [x] :=
  RowI.drew ((RowI.one w1 x).below ((Below.refl _ _).alloc (Nat.le_refl _) _) (Nat.le_refl _))
theorem NewL.next {w1 W w3 : World} {v v3 : Value} {ys : List Int} (h : NewL w1 W v) (_ : OwnI w3 w1.heap.size v3 ys) (g : W.grownBy w3 v.ownBlock) : Below w1.heap.size w1 w3 := h.bel.grown g h.bel.size (fun j hj => (World.ownsRow.lt h.own j hj).1)
theorem own_next {w1 W w3 : World} {v : Value} {zs : List Int} (b : Below w1.heap.size w1 W) (h : OwnI W w1.heap.size v zs) (g : W.grownBy w3 v.ownBlock) : Below w1.heap.size w1 w3 := b.grown g b.size (fun j hj => (World.ownsRow.lt h j hj).1)

theorem OwnI.base2 {w : World} {B B' : Nat} {v : Value} {zs : List Int} (h : OwnI w B v zs) (hB : B' ≤ B) : OwnI w B' v zs := by
  obtain ⟨h0, h1 | ⟨g, cap, cur, e, hg, h2⟩⟩ := h
  · exact ⟨h0, .inl h1⟩
  · exact ⟨h0, .inr ⟨g, cap, cur, e, Nat.le_trans hB hg, h2⟩⟩

theorem OwnI.out2 {w : World} {B : Nat} {v : Value} {zs : List Int} (h : OwnI w B v zs) : ∃ ao c, v = .slice ao zs.length c ∧ OutI w B ao zs.length c zs ∧ (∀ a, ao = some a → ∃ b o, a = ⟨b, o, none⟩) := by
  have h0 := h
  obtain ⟨_, ⟨rfl, hn⟩ | ⟨g, cap, cur, rfl, hg, hh, hle, hm, hs, ht⟩⟩ := h
  · obtain ⟨ao, c, e, ho⟩ := h0.out
    injection e with e1 e2 e3
    exact ⟨ao, c, by rw [← e1, ← e2, ← e3], ho, fun a ha => by rw [← e1] at ha; cases ha⟩
  · obtain ⟨ao, c, e, ho⟩ := h0.out
    injection e with e1 e2 e3
    exact ⟨ao, c, by rw [← e1, ← e3], ho, fun a ha => by rw [← e1] at ha; cases ha; exact ⟨_, _, rfl⟩⟩

set_option maxRecDepth 100000 in
set_option maxHeartbeats 4000000 in
theorem l3Orders_ok (g P n : Nat) (w : World) (h : Rd w g P) (hn : n ≤ 5) (hP : P ≤ 700000) :
    Calls Tryd.prog 163 #[.pointer (some ⟨g, 0, none⟩), .int .i64 n] w (ListP g (P + 20) 6 w) := by
  have hgw := h.lt
  have HK := Lib.hid (fun Q m W (h : Rd W g Q) (hQ : Q ≤ 1000000) (hm : m ≤ 1048576) => pick_ok g Q m W h hQ hm)
  have b0 : Below w.heap.size w (w.alloc (.cells #[] 3)) := (Below.refl _ _).alloc (Nat.le_refl _) _
  have R0 := Lib.hid (h.below b0 (Nat.le_refl _))
  have D0 := Lib.hid (DrB.ofB (g := g) b0)
  have O0 := Lib.hid (OwnI.lit w w.heap.size [] (Nat.le_refl _) (by decide))
  have hs0 : (w.alloc (.cells #[] 3)).heap.size = w.heap.size + 1 := by simp
  clear h b0
  go_enter Tryd.func163, Tryd.ntmps163
  go_wp2_with fail
  go_loopw [5, 6] (fun v q wr => ∃ (k : Nat) (zs : List Int), k ≤ n ∧ zs.length = k ∧ q = .int .i64 k ∧ OwnI wr w.heap.size v zs ∧ w.heap.size ≤ wr.heap.size ∧ Rd wr g (P + k) ∧ DrB g w.heap.size w wr) (fun _ q _ => n - (intOf q).toNat)
  case atStart => exact ⟨0, [], Nat.zero_le _, rfl, rfl, O0.out, by rw [hs0]; omega, R0.out, D0.out⟩
  case round =>
    obtain ⟨k, zs, hk, hzl, rfl, ho, hsz, hr, hd⟩ := hrel
    have HO := Lib.hid ho
    have HR := Lib.hid hr
    have HDr := Lib.hid hd
    clear ho hr hd
    by_cases hkn : k < n
    · have hkw : (k : Int) < (n : Int) := by omega
      obtain ⟨oa, oc, rfl, q1, hsp⟩ := HO.out.out2
      have hkc : (k : Int) + 1 = ((k + 1 : Nat) : Int) := by omega
      have HKk := Lib.hid (HK.out _ (k + 1) _ HR.out (by omega) (by omega))
      rw [← hkc] at HKk
      rw [hzl] at q1 ⊢
      clear hkc
      go_wp2_with fail
      refine HKk.out.mono ?_
      rintro e w1 ⟨a, rfl, ha, r1, g1⟩
      have hak : a ≤ k := by omega
      have haw : (a : Int) ≤ (k : Int) := by omega
      have hac : (a : Int) ≤ (oc : Int) := by have := q1.2.row.le; omega
      have hz1 : RowI w1 oa k oc zs := q1.rowI.grown g1 (fun x e e2 => by have := q1.2.own x e; have e3 := Option.some.inj e2; omega)
      have hsz1 := g1.size
      have HZ := Lib.hid hz1
      have R1 := Lib.hid r1
      have D1 := Lib.hid (HDr.out.trans ((DrB.ofG g1).mono HDr.out.size))
      clear r1 q1 hz1 ha g1
      cases oa with
      | none =>
        have hoc0 : oc = 0 := HZ.out.2.nil rfl
        have hk0 : k = 0 := by have := HZ.out.2.le; omega
        subst hoc0
        obtain rfl : a = 0 := by omega
        have hzn : zs = [] := List.eq_nil_of_length_eq_zero (by omega)
        subst hk0 hzn
        have HNa := Lib.hid (NewL.a w1)
        have HNb := Lib.hid (NewL.b w1 ((0 : Nat) : Int))
        have HNc := Lib.hid (NewL.c w1 ((0 : Nat) : Int))
        have HT := Lib.hid (RowI.empty w1 none 0 (Nat.zero_le _) (fun _ => rfl))
        have HDp := Lib.hid (RowI.empty w1 none 0 (Nat.zero_le _) (fun _ => rfl))
        have hb1 : (([] : List Int).length + 0) * 8 ≤ 140737488355328 := by simp
        have hb2 : (([] ++ ([] : List Int)).length + 1) * 8 ≤ 140737488355328 := by simp
        have hb3 : (([] ++ ([] : List Int) ++ [((0 : Nat) : Int)]).length + 0) * 8 ≤ 140737488355328 := by simp
        have HB1 := Lib.hid hb1
        have HB2 := Lib.hid hb2
        have HB3 := Lib.hid hb3
        clear hb1 hb2 hb3
        go_wp2_with fail
        go_region_law ((first
          | (refine step_appI HNa.out.own (HT.out.below HNa.out.bel (Nat.le_refl _)) rfl _ _ rfl rfl rfl HB1.out HNa.out.bel.size ?_; intro v3 w3 o3 g3; have c3 := own_next HNa.out.bel HNa.out.own g3)
          | (refine step_appI HNb.out.own (HT.out.below HNb.out.bel (Nat.le_refl _)) rfl _ _ rfl rfl rfl HB1.out HNb.out.bel.size ?_; intro v3 w3 o3 g3; have c3 := own_next HNb.out.bel HNb.out.own g3; have x3 := (one_b w1 ((0 : Nat) : Int)).grown g3 (fun x e e2 => by cases e; simp [Value.ownBlock] at e2))
          | (refine step_appI HNc.out.own (HT.out.below HNc.out.bel (Nat.le_refl _)) rfl _ _ rfl rfl rfl HB1.out HNc.out.bel.size ?_; intro v3 w3 o3 g3; have c3 := own_next HNc.out.bel HNc.out.own g3; have x3 := (one_c w1 ((0 : Nat) : Int)).grown g3 (fun x e e2 => by cases e; simp [Value.ownBlock] at e2))
          | (refine step_appI (OwnI.alloc o3 _) (RowI.one _ _) rfl _ _ rfl rfl rfl HB2.out (c3.alloc c3.size _).size ?_; intro v4 w4 o4 g4; have c4 := own_next (c3.alloc c3.size _) (OwnI.alloc o3 _) g4)
          | (refine step_appI o3 x3 rfl _ _ rfl rfl rfl HB2.out c3.size ?_; intro v4 w4 o4 g4; have c4 := own_next c3 o3 g4)
          | (refine step_appI o4 (HDp.out.below c4 (Nat.le_refl _)) rfl _ _ rfl rfl rfl HB3.out c4.size ?_; intro v5 w5 o5 g5; have c5 := own_next c4 o4 g5)))
        all_goals
          go_wp2_with fail
          go_roundw
          case rel => exact ⟨1, _, by omega, by simp, by go_num, OwnI.base2 o5 (Nat.le_trans hsz hsz1), Nat.le_trans (Nat.le_trans hsz hsz1) c5.size, (R1.out.below c5 (Nat.le_refl _)).more (by omega), D1.out.trans (DrB.ofB (c5.mono (Nat.le_trans hsz hsz1)))⟩
          case measure => simp [intOf] <;> omega
      | some ad =>
        obtain ⟨b, o, rfl⟩ := hsp ad rfl
        have h0k : (0 : Int) ≤ (a : Int) := by omega
        have HT := Lib.hid (HZ.out.take a hak)
        by_cases hoc : oc = a
        · have hka : k - a = 0 := by have := HZ.out.2.le; omega
          have hdr : zs.drop a = [] := List.drop_of_length_le (by omega)
          have HDp : Hid (RowI w1 (some ⟨b, o, none⟩) 0 0 []) := Lib.hid (RowI.empty _ _ _ (Nat.zero_le _) (fun e => by cases e))
          have hoc' : (a = oc) := hoc.symm
          subst hoc'
          have HNa := Lib.hid (NewL.a w1)
          have HNb := Lib.hid (NewL.b w1 k)
          have HNc := Lib.hid (NewL.c w1 k)
          have hb1 : (([] : List Int).length + a) * 8 ≤ 140737488355328 := by simp; omega
          have hb2 : (([] ++ zs.take a).length + 1) * 8 ≤ 140737488355328 := by simp; omega
          have hb3 : (([] ++ zs.take a ++ [(k : Int)]).length + 0) * 8 ≤ 140737488355328 := by simp; omega
          have HB1 := Lib.hid hb1
          have HB2 := Lib.hid hb2
          have HB3 := Lib.hid hb3
          clear hb1 hb2 hb3
          go_wp2_with fail
          go_region_law ((first
            | (refine step_appI HNa.out.own (HT.out.below HNa.out.bel (Nat.le_refl _)) rfl _ _ rfl rfl rfl HB1.out HNa.out.bel.size ?_; intro v3 w3 o3 g3; have c3 := own_next HNa.out.bel HNa.out.own g3)
            | (refine step_appI HNb.out.own (HT.out.below HNb.out.bel (Nat.le_refl _)) rfl _ _ rfl rfl rfl HB1.out HNb.out.bel.size ?_; intro v3 w3 o3 g3; have c3 := own_next HNb.out.bel HNb.out.own g3; have x3 := (one_b w1 k).grown g3 (fun x e e2 => by cases e; simp [Value.ownBlock] at e2))
            | (refine step_appI HNc.out.own (HT.out.below HNc.out.bel (Nat.le_refl _)) rfl _ _ rfl rfl rfl HB1.out HNc.out.bel.size ?_; intro v3 w3 o3 g3; have c3 := own_next HNc.out.bel HNc.out.own g3; have x3 := (one_c w1 k).grown g3 (fun x e e2 => by cases e; simp [Value.ownBlock] at e2))
            | (refine step_appI (OwnI.alloc o3 _) (RowI.one _ _) rfl _ _ rfl rfl rfl HB2.out (c3.alloc c3.size _).size ?_; intro v4 w4 o4 g4; have c4 := own_next (c3.alloc c3.size _) (OwnI.alloc o3 _) g4)
            | (refine step_appI o3 x3 rfl _ _ rfl rfl rfl HB2.out c3.size ?_; intro v4 w4 o4 g4; have c4 := own_next c3 o3 g4)
            | (refine step_appI o4 (HDp.out.below c4 (Nat.le_refl _)) rfl _ _ rfl rfl rfl HB3.out c4.size ?_; intro v5 w5 o5 g5; have c5 := own_next c4 o4 g5)))
          all_goals
            go_wp2_with fail
            go_roundw
            case rel => exact ⟨k + 1, _, by omega, by simp; omega, by go_num, OwnI.base2 o5 (Nat.le_trans hsz hsz1), Nat.le_trans (Nat.le_trans hsz hsz1) c5.size, (R1.out.below c5 (Nat.le_refl _)).more (by omega), D1.out.trans (DrB.ofB (c5.mono (Nat.le_trans hsz hsz1)))⟩
            case measure => simp [intOf] <;> omega
        · have hoc' : ¬ (a = oc) := fun e => hoc e.symm
          have HDp := Lib.hid (HZ.out.drop a hak)
          have HNa := Lib.hid (NewL.a w1)
          have HNb := Lib.hid (NewL.b w1 k)
          have HNc := Lib.hid (NewL.c w1 k)
          have hb1 : (([] : List Int).length + a) * 8 ≤ 140737488355328 := by simp; omega
          have hb2 : (([] ++ zs.take a).length + 1) * 8 ≤ 140737488355328 := by simp; omega
          have hb3 : (([] ++ zs.take a ++ [(k : Int)]).length + (k - a)) * 8 ≤ 140737488355328 := by simp; omega
          have HB1 := Lib.hid hb1
          have HB2 := Lib.hid hb2
          have HB3 := Lib.hid hb3
          clear hb1 hb2 hb3
          go_wp2_with fail
          go_region_law ((first
            | (refine step_appI HNa.out.own (HT.out.below HNa.out.bel (Nat.le_refl _)) rfl _ _ rfl rfl rfl HB1.out HNa.out.bel.size ?_; intro v3 w3 o3 g3; have c3 := own_next HNa.out.bel HNa.out.own g3)
            | (refine step_appI HNb.out.own (HT.out.below HNb.out.bel (Nat.le_refl _)) rfl _ _ rfl rfl rfl HB1.out HNb.out.bel.size ?_; intro v3 w3 o3 g3; have c3 := own_next HNb.out.bel HNb.out.own g3; have x3 := (one_b w1 k).grown g3 (fun x e e2 => by cases e; simp [Value.ownBlock] at e2))
            | (refine step_appI HNc.out.own (HT.out.below HNc.out.bel (Nat.le_refl _)) rfl _ _ rfl rfl rfl HB1.out HNc.out.bel.size ?_; intro v3 w3 o3 g3; have c3 := own_next HNc.out.bel HNc.out.own g3; have x3 := (one_c w1 k).grown g3 (fun x e e2 => by cases e; simp [Value.ownBlock] at e2))
            | (refine step_appI (OwnI.alloc o3 _) (RowI.one _ _) rfl _ _ rfl rfl rfl HB2.out (c3.alloc c3.size _).size ?_; intro v4 w4 o4 g4; have c4 := own_next (c3.alloc c3.size _) (OwnI.alloc o3 _) g4)
            | (refine step_appI o3 x3 rfl _ _ rfl rfl rfl HB2.out c3.size ?_; intro v4 w4 o4 g4; have c4 := own_next c3 o3 g4)
            | (refine step_appI o4 (HDp.out.below c4 (Nat.le_refl _)) rfl _ _ rfl rfl rfl HB3.out c4.size ?_; intro v5 w5 o5 g5; have c5 := own_next c4 o4 g5)))
          all_goals
            go_wp2_with fail
            go_roundw
            case rel => exact ⟨k + 1, _, by omega, by simp; omega, by go_num, OwnI.base2 o5 (Nat.le_trans hsz hsz1), Nat.le_trans (Nat.le_trans hsz hsz1) c5.size, (R1.out.below c5 (Nat.le_refl _)).more (by omega), D1.out.trans (DrB.ofB (c5.mono (Nat.le_trans hsz hsz1)))⟩
            case measure => simp [intOf] <;> omega
    · have hkw : ¬ (k : Int) < (n : Int) := by omega
      have hz6 : zs.length ≤ 5 := by omega
      go_wp2_with fail
      refine (HK.out _ 16 _ HR.out (by omega) (by omega)).mono ?_
      rintro e w1 ⟨x, rfl, hx, r1, g1⟩
      have R1 := Lib.hid r1
      have D1 := Lib.hid (HDr.out.trans ((DrB.ofG g1).mono HDr.out.size))
      have O1 := Lib.hid (HO.out.dr (DrB.ofG g1) (Nat.le_refl _) hgw)
      clear r1 g1
      by_cases x0 : x = 0
      · have tx : ((x : Int) == 0) = true := by rw [x0]; rfl
        clear x0 hx
        have b2 : Below w1.heap.size w1 (w1.alloc (.cells (ints [0, 5, -1]).toArray 3)) := (Below.refl _ _).alloc (Nat.le_refl _) _
        have HX := Lib.hid (num_lit g _ 3 [0, 5, -1] _ _ (R1.out.below b2 (Nat.le_refl _)) (Blk.new w1 3 (ints [0, 5, -1])) (by have := R1.out.lt; omega) rfl (by omega) (by omega) (by omega))
        have D2 := Lib.hid (D1.out.trans (DrB.ofB (g := g) (b2.mono D1.out.size)))
        have O2 := Lib.hid (O1.out.alloc (.cells (ints [0, 5, -1]).toArray 3))
        clear b2
        go_wp2_with fail
        refine HX.out.mono ?_
        rintro e w3 ⟨z, hz, rfl, r3, g3⟩
        generalize gI [0, 5, -1] z = q
        have R3 := Lib.hid r3
        have D3 := Lib.hid (D2.out.trans ((DrB.ofG g3).mono D2.out.size))
        have O3 := Lib.hid (O2.out.dr (DrB.ofG g3) (Nat.le_refl _) hgw)
        clear r3 g3 hz
        go_wp2_with (at_builtin; refine wpList_appI (OwnI.alloc O3.out _) (RowI.one _ _) rfl _ _ rfl rfl rfl (by omega) (by have := D3.out.size; simp; omega) ?_; intro v6 w6 o6 g6)
        go_ret
        exact ⟨_, _, rfl, by simp; omega, o6, (O3.out.oneApp hgw R3.out g6).more (by omega), (D3.out.alloc D3.out.size _).grown g6 (by have := D3.out.size; simp; omega) (fun j hj => (World.ownsRow.lt O3.out j hj).1)⟩
      · have tx : ((x : Int) == 0) = false := by rw [beq_eq_false_iff_ne]; omega
        clear x0 hx
        go_wp2_with fail
        go_ret
        exact ⟨_, zs, rfl, by omega, O1.out, R1.out.more (by omega), D1.out⟩

end Go.Proofs.YtjkgcgbialiipaaDoor
/- Walks: blocks that are drawn. -/
namespace Go.Proofs.YtjkgcgbialiipaaDoor
open Go.RowKit

/-- A cell of an own list is written. -/
theorem OwnI.store {w : World} {B g n cap : Nat} {zs : List Int} (h : OwnI w B (.slice (some ⟨g, 0, none⟩) n cap) zs) (k : Nat) (v : Int) : OwnI (w.setCell ⟨g, k, none⟩ (.int .i64 v)) B (.slice (some ⟨g, 0, none⟩) n cap) (zs.set k v) := by
  obtain ⟨h0, ⟨e, _⟩ | ⟨g', cap', cur, e, hg, hh, hle, hm, hs, ht⟩⟩ := h
  · cases e
  · cases e
    have hB : Blk w g 3 cur.toList := by unfold Blk; rw [hh]
    have hB2 := hB.set k (.int .i64 v)
    unfold Blk at hB2
    refine ⟨by simp [ints], .inr ⟨g, cap, _, by simp, hg, hB2, by simpa using hle, hm, by simpa using hs, ?_⟩⟩
    simp only [List.length_set] at ht ⊢
    rw [List.take_set, ht]
    simp [ints]
theorem OwnI.form {w : World} {B : Nat} {v : Value} {zs : List Int} (h : OwnI w B v zs) (hn : 0 < zs.length) : ∃ g c, v = .slice (some ⟨g, 0, none⟩) zs.length c ∧ B ≤ g ∧ g < w.heap.size ∧ RowI w (some ⟨g, 0, none⟩) zs.length c zs := by
  obtain ⟨ao, c, e, ho⟩ := h.out
  have h2 := h.2
  rcases h2 with ⟨rfl, h0⟩ | ⟨g, cap, cur, e2, hg, hh, _⟩
  · omega
  · rw [e2] at e
    injection e with e1 e3 e4
    exact ⟨g, c, by rw [e2, e4], hg, lt_of_block hh, by rw [e1]; exact ho.rowI⟩
theorem OwnI.free {w : World} {B g n c : Nat} {zs : List Int} (h : OwnI w B (.slice (some ⟨g, 0, none⟩) n c) zs) (i : Nat) : w.frozen? ⟨g, i, none⟩ = false := by
  obtain ⟨h0, ⟨e, _⟩ | ⟨g', cap', cur, e, hg, hh, _⟩⟩ := h
  · cases e
  · cases e
    simp [World.frozen?, hh]
/-- 'append' of one number, and where the list lies then. -/
theorem wpList_appI1 {w : World} {ops : Array Oper} {rest : List Oper} {o : Oper} {a : Act} {Q : Exit → Act → World → Prop} {B : Nat} {v : Value} {zs ys : List Int} {ad : Addr} {m c : Nat} (hown : OwnI w B v zs) (hr : RowI w (some ad) m c ys)
    (hgd : o.guard = none) (s x : Operand) (ho : o.op = .call { callee := .builtin .append, args := #[s, x], argTypes := #[23, 23] }) (hs : a.eval s = v) (hx : a.eval x = .slice (some ad) m c)
    (hbytes : (zs.length + m) * 8 ≤ 140737488355328) (hB : B ≤ w.heap.size)
    (h : ∀ v' w', OwnI w' B v' (zs ++ ys) → w.grownBy w' v.ownBlock → (v'.ownBlock = v.ownBlock ∨ v'.ownBlock = some w.heap.size) → wpList Tryd.prog ops Q rest (a.put o.dst v') w') : wpList Tryd.prog ops Q (o :: rest) a w := by
  obtain ⟨i, hi, hz, hsz, hby⟩ := info_parts i3
  have hl : (ints ys).length = m * 1 := by simp [ints, hr.1]
  have h1 : ∀ u ∈ ints ys, u.oneCell' = true := ints_oneCell _ _
  have e1 : zs.length + m = (zs ++ ys).length := by simp [hr.1]
  have e2 : ints zs ++ ints ys = ints (zs ++ ys) := by simp [ints]
  refine wpList_append_own_at w hgd s x _ ho B 3 i (.int .i64 0) 1 8 Tryd.underlying23 hi hz hsz hby rfl (by decide) v _ _ hs hown ad m c (ints ys) hx hl (hr.cells ad rfl) h1 (by unfold maxLen; omega) hbytes hB ?_
  intro v' w' r1 r2 _ r4
  exact h v' w' (by unfold OwnI; rw [← e1, ← e2]; exact r1) r2 r4

theorem new_ne {w : World} {o : Obj} {tb tq : Nat} {v v' : Value} (h : ∀ a : Addr, some (⟨tb, tq, none⟩ : Addr) = some a → some a.block ≠ v.ownBlock) (ht : tb < w.heap.size) (p : v'.ownBlock = v.ownBlock ∨ v'.ownBlock = some (w.alloc o).heap.size) :
    ∀ a : Addr, some (⟨tb, tq, none⟩ : Addr) = some a → some a.block ≠ v'.ownBlock := by
  intro a e e2
  rcases p with p | p
  · exact h a e (e2.trans p)
  · rw [p] at e2
    cases e
    have := Option.some.inj e2
    simp at this
    omega
theorem six_at (x : Int) : ∃ y : Nat, y ≤ 6 ∧ min (max x 0) 6 = (y : Int) := ⟨(min (max x 0) 6).toNat, by omega, by omega⟩

set_option maxRecDepth 100000 in
set_option maxHeartbeats 4000000 in
theorem l11Draw_ok (g P n : Nat) (w : World) (h : Rd w g P) (hn : n ≤ 5) (hP : P ≤ 600000) :
    Calls Tryd.prog 112 #[.pointer (some ⟨g, 0, none⟩), .int .i64 n] w (ListP g (P + 40) 7 w) := by
  have hgw := h.lt
  have HK := Lib.hid (fun Q m W (h : Rd W g Q) (hQ : Q ≤ 1000000) (hm : m ≤ 1048576) => pick_ok g Q m W h hQ hm)
  have b0 : Below w.heap.size w (w.alloc (.cells #[] 3)) := (Below.refl _ _).alloc (Nat.le_refl _) _
  have R0 := Lib.hid (h.below b0 (Nat.le_refl _))
  have D0 := Lib.hid (DrB.ofB (g := g) b0)
  have O0 := Lib.hid (OwnI.lit w w.heap.size [] (Nat.le_refl _) (by decide))
  have hs0 : (w.alloc (.cells #[] 3)).heap.size = w.heap.size + 1 := by simp
  clear h b0
  go_enter Tryd.func112, Tryd.ntmps112
  go_wp2_with fail
  refine (l3Orders_ok g P n _ R0.out hn (by omega)).mono ?_
  rintro e w1 ⟨tv, ts, rfl, htl, o1, r1, d1⟩
  have hw0 : (w.alloc (.cells #[] 3)).heap.size = w.heap.size + 1 := hs0
  obtain ⟨ta, tc, rfl, q1⟩ := o1.out
  have HT := Lib.hid q1.rowI
  have R1 := Lib.hid r1
  have D1 := Lib.hid (D0.out.trans (d1.mono D0.out.size))
  have O1 := Lib.hid (O0.out.dr d1 (Nat.le_refl _) hgw)
  have T1 : Hid (∀ a, ta = some a → some a.block ≠ (Value.slice (some ⟨w.heap.size, 0, none⟩) 0 0).ownBlock) := fun a e => by have := q1.2.own a e; rw [hs0] at this; simp [Value.ownBlock]; omega
  have hs1 : w.heap.size ≤ w1.heap.size := D1.out.size
  have T2 : Hid (∀ a, ta = some a → w.heap.size ≤ a.block ∧ g < a.block) := fun a e => by have := q1.2.own a e; rw [hs0] at this; omega
  generalize htn : ts.length = m at *
  clear q1 o1 r1 d1 hw0
  go_wp2_with fail
  go_loopw [5, 7] (fun v q wr => ∃ (k : Nat) (zs : List Int), k ≤ m ∧ zs.length ≤ k ∧ q = .int .i64 k ∧ OwnI wr w.heap.size v zs ∧ w.heap.size ≤ wr.heap.size ∧ Rd wr g (P + 20 + k) ∧ DrB g w.heap.size w wr ∧ RowI wr ta m tc ts ∧ (∀ a, ta = some a → some a.block ≠ v.ownBlock)) (fun _ q _ => m - (intOf q).toNat)
  case atStart => exact ⟨0, [], Nat.zero_le _, Nat.zero_le _, rfl, O1.out, hs1, R1.out.more (by omega), D1.out, HT.out, T1.out⟩
  case round =>
    obtain ⟨k, zs, hk, hzl, rfl, ho, hsz, hr, hd, ht, hne⟩ := hrel
    have HO := Lib.hid ho
    have HR := Lib.hid hr
    have HDr := Lib.hid hd
    have HTr := Lib.hid ht
    have HNe := Lib.hid hne
    clear ho hr hd ht hne
    by_cases hkm : k < m
    · have hkw : (k : Int) < (m : Int) := by omega
      obtain ⟨tb, tq, rfl, htb⟩ := HTr.out.2.some (by omega)
      have hcell := HTr.out.2.cell tb tq rfl k hkm
      obtain ⟨y, hy, hye⟩ := six_at (gI ts k)
      generalize gI ts k = x at hcell hye
      by_cases hz0 : zs = []
      · subst hz0
        obtain ⟨oa, oc, rfl, q1, hsp⟩ := HO.out.out2
        simp only [List.length_nil] at q1
        clear q1 hsp
        go_wp2_with (at_builtin; refine wpList_appI1 (OwnI.alloc HO.out _) (RowI.one _ _) rfl _ _ rfl rfl rfl (by simp) (by simp; omega) ?_; intro v6 w6 o6 g6 p6)
        go_roundw
        case rel => exact ⟨k + 1, _, by omega, by simp, by go_num, o6, by have := g6.size; simp at this; omega, (HO.out.oneApp hgw HR.out g6).more (by omega), (HDr.out.alloc HDr.out.size _).grown g6 (by simp; omega) (fun j hj => (World.ownsRow.lt HO.out j hj).1), (HTr.out.below ((Below.refl _ _).alloc (Nat.le_refl _) _) (Nat.le_refl _)).grown g6 HNe.out, new_ne HNe.out htb p6⟩
        case measure => simp [intOf] <;> omega
      · obtain ⟨g1, c1, rfl, hg1, hl1, hrow⟩ := HO.out.form (List.length_pos_iff.2 hz0)
        obtain ⟨m1, hm1⟩ : ∃ m1, zs.length = m1 + 1 := ⟨zs.length - 1, by have := List.length_pos_iff.2 hz0; omega⟩
        have hm6 : m1 ≤ 5 := by omega
        rw [hm1] at HO HNe hrow ⊢
        go_wp2_with fail
        refine (HK.out _ 3 _ HR.out (by omega) (by omega)).mono ?_
        rintro e w3 ⟨z, rfl, hz, r3, g3⟩
        have R3 := Lib.hid r3
        have D3 := Lib.hid (HDr.out.trans ((DrB.ofG g3).mono HDr.out.size))
        have O3 := Lib.hid (HO.out.dr (DrB.ofG g3) (Nat.le_refl _) hgw)
        have T3 := Lib.hid (HTr.out.grown g3 (fun a e e2 => by have := (T2.out a e).2; have := Option.some.inj e2; omega))
        have htb3 := Nat.lt_of_lt_of_le htb g3.size
        have hs3 := Nat.le_trans hsz g3.size
        have hr3 := hrow.grown g3 (fun a e e2 => by cases e; have := Option.some.inj e2; simp at this; omega)
        clear r3 g3 hz hrow
        by_cases z0 : z = 0
        · have tz : ((z : Int) == 0) = true := by rw [z0]; rfl
          clear z0
          have hc2 := hr3.2.cell g1 0 rfl m1 (by omega)
          rw [Nat.zero_add] at hc2
          have hf2 := O3.out.free m1
          have hgr := grownBy_setCell (World.grownBy.refl w3 (some g1)) (a := ⟨g1, m1, none⟩) rfl (.int .i64 (bits .or .i64 (gI zs m1) (wrap64 (2 ^ y))))
          have HGr := Lib.hid hgr
          clear hgr
          go_wp2_with fail
          go_roundw
          case rel => exact ⟨k + 1, _, by omega, by simp; omega, by go_num, O3.out.store m1 _, by have := HGr.out.size; omega, (R3.out.grown HGr.out (fun j hj => by have := Option.some.inj hj; omega)).more (by omega), D3.out.grown HGr.out hs3 (fun j hj => by have := Option.some.inj hj; omega), T3.out.grown HGr.out HNe.out, HNe.out⟩
          case measure => simp [intOf] <;> omega
        · have tz : ((z : Int) == 0) = false := by rw [beq_eq_false_iff_ne]; omega
          clear z0
          go_wp2_with (at_builtin; refine wpList_appI1 (OwnI.alloc O3.out _) (RowI.one _ _) rfl _ _ rfl rfl rfl (by rw [hm1]; omega) (by simp; omega) ?_; intro v6 w6 o6 g6 p6)
          go_roundw
          case rel => exact ⟨k + 1, _, by omega, by simp; omega, by go_num, o6, by have := g6.size; simp at this; omega, (O3.out.oneApp hgw R3.out g6).more (by omega), (D3.out.alloc D3.out.size _).grown g6 (by simp; omega) (fun j hj => (World.ownsRow.lt O3.out j hj).1), (T3.out.below ((Below.refl _ _).alloc (Nat.le_refl _) _) (Nat.le_refl _)).grown g6 HNe.out, new_ne HNe.out htb3 p6⟩
          case measure => simp [intOf] <;> omega
    · have hkw : ¬ (k : Int) < (m : Int) := by omega
      have hz6 : zs.length ≤ 6 := by omega
      go_wp2_with fail
      refine (HK.out _ 24 _ HR.out (by omega) (by omega)).mono ?_
      rintro e w4 ⟨x, rfl, hx, r1, g1⟩
      have R4 := Lib.hid r1
      have D4 := Lib.hid (HDr.out.trans ((DrB.ofG g1).mono HDr.out.size))
      have O4 := Lib.hid (HO.out.dr (DrB.ofG g1) (Nat.le_refl _) hgw)
      clear r1 g1
      by_cases x0 : x = 0
      · have tx : ((x : Int) == 0) = true := by rw [x0]; rfl
        clear x0 hx
        have b2 : Below w4.heap.size w4 (w4.alloc (.cells (ints [0, 1, -1, 32]).toArray 3)) := (Below.refl _ _).alloc (Nat.le_refl _) _
        have HX := Lib.hid (num_lit g _ 4 [0, 1, -1, 32] _ _ (R4.out.below b2 (Nat.le_refl _)) (Blk.new w4 3 (ints [0, 1, -1, 32])) (by have := R4.out.lt; omega) rfl (by omega) (by omega) (by omega))
        have D5 := Lib.hid (D4.out.trans (DrB.ofB (g := g) (b2.mono D4.out.size)))
        have O5 := Lib.hid (O4.out.alloc (.cells (ints [0, 1, -1, 32]).toArray 3))
        clear b2
        go_wp2_with fail
        refine HX.out.mono ?_
        rintro e w6 ⟨z, hz, rfl, r3, g3⟩
        generalize gI [0, 1, -1, 32] z = q
        have R6 := Lib.hid r3
        have D6 := Lib.hid (D5.out.trans ((DrB.ofG g3).mono D5.out.size))
        have O6 := Lib.hid (O5.out.dr (DrB.ofG g3) (Nat.le_refl _) hgw)
        clear r3 g3 hz
        go_wp2_with (at_builtin; refine wpList_appI (OwnI.alloc O6.out _) (RowI.one _ _) rfl _ _ rfl rfl rfl (by omega) (by have := D6.out.size; simp; omega) ?_; intro v7 w7 o7 g7)
        go_ret
        exact ⟨_, _, rfl, by simp; omega, o7, (O6.out.oneApp hgw R6.out g7).more (by omega), (D6.out.alloc D6.out.size _).grown g7 (by have := D6.out.size; simp; omega) (fun j hj => (World.ownsRow.lt O6.out j hj).1)⟩
      · have tx : ((x : Int) == 0) = false := by rw [beq_eq_false_iff_ne]; omega
        clear x0 hx
        go_wp2_with fail
        go_ret
        exact ⟨_, zs, rfl, by omega, O4.out, R4.out.more (by omega), D4.out⟩

end Go.Proofs.YtjkgcgbialiipaaDoor
/- Walks: the arguments of SeeSteps, drawn. -/
namespace Go.Proofs.YtjkgcgbialiipaaDoor
open Go.RowKit

/-- A network's text and states are drawn. -/
def DrawSS (w : World) (e : Ending) (w' : World) : Prop := ∃ t v zs, e = .returned (.tuple #[.string t, v]) ∧ t.size ≤ 1048576 ∧ zs.length ≤ 64 ∧ OwnI w' w.heap.size v zs ∧ Below w.heap.size w w'

theorem OwnI.baseW {w : World} {B B' : Nat} {v : Value} {zs : List Int} (h : OwnI w B v zs) (hB : B' ≤ B) : OwnI w B' v zs := by
  obtain ⟨h0, h1 | ⟨g, cap, cur, e, hg, h2⟩⟩ := h
  · exact ⟨h0, .inl h1⟩
  · exact ⟨h0, .inr ⟨g, cap, cur, e, Nat.le_trans hB hg, h2⟩⟩
theorem OwnI.made (w : World) (B n : Nat) (hB : B ≤ w.heap.size) (hn : n ≤ 1048576) : OwnI (w.alloc (.cells (ints (List.replicate n 0)).toArray 3)) B (.slice (some ⟨w.heap.size, 0, none⟩) n n) (List.replicate n 0) := by
  have := OwnI.lit w B (List.replicate n 0) hB (by rw [List.length_replicate]; unfold maxLen; omega)
  rw [List.length_replicate] at this
  exact this

set_option maxHeartbeats 4000000 in
theorem drawSS_ok (ao : Option Addr) (l c : Nat) (cs : List Int) (w : World) (h : RowU w ao l c cs) (hl : l ≤ 1048576) :
    Calls Tryd.prog 22 #[.slice ao l c] w (DrawSS w) := by
  have HO := Lib.hid (l14Open_ok ao l c cs w h hl)
  have HK := Lib.hid (fun g Q m W (h : Rd W g Q) (hQ : Q ≤ 1000000) (hm : m ≤ 1048576) => pick_ok g Q m W h hQ hm)
  clear h
  go_enter Tryd.func22, Tryd.ntmps22
  go_wp2_with fail
  refine HO.out.mono ?_
  rintro e w1 ⟨g, rfl, hg, r1, b1⟩
  have R1 := Lib.hid r1
  have B1 := Lib.hid b1
  have hgo : g < w1.heap.size := r1.lt
  clear r1 b1 HO
  go_wp2_with fail
  refine (l7Open_ok g 0 _ R1.out (by omega)).mono ?_
  rintro e w2 ⟨u, rfl, hu, r2, d2⟩
  have HU : Hid (u.size ≤ 1048576) := Nat.le_trans hu (by decide)
  have D2 := Lib.hid ((DrB.ofB (g := g) B1.out).trans (d2.mono B1.out.size))
  have hs2 := d2.size
  have b3 : Below w2.heap.size w2 (w2.alloc (.cells #[] 3)) := (Below.refl _ _).alloc (Nat.le_refl _) _
  have R3 := Lib.hid (r2.below b3 (Nat.le_refl _))
  have D3 := Lib.hid (D2.out.trans (DrB.ofB (g := g) (b3.mono D2.out.size)))
  have O3 := Lib.hid (OwnI.lit w2 w1.heap.size [] hs2 (by decide))
  have hs3 : (w2.alloc (.cells #[] 3)).heap.size = w2.heap.size + 1 := by simp
  have hw3 := D3.out.size
  clear r2 d2 b3 hu
  go_wp2_with fail
  refine (HK.out g _ 5 _ R3.out (by omega) (by omega)).mono ?_
  rintro e w4 ⟨y, rfl, hy, r4, g4⟩
  have hy5 : y < 5 := by omega
  have R4 := Lib.hid r4
  have D4 := Lib.hid (D3.out.trans ((DrB.ofG g4).mono D3.out.size))
  have O4 := Lib.hid (O3.out.dr (DrB.ofG g4) (Nat.le_refl _) hgo)
  have hs4 : w1.heap.size ≤ w4.heap.size := by have := g4.size; omega
  clear r4 g4 hy hs3 hw3
  go_wp2_with fail
  go_loopw [6, 7] (fun v q wr => ∃ (k : Nat) (zs : List Int), k + zs.length ≤ 5 ∧ q = .int .i64 k ∧ OwnI wr w1.heap.size v zs ∧ w1.heap.size ≤ wr.heap.size ∧ Rd wr g (401 + 3 * zs.length) ∧ DrB g w.heap.size w wr) (fun _ q _ => (intOf q).toNat)
  case atStart => exact ⟨y, [], by simp; omega, rfl, O4.out, hs4, R4.out.more (by simp), D4.out⟩
  case round =>
    obtain ⟨k, zs, hk, rfl, ho, hsz, hr, hd⟩ := hrel
    have HOw := Lib.hid ho
    have HR := Lib.hid hr
    have HDr := Lib.hid hd
    clear ho hr hd
    by_cases hk0 : 0 < k
    · have hkw : (0 : Int) < (k : Int) := by omega
      go_wp2_with fail
      refine (HK.out g _ 4 _ HR.out (by omega) (by omega)).mono ?_
      rintro e w5 ⟨x1, rfl, hx1, r5, g5⟩
      have R5 := Lib.hid r5
      have D5 := Lib.hid (HDr.out.trans ((DrB.ofG g5).mono HDr.out.size))
      have O5 := Lib.hid (HOw.out.dr (DrB.ofG g5) (Nat.le_refl _) hgo)
      have hs5 := g5.size
      clear r5 g5 hx1
      go_wp2_with fail
      refine (HK.out g _ 8 _ R5.out (by omega) (by omega)).mono ?_
      rintro e w6 ⟨x2, rfl, hx2, r6, g6⟩
      have R6 := Lib.hid r6
      have D6 := Lib.hid (D5.out.trans ((DrB.ofG g6).mono D5.out.size))
      have O6 := Lib.hid (O5.out.dr (DrB.ofG g6) (Nat.le_refl _) hgo)
      have hs6 := g6.size
      clear r6 g6 hx2
      have b7 : Below w6.heap.size w6 (w6.alloc (.cells (ints [(x1 : Int), (x2 : Int), 0, 1]).toArray 3)) := (Below.refl _ _).alloc (Nat.le_refl _) _
      have HX := Lib.hid (num_lit g _ 4 [(x1 : Int), (x2 : Int), 0, 1] _ _ (R6.out.below b7 (Nat.le_refl _)) (Blk.new w6 3 (ints [(x1 : Int), (x2 : Int), 0, 1])) (by have := R6.out.lt; omega) rfl (by omega) (by omega) (by omega))
      have D7 := Lib.hid (D6.out.trans (DrB.ofB (g := g) (b7.mono D6.out.size)))
      have O7 := Lib.hid (O6.out.alloc (.cells (ints [(x1 : Int), (x2 : Int), 0, 1]).toArray 3))
      have hs7 : (w6.alloc (.cells (ints [(x1 : Int), (x2 : Int), 0, 1]).toArray 3)).heap.size = w6.heap.size + 1 := by simp
      have hw7 := D7.out.size
      clear b7
      go_wp2_with fail
      refine HX.out.mono ?_
      rintro e w8 ⟨z, hz, rfl, r8, g8⟩
      generalize gI [(x1 : Int), (x2 : Int), 0, 1] z = q
      have R8 := Lib.hid r8
      have D8 := Lib.hid (D7.out.trans ((DrB.ofG g8).mono D7.out.size))
      have O8 := Lib.hid (O7.out.dr (DrB.ofG g8) (Nat.le_refl _) hgo)
      have hs8 := g8.size
      clear r8 g8 hz hw7
      go_wp2_with (at_builtin; refine wpList_appI (OwnI.alloc O8.out _) (RowI.one _ _) rfl _ _ rfl rfl rfl (by omega) (by simp; omega) ?_; intro v9 w9 o9 g9)
      go_roundw
      case rel => exact ⟨k - 1, _, by simp; omega, by rw [show ((k : Int) - 1) = ((k - 1 : Nat) : Int) by omega], o9, by have := g9.size; simp at this; omega, (O8.out.oneApp hgo R8.out g9).more (by simp; omega), (D8.out.alloc D8.out.size _).grown g9 (by have := D8.out.size; simp; omega) (fun j hj => by have := (World.ownsRow.lt O8.out j hj).1; have := B1.out.size; omega)⟩
      case measure => simp [intOf] <;> omega
    · have hkw : ¬ (0 : Int) < (k : Int) := by omega
      have hzl : zs.length ≤ 5 := by omega
      clear hk hk0
      go_wp2_with fail
      refine (HK.out g _ 24 _ HR.out (by omega) (by omega)).mono ?_
      rintro e w5 ⟨x, rfl, hx, r5, g5⟩
      have R5 := Lib.hid r5
      have D5 := Lib.hid (HDr.out.trans ((DrB.ofG g5).mono HDr.out.size))
      have O5 := Lib.hid (HOw.out.dr (DrB.ofG g5) (Nat.le_refl _) hgo)
      have hs5 := g5.size
      clear r5 g5
      by_cases x0 : x = 0
      · have tx : ((x : Int) == 0) = true := by rw [x0]; rfl
        clear x0 hx
        go_wp2_with fail
        refine (HK.out g _ 2 _ R5.out (by omega) (by omega)).mono ?_
        rintro e w6 ⟨x2, rfl, hx2, r6, g6⟩
        have hx2' : x2 < 2 := by omega
        have hmk := run_make_ints (32 + x2) (by omega) w6
        have hcast : ((32 + x2 : Nat) : Int) = 32 + (x2 : Int) := by omega
        rw [hcast] at hmk
        have D6 := Lib.hid (D5.out.trans ((DrB.ofG g6).mono D5.out.size))
        have O6 := Lib.hid (OwnI.made w6 w.heap.size (32 + x2) D6.out.size (by omega))
        clear r6 g6 hx2 hcast
        go_wp2_with fail
        refine bodyPost_ret (v := .tuple #[.string u, .slice (some ⟨w6.heap.size, 0, none⟩) (32 + x2) (32 + x2)]) (by simp [results, Tryd.results22, go_sem]) rfl ⟨u, _, _, rfl, HU.out, by rw [List.length_replicate]; omega, O6.out, (D6.out.alloc D6.out.size _).below hg⟩
      · have tx : ((x : Int) == 0) = false := by rw [beq_eq_false_iff_ne]; omega
        clear x0 hx
        obtain ⟨va, vc, rfl, _⟩ := O5.out.out
        go_wp2_with fail
        refine bodyPost_ret (v := .tuple #[.string u, .slice va zs.length vc]) (by simp [results, Tryd.results22, go_sem]) rfl ⟨u, _, zs, rfl, HU.out, by omega, OwnI.baseW O5.out B1.out.size, D5.out.below hg⟩

end Go.Proofs.YtjkgcgbialiipaaDoor
/- Walks: one switch's step by the program; a network and blocks, drawn. -/
namespace Go.Proofs.YtjkgcgbialiipaaDoor
open Go.RowKit

set_option maxHeartbeats 1000000 in
theorem holdI_ok (s i v : Nat) (w : World) (hs : s < 32) (hi : i < 5) (hv : v < 2) :
    Calls Tryd.prog 153 #[.int .i64 s, .int .i64 i, .int .i64 v] w fun e w' => e = .returned (.int .i64 (setN s i v : Nat)) ∧ Below w.heap.size w w' := by
  have hp : (2 ^ i : Nat) < 32 := Nat.pow_lt_pow_right (by decide) hi
  have h1 : wrap64 (2 ^ i) = ((2 ^ i : Nat) : Int) := wrap_pow_nat i (by omega)
  have h2 : wrap64 ((v : Int) * 2 ^ i) = ((v * 2 ^ i : Nat) : Int) := by
    rcases (show v = 0 ∨ v = 1 by omega) with rfl | rfl
    · simp; decide +kernel
    · simpa using h1
  have h3 := andNot_32 s (2 ^ i) hs hp
  have h4 : bits .or .i64 ((s &&& (31 - 2 ^ i) : Nat) : Int) ((v * 2 ^ i : Nat) : Int) = ((setN s i v : Nat) : Int) := or_nat _ _ (Nat.lt_of_lt_of_le (and_lt32 hs) (by decide)) (Nat.lt_of_le_of_lt (Nat.mul_le_mul (show v ≤ 1 by omega) (Nat.le_of_lt hp)) (by decide))
  generalize ((2 ^ i : Nat) : Int) = a at h1 h3
  generalize ((s &&& (31 - 2 ^ i) : Nat) : Int) = b at h3 h4
  generalize ((v * 2 ^ i : Nat) : Int) = c at h2 h4
  go_enter Tryd.func153, Tryd.ntmps153
  go_wp2
  have hi0 : (0 : Int) ≤ (i : Int) := by omega
  have him : min i 64 = i := by omega
  go_region_held3 (fun w' => Below w.heap.size w w') (first | exact ⟨rfl, rfl, rfl, Nat.le_refl _, fun _ _ => rfl⟩ | assumption) (fail)
  go_wp2_with fail
  go_ret
  refine ⟨reti ?_, ⟨rfl, rfl, rfl, Nat.le_refl _, fun _ _ => rfl⟩⟩
  have hw : ∀ z : Int, IntKind.i64.wrap z = wrap64 z := fun z => by simp [IntKind.wrap, wrap64, IntKind.signed, IntKind.bits] <;> omega
  rw [hw, hw, h1, h3, h2, h4]

/-- The bit of a table in a network's row. -/
theorem net_cell2 {w : World} {q o c : Nat} {ps : List ByteArray} (h : RowN w (some ⟨q, o, none⟩) ps.length c ps.length (bitsN ps ps.length)) (hn : netB ps = true) (h5 : ps.length ≤ 5) {i s : Nat} (hi : i < ps.length) (hs : s < 2 ^ ps.length) :
    w.cell? ⟨q, o + i * 33 + 1 + s, none⟩ = some (.int .u8 ((bitN ps i s : Nat) : Int)) := by
  have hp : (2 ^ ps.length : Nat) ≤ 32 := Nat.pow_le_pow_right (n := 2) (by decide) h5
  have hbs : (bitsN ps ps.length)[i]? = some (eachL (byD (gT ps i)) (gT ps i).size) := by simp [bitsN, hi]
  have := h.range q o rfl i _ hbs (1 + s) _ (tabC_get (ps.length : Int) (eachL (byD (gT ps i)) (gT ps i).size) s (by rw [eachL_len]; omega))
  rw [Nat.add_assoc, this, eachL_get _ _ _ (by omega) (by rw [net_size hn i hi]; exact hs), bitN_eq (netB_get hn i hi).1]

set_option maxHeartbeats 2000000 in
theorem stepOne_ok (ao : Option Addr) (c : Nat) (ps : List ByteArray) (s i : Nat) (w : World) (h : RowN w ao ps.length c ps.length (bitsN ps ps.length)) (hn : netB ps = true) (h5 : ps.length ≤ 5) (hs : s < 2 ^ ps.length) (hi : i < ps.length) :
    Calls Tryd.prog 95 #[.slice ao ps.length c, .int .i64 s, .int .i64 i] w fun e w' => e = .returned (.int .i64 (setN s i (bitN ps i s) : Nat)) ∧ Below w.heap.size w w' := by
  obtain ⟨q, o, rfl, hq⟩ := h.some (by omega)
  have hc := net_cell2 h hn h5 hi hs
  have hp : (2 ^ ps.length : Nat) ≤ 32 := Nat.pow_le_pow_right (n := 2) (by decide) h5
  have hb : bitN ps i s < 2 := bitN_lt (netB_get hn i hi).1 s
  have HH := Lib.hid (fun W => holdI_ok s i (bitN ps i s) W (by omega) (by omega) hb)
  have hs32 : (s : Int) < 32 := by omega
  generalize bitN ps i s = b at hc HH hb ⊢
  have hin : (i : Int) < (ps.length : Int) := by omega
  generalize ps.length = n at hin hc ⊢
  clear h hn hs hi hp
  go_enter Tryd.func95, Tryd.ntmps95
  go_wp2_with fail
  refine (HH.out _).mono ?_
  rintro e w2 ⟨rfl, b2⟩
  go_wp2_with fail
  go_ret
  exact ⟨rfl, b2⟩

/-- What StepOne gives. -/
def soV (ps : List ByteArray) (s i : Int) : Int := if (stB' ps s && decide (0 ≤ i ∧ i < ps.length)) = true then (setN s.toNat i.toNat (bitN ps i.toNat s.toNat) : Nat) else -1
theorem soV_no {ps : List ByteArray} {s i : Int} (h : stB' ps s = false) : soV ps s i = -1 := by simp [soV, h]
theorem soV_out {ps : List ByteArray} {s i : Int} (h : ¬ (0 ≤ i ∧ i < ps.length)) : soV ps s i = -1 := by simp [soV, h]
theorem soV_yes {ps : List ByteArray} {s i : Nat} (h : stB' ps (s : Int) = true) (hi : i < ps.length) : soV ps (s : Int) (i : Int) = (setN s i (bitN ps i s) : Nat) := by
  simp [soV, h, hi]

set_option maxHeartbeats 2000000 in
theorem stepOneI_ok (t : ByteArray) (s : Int) (i : Nat) (w : World) (hs : t.size ≤ 1048576) (hm : MaxLenIs w) (hi : i < (cutsP 44 t).length) :
    Calls Tryd.prog 19 #[.string t, .int .i64 s, .int .i64 i] w fun e w' => e = .returned (.int .i64 (soV (cutsP 44 t) s i)) ∧ Below w.heap.size w w' := by
  have HO := Lib.hid (stateOf_ok t s w hs hm)
  have hp0 := cutsP_pos 44 t
  generalize cutsP 44 t = ps at HO hp0 hi ⊢
  cases hb : stB' ps s with
  | false =>
    have HV := Lib.hid (soV_no (i := i) hb)
    rw [hb] at HO
    clear hb
    go_enter Tryd.func19, Tryd.ntmps19
    go_wp2_with fail
    refine HO.out.mono ?_
    rintro e w1 ⟨v, rfl, o1, b1⟩
    clear o1
    go_wp2_with fail
    go_ret
    exact ⟨reti HV.out.symm, b1⟩
  | true =>
    obtain ⟨hn, h0, h1⟩ := stB'_get hb
    obtain ⟨m, rfl⟩ := Int.eq_ofNat_of_zero_le h0
    have h5 := net_le hn hp0
    have hlen := bitsN_len ps ps.length
    have hsm : m < 2 ^ ps.length := by omega
    have HV := Lib.hid (soV_yes hb hi)
    have HN := Lib.hid (netN_yes hn)
    have HS := Lib.hid (fun (ao : Option Addr) (c : Nat) W h => stepOne_ok ao c ps m i W h hn h5 hsm hi)
    have hiw : (i : Int) < (ps.length : Int) := by omega
    rw [hb] at HO
    clear hb hn h0 h1 hsm
    go_enter Tryd.func19, Tryd.ntmps19
    go_wp2_with fail
    refine HO.out.mono ?_
    rintro e w1 ⟨v, rfl, o1, b1⟩
    rw [HN.out] at o1
    obtain ⟨a, c, rfl, r1⟩ := o1.row (bitsN_wide ps ps.length)
    rw [hlen] at r1 ⊢
    have HS1 := Lib.hid (HS.out _ _ _ r1)
    clear o1 r1
    go_wp2_with fail
    refine HS1.out.mono ?_
    rintro e w2 ⟨rfl, b2⟩
    go_wp2_with fail
    go_ret
    exact ⟨reti HV.out.symm, b1.trans (b2.mono b1.size)⟩

/-- A network's text and blocks are drawn. -/
def WithP (g P : Nat) (w : World) (e : Ending) (w' : World) : Prop := ∃ u v zs, e = .returned (.tuple #[.string u, v]) ∧ u.size ≤ 1048576 ∧ zs.length ≤ 7 ∧ OwnI w' w.heap.size v zs ∧ Rd w' g P ∧ DrB g w.heap.size w w'

theorem szV_max (t : ByteArray) : ∃ n : Nat, n ≤ 5 ∧ max (szV (cutsP 44 t)) 1 = (n : Int) := by
  rcases szV_range t with h | ⟨n, h, h1, h5, _⟩
  · exact ⟨1, by omega, by rw [h]; decide⟩
  · exact ⟨n, h5, by rw [h]; omega⟩

set_option maxHeartbeats 2000000 in
theorem l11With_ok (g P : Nat) (w : World) (h : Rd w g P) (hP : P ≤ 500000) :
    Calls Tryd.prog 83 #[.pointer (some ⟨g, 0, none⟩)] w (WithP g (P + 440) w) := by
  have hgw := h.lt
  have HO := Lib.hid (l7Open_ok g P w h hP)
  clear h
  go_enter Tryd.func83, Tryd.ntmps83
  go_wp2_with fail
  refine HO.out.mono ?_
  rintro e w1 ⟨u, rfl, hu, r1, d1⟩
  have HU : Hid (u.size ≤ 1048576) := Nat.le_trans hu (by decide)
  have R1 := Lib.hid r1
  have D1 := Lib.hid d1
  clear r1 d1 hu
  obtain ⟨n, hn5, hmx⟩ := szV_max u
  go_wp2_with fail
  refine (sizeOf_ok u _ HU.out).mono ?_
  rintro e w2 ⟨rfl, b2⟩
  have R2 := Lib.hid (R1.out.below b2 (Nat.le_refl _))
  have D2 := Lib.hid (D1.out.trans ((DrB.ofB (g := g) b2).mono D1.out.size))
  clear b2
  generalize szV (cutsP 44 u) = q at hmx ⊢
  go_wp2_with fail
  refine (l11Draw_ok g _ n _ R2.out hn5 (by omega)).mono ?_
  rintro e w3 ⟨v, zs, rfl, hzl, o3, r3, d3⟩
  have R3 := Lib.hid r3
  have D3 := Lib.hid (D2.out.trans (d3.mono D2.out.size))
  have O3 := Lib.hid (OwnI.baseW o3 D2.out.size)
  clear r3 d3 o3
  obtain ⟨va, vc, rfl, _⟩ := O3.out.out
  go_wp2_with fail
  refine bodyPost_ret (v := .tuple #[.string u, .slice va zs.length vc]) (by simp [results, Tryd.results83, go_sem]) rfl ⟨u, _, zs, rfl, HU.out, hzl, O3.out, R3.out, D3.out⟩

end Go.Proofs.YtjkgcgbialiipaaDoor
/- Walks: the arguments of SameSchedule, NetworkOfBlocks, CanJoin, BlocksValid, drawn. -/
namespace Go.Proofs.YtjkgcgbialiipaaDoor
open Go.RowKit

/-- A network's text and two lists of blocks are drawn. -/
def DrawTB (w : World) (e : Ending) (w' : World) : Prop := ∃ t v xs u ys, e = .returned (.tuple #[.string t, v, u]) ∧ t.size ≤ 1048576 ∧ xs.length ≤ 7 ∧ ys.length ≤ 7 ∧ OwnI w' w.heap.size v xs ∧ OwnI w' w.heap.size u ys ∧ Below w.heap.size w w'

set_option maxHeartbeats 4000000 in
theorem drawTB_ok (ao : Option Addr) (l c : Nat) (cs : List Int) (w : World) (h : RowU w ao l c cs) (hl : l ≤ 1048576) :
    Calls Tryd.prog 34 #[.slice ao l c] w (DrawTB w) := by
  have HO := Lib.hid (l14Open_ok ao l c cs w h hl)
  clear h
  go_enter Tryd.func34, Tryd.ntmps34
  go_wp2_with fail
  refine HO.out.mono ?_
  rintro e w1 ⟨g, rfl, hg, r1, b1⟩
  have R1 := Lib.hid r1
  have B1 := Lib.hid b1
  have hgo : g < w1.heap.size := r1.lt
  clear r1 b1 HO
  go_wp2_with fail
  refine (l11With_ok g 0 _ R1.out (by omega)).mono ?_
  rintro e w2 ⟨u, v, xs, rfl, hu, hxl, o2, r2, d2⟩
  have R2 := Lib.hid r2
  have D2 := Lib.hid ((DrB.ofB (g := g) B1.out).trans (d2.mono B1.out.size))
  have O2 := Lib.hid o2
  have hs2 := d2.size
  clear r2 d2 o2
  obtain ⟨n, hn5, hmx⟩ := szV_max u
  go_wp2_with fail
  refine (sizeOf_ok u _ hu).mono ?_
  rintro e w3 ⟨rfl, b3⟩
  have R3 := Lib.hid (R2.out.below b3 (Nat.le_refl _))
  have D3 := Lib.hid (D2.out.trans ((DrB.ofB (g := g) b3).mono D2.out.size))
  have O3 := Lib.hid (O2.out.dr (DrB.ofB (g := g) b3) (Nat.le_refl _) hgo)
  have hs3 := b3.size
  clear b3
  generalize szV (cutsP 44 u) = q at hmx ⊢
  go_wp2_with fail
  refine (l11Draw_ok g _ n _ R3.out hn5 (by omega)).mono ?_
  rintro e w4 ⟨v2, ys, rfl, hyl, o4, r4, d4⟩
  have D4 := Lib.hid (D3.out.trans (d4.mono D3.out.size))
  have O4 := Lib.hid (OwnI.baseW o4 D3.out.size)
  have O5 := Lib.hid (OwnI.baseW (O3.out.dr d4 (Nat.le_refl _) hgo) B1.out.size)
  clear r4 d4 o4
  obtain ⟨va, vc, rfl, _⟩ := O5.out.out
  obtain ⟨ua, uc, rfl, _⟩ := O4.out.out
  go_wp2_with fail
  refine bodyPost_ret (v := .tuple #[.string u, .slice va xs.length vc, .slice ua ys.length uc]) (by simp [results, Tryd.results34, go_sem]) rfl ⟨u, _, xs, _, ys, rfl, hu, hxl, hyl, O5.out, O4.out, D4.out.below hg⟩

/-- A network's text and blocks are drawn. -/
def DrawNB (w : World) (e : Ending) (w' : World) : Prop := ∃ t v xs, e = .returned (.tuple #[.string t, v]) ∧ t.size ≤ 1048576 ∧ xs.length ≤ 7 ∧ OwnI w' w.heap.size v xs ∧ Below w.heap.size w w'
set_option maxHeartbeats 4000000 in
theorem drawNB_ok (ao : Option Addr) (l c : Nat) (cs : List Int) (w : World) (h : RowU w ao l c cs) (hl : l ≤ 1048576) :
    Calls Tryd.prog 39 #[.slice ao l c] w (DrawNB w) := by
  have HO := Lib.hid (l14Open_ok ao l c cs w h hl)
  clear h
  go_enter Tryd.func39, Tryd.ntmps39
  go_wp2_with fail
  refine HO.out.mono ?_
  rintro e w1 ⟨g, rfl, hg, r1, b1⟩
  have R1 := Lib.hid r1
  have B1 := Lib.hid b1
  clear r1 b1 HO
  go_wp2_with fail
  refine (l11With_ok g 0 _ R1.out (by omega)).mono ?_
  rintro e w2 ⟨u, v, xs, rfl, hu, hxl, o2, r2, d2⟩
  have D2 := Lib.hid ((DrB.ofB (g := g) B1.out).trans (d2.mono B1.out.size))
  have O2 := Lib.hid (OwnI.baseW o2 B1.out.size)
  clear r2 d2 o2
  obtain ⟨va, vc, rfl, _⟩ := O2.out.out
  go_wp2_with fail
  refine bodyPost_ret (v := .tuple #[.string u, .slice va xs.length vc]) (by simp [results, Tryd.results39, go_sem]) rfl ⟨u, _, xs, rfl, hu, hxl, O2.out, D2.out.below hg⟩

/-- A network's text, blocks and a number are drawn. -/
def DrawCJ (w : World) (e : Ending) (w' : World) : Prop := ∃ t v zs q, e = .returned (.tuple #[.string t, v, .int .i64 q]) ∧ t.size ≤ 1048576 ∧ zs.length ≤ 7 ∧ OwnI w' w.heap.size v zs ∧ Below w.heap.size w w'
set_option maxHeartbeats 4000000 in
theorem drawCJ_ok (ao : Option Addr) (l c : Nat) (cs : List Int) (w : World) (h : RowU w ao l c cs) (hl : l ≤ 1048576) :
    Calls Tryd.prog 44 #[.slice ao l c] w (DrawCJ w) := by
  have HO := Lib.hid (l14Open_ok ao l c cs w h hl)
  clear h
  go_enter Tryd.func44, Tryd.ntmps44
  go_wp2_with fail
  refine HO.out.mono ?_
  rintro e w1 ⟨g, rfl, hg, r1, b1⟩
  have R1 := Lib.hid r1
  have B1 := Lib.hid b1
  have hgo : g < w1.heap.size := r1.lt
  clear r1 b1 HO
  go_wp2_with fail
  refine (l11With_ok g 0 _ R1.out (by omega)).mono ?_
  rintro e w2 ⟨u, v, zs, rfl, hu, hzl, o2, r2, d2⟩
  have D2 := Lib.hid ((DrB.ofB (g := g) B1.out).trans (d2.mono B1.out.size))
  have b7 : Below w2.heap.size w2 (w2.alloc (.cells (ints [0, 1, 0, 2, -1, 9223372036854775807]).toArray 3)) := (Below.refl _ _).alloc (Nat.le_refl _) _
  have HX := Lib.hid (num_lit g _ 6 [0, 1, 0, 2, -1, 9223372036854775807] _ _ (r2.below b7 (Nat.le_refl _)) (Blk.new w2 3 (ints [0, 1, 0, 2, -1, 9223372036854775807])) (by have := r2.lt; omega) rfl (by omega) (by omega) (by omega))
  have D7 := Lib.hid (D2.out.trans (DrB.ofB (g := g) (b7.mono D2.out.size)))
  have O7 := Lib.hid (OwnI.alloc o2 (.cells (ints [0, 1, 0, 2, -1, 9223372036854775807]).toArray 3))
  clear b7 r2 d2 o2
  go_wp2_with fail
  refine HX.out.mono ?_
  rintro e w8 ⟨z, hz, rfl, r8, g8⟩
  generalize gI [0, 1, 0, 2, -1, 9223372036854775807] z = q
  have D8 := Lib.hid (D7.out.trans ((DrB.ofG g8).mono D7.out.size))
  have O8 := Lib.hid (OwnI.baseW (O7.out.dr (DrB.ofG g8) (Nat.le_refl _) hgo) B1.out.size)
  clear r8 g8 hz
  obtain ⟨va, vc, rfl, _⟩ := O8.out.out
  go_wp2_with fail
  refine bodyPost_ret (v := .tuple #[.string u, .slice va zs.length vc, .int .i64 q]) (by simp [results, Tryd.results44, go_sem]) rfl ⟨u, _, zs, q, rfl, hu, hzl, O8.out, D8.out.below hg⟩

/-- Blocks and a number are drawn. -/
def DrawBV (w : World) (e : Ending) (w' : World) : Prop := ∃ v zs q, e = .returned (.tuple #[v, .int .i64 q]) ∧ zs.length ≤ 7 ∧ OwnI w' w.heap.size v zs ∧ Below w.heap.size w w'
theorem one_five (q : Int) : ∃ n : Nat, n ≤ 5 ∧ min (max q 1) 5 = (n : Int) := ⟨(min (max q 1) 5).toNat, by omega, by omega⟩
set_option maxHeartbeats 4000000 in
theorem drawBV_ok (ao : Option Addr) (l c : Nat) (cs : List Int) (w : World) (h : RowU w ao l c cs) (hl : l ≤ 1048576) :
    Calls Tryd.prog 37 #[.slice ao l c] w (DrawBV w) := by
  have HO := Lib.hid (l14Open_ok ao l c cs w h hl)
  clear h
  go_enter Tryd.func37, Tryd.ntmps37
  go_wp2_with fail
  refine HO.out.mono ?_
  rintro e w1 ⟨g, rfl, hg, r1, b1⟩
  have B1 := Lib.hid b1
  have b7 : Below w1.heap.size w1 (w1.alloc (.cells (ints [3, 2, 1, 5, 4, 0, 6]).toArray 3)) := (Below.refl _ _).alloc (Nat.le_refl _) _
  have HX := Lib.hid (num_lit g _ 7 [3, 2, 1, 5, 4, 0, 6] _ _ (r1.below b7 (Nat.le_refl _)) (Blk.new w1 3 (ints [3, 2, 1, 5, 4, 0, 6])) (by have := r1.lt; omega) rfl (by omega) (by omega) (by omega))
  have D7 := Lib.hid ((DrB.ofB (g := g) B1.out).trans (DrB.ofB (g := g) (b7.mono B1.out.size)))
  clear b7 r1 b1 HO
  go_wp2_with fail
  refine HX.out.mono ?_
  rintro e w8 ⟨z, hz, rfl, r8, g8⟩
  generalize gI [3, 2, 1, 5, 4, 0, 6] z = q
  obtain ⟨n, hn5, hmx⟩ := one_five q
  have R8 := Lib.hid r8
  have D8 := Lib.hid (D7.out.trans ((DrB.ofG g8).mono D7.out.size))
  clear r8 g8 hz
  go_wp2_with fail
  refine (l11Draw_ok g _ n _ R8.out hn5 (by omega)).mono ?_
  rintro e w4 ⟨v, zs, rfl, hzl, o4, r4, d4⟩
  have D4 := Lib.hid (D8.out.trans (d4.mono D8.out.size))
  have O4 := Lib.hid (OwnI.baseW o4 D8.out.size)
  clear r4 d4 o4
  obtain ⟨va, vc, rfl, _⟩ := O4.out.out
  go_wp2_with fail
  refine bodyPost_ret (v := .tuple #[.slice va zs.length vc, .int .i64 q]) (by simp [results, Tryd.results37, go_sem]) rfl ⟨_, zs, q, rfl, hzl, O4.out, D4.out.below hg⟩

end Go.Proofs.YtjkgcgbialiipaaDoor
/- Walks: slices.Grow at nil, slices.Concat, the program's JoinBlocks. -/
namespace Go.Proofs.YtjkgcgbialiipaaDoor
open Go.RowKit

set_option maxRecDepth 100000 in
set_option maxHeartbeats 1000000 in
theorem Grow_nil (n : Nat) (w : World) (hn : n ≤ 1099511627776) :
    Calls Tryd.prog 167 #[.slice none 0 0, .int .i64 n] w fun e w' => ∃ v, e = .returned v ∧ OwnI w' w.heap.size v [] ∧ Below w.heap.size w w' := by
  by_cases h0 : n = 0
  · subst h0
    go_enter Tryd.func167, Tryd.ntmps167
    go_wp2
    go_ret
    exact ⟨_, rfl, OwnI.nil _ _, Below.refl _ _⟩
  · obtain ⟨i, hi, hz, hsz, hby⟩ := info_parts i3
    have hp : 0 < (n : Int) := by omega
    have hrun := fun ty => Lib.run_append_nil_zeros (P := Tryd.prog) w 23 3 ty 3 i (.int .i64 0) .i64 .i64 Tryd.underlying23 Tryd.underlying3 hi hz n (by omega) (by omega) (by omega) (by rw [hby]; omega)
    have HR := Lib.hid hrun
    have hge := grownCap_ge w n 0 3
    have hcm := grownCap_le_maxLen w n 0 3 (by unfold maxLen; omega)
    clear hrun
    go_enter Tryd.func167, Tryd.ntmps167
    go_wp2_with (at_builtin; refine Lib.wpList_append_run _ rfl _ _ _ _ rfl _ _ rfl rfl _ _ (HR.out _) ?_)
    go_ret
    refine ⟨_, rfl, ?_, ?_⟩
    · refine ⟨rfl, .inr ⟨w.heap.size, _, _, rfl, Nat.le_refl _, heap_alloc_new w.drew _, Nat.zero_le _, hcm, ?_, by simp [ints]⟩⟩
      simp only [Array.size_append, size_zeroCells]
      simp
      omega
    · exact ((Below.refl _ _).drew).alloc (Nat.le_refl _) _

/-- What was joined of k rows. -/
def joinTo (Z : Nat → List Int) (k : Nat) : List Int := (List.range k).flatMap Z
theorem joinTo_succ (Z : Nat → List Int) (k : Nat) : joinTo Z (k + 1) = joinTo Z k ++ Z k := by simp [joinTo, List.range_succ]

theorem joinTo_len (Z : Nat → List Int) (T : Nat) (m : Nat) (hT : (joinTo Z m).length ≤ T) (k : Nat) (hk : k ≤ m) : (joinTo Z k).length ≤ T := by
  induction m with
  | zero => rw [show k = 0 by omega]; exact hT
  | succ m ih =>
    by_cases e : k = m + 1
    · rw [e]; exact hT
    · exact ih (by rw [joinTo_succ, List.length_append] at hT; omega) (by omega)

set_option maxHeartbeats 1000000 in
theorem Concat_ok (g m : Nat) (A : Nat → Option Addr) (N C : Nat → Nat) (Z : Nat → List Int) (w : World) (hg : g < w.heap.size) (hcell : ∀ i, i < m → w.cell? ⟨g, i, none⟩ = some (.slice (A i) (N i) (C i))) (hr : ∀ i, i < m → RowI w (A i) (N i) (C i) (Z i)) (hm : m ≤ 1000)
    (hlen : (joinTo Z m).length ≤ 1099511627776) :
    Calls Tryd.prog 121 #[.slice (some ⟨g, 0, none⟩) m m] w fun e w' => ∃ v, e = .returned v ∧ OwnI w' w.heap.size v (joinTo Z m) ∧ Below w.heap.size w w' := by
  go_enter Tryd.func121, Tryd.ntmps121
  go_wp2
  go_loop [3, 11] (fun s i => ∃ k : Nat, k ≤ m ∧ i = .int .i64 k ∧ s = .int .i64 ((joinTo Z k).length : Nat)) (fun _ i => m - (intOf i).toNat)
  case atStart => exact ⟨0, Nat.zero_le _, rfl, rfl⟩
  case round =>
    obtain ⟨k, hk, rfl, rfl⟩ := hrel
    have hjl := joinTo_len Z _ m hlen k hk
    by_cases hlt : k < m
    · have hx := hcell k hlt
      have hrl := (hr k hlt).1
      have HS : Hid ((joinTo Z (k + 1)).length = (joinTo Z k).length + N k) := by unfold Hid; rw [joinTo_succ, List.length_append, hrl]
      have hjl2 := joinTo_len Z _ m hlen (k + 1) hlt
      have hnk : N k ≤ 1099511627776 := by have := HS.out; omega
      have hlt' : (k : Int) < (m : Int) := by omega
      clear hrl hcell hr hjl2
      go_wp2
      go_round
      case rel => exact ⟨k + 1, by omega, by go_num, by rw [HS.out]; go_num⟩
      case measure => simp [intOf]; omega
    · obtain rfl : k = m := by omega
      have HJ := Lib.hid hlen
      clear hlen
      go_wp2_with (go_at_call 167; refine (Grow_nil _ _ hjl).mono ?_; rintro e w1 ⟨v1, rfl, o1, b1⟩)
      go_loopw [6, 27] (fun v i wr => ∃ j : Nat, j ≤ k ∧ i = .int .i64 j ∧ OwnI wr w.heap.size v (joinTo Z j) ∧ Below w.heap.size w wr) (fun _ i _ => k - (intOf i).toNat)
      case atStart => exact ⟨0, Nat.zero_le _, rfl, o1, b1⟩
      case round =>
        obtain ⟨j, hj, rfl, oj, bj⟩ := hrel
        by_cases hjk : j < k
        · have hx : wr.cell? ⟨g, j, none⟩ = some (.slice (A j) (N j) (C j)) := (bj.cell (by exact hg)).trans (hcell j hjk)
          have hrj := (hr j hjk).below bj (Nat.le_refl _)
          have hjl2 := joinTo_len Z _ k HJ.out (j + 1) hjk
          have HB : Hid (((joinTo Z j).length + N j) * 8 ≤ 140737488355328) := by unfold Hid; rw [joinTo_succ, List.length_append, hrj.1] at hjl2; omega
          have hjk' : (j : Int) < (k : Int) := by omega
          clear hcell hr hjl2 o1
          go_wp2_with (at_builtin; refine wpList_appI oj hrj rfl _ _ rfl rfl rfl HB.out bj.size ?_; intro v5 w5 o5 g5)
          go_roundw
          case rel => exact ⟨j + 1, by omega, by go_num, by rw [joinTo_succ]; exact o5, bj.grown g5 bj.size (fun q hq => (World.ownsRow.lt oj q hq).1)⟩
          case measure => simp [intOf]; omega
        · obtain rfl : j = k := by omega
          go_wp2
          go_ret
          exact ⟨_, rfl, oj, bj⟩

end Go.Proofs.YtjkgcgbialiipaaDoor
/- Walks: the program's JoinBlocks; the law on JoinBlocks. -/
namespace Go.Proofs.YtjkgcgbialiipaaDoor
open Go.RowKit

theorem OwnI.base {w : World} {B B' : Nat} {v : Value} {zs : List Int} (h : OwnI w B v zs) (hB : B' ≤ B) : OwnI w B' v zs := by
  obtain ⟨h1, h2 | ⟨g, cap, cur, e, hg, r⟩⟩ := h
  · exact ⟨h1, .inl h2⟩
  · exact ⟨h1, .inr ⟨g, cap, cur, e, Nat.le_trans hB hg, r⟩⟩

/-- Three rows: two that were there, a new one of one number between them. -/
theorem concat3 (w0 w1 : World) (hb : Below w0.heap.size w0 w1) (a0 a2 : Option Addr) (n0 c0 n2 c2 : Nat) (z0 z2 : List Int) (h0 : RowI w1 a0 n0 c0 z0) (h2 : RowI w1 a2 n2 c2 z2) (x : Int) (hl : z0.length + z2.length ≤ 1099511627775) :
    Calls Tryd.prog 121 #[.slice (some ⟨w1.heap.size + 1, 0, none⟩) 3 3]
      ((w1.alloc (.cells #[.int .i64 x] 3)).alloc (.cells #[.slice a0 n0 c0, .slice (some ⟨w1.heap.size, 0, none⟩) 1 1, .slice a2 n2 c2] 23)).drew
      fun e w' => ∃ v, e = .returned v ∧ OwnI w' w0.heap.size v (z0 ++ [x] ++ z2) ∧ Below w0.heap.size w0 w' := by
  let W := ((w1.alloc (.cells #[.int .i64 x] 3)).alloc (.cells #[.slice a0 n0 c0, .slice (some ⟨w1.heap.size, 0, none⟩) 1 1, .slice a2 n2 c2] 23)).drew
  have hW : W.heap.size = w1.heap.size + 2 := by simp [W]
  have hbl : Blk W (w1.heap.size + 1) 23 [.slice a0 n0 c0, .slice (some ⟨w1.heap.size, 0, none⟩) 1 1, .slice a2 n2 c2] := by
    have := Blk.new (w1.alloc (.cells #[.int .i64 x] 3)) 23 [.slice a0 n0 c0, .slice (some ⟨w1.heap.size, 0, none⟩) 1 1, .slice a2 n2 c2]
    rw [show (w1.alloc (.cells #[.int .i64 x] 3)).heap.size = w1.heap.size + 1 by simp] at this
    exact this
  have b1 : Below w1.heap.size w1 W := (((Below.refl _ _).alloc (Nat.le_refl _) _).alloc (by simp) _).drew
  have r1 : RowI W (some ⟨w1.heap.size, 0, none⟩) 1 1 [x] := by
    have := RowI.one w1 x
    exact (this.below ((Below.refl (w1.heap.size + 1) _).alloc (by simp) (.cells #[.slice a0 n0 c0, .slice (some ⟨w1.heap.size, 0, none⟩) 1 1, .slice a2 n2 c2] 23)).drew (by simp))
  have hws := hb.size
  refine (Concat_ok (w1.heap.size + 1) 3 (fun | 0 => a0 | 1 => some ⟨w1.heap.size, 0, none⟩ | _ => a2) (fun | 0 => n0 | 1 => 1 | _ => n2) (fun | 0 => c0 | 1 => 1 | _ => c2) (fun | 0 => z0 | 1 => [x] | _ => z2) W (by omega) ?_ ?_ (by decide) ?_).mono ?_
  · intro i hi
    match i, hi with
    | 0, _ => exact hbl.cell rfl
    | 1, _ => exact hbl.cell rfl
    | 2, _ => exact hbl.cell rfl
  · intro i hi
    match i, hi with
    | 0, _ => exact h0.below b1 (Nat.le_refl _)
    | 1, _ => exact r1
    | 2, _ => exact h2.below b1 (Nat.le_refl _)
  · simp [joinTo, List.range_succ]; omega
  · rintro e w' ⟨v, rfl, o, b⟩
    refine ⟨v, rfl, ?_, ?_⟩
    · have o' := o.base (show w0.heap.size ≤ W.heap.size by have := hb.size; omega)
      simpa [joinTo, List.range_succ] using o'
    · exact (hb.trans (b1.mono hb.size)).trans (b.mono (by have := hb.size; omega))

set_option maxHeartbeats 2000000 in
theorem jbI_yes (b o n c : Nat) (zs : List Int) (m : Int) (k : Nat) (w : World) (h : RowI w (some ⟨b, o, none⟩) n c zs) (hk : k + 2 ≤ n) (hv : blocksV zs m = true) (hn : n ≤ 1048576) :
    Calls Tryd.prog 46 #[.slice (some ⟨b, o, none⟩) n c, .int .i64 m, .int .i64 k] w fun e w' => ∃ v, e = .returned (.tuple #[v, .bool true]) ∧ OwnI w' w.heap.size v (joinV zs k) ∧ Below w.heap.size w w' := by
  obtain rfl := h.1
  have hml := h.2.cap
  have hml' := h.2.le
  unfold maxLen at hml
  have HB := Lib.hid (bvI_ok _ _ _ zs m w h)
  rw [← blocks_same] at hv
  have hk0 : (k : Int) < (zs.length : Int) := by omega
  have hk1 : (k : Int) + 1 < (zs.length : Int) := by omega
  have hs2 : ((k : Int) + 1).toNat = k + 1 := by omega
  have hs3 : 0 ≤ (k : Int) + 1 := by omega
  have hs5 : ((k : Int) + 2).toNat = k + 2 := by omega
  have hs6 : 0 ≤ (k : Int) + 2 := by omega
  have hs7 : (k : Int) + 2 ≤ (zs.length : Int) := by omega
  have hg1 : decide ((k : Int) < 0) = false := decide_eq_false (by omega)
  have hg2 : decide ((zs.length : Int) - 1 ≤ (k : Int)) = false := decide_eq_false (by omega)
  by_cases hc : c = k + 2
  · subst hc
    go_enter Tryd.func46, Tryd.ntmps46
    go_wp2_with fail
    refine HB.out.mono ?_
    rintro e w1 ⟨rfl, b1⟩
    rw [hv]
    have r1 := h.below b1 (Nat.le_refl _)
    go_wp2_with fail
    have x0 : w1.cell? ⟨b, o + k, none⟩ = some (.int .i64 (gI zs k)) := r1.2.cell b o rfl k (by omega)
    have x1 : w1.cell? ⟨b, o + (k + 1), none⟩ = some (.int .i64 (gI zs (k + 1))) := r1.2.cell b o rfl (k + 1) (by omega)
    have hs1 : IntKind.i64.wrap ((k : Int) + 1) = (k : Int) + 1 := IntWalk.i64_in _ (by omega)
    have hs4 : IntKind.i64.wrap ((k : Int) + 2) = (k : Int) + 2 := IntWalk.i64_in _ (by omega)
    have r4 : RowI w1 (some ⟨b, o, none⟩) 0 0 (zs.drop (k + 2)) := by
      have e1 : zs.drop (k + 2) = [] := List.drop_of_length_le (by omega)
      rw [e1]
      exact RowI.empty _ _ _ (Nat.zero_le _) (fun e => by cases e)
    have HC := Lib.hid (concat3 w w1 b1 _ _ _ _ _ _ _ _ (r1.take k (by omega)) r4 (bits .or .i64 (gI zs k) (gI zs (k + 1))) (by simp only [List.length_take, List.length_drop]; omega))
    clear h r1 r4
    go_region_with (go_at_call 121; refine HC.out.mono ?_; rintro e w2 ⟨v2, rfl, o2, b2⟩)
    all_goals
      go_wp2
      go_ret2
      exact ⟨v2, rfl, o2, b2⟩
  · have hcc : ¬ k + 2 = c := fun e => hc e.symm
    go_enter Tryd.func46, Tryd.ntmps46
    go_wp2_with fail
    refine HB.out.mono ?_
    rintro e w1 ⟨rfl, b1⟩
    rw [hv]
    have r1 := h.below b1 (Nat.le_refl _)
    go_wp2_with fail
    have x0 : w1.cell? ⟨b, o + k, none⟩ = some (.int .i64 (gI zs k)) := r1.2.cell b o rfl k (by omega)
    have x1 : w1.cell? ⟨b, o + (k + 1), none⟩ = some (.int .i64 (gI zs (k + 1))) := r1.2.cell b o rfl (k + 1) (by omega)
    have hs1 : IntKind.i64.wrap ((k : Int) + 1) = (k : Int) + 1 := IntWalk.i64_in _ (by omega)
    have hs4 : IntKind.i64.wrap ((k : Int) + 2) = (k : Int) + 2 := IntWalk.i64_in _ (by omega)
    have HC := Lib.hid (concat3 w w1 b1 _ _ _ _ _ _ _ _ (r1.take k (by omega)) (r1.drop (k + 2) (by omega)) (bits .or .i64 (gI zs k) (gI zs (k + 1))) (by simp only [List.length_take, List.length_drop]; omega))
    clear h r1
    go_region_with (go_at_call 121; refine HC.out.mono ?_; rintro e w2 ⟨v2, rfl, o2, b2⟩)
    all_goals
      go_wp2
      go_ret2
      exact ⟨v2, rfl, o2, b2⟩

end Go.Proofs.YtjkgcgbialiipaaDoor
/- Walks: JoinBlocks where there is nothing to join; the law on JoinBlocks. -/
namespace Go.Proofs.YtjkgcgbialiipaaDoor
open Go.RowKit

set_option maxHeartbeats 1000000 in
theorem jbS_no (ao : Option Addr) (n c : Nat) (zs : List Int) (m k : Int) (w : World) (h : RowI w ao n c zs) (hno : ¬ (blocksV zs m = true ∧ 0 ≤ k ∧ k ≤ (n : Int) - 2)) :
    Calls Tryd.prog 47 #[.slice ao n c, .int .i64 m, .int .i64 k] w fun e w' => ∃ v, e = .returned (.tuple #[v, .bool false]) ∧ OwnI w' w.heap.size v [] ∧ Below w.heap.size w w' := by
  have hml := h.2.cap
  have hml' := h.2.le
  unfold maxLen at hml
  have HB := Lib.hid (bvS_ok _ _ _ zs m w h)
  by_cases hv : blocksV zs m = true
  · have hq := inB_false (show ¬ (0 ≤ k ∧ k ≤ (n : Int) - 2) from fun e => hno ⟨hv, e⟩)
    go_enter Tryd.func47, Tryd.ntmps47
    go_wp2_with fail
    refine HB.out.mono ?_
    rintro e w1 ⟨rfl, b1⟩
    rw [hv]
    clear hno hv
    go_wp2_with (go_at_call 90; refine (l1In_ok _ _ _ _).mono ?_; rintro e w' ⟨rfl, rfl⟩)
    go_ret2
    exact ⟨_, rfl, OwnI.lit w1 w.heap.size [] b1.size (by decide), b1.alloc b1.size _⟩
  · have hvb : blocksV zs m = false := by simpa using hv
    go_enter Tryd.func47, Tryd.ntmps47
    go_wp2_with fail
    refine HB.out.mono ?_
    rintro e w1 ⟨rfl, b1⟩
    rw [hvb]
    clear hno hv hvb
    go_wp2
    go_ret2
    exact ⟨_, rfl, OwnI.lit w1 w.heap.size [] b1.size (by decide), b1.alloc b1.size _⟩

set_option maxHeartbeats 1000000 in
theorem jbI_no (ao : Option Addr) (n c : Nat) (zs : List Int) (m k : Int) (w : World) (h : RowI w ao n c zs) (hno : ¬ (blocksV zs m = true ∧ 0 ≤ k ∧ k ≤ (n : Int) - 2)) :
    Calls Tryd.prog 46 #[.slice ao n c, .int .i64 m, .int .i64 k] w fun e w' => e = .returned (.tuple #[.slice none 0 0, .bool false]) ∧ Below w.heap.size w w' := by
  have hml := h.2.cap
  have hml' := h.2.le
  unfold maxLen at hml
  have HB := Lib.hid (bvI_ok _ _ _ zs m w h)
  by_cases hv : blocksV zs m = true
  · have hv' : blocksI zs m = true := by rw [blocks_same]; exact hv
    have hk : k < 0 ∨ ¬ k < 0 ∧ (n : Int) - 1 ≤ k := by
      by_cases h0 : k < 0
      · exact .inl h0
      · exact .inr ⟨h0, by
          rcases Int.lt_or_le k ((n : Int) - 1) with h1 | h1
          · exact absurd ⟨hv, by omega, by omega⟩ hno
          · exact h1⟩
    clear hno hv
    rcases hk with hk | ⟨hk, hk2⟩
    all_goals
      go_enter Tryd.func46, Tryd.ntmps46
      go_wp2_with fail
      refine HB.out.mono ?_
      rintro e w1 ⟨rfl, b1⟩
      rw [hv']
      go_wp2
      go_ret2
      exact ⟨rfl, b1⟩
  · have hvb : blocksI zs m = false := by rw [blocks_same]; simpa using hv
    go_enter Tryd.func46, Tryd.ntmps46
    go_wp2_with fail
    refine HB.out.mono ?_
    rintro e w1 ⟨rfl, b1⟩
    rw [hvb]
    clear hno hv hvb
    go_wp2
    go_ret2
    exact ⟨rfl, b1⟩

def joinW (zs : List Int) (m k : Int) : Bool := blocksV zs m && decide (0 ≤ k) && decide (k ≤ (zs.length : Int) - 2)
def joinL (zs : List Int) (m k : Int) : List Int := if joinW zs m k = true then joinV zs k.toNat else []

theorem jbS_ok (ao : Option Addr) (n c : Nat) (zs : List Int) (m k : Int) (w : World) (h : RowI w ao n c zs) (hn : n ≤ 1048576) :
    Calls Tryd.prog 47 #[.slice ao n c, .int .i64 m, .int .i64 k] w fun e w' => ∃ v, e = .returned (.tuple #[v, .bool (joinW zs m k)]) ∧ OwnI w' w.heap.size v (joinL zs m k) ∧ Below w.heap.size w w' := by
  by_cases hy : blocksV zs m = true ∧ 0 ≤ k ∧ k ≤ (n : Int) - 2
  · obtain ⟨h1, h2, h3⟩ := hy
    obtain ⟨q, rfl⟩ := Int.eq_ofNat_of_zero_le h2
    have hw : joinW zs m q = true := by have := h.1; simp [joinW, h1]; omega
    obtain ⟨b, o, rfl, _⟩ := h.2.some (by omega)
    rw [joinL, hw, if_pos rfl, Int.toNat_natCast]
    exact jbS_yes b o n c zs m q w h (by omega) h1 (by omega)
  · have hw : joinW zs m k = false := by
      rw [← Bool.not_eq_true]
      intro e
      have hl := h.1
      simp only [joinW, Bool.and_eq_true, decide_eq_true_iff] at e
      exact hy ⟨e.1.1, e.1.2, by omega⟩
    rw [joinL, hw, if_neg (by decide)]
    exact jbS_no ao n c zs m k w h hy
theorem jbI_ok (ao : Option Addr) (n c : Nat) (zs : List Int) (m k : Int) (w : World) (h : RowI w ao n c zs) (hn : n ≤ 1048576) :
    Calls Tryd.prog 46 #[.slice ao n c, .int .i64 m, .int .i64 k] w fun e w' => ∃ v, e = .returned (.tuple #[v, .bool (joinW zs m k)]) ∧ OwnI w' w.heap.size v (joinL zs m k) ∧ Below w.heap.size w w' := by
  by_cases hy : blocksV zs m = true ∧ 0 ≤ k ∧ k ≤ (n : Int) - 2
  · obtain ⟨h1, h2, h3⟩ := hy
    obtain ⟨q, rfl⟩ := Int.eq_ofNat_of_zero_le h2
    have hw : joinW zs m q = true := by have := h.1; simp [joinW, h1]; omega
    obtain ⟨b, o, rfl, _⟩ := h.2.some (by omega)
    rw [joinL, hw, if_pos rfl, Int.toNat_natCast]
    exact jbI_yes b o n c zs m q w h (by omega) h1 (by omega)
  · have hw : joinW zs m k = false := by
      rw [← Bool.not_eq_true]
      intro e
      have hl := h.1
      simp only [joinW, Bool.and_eq_true, decide_eq_true_iff] at e
      exact hy ⟨e.1.1, e.1.2, by omega⟩
    rw [joinL, hw, if_neg (by decide)]
    exact (jbI_no ao n c zs m k w h hy).mono fun e w' ⟨he, hb⟩ => ⟨_, he, OwnI.nil _ _, hb⟩

theorem joinL_len (zs : List Int) (m k : Int) : (joinL zs m k).length ≤ zs.length + 1 := by
  unfold joinL
  split
  · rename_i h
    simp only [joinW, Bool.and_eq_true, decide_eq_true_iff] at h
    simp [joinV]
    omega
  · simp

end Go.Proofs.YtjkgcgbialiipaaDoor
/- Walks: CanJoin, on both sides. -/
namespace Go.Proofs.YtjkgcgbialiipaaDoor
open Go.RowKit

theorem held2 {wr W w5 : World} {q o1 o2 : Nat} {v1 v2 : Value} (h : Below wr.heap.size wr W ∧ W.cell? ⟨q, o1, none⟩ = some v1 ∧ W.cell? ⟨q, o2, none⟩ = some v2) (b : Below W.heap.size W w5) (hq : q < wr.heap.size) :
    Below wr.heap.size wr w5 ∧ w5.cell? ⟨q, o1, none⟩ = some v1 ∧ w5.cell? ⟨q, o2, none⟩ = some v2 :=
  ⟨h.1.trans (b.mono h.1.size), (b.cell (p := ⟨q, o1, none⟩) (Nat.lt_of_lt_of_le hq h.1.size)).trans h.2.1, (b.cell (p := ⟨q, o2, none⟩) (Nat.lt_of_lt_of_le hq h.1.size)).trans h.2.2⟩
/-- Whether a switch acts on one of a set. -/
def hitB (ps : List ByteArray) (i b : Nat) : Bool := anyTo (fun j => b.testBit j && actB ps i j) ps.length
theorem acts_and (ps : List ByteArray) (i b : Nat) : ((((actsN ps i &&& b : Nat) : Int)) == 0) = !hitB ps i b := by
  have h1 := and_ne (actsN ps i) b
  have h2 := anyTo_iff (fun j => b.testBit j && actB ps i j) ps.length
  have h3 : (actsN ps i &&& b ≠ 0) ↔ hitB ps i b = true := by
    rw [h1, hitB, h2]
    constructor
    · rintro ⟨j, a, c⟩
      rw [actsN, setTo_bit, Bool.and_eq_true, decide_eq_true_iff] at a
      exact ⟨j, a.1, by simp [c, a.2]⟩
    · rintro ⟨j, a, c⟩
      rw [Bool.and_eq_true] at c
      exact ⟨j, by rw [actsN, setTo_bit]; simp [a, c.2], c.1⟩
  cases hh : hitB ps i b with
  | true =>
    rw [hh] at h3
    have := h3.2 rfl
    simp only [beq_eq_false_iff_ne, ne_eq, Bool.not_true]
    omega
  | false =>
    rw [hh] at h3
    have : actsN ps i &&& b = 0 := Classical.byContradiction fun e => by cases h3.1 e
    rw [this]; rfl
def stopB (ps : List ByteArray) (b c i : Nat) : Bool := b.testBit i && hitB ps i c
def joinB (ps : List ByteArray) (b c : Nat) : Bool := !anyTo (stopB ps b c) ps.length
theorem join_no {ps : List ByteArray} {b c i : Nat} (h : i < ps.length) (h2 : stopB ps b c i = true) : joinB ps b c = false := by
  rw [joinB, (anyTo_iff _ _).2 ⟨i, h, h2⟩]; rfl
theorem join_yes {ps : List ByteArray} {b c : Nat} (h : ∀ i, i < ps.length → stopB ps b c i = false) : joinB ps b c = true := by
  have : anyTo (stopB ps b c) ps.length = false := by
    rw [Bool.eq_false_iff, Ne, anyTo_iff]
    rintro ⟨i, h1, h2⟩
    rw [h i h1] at h2; cases h2
  rw [joinB, this]; rfl
/-- What CanJoin gives. -/
def cjV (ps : List ByteArray) (zs : List Int) (k : Int) : Bool := nbB ps zs && (inB k 0 ((zs.length : Int) - 2) && joinB ps (gI zs k.toNat).toNat (gI zs (k.toNat + 1)).toNat)
theorem cj_no {ps : List ByteArray} {zs : List Int} {k : Int} (h : nbB ps zs = false) : cjV ps zs k = false := by simp [cjV, h]
theorem cj_out {ps : List ByteArray} {zs : List Int} {k : Int} (h : inB k 0 ((zs.length : Int) - 2) = false) : cjV ps zs k = false := by simp [cjV, h]
theorem cj_in {ps : List ByteArray} {zs : List Int} {k : Nat} (h1 : nbB ps zs = true) (h : inB (k : Int) 0 ((zs.length : Int) - 2) = true) : cjV ps zs k = joinB ps (gI zs k).toNat (gI zs (k + 1)).toNat := by simp [cjV, h, h1]

set_option maxHeartbeats 4000000 in
theorem cjI_ok (t : ByteArray) (bo : Option Addr) (l d : Nat) (zs : List Int) (s : Int) (w : World) (hs : t.size ≤ 1048576) (hz : RowI w bo l d zs) (hl : l ≤ 1048576) (hm : MaxLenIs w) :
    Calls Tryd.prog 45 #[.string t, .slice bo l d, .int .i64 s] w fun e w' => e = .returned (.bool (cjV (cutsP 44 t) zs s)) ∧ Below w.heap.size w w' := by
  have HO := Lib.hid (blocksOf_ok t bo l d zs w hs hz hm)
  have hp0 := cutsP_pos 44 t
  generalize cutsP 44 t = ps at HO hp0
  obtain rfl := hz.1
  cases hb : nbB ps zs with
  | false =>
    have HV := Lib.hid (cj_no (k := s) hb)
    rw [hb] at HO
    clear hb hz hm
    go_enter Tryd.func45, Tryd.ntmps45
    go_wp2_with fail
    refine HO.out.mono ?_
    rintro e w1 ⟨v, rfl, o1, b1⟩
    clear o1
    go_wp2_with fail
    go_ret
    exact ⟨retb HV.out.symm, b1⟩
  | true =>
    rw [hb] at HO
    have hn := nb_net hb
    have h5 := net_le hn hp0
    have HN := Lib.hid (netN_yes hn)
    have hlen := bitsN_len ps ps.length
    cases hq : inB s 0 ((zs.length : Int) - 2) with
    | false =>
      have HV := Lib.hid (cj_out (ps := ps) hq)
      have hr : s < 0 ∨ (zs.length : Int) - 1 ≤ s := by
        rw [Bool.eq_false_iff, Ne, inB_iff] at hq
        omega
      clear hb hz hn hq hm
      go_enter Tryd.func45, Tryd.ntmps45
      go_wp2_with fail
      refine HO.out.mono ?_
      rintro e w1 ⟨v, rfl, o1, b1⟩
      rw [HN.out] at o1
      obtain ⟨a, c, rfl, _⟩ := o1.row (bitsN_wide ps ps.length)
      rw [hlen] at o1 ⊢
      clear o1
      by_cases h0 : s < 0
      · go_wp2_with fail
        go_ret
        exact ⟨retb HV.out.symm, b1⟩
      · have hr' : (zs.length : Int) - 1 ≤ s := by omega
        clear hr
        go_wp2_with fail
        go_ret
        exact ⟨retb HV.out.symm, b1⟩
    | true =>
      have hr := inB_iff.1 hq
      obtain ⟨k, rfl⟩ := Int.eq_ofNat_of_zero_le hr.1
      have hbl := nb_blocks hb
      have hk1 : k + 1 < zs.length := by omega
      have hp : (2 ^ ps.length : Nat) ≤ 32 := Nat.pow_le_pow_right (n := 2) (by decide) h5
      have hc : ((2 ^ ps.length : Nat) : Int) = 2 ^ ps.length := by simp
      obtain ⟨b, hbv⟩ := Int.eq_ofNat_of_zero_le (show 0 ≤ gI zs k by have := hbl k (by omega); omega)
      obtain ⟨c', hcv⟩ := Int.eq_ofNat_of_zero_le (show 0 ≤ gI zs (k + 1) by have := hbl (k + 1) hk1; omega)
      have hb32 : b < 32 := by have := hbl k (by omega); omega
      have hc32 : c' < 32 := by have := hbl (k + 1) hk1; omega
      have HV := Lib.hid (cj_in hb hq)
      rw [hbv, hcv, Int.toNat_natCast, Int.toNat_natCast] at HV
      obtain ⟨q, o, rfl, hqo⟩ := hz.2.some (by omega)
      have hx1 := hz.2.cell q o rfl k (by omega)
      have hx2 := hz.2.cell q o rfl (k + 1) hk1
      rw [hbv] at hx1
      rw [hcv] at hx2
      have hkn : ¬ (k : Int) < 0 := by omega
      have hk0 : (0 : Int) ≤ (k : Int) := by omega
      have hkl : (k : Int) < (zs.length : Int) := by omega
      have hk1' : (k : Int) + 1 < (zs.length : Int) := by omega
      have hk2 : ¬ (zs.length : Int) - 1 ≤ (k : Int) := by omega
      have HA := Lib.hid (fun ao c i W (h : RowN W ao ps.length c ps.length (bitsN ps ps.length)) (hi : i < ps.length) => acts_ok ao c ps i W h hn h5 hi)
      have HX1 := Lib.hid hx1
      have HX2 := Lib.hid hx2
      have hlt63 := fun i => setTo_lt63 (actB ps i) ps.length (by omega)
      have HLt : Hid (∀ i, actsN ps i < 2 ^ 63) := hlt63
      clear hb hz hn hbl hm hr hq hbv hcv hx1 hx2 hlt63 hc
      go_enter Tryd.func45, Tryd.ntmps45
      go_wp2_with fail
      refine HO.out.mono ?_
      rintro e w1 ⟨v, rfl, o1, b1⟩
      rw [HN.out] at o1
      obtain ⟨a, c, rfl, r1⟩ := o1.row (bitsN_wide ps ps.length)
      rw [hlen] at r1 ⊢
      have HR1 := Lib.hid r1
      have HB1 := Lib.hid b1
      clear o1 r1 hlen
      go_wp2_with fail
      go_loopw [31] (fun i wr => ∃ j : Nat, j ≤ ps.length ∧ i = .int .i64 j ∧ (∀ x, x < j → stopB ps b c' x = false) ∧ Below w1.heap.size w1 wr) (fun i _ => ps.length - (intOf i).toNat)
      case atStart => exact ⟨0, Nat.zero_le _, rfl, fun x h => absurd h (Nat.not_lt_zero _), Below.refl _ _⟩
      case round =>
        obtain ⟨j, hj, rfl, hno, hbw⟩ := hrel
        have HNo := Lib.hid hno
        have HBe := Lib.hid hbw
        clear hno
        by_cases hlt : j < ps.length
        · have hlt' : (j : Int) < (ps.length : Int) := by omega
          have hcx1 : wr.cell? ⟨q, o + k, none⟩ = some (.int .i64 b) := ((HB1.out.trans (hbw.mono HB1.out.size)).cell (p := ⟨q, o + k, none⟩) (by exact hqo)).trans HX1.out
          have hcx2 : wr.cell? ⟨q, o + (k + 1), none⟩ = some (.int .i64 c') := ((HB1.out.trans (hbw.mono HB1.out.size)).cell (p := ⟨q, o + (k + 1), none⟩) (by exact hqo)).trans HX2.out
          have hqw : q < wr.heap.size := Nat.lt_of_lt_of_le hqo (Nat.le_trans HB1.out.size HBe.out.size)
          have ev : bits .and .i64 ((b : Int) / 2 ^ j) 1 = ((bN b j : Nat) : Int) := bit_int (b : Int) j (by omega) (by omega)
          have hbl := bN_lt b j
          clear hbw
          cases hq : b.testBit j with
          | false =>
            have h1 := bit_case.2 hq
            have HS := Lib.hid (show stopB ps b c' j = false by simp [stopB, hq])
            clear hq
            generalize bN b j = u at ev hbl h1
            go_wp2_with fail
            go_quiet (fail)
            go_wp2_with fail
            go_roundw
            case rel => exact ⟨j + 1, by omega, by go_num, fun x hx => by
                by_cases e : x = j
                · rw [e]; exact HS.out
                · exact HNo.out x (by omega), HBe.out.trans ⟨rfl, rfl, rfl, Nat.le_refl _, fun _ _ => rfl⟩⟩
            case measure => simp [intOf]; omega
          | true =>
            have h1 := bit_case.1 hq
            have hst : stopB ps b c' j = hitB ps j c' := by rw [stopB, hq]; rfl
            have hz0 := acts_and ps j c'
            have hand := and_nat (actsN ps j) c' (HLt.out j) (by omega)
            have HAj := Lib.hid (fun W (hW : Below wr.heap.size wr W) => HA.out a c j W (HR1.out.below (HBe.out.trans (hW.mono HBe.out.size)) (Nat.le_refl _)) hlt)
            have hlt63 := HLt.out j
            have hkw : IntKind.i64.wrap ((k : Int) + 1) = (k : Int) + 1 := wraps_i64 _ (by omega) (by omega)
            have hk10 : (0 : Int) ≤ (k : Int) + 1 := by omega
            have hk1n : ((k : Int) + 1).toNat = k + 1 := by omega
            clear hq
            generalize actsN ps j = y at hz0 hand HAj hlt63
            generalize ((y &&& c' : Nat) : Int) = z at hz0 hand
            generalize bN b j = u at ev hbl h1
            cases hh : hitB ps j c' with
            | true =>
              have hz1 : (z != 0) = true := by rw [hh] at hz0; simp only [bne, hz0]; rfl
              have HV2 := Lib.hid (join_no hlt (hst.trans hh))
              clear hst hh hz0
              go_wp2_with fail
              go_region_held3 (fun w' => Below wr.heap.size wr w' ∧ w'.cell? ⟨q, o + k, none⟩ = some (.int .i64 b) ∧ w'.cell? ⟨q, o + (k + 1), none⟩ = some (.int .i64 c'))
                (first | exact ⟨⟨rfl, rfl, rfl, Nat.le_refl _, fun _ _ => rfl⟩, hcx1, hcx2⟩ | exact held2 (by assumption) b5 hqw)
                ((go_at_call 120; refine (HAj.out _ ?_).mono ?_; (exact (by assumption : _ ∧ _ ∧ _).1); rintro e w5 ⟨rfl, b5⟩))
              have HB5 : Hid (Below wr.heap.size wr w5) := (by assumption : Below wr.heap.size wr w5 ∧ _ ∧ _).1
              go_wp2_with fail
              go_ret
              exact ⟨retb (by rw [HV.out, HV2.out]), HB1.out.trans ((HBe.out.trans (HB5.out.mono HBe.out.size)).mono HB1.out.size)⟩
            | false =>
              have hz1 : (z != 0) = false := by rw [hh] at hz0; simp only [bne, hz0]; rfl
              have HS := Lib.hid (hst.trans hh)
              clear hst hh hz0
              go_wp2_with fail
              go_region_held3 (fun w' => Below wr.heap.size wr w' ∧ w'.cell? ⟨q, o + k, none⟩ = some (.int .i64 b) ∧ w'.cell? ⟨q, o + (k + 1), none⟩ = some (.int .i64 c'))
                (first | exact ⟨⟨rfl, rfl, rfl, Nat.le_refl _, fun _ _ => rfl⟩, hcx1, hcx2⟩ | exact held2 (by assumption) b5 hqw)
                ((go_at_call 120; refine (HAj.out _ ?_).mono ?_; (exact (by assumption : _ ∧ _ ∧ _).1); rintro e w5 ⟨rfl, b5⟩))
              have HB5 : Hid (Below wr.heap.size wr w5) := (by assumption : Below wr.heap.size wr w5 ∧ _ ∧ _).1
              go_wp2_with fail
              go_roundw
              case rel => exact ⟨j + 1, by omega, by go_num, fun x hx => by
                  by_cases e : x = j
                  · rw [e]; exact HS.out
                  · exact HNo.out x (by omega), HBe.out.trans (HB5.out.mono HBe.out.size)⟩
              case measure => simp [intOf] <;> omega
        · obtain rfl : j = ps.length := by omega
          have HV2 := Lib.hid (join_yes HNo.out)
          clear hbw
          go_wp2_with fail
          go_ret
          exact ⟨retb (by rw [HV.out, HV2.out]), HB1.out.trans (HBe.out.mono HB1.out.size)⟩

end Go.Proofs.YtjkgcgbialiipaaDoor
/- Walks: CanJoin of the reference; the law FnExactCanJoin. -/
namespace Go.Proofs.YtjkgcgbialiipaaDoor
open Go.RowKit

/-- One pair of switches. -/
def pairB (ps : List ByteArray) (b c i j : Nat) : Bool := b.testBit i && (c.testBit j && actB ps i j)
theorem stop_row {ps : List ByteArray} {b c i : Nat} (h : ∀ j, j < ps.length → pairB ps b c i j = false) : stopB ps b c i = false := by
  rw [stopB, Bool.and_eq_false_iff]
  cases hb : b.testBit i with
  | false => exact .inl rfl
  | true =>
    refine .inr ?_
    rw [hitB, Bool.eq_false_iff, Ne, anyTo_iff]
    rintro ⟨j, h1, h2⟩
    have := h j h1
    rw [pairB, hb, h2] at this; cases this
theorem stop_hit {ps : List ByteArray} {b c i j : Nat} (hj : j < ps.length) (h : pairB ps b c i j = true) : stopB ps b c i = true := by
  rw [pairB, Bool.and_eq_true] at h
  rw [stopB, h.1, hitB, (anyTo_iff _ _).2 ⟨j, hj, h.2⟩]; rfl

set_option maxHeartbeats 4000000 in
theorem cjS_ok (t : ByteArray) (bo : Option Addr) (l d : Nat) (zs : List Int) (s : Int) (w : World) (hs : t.size ≤ 1048576) (hz : RowI w bo l d zs) (hl : l ≤ 1048576) :
    Calls Tryd.prog 48 #[.string t, .slice bo l d, .int .i64 s] w fun e w' => e = .returned (.bool (cjV (cutsP 44 t) zs s)) ∧ Below w.heap.size w w' := by
  have HO := Lib.hid (l11Blocks_ok t bo l d zs w hs hz)
  have hp0 := cutsP_pos 44 t
  generalize cutsP 44 t = ps at HO hp0
  obtain rfl := hz.1
  cases hb : nbB ps zs with
  | false =>
    have HV := Lib.hid (cj_no (k := s) hb)
    rw [hb] at HO
    clear hb hz
    go_enter Tryd.func48, Tryd.ntmps48
    go_wp2_with fail
    refine HO.out.mono ?_
    rintro e w1 ⟨v, rfl, o1, b1⟩
    clear o1
    go_wp2_with fail
    go_ret
    exact ⟨retb HV.out.symm, b1⟩
  | true =>
    rw [hb] at HO
    have hn := nb_net hb
    have h5 := net_le hn hp0
    have HN := Lib.hid (netL_yes hn)
    cases hq : inB s 0 ((zs.length : Int) - 2) with
    | false =>
      have HV := Lib.hid (cj_out (ps := ps) hq)
      clear hb hz hn
      go_enter Tryd.func48, Tryd.ntmps48
      go_wp2_with fail
      refine HO.out.mono ?_
      rintro e w1 ⟨v, rfl, o1, b1⟩
      clear o1
      go_wp2_with (go_at_call 90; refine (l1In_ok _ _ _ _).mono ?_; rintro e w' ⟨rfl, rfl⟩)
      go_ret
      exact ⟨retb HV.out.symm, b1⟩
    | true =>
      have hr := inB_iff.1 hq
      obtain ⟨k, rfl⟩ := Int.eq_ofNat_of_zero_le hr.1
      have hbl := nb_blocks hb
      have hk1 : k + 1 < zs.length := by omega
      have hp : (2 ^ ps.length : Nat) ≤ 32 := Nat.pow_le_pow_right (n := 2) (by decide) h5
      have hc : ((2 ^ ps.length : Nat) : Int) = 2 ^ ps.length := by simp
      obtain ⟨b, hbv⟩ := Int.eq_ofNat_of_zero_le (show 0 ≤ gI zs k by have := hbl k (by omega); omega)
      obtain ⟨c', hcv⟩ := Int.eq_ofNat_of_zero_le (show 0 ≤ gI zs (k + 1) by have := hbl (k + 1) hk1; omega)
      have hb32 : b < 32 := by have := hbl k (by omega); omega
      have hc32 : c' < 32 := by have := hbl (k + 1) hk1; omega
      have HV := Lib.hid (cj_in hb hq)
      rw [hbv, hcv, Int.toNat_natCast, Int.toNat_natCast] at HV
      obtain ⟨q, o, rfl, hqo⟩ := hz.2.some (by omega)
      have hx1 := hz.2.cell q o rfl k (by omega)
      have hx2 := hz.2.cell q o rfl (k + 1) hk1
      rw [hbv] at hx1
      rw [hcv] at hx2
      have hk0 : (0 : Int) ≤ (k : Int) := by omega
      have hkl : (k : Int) < (zs.length : Int) := by omega
      have hk1' : (k : Int) + 1 < (zs.length : Int) := by omega
      have HS := Lib.hid (fun ao c i j W (h : RowT W ao ps.length c ps) (hi : i < ps.length) (hj : j < ps.length) => l7Sign_ok ao ps.length c ps i j W h hn h5 hi hj)
      have HX1 := Lib.hid hx1
      have HX2 := Lib.hid hx2
      clear hb hz hn hbl hbv hcv hx1 hx2 hc hr
      go_enter Tryd.func48, Tryd.ntmps48
      go_wp2_with fail
      refine HO.out.mono ?_
      rintro e w1 ⟨v, rfl, o1, b1⟩
      rw [HN.out] at o1
      obtain ⟨a, c, rfl, r1⟩ := o1.row
      have HR1 := Lib.hid r1
      have hcx1 : w1.cell? ⟨q, o + k, none⟩ = some (.int .i64 b) := (b1.cell (p := ⟨q, o + k, none⟩) (by exact hqo)).trans HX1.out
      have hcx2 : w1.cell? ⟨q, o + (k + 1), none⟩ = some (.int .i64 c') := (b1.cell (p := ⟨q, o + (k + 1), none⟩) (by exact hqo)).trans HX2.out
      have HB1 := Lib.hid b1
      have HSw := Lib.hid (fun i j hi hj => HS.out a c i j w1 HR1.out hi hj)
      clear o1 r1 HS HX1 HX2
      go_wp2_with (go_at_call 90; refine (l1In_ok _ _ _ _).mono ?_; rintro e w' ⟨rfl, rfl⟩)
      clear hq
      go_loop [9] (fun i => ∃ j : Nat, j ≤ ps.length ∧ i = .int .i64 j ∧ (∀ x, x < j → stopB ps b c' x = false)) (fun i => ps.length - (intOf i).toNat)
      case atStart => exact ⟨0, Nat.zero_le _, rfl, fun x h => absurd h (Nat.not_lt_zero _)⟩
      case round =>
        obtain ⟨j, hj, rfl, hno⟩ := hrel
        have HNo := Lib.hid hno
        clear hno
        by_cases hlt : j < ps.length
        · have hlt' : (j : Int) < (ps.length : Int) := by omega
          go_wp2_with fail
          go_loop [10] (fun i => ∃ m : Nat, m ≤ ps.length ∧ i = .int .i64 m ∧ (∀ x, x < m → pairB ps b c' j x = false)) (fun i => ps.length - (intOf i).toNat)
          case atStart => exact ⟨0, Nat.zero_le _, rfl, fun x h => absurd h (Nat.not_lt_zero _)⟩
          case round =>
            obtain ⟨m, hm, rfl, hno⟩ := hrel
            have HMo := Lib.hid hno
            clear hno
            by_cases hmt : m < ps.length
            · have hmt' : (m : Int) < (ps.length : Int) := by omega
              have hkw : IntKind.i64.wrap ((k : Int) + 1) = (k : Int) + 1 := wraps_i64 _ (by omega) (by omega)
              have hbl1 := bN_lt b j
              have hbl2 := bN_lt c' m
              have hBj := Lib.hid (fun W => l1Bit_ok (b : Int) (j : Int) W (by omega) (by omega) (by omega) (by omega))
              have hCm := Lib.hid (fun W => l1Bit_ok (c' : Int) (m : Int) W (by omega) (by omega) (by omega) (by omega))
              rw [Int.toNat_natCast, Int.toNat_natCast] at hBj hCm
              have HSm := Lib.hid (HSw.out j m hlt hmt)
              have hpos := sgV_pos (upB (bitN ps m) j ps.length) (dnB (bitN ps m) j ps.length)
              have hab : actB ps j m = (upB (bitN ps m) j ps.length || dnB (bitN ps m) j ps.length) := rfl
              rw [← hab] at hpos
              generalize sgV (upB (bitN ps m) j ps.length) (dnB (bitN ps m) j ps.length) = sg at HSm hpos
              clear hab
              cases hq : b.testBit j with
              | false =>
                have h1 := bit_case.2 hq
                have HF := Lib.hid (show pairB ps b c' j m = false by rw [pairB, hq]; rfl)
                clear hq hpos
                generalize bN b j = u at hbl1 hBj h1
                go_wp2_with fail
                refine (hBj.out _).mono ?_
                rintro e w2 ⟨rfl, rfl⟩
                go_wp2_with fail
                go_round
                case rel => exact ⟨m + 1, by omega, by go_num, fun x hx => by
                    by_cases e : x = m
                    · rw [e]; exact HF.out
                    · exact HMo.out x (by omega)⟩
                case measure => simp [intOf]; omega
              | true =>
                have h1 := bit_case.1 hq
                have HQ := Lib.hid hq
                cases hq2 : c'.testBit m with
                | false =>
                  have h2 := bit_case.2 hq2
                  have HF := Lib.hid (show pairB ps b c' j m = false by rw [pairB, hq2]; simp)
                  clear hq hq2 hpos
                  generalize bN b j = u at hbl1 hBj h1
                  generalize bN c' m = u2 at hbl2 hCm h2
                  go_wp2_with fail
                  refine (hBj.out _).mono ?_
                  rintro e w2 ⟨rfl, rfl⟩
                  go_wp2_with fail
                  refine (hCm.out _).mono ?_
                  rintro e w2 ⟨rfl, rfl⟩
                  go_wp2_with fail
                  go_round
                  case rel => exact ⟨m + 1, by omega, by go_num, fun x hx => by
                      by_cases e : x = m
                      · rw [e]; exact HF.out
                      · exact HMo.out x (by omega)⟩
                  case measure => simp [intOf]; omega
                | true =>
                  have h2 := bit_case.1 hq2
                  cases ha : actB ps j m with
                  | false =>
                    have hsg : ¬ (0 : Int) < (sg : Int) := by rw [ha] at hpos; simp at hpos; omega
                    have HF := Lib.hid (show pairB ps b c' j m = false by rw [pairB, ha]; simp)
                    clear hq hq2 ha hpos
                    generalize bN b j = u at hbl1 hBj h1
                    generalize bN c' m = u2 at hbl2 hCm h2
                    go_wp2_with fail
                    refine (hBj.out _).mono ?_
                    rintro e w2 ⟨rfl, rfl⟩
                    go_wp2_with fail
                    refine (hCm.out _).mono ?_
                    rintro e w2 ⟨rfl, rfl⟩
                    go_wp2_with fail
                    refine HSm.out.mono ?_
                    rintro e w2 ⟨rfl, rfl⟩
                    go_wp2_with fail
                    go_round
                    case rel => exact ⟨m + 1, by omega, by go_num, fun x hx => by
                        by_cases e : x = m
                        · rw [e]; exact HF.out
                        · exact HMo.out x (by omega)⟩
                    case measure => simp [intOf]; omega
                  | true =>
                    have hsg : (0 : Int) < (sg : Int) := by rw [ha] at hpos; simp at hpos; omega
                    have HV2 := Lib.hid (join_no hlt (stop_hit hmt (show pairB ps b c' j m = true by rw [pairB, hq, hq2, ha]; rfl)))
                    clear hq hq2 ha hpos
                    generalize bN b j = u at hbl1 hBj h1
                    generalize bN c' m = u2 at hbl2 hCm h2
                    go_wp2_with fail
                    refine (hBj.out _).mono ?_
                    rintro e w2 ⟨rfl, rfl⟩
                    go_wp2_with fail
                    refine (hCm.out _).mono ?_
                    rintro e w2 ⟨rfl, rfl⟩
                    go_wp2_with fail
                    refine HSm.out.mono ?_
                    rintro e w2 ⟨rfl, rfl⟩
                    go_wp2_with fail
                    go_ret
                    exact ⟨retb (by rw [HV.out, HV2.out]), HB1.out⟩
            · obtain rfl : m = ps.length := by omega
              have HF := Lib.hid (stop_row HMo.out)
              go_wp2_with fail
              go_round
              case rel => exact ⟨j + 1, by omega, by go_num, fun x hx => by
                  by_cases e : x = j
                  · rw [e]; exact HF.out
                  · exact HNo.out x (by omega)⟩
              case measure => simp [intOf]; omega
        · obtain rfl : j = ps.length := by omega
          have HV2 := Lib.hid (join_yes HNo.out)
          go_wp2_with fail
          go_ret
          exact ⟨retb (by rw [HV.out, HV2.out]), HB1.out⟩

end Go.Proofs.YtjkgcgbialiipaaDoor
/- Walks: NetworkOfBlocks on both sides. -/
namespace Go.Proofs.YtjkgcgbialiipaaDoor
open Go.RowKit

theorem OwnI.belowB {w w' : World} {B B' : Nat} {v : Value} {zs : List Int} (h : OwnI w B v zs) (hb : Below B' w w') (hB : w.heap.size ≤ B') : OwnI w' B v zs := by
  obtain ⟨h0, h1 | ⟨g, cap, cur, e, hg, hh, h2⟩⟩ := h
  · exact ⟨h0, .inl h1⟩
  · exact ⟨h0, .inr ⟨g, cap, cur, e, hg, by rw [hb.block g (by have := lt_of_block hh; omega)]; exact hh, h2⟩⟩

/-- The values of the network of a schedule. -/
def schF (ps : List ByteArray) (zs : List Int) (k s : Nat) : Nat := bN (runTo ps zs s zs.length) k
def nbT (ps : List ByteArray) (zs : List Int) : ByteArray := if nbB ps zs = true then netT (schF ps zs) ps.length else ⟨#[]⟩
theorem nbT_no {ps : List ByteArray} {zs : List Int} (h : nbB ps zs = false) : nbT ps zs = ⟨#[]⟩ := by simp [nbT, h]
theorem nbT_yes {ps : List ByteArray} {zs : List Int} (h : nbB ps zs = true) : nbT ps zs = netT (schF ps zs) ps.length := by simp [nbT, h]
/-- The values of one table, so far. -/
def valsL (F : Nat → Nat → Nat) (k N : Nat) : List Int := (List.range N).map fun s => ((F k s : Nat) : Int)
theorem valsL_next (F : Nat → Nat → Nat) (k N : Nat) : valsL F k (N + 1) = valsL F k N ++ [((F k N : Nat) : Int)] := by simp [valsL, List.range_succ]
theorem valsL_len (F : Nat → Nat → Nat) (k N : Nat) : (valsL F k N).length = N := by simp [valsL]
theorem valsL_get (F : Nat → Nat → Nat) (k N i : Nat) (h : i < N) : gI (valsL F k N) i = (F k i : Nat) := by simp [gI, valsL, List.getD, h]

set_option maxHeartbeats 4000000 in
theorem l11Network_ok (ao : Option Addr) (n c : Nat) (ps : List ByteArray) (bo : Option Addr) (l d : Nat) (zs : List Int) (w : World) (h : RowT w ao n c ps) (hz : RowI w bo l d zs) (hn : netB ps = true) (h5 : n ≤ 5) (hb : ∀ k, k < l → 1 ≤ gI zs k ∧ gI zs k < 2 ^ n) (hl : l ≤ 1048576) :
    Calls Tryd.prog 118 #[.slice ao n c, .slice bo l d] w fun e w' => ∃ v, e = .returned v ∧ OwnT w' w.heap.size v (listF (digF (schF ps zs) n) n) ∧ Below w.heap.size w w' := by
  obtain rfl := h.1
  obtain rfl := hz.1
  have hp : (2 ^ ps.length : Nat) ≤ 32 := Nat.pow_le_pow_right (n := 2) (by decide) h5
  have HA := Lib.hid (fun W => l3All_ok ao ps.length c W h5)
  have HSt := Lib.hid (fun s W (hs : s < 2 ^ ps.length) (hW : Below w.heap.size w W) => l11Step_ok ao ps.length c ps bo zs.length d zs s W (h.below hW (Nat.le_refl _)) (hz.below hW (Nat.le_refl _)) hn h5 hs hb hl)
  have HRl := Lib.hid (fun s (hs : s < 2 ^ ps.length) => runTo_lt hn h5 zs hs zs.length)
  have HDf : Hid (∀ k, digF (schF ps zs) ps.length k = digT (valsL (schF ps zs) k (2 ^ ps.length))) := fun k => rfl
  have HSch : Hid (∀ k s, schF ps zs k s = bN (runTo ps zs s zs.length) k) := fun k s => rfl
  have HDz := Lib.hid (fun k => digF_size (schF ps zs) ps.length k)
  have b0 : Below w.heap.size w (w.alloc (.cells #[] 9)) := (Below.refl _ _).alloc (Nat.le_refl _) _
  have B0 := Lib.hid b0
  have O0 := Lib.hid (OwnT.lit w w.heap.size [] (Nat.le_refl _) (by decide))
  clear hn hb b0 h hz
  have hN1 : 0 < 2 ^ ps.length := Nat.two_pow_pos _
  generalize (2 ^ ps.length : Nat) = N at hp HA HSt HRl HDf HDz hN1
  go_enter Tryd.func118, Tryd.ntmps118
  go_wp2_with fail
  go_loopw [5, 6] (fun v q wr => ∃ k : Nat, k ≤ ps.length ∧ q = .int .i64 k ∧ OwnT wr w.heap.size v (listF (digF (schF ps zs) ps.length) k) ∧ Below w.heap.size w wr) (fun _ q _ => ps.length - (intOf q).toNat)
  case atStart => exact ⟨0, Nat.zero_le _, rfl, O0.out, B0.out⟩
  case round =>
    obtain ⟨k, hk, rfl, ho, hbw⟩ := hrel
    have HO := Lib.hid ho
    have HB := Lib.hid hbw
    have hlen := listF_len (digF (schF ps zs) ps.length) k
    clear ho hbw
    by_cases hlt : k < ps.length
    · have hlt' : (k : Int) < (ps.length : Int) := by omega
      have HN := Lib.hid (listF_next (digF (schF ps zs) ps.length) k)
      have hsz2 : (digF (schF ps zs) ps.length k).size ≤ 32 := by rw [HDz.out k]; exact hp
      have HDk := Lib.hid (HDf.out k)
      have b1 : Below wr.heap.size wr (wr.alloc (.cells #[] 3)) := (Below.refl _ _).alloc (Nat.le_refl _) _
      have B1 := Lib.hid (HB.out.trans (b1.mono HB.out.size))
      have O1 := Lib.hid (HO.out.below b1 (Nat.le_refl _))
      have V1 := Lib.hid (OwnI.lit wr (wr.alloc (.cells #[] 3)).heap.size.pred [] (by simp) (by decide))
      have hs1 : (wr.alloc (.cells #[] 3)).heap.size = wr.heap.size + 1 := by simp
      rw [show (wr.alloc (.cells #[] 3)).heap.size.pred = wr.heap.size by rw [hs1]; rfl] at V1
      have B1w := Lib.hid b1
      clear b1 hs1
      generalize digF (schF ps zs) ps.length k = dt at HN hsz2 HDk
      go_wp2_with fail
      obtain ⟨wo, hwo⟩ : ∃ wo : World, wo = wr := ⟨_, rfl⟩
      subst hwo
      go_loopw [7, 8] (fun v q wr => ∃ s : Nat, s ≤ N ∧ q = .int .i64 s ∧ OwnI wr wo.heap.size v (valsL (schF ps zs) k s) ∧ Below wo.heap.size wo wr) (fun _ q _ => N - (intOf q).toNat)
      case atStart => exact ⟨0, Nat.zero_le _, rfl, V1.out, B1w.out⟩
      case round =>
        obtain ⟨s, hs, rfl, hv, hb2⟩ := hrel
        have HV := Lib.hid hv
        have HB2 := Lib.hid hb2
        have HW2 := Lib.hid (HB.out.trans (hb2.mono HB.out.size))
        have hvl := valsL_len (schF ps zs) k s
        clear hv hb2
        have HAs := Lib.hid (HA.out wr)
        by_cases hsN : s < N
        · have hsw : (s : Int) ≤ ((N - 1 : Nat) : Int) := by omega
          have HSs := Lib.hid (HSt.out s wr hsN HW2.out)
          have hrl := HRl.out s hsN
          have HNv := Lib.hid (valsL_next (schF ps zs) k s)
          have hBt := Lib.hid (fun W => l1Bit_ok ((runTo ps zs s zs.length : Nat) : Int) (k : Int) W (by omega) (by omega) (by omega) (by omega))
          rw [Int.toNat_natCast, Int.toNat_natCast, ← HSch.out k s] at hBt
          generalize runTo ps zs s zs.length = rv at HSs hBt hrl
          generalize schF ps zs k s = bv at hBt HNv
          generalize ((N - 1 : Nat) : Int) = top at hsw HAs
          go_wp2_with fail
          refine HAs.out.mono ?_
          rintro e w2 ⟨rfl, rfl⟩
          go_wp2_with fail
          refine HSs.out.mono ?_
          rintro e w2 ⟨rfl, rfl⟩
          go_wp2_with fail
          refine (hBt.out _).mono ?_
          rintro e w2 ⟨rfl, rfl⟩
          go_wp2_with (at_builtin; refine wpList_appI (OwnI.alloc HV.out _) (RowI.one _ _) rfl _ _ rfl rfl rfl (by omega) (by have := HB2.out.size; simp; omega) ?_; intro v6 w6 o6 g6)
          go_roundw
          case rel => exact ⟨s + 1, by omega, by go_num, by rw [HNv.out]; exact o6, (HB2.out.alloc HB2.out.size _).grown g6 (by have := HB2.out.size; simp; omega) (fun j hj => (World.ownsRow.lt HV.out j hj).1)⟩
          case measure => simp [intOf] <;> omega
        · obtain rfl : s = N := by omega
          have hsw : ¬ (s : Int) ≤ ((s - 1 : Nat) : Int) := by omega
          obtain ⟨va, vc, rfl, vq⟩ := HV.out.out
          have HT := Lib.hid (fun W (hW : Below wr.heap.size wr W) => l1Text_ok va _ vc (valsL (schF ps zs) k s) W (vq.rowI.below hW (Nat.le_refl _)) (fun i hi => by rw [valsL_get _ _ _ _ (by omega), HSch.out]; have := bN_lt (runTo ps zs i zs.length) k; omega) (by omega))
          rw [← HDk.out, hvl] at HT
          rw [hvl]
          have O2 := Lib.hid (HO.out.below HB2.out (Nat.le_refl _))
          clear vq hvl
          generalize ((s - 1 : Nat) : Int) = top at hsw HAs
          go_wp2_with fail
          refine HAs.out.mono ?_
          rintro e w2 ⟨rfl, rfl⟩
          go_wp2_with fail
          refine (HT.out _ (Below.refl _ _)).mono ?_
          rintro e w3 ⟨rfl, b3⟩
          have C3 := Lib.hid (HW2.out.trans (b3.mono HW2.out.size))
          have O3 := Lib.hid (O2.out.below b3 (Nat.le_refl _))
          have HCe := Lib.hid ((Blk.new w3 9 [.string dt]).cell (i := 0) rfl)
          clear b3
          go_wp2_with (at_builtin; go_must (refine wpList_appT (OwnT.alloc O3.out _) HCe.out rfl _ _ rfl rfl rfl (by omega) (by have := C3.out.size; simp; omega) ?_); intro v6 w6 o6 g6)
          go_roundw
          case rel => exact ⟨k + 1, by omega, by go_num, by rw [HN.out]; exact o6, (C3.out.alloc C3.out.size _).grown g6 (by have := C3.out.size; simp; omega) (fun j hj => (World.ownsRow.lt O3.out j hj).1)⟩
          case measure => simp [intOf] <;> omega
    · obtain rfl : k = ps.length := by omega
      go_wp2_with fail
      go_ret
      exact ⟨_, rfl, HO.out, HB.out⟩

end Go.Proofs.YtjkgcgbialiipaaDoor
/- Plain: schedules: the same steps, the same fixed points, blocks joined. -/
namespace Go.Proofs.YtjkgcgbialiipaaDoor
open Go.RowKit

theorem bN_test (s i : Nat) : bN s i = if s.testBit i = true then 1 else 0 := bit_test s i
theorem bN_eq {s t i : Nat} (h : bN s i = bN t i) : s.testBit i = t.testBit i := by
  rw [bN_test, bN_test] at h
  cases h1 : s.testBit i <;> cases h2 : t.testBit i <;> simp_all
theorem list_beq (a b : ByteArray) : (a.toList == b.toList) = decide (a = b) := by
  rw [Bool.eq_iff_iff, beq_iff_eq, decide_eq_true_iff, ByteArray.toList_eq, ByteArray.toList_eq]
  constructor
  · intro h
    apply ByteArray.ext
    exact Array.toList_inj.1 h
  · intro h; rw [h]

/-- The network of a schedule, read again, makes the steps of the blocks. -/
theorem nb_cuts {ps : List ByteArray} {zs : List Int} (h0 : 0 < ps.length) (h : nbB ps zs = true) : cutsP 44 (nbT ps zs) = listF (digF (schF ps zs) ps.length) ps.length := by
  rw [nbT_yes h]
  exact cuts_net h0 fun k s _ _ => bN_lt _ _
theorem sch_bit {ps : List ByteArray} {zs : List Int} {k s : Nat} (hk : k < ps.length) (hs : s < 2 ^ ps.length) : bitN (listF (digF (schF ps zs) ps.length) ps.length) k s = bN (runL ps s zs) k := by
  rw [bitN_net (F := schF ps zs) hk hs (bN_lt _ _), schF, runTo_all]
theorem sch_net {ps : List ByteArray} {zs : List Int} (h0 : 0 < ps.length) (h5 : ps.length ≤ 5) : netB (listF (digF (schF ps zs) ps.length) ps.length) = true := netB_net ⟨h0, h5⟩ fun _ _ _ _ => bN_lt _ _
theorem sch_all {ps : List ByteArray} {zs : List Int} (hn : netB ps = true) (h0 : 0 < ps.length) (h5 : ps.length ≤ 5) {s : Nat} (hs : s < 2 ^ ps.length) :
    allTo (listF (digF (schF ps zs) ps.length) ps.length) s ps.length = runL ps s zs := by
  have hq := sch_net (zs := zs) h0 h5
  have hl : (listF (digF (schF ps zs) ps.length) ps.length).length = ps.length := listF_len _ _
  have h1 := allTo_lt hq (by rw [hl]; exact h5) s
  rw [hl] at h1
  refine eq_pow h1 (runL_lt hn h5 zs hs) fun j hj => ?_
  have h2 := allTo_bit hq (by rw [hl]; exact h5) (s := s) (j := j) (by rw [hl]; exact hj)
  rw [hl] at h2
  rw [h2, sch_bit hj hs, bN_test]
  cases (runL ps s zs).testBit j <;> rfl

/-- Two schedules are the same just if all states have the same steps. -/
theorem ss_iff {ps : List ByteArray} {xs ys : List Int} (hn : netB ps = true) (h0 : 0 < ps.length) (h5 : ps.length ≤ 5) (hx : nbB ps xs = true) (hy : nbB ps ys = true) :
    nbT ps xs = nbT ps ys ↔ ∀ s, s < 2 ^ ps.length → runL ps s xs = runL ps s ys := by
  constructor
  · intro h s hs
    have hc : listF (digF (schF ps xs) ps.length) ps.length = listF (digF (schF ps ys) ps.length) ps.length := by rw [← nb_cuts h0 hx, ← nb_cuts h0 hy, h]
    rw [← sch_all (zs := xs) hn h0 h5 hs, hc, sch_all (zs := ys) hn h0 h5 hs]
  · intro h
    rw [nbT_yes hx, nbT_yes hy, netT, netT]
    have hd : ∀ k, digF (schF ps xs) ps.length k = digF (schF ps ys) ps.length k := fun k => by
      rw [digF, digF]
      congr 1
      apply List.map_congr_left
      intro s hs
      rw [schF, schF, runTo_all, runTo_all, h s (by simpa using hs)]
    rw [show digF (schF ps xs) ps.length = digF (schF ps ys) ps.length from funext hd]

/-! What the first sets of blocks tell. -/
theorem addB_get {top : Int} {t u : Nat} {z : Int} (h : addB top t z = some u) : (1 ≤ z ∧ z < top ∧ t &&& z.toNat = 0) ∧ u = t ||| z.toNat := by
  unfold addB at h
  split at h
  · rename_i hc; exact ⟨hc, (Option.some.inj h).symm⟩
  · cases h
theorem fold_cons {top : Int} {t u : Nat} {z : Int} {zs : List Int} (h : (z :: zs).foldlM (addB top) t = some u) : (1 ≤ z ∧ z < top ∧ t &&& z.toNat = 0) ∧ zs.foldlM (addB top) (t ||| z.toNat) = some u := by
  rw [List.foldlM_cons] at h
  cases hx : addB top t z with
  | none => rw [hx] at h; cases h
  | some v =>
    rw [hx] at h
    obtain ⟨h1, rfl⟩ := addB_get hx
    exact ⟨h1, h⟩
theorem and_zero {a b j : Nat} (h : a &&& b = 0) (ha : a.testBit j = true) : b.testBit j = false := by
  have := congrArg (·.testBit j) h
  simp only [Nat.testBit_and, Nat.zero_testBit, ha, Bool.true_and] at this
  exact this
/-- What is in none of the blocks stays. -/
theorem run_keep {ps : List ByteArray} (hn : netB ps = true) (h5 : ps.length ≤ 5) {top : Int} : ∀ (zs : List Int) (t u s j : Nat), zs.foldlM (addB top) t = some u → s < 2 ^ ps.length → j < ps.length → t.testBit j = true → (runL ps s zs).testBit j = s.testBit j
  | [], _, _, _, _, _, _, _, _ => rfl
  | z :: zs, t, u, s, j, h, hs, hj, ht => by
    obtain ⟨h1, h2⟩ := fold_cons h
    rw [runL_cons, run_keep hn h5 zs _ u _ j h2 (stepTo_lt hn h5 _ hs) hj (by rw [Nat.testBit_or, ht]; rfl), stepTo_bit hn h5 hs hj, and_zero h1.2.2 ht]
    rfl
theorem run_fix {ps : List ByteArray} (hn : netB ps = true) (h5 : ps.length ≤ 5) {top : Int} : ∀ (zs : List Int) (t u s : Nat), zs.foldlM (addB top) t = some u → s < 2 ^ ps.length → runL ps s zs = s → ∀ z ∈ zs, stepTo ps s z.toNat ps.length = s
  | [], _, _, _, _, _, _, z, hz => by cases hz
  | y :: zs, t, u, s, h, hs, hr, z, hz => by
    obtain ⟨h1, h2⟩ := fold_cons h
    rw [runL_cons] at hr
    have h3 := stepTo_lt hn h5 y.toNat hs
    have he : stepTo ps s y.toNat ps.length = s := eq_pow h3 hs fun j hj => by
      cases hy : y.toNat.testBit j with
      | true =>
        have := run_keep hn h5 zs _ u (stepTo ps s y.toNat ps.length) j h2 h3 hj (by rw [Nat.testBit_or, hy]; simp)
        rw [hr] at this
        exact this.symm
      | false => rw [stepTo_bit hn h5 hs hj, hy]; rfl
    rcases List.mem_cons.1 hz with rfl | hz
    · exact he
    · rw [he] at hr
      exact run_fix hn h5 zs _ u s h2 hs hr z hz
theorem fold_cover {top : Int} : ∀ (zs : List Int) (t u j : Nat), zs.foldlM (addB top) t = some u → u.testBit j = true → t.testBit j = true ∨ ∃ z ∈ zs, z.toNat.testBit j = true
  | [], t, u, j, h, hu => by
    have : t = u := by simpa using h
    subst this; exact .inl hu
  | z :: zs, t, u, j, h, hu => by
    obtain ⟨_, h2⟩ := fold_cons h
    rcases fold_cover zs _ u j h2 hu with h3 | ⟨y, hy, h3⟩
    · rw [Nat.testBit_or, Bool.or_eq_true] at h3
      rcases h3 with h3 | h3
      · exact .inl h3
      · exact .inr ⟨z, by simp, h3⟩
    · exact .inr ⟨y, by simp [hy], h3⟩
theorem nb_fold {ps : List ByteArray} {zs : List Int} (h : nbB ps zs = true) : zs.foldlM (addB 32) 0 = some (2 ^ ps.length - 1) := by
  rw [nbB, Bool.and_eq_true, blocksV, Bool.and_eq_true, decide_eq_true_iff, decide_eq_true_iff, Int.toNat_natCast] at h
  exact h.2.2
theorem step_fix {ps : List ByteArray} (hn : netB ps = true) (h5 : ps.length ≤ 5) {s : Nat} (b : Nat) (hs : s < 2 ^ ps.length) (h : allTo ps s ps.length = s) : stepTo ps s b ps.length = s :=
  eq_pow (stepTo_lt hn h5 b hs) hs fun j hj => by
    have h2 := allTo_bit hn h5 (s := s) hj
    rw [h] at h2
    rw [stepTo_bit hn h5 hs hj, ← h2]
    simp
theorem run_stay {ps : List ByteArray} (hn : netB ps = true) (h5 : ps.length ≤ 5) {s : Nat} (hs : s < 2 ^ ps.length) (h : allTo ps s ps.length = s) : ∀ zs : List Int, runL ps s zs = s
  | [] => rfl
  | z :: zs => by rw [runL_cons, step_fix hn h5 _ hs h, run_stay hn h5 hs h zs]
/-- All schedules have the fixed points of the network. -/
theorem fix_iff {ps : List ByteArray} {zs : List Int} (h5 : ps.length ≤ 5) (hb : nbB ps zs = true) {s : Nat} (hs : s < 2 ^ ps.length) : runL ps s zs = s ↔ allTo ps s ps.length = s := by
  have hn := nb_net hb
  constructor
  · intro h
    have hf := nb_fold hb
    have hfix := run_fix hn h5 zs 0 _ s hf hs h
    refine eq_pow (allTo_lt hn h5 s) hs fun j hj => ?_
    rcases fold_cover zs 0 _ j hf (by rw [Nat.testBit_two_pow_sub_one]; simp [hj]) with h3 | ⟨z, hz, h3⟩
    · simp at h3
    · have := stepTo_bit hn h5 (b := z.toNat) hs hj
      rw [hfix z hz, h3] at this
      rw [allTo_bit hn h5 hj]
      simpa using this.symm
  · intro h
    exact run_stay hn h5 hs h zs

/-! Blocks joined. -/
theorem or_top (a b : Int) (ha : 1 ≤ a ∧ a < 32) (hb : 1 ≤ b ∧ b < 32) : bits .or .i64 a b = ((a.toNat ||| b.toNat : Nat) : Int) := or_int a b (by omega) (by omega) (by omega) (by omega)
theorem fold_join {top : Int} (zs : List Int) (a b : Int) (t u : Nat) (ht : top = 32) (h : (a :: b :: zs).foldlM (addB top) t = some u) : ((((a.toNat ||| b.toNat : Nat) : Int)) :: zs).foldlM (addB top) t = some u := by
  subst ht
  obtain ⟨h1, h2⟩ := fold_cons h
  obtain ⟨h3, h4⟩ := fold_cons h2
  have hlt : a.toNat ||| b.toNat < 32 := or_lt32 (by omega) (by omega)
  have hge : a.toNat ≤ a.toNat ||| b.toNat := Nat.left_le_or
  have hz : t &&& (a.toNat ||| b.toNat) = 0 := by
    apply Nat.eq_of_testBit_eq
    intro j
    rw [Nat.testBit_and, Nat.testBit_or, Nat.zero_testBit]
    cases htj : t.testBit j with
    | false => rfl
    | true =>
      rw [and_zero h1.2.2 htj, and_zero h3.2.2 (show (t ||| a.toNat).testBit j = true by rw [Nat.testBit_or, htj]; rfl)]
      rfl
  rw [List.foldlM_cons, addB, if_pos ⟨by omega, by omega, by rw [Int.toNat_natCast]; exact hz⟩, Int.toNat_natCast]
  show zs.foldlM (addB 32) (t ||| (a.toNat ||| b.toNat)) = some u
  rw [← Nat.or_assoc]; exact h4
theorem split_two {zs : List Int} {k : Nat} (hk : k + 1 < zs.length) : zs = zs.take k ++ (gI zs k :: gI zs (k + 1) :: zs.drop (k + 2)) := by
  conv => lhs; rw [← List.take_append_drop k zs]
  congr 1
  rw [List.drop_eq_getElem_cons (by omega), gI_eq (by omega), List.drop_eq_getElem_cons (by omega), gI_eq (by omega)]
theorem join_list {ps : List ByteArray} {zs : List Int} {k : Nat} (hb : nbB ps zs = true) (hk : k + 1 < zs.length) : (zs.take k ++ [bits .or .i64 (gI zs k) (gI zs (k + 1))] ++ zs.drop (k + 2)) = zs.take k ++ ((((gI zs k).toNat ||| (gI zs (k + 1)).toNat : Nat) : Int) :: zs.drop (k + 2)) := by
  have hf := fold_all zs 0 _ (nb_fold hb)
  rw [or_top _ _ (hf _ (List.mem_of_getElem? (gI_lt (by omega)))) (hf _ (List.mem_of_getElem? (gI_lt (by omega))))]
  simp
theorem nb_join {ps : List ByteArray} {zs : List Int} {k : Nat} (hb : nbB ps zs = true) (hk : k + 1 < zs.length) : nbB ps (zs.take k ++ [bits .or .i64 (gI zs k) (gI zs (k + 1))] ++ zs.drop (k + 2)) = true := by
  have hf := nb_fold hb
  rw [join_list hb hk]
  rw [nbB, Bool.and_eq_true, blocksV, Bool.and_eq_true] at hb ⊢
  refine ⟨hb.1, hb.2.1, ?_⟩
  rw [decide_eq_true_iff, Int.toNat_natCast, unionB]
  rw [split_two hk, List.foldlM_append] at hf
  rw [List.foldlM_append]
  cases ht : (zs.take k).foldlM (addB 32) 0 with
  | none => rw [ht] at hf; cases hf
  | some t =>
    rw [ht] at hf
    exact fold_join _ _ _ t _ rfl hf
theorem run_join {ps : List ByteArray} {zs : List Int} {k : Nat} (h5 : ps.length ≤ 5) (hb : nbB ps zs = true) (hk : k + 1 < zs.length)
    (h : ∀ i j, i < ps.length → j < ps.length → (gI zs k).toNat.testBit i = true → (gI zs (k + 1)).toNat.testBit j = true → actB ps i j = false) {s : Nat} (hs : s < 2 ^ ps.length) :
    runL ps s (zs.take k ++ [bits .or .i64 (gI zs k) (gI zs (k + 1))] ++ zs.drop (k + 2)) = runL ps s zs := by
  have hn := nb_net hb
  rw [join_list hb hk]
  conv => rhs; rw [split_two hk]
  rw [runL_app, runL_app, runL_cons, runL_cons, runL_cons, Int.toNat_natCast, step_join hn h5 (runL_lt hn h5 _ hs) h]

end Go.Proofs.YtjkgcgbialiipaaDoor
/- Walks: NetworkOfBlocks, SameSchedule; the laws on them. -/
namespace Go.Proofs.YtjkgcgbialiipaaDoor
open Go.RowKit

theorem ret2s {a b : ByteArray} {c d : Bool} (h : a = b) (h' : c = d) : Ending.returned (.tuple #[.string a, .bool c]) = .returned (.tuple #[.string b, .bool d]) := by rw [h, h']
theorem netT_size (F : Nat → Nat → Nat) (n : Nat) (hn : n ≤ 5) : (netT F n).size ≤ 165 := by
  have hp : (2 ^ n : Nat) ≤ 32 := Nat.pow_le_pow_right (n := 2) (by decide) hn
  have := joinF_size (digF F n) ⟨#[44]⟩ 32 (by decide) (fun i => by rw [digF_size]; exact hp) n
  have h2 : n * (32 + 1) ≤ 5 * (32 + 1) := Nat.mul_le_mul_right _ hn
  unfold netT
  omega

theorem netN_wide (ps : List ByteArray) : W32 (netN ps) := by
  unfold netN
  split
  · exact bitsN_wide ps _
  · intro b hb; cases hb

set_option maxHeartbeats 2000000 in
theorem nobS_ok (t : ByteArray) (bo : Option Addr) (l d : Nat) (zs : List Int) (w : World) (hs : t.size ≤ 1048576) (hz : RowI w bo l d zs) (hl : l ≤ 1048576) :
    Calls Tryd.prog 41 #[.string t, .slice bo l d] w fun e w' => e = .returned (.tuple #[.string (nbT (cutsP 44 t) zs), .bool (nbB (cutsP 44 t) zs)]) ∧ Below w.heap.size w w' := by
  have HO := Lib.hid (l11Blocks_ok t bo l d zs w hs hz)
  have hp0 := cutsP_pos 44 t
  generalize cutsP 44 t = ps at HO hp0 ⊢
  obtain rfl := hz.1
  cases hb : nbB ps zs with
  | false =>
    have HV := Lib.hid (nbT_no hb)
    have HB := Lib.hid hb
    rw [hb] at HO
    clear hb hz
    go_enter Tryd.func41, Tryd.ntmps41
    go_wp2_with fail
    refine HO.out.mono ?_
    rintro e w1 ⟨v, rfl, o1, b1⟩
    clear o1
    go_wp2_with fail
    go_ret2
    exact ⟨ret2s HV.out.symm rfl, b1⟩
  | true =>
    rw [hb] at HO
    have HV := Lib.hid (nbT_yes hb)
    have hn := nb_net hb
    have h5 := net_le hn hp0
    have HN := Lib.hid (netL_yes hn)
    have hbl := nb_blocks hb
    have HNet := Lib.hid (fun ao c W (h : RowT W ao ps.length c ps) (hW : Below w.heap.size w W) => l11Network_ok ao ps.length c ps bo zs.length d zs W h (hz.below hW (Nat.le_refl _)) hn h5 hbl hl)
    have HZ := Lib.hid (fun k => digF_size (schF ps zs) ps.length k)
    have hp : (2 ^ ps.length : Nat) ≤ 32 := Nat.pow_le_pow_right (n := 2) (by decide) h5
    have HE : Hid (netT (schF ps zs) ps.length = joinF (digF (schF ps zs) ps.length) ⟨#[44]⟩ ps.length) := rfl
    have HLen := Lib.hid (listF_len (digF (schF ps zs) ps.length) ps.length)
    have HGT : Hid (∀ i, i < ps.length → gT (listF (digF (schF ps zs) ps.length) ps.length) i = digF (schF ps zs) ps.length i) := fun i hi => by simp [gT, listF, List.getD, hi]
    clear hb hz hn hbl
    go_enter Tryd.func41, Tryd.ntmps41
    go_wp2_with fail
    refine HO.out.mono ?_
    rintro e w1 ⟨v, rfl, o1, b1⟩
    rw [HN.out] at o1
    obtain ⟨a, c, rfl, r1⟩ := o1.row
    have HN1 := Lib.hid (HNet.out _ _ _ r1 b1)
    clear o1 r1
    go_wp2_with fail
    refine HN1.out.mono ?_
    rintro e w2 ⟨v2, rfl, o2, b2⟩
    have C2 := Lib.hid (b1.trans (b2.mono b1.size))
    obtain ⟨a2, cp2, rfl, r2⟩ := o2.row
    rw [HLen.out] at r2 ⊢
    have HT := Lib.hid (l3Text_ok a2 _ cp2 _ (digF (schF ps zs) ps.length) w2 r2 HGT.out (fun i => by rw [HZ.out i]; omega) (by omega))
    rw [← HE.out] at HT
    clear o2 r2 b2
    go_wp2_with fail
    refine HT.out.mono ?_
    rintro e w3 ⟨rfl, rfl⟩
    go_wp2_with fail
    go_ret2
    exact ⟨ret2s HV.out.symm rfl, C2.out⟩

set_option maxHeartbeats 1000000 in
theorem nobClosure_ok (s p6 p3 : Nat) (ao bo : Option Addr) (c l d : Nat) (ps : List ByteArray) (zs : List Int) (w : World)
    (c6 : w.cell? ⟨p6, 0, none⟩ = some (.slice ao ps.length c)) (c3 : w.cell? ⟨p3, 0, none⟩ = some (.slice bo l d))
    (hr : Calls Tryd.prog 88 #[.slice ao ps.length c, .slice bo l d, .int .i64 s] w fun e w' => e = .returned (.int .i64 (runTo ps zs s l : Nat)) ∧ Below w.heap.size w w') :
    Calls Tryd.prog 115 #[.int .i64 s, .pointer (some ⟨p6, 0, none⟩), .pointer (some ⟨p3, 0, none⟩)] w fun e w' => e = .returned (.int .i64 (runTo ps zs s l : Nat)) ∧ Below w.heap.size w w' := by
  have HR := Lib.hid hr
  clear hr
  go_enter Tryd.func115, Tryd.ntmps115
  go_wp2_with fail
  refine HR.out.mono ?_
  rintro e w1 ⟨rfl, b1⟩
  go_wp2_with fail
  go_ret
  exact ⟨rfl, b1⟩

set_option maxHeartbeats 4000000 in
theorem nobI_ok (t : ByteArray) (bo : Option Addr) (l d : Nat) (zs : List Int) (w : World) (hs : t.size ≤ 1048576) (hz : RowI w bo l d zs) (hl : l ≤ 1048576) (hm : MaxLenIs w) :
    Calls Tryd.prog 40 #[.string t, .slice bo l d] w fun e w' => e = .returned (.tuple #[.string (nbT (cutsP 44 t) zs), .bool (nbB (cutsP 44 t) zs)]) ∧ Below w.heap.size w w' := by
  have bb : Below w.heap.size w (w.alloc (.cells #[.slice bo l d] 23)) := (Below.refl _ _).alloc (Nat.le_refl _) _
  have HO := Lib.hid (blocksOf_ok t bo l d zs _ hs (hz.below bb (Nat.le_refl _)) (hm.below bb (Nat.le_refl _)))
  have hc3 := (Blk.new w 23 [.slice bo l d]).cell (i := 0) rfl
  have hp0 := cutsP_pos 44 t
  generalize cutsP 44 t = ps at HO hp0 ⊢
  obtain rfl := hz.1
  have Z0 := Lib.hid (hz.below bb (Nat.le_refl _))
  have B0 := Lib.hid bb
  have C3 := Lib.hid hc3
  clear bb hm hz hc3
  cases hb : nbB ps zs with
  | false =>
    have HV := Lib.hid (nbT_no hb)
    rw [hb] at HO
    clear hb
    go_enter Tryd.func40, Tryd.ntmps40
    go_wp2_with fail
    refine HO.out.mono ?_
    rintro e w1 ⟨v, rfl, o1, b1⟩
    obtain ⟨va, vc, rfl, _⟩ := o1.row (netN_wide ps)
    clear o1
    go_wp2_with fail
    go_ret2
    exact ⟨ret2s HV.out.symm rfl, (B0.out.trans (b1.mono B0.out.size)).alloc (B0.out.trans (b1.mono B0.out.size)).size _⟩
  | true =>
    rw [hb] at HO
    have HV := Lib.hid (nbT_yes hb)
    have hn := nb_net hb
    have h5 := net_le hn hp0
    have HN := Lib.hid (netN_yes hn)
    have hlen := bitsN_len ps ps.length
    have hbl := nb_blocks hb
    have hp : (2 ^ ps.length : Nat) ≤ 32 := Nat.pow_le_pow_right (n := 2) (by decide) h5
    have HRun := Lib.hid (fun ao c s W (h : RowN W ao ps.length c ps.length (bitsN ps ps.length)) (hzW : RowI W bo zs.length d zs) (hs : s < 2 ^ ps.length) => run_ok ao c ps bo zs.length d zs s W h hzW hn h5 hs hbl hl)
    have HLt := Lib.hid (fun s (hs : s < 2 ^ ps.length) => Nat.lt_of_lt_of_le (runTo_lt hn h5 zs hs zs.length) hp)
    clear hb hn hbl
    go_enter Tryd.func40, Tryd.ntmps40
    go_wp2_with fail
    refine HO.out.mono ?_
    rintro e w1 ⟨v, rfl, o1, b1⟩
    rw [HN.out] at o1
    obtain ⟨a, c, rfl, r1⟩ := o1.row (bitsN_wide ps ps.length)
    rw [hlen] at r1 ⊢
    have b2 : Below w1.heap.size w1 (w1.alloc (.cells #[.slice a ps.length c] 82)) := (Below.refl _ _).alloc (Nat.le_refl _) _
    have R2 := Lib.hid (r1.below b2 (Nat.le_refl _))
    have Z2 := Lib.hid ((Z0.out.below b1 (Nat.le_refl _)).below b2 (Nat.le_refl _))
    have d6 := (Blk.new w1 82 [.slice a ps.length c]).cell (i := 0) rfl
    have h0 := World.block_lt_of_cell? _ ⟨w.heap.size, 0, none⟩ C3.out
    have c31 : w1.cell? ⟨w.heap.size, 0, none⟩ = some (.slice bo zs.length d) := (b1.cell (p := ⟨w.heap.size, 0, none⟩) h0).trans C3.out
    have d3 : (w1.alloc (.cells #[.slice a ps.length c] 82)).cell? ⟨w.heap.size, 0, none⟩ = some (.slice bo zs.length d) := (b2.cell (p := ⟨w.heap.size, 0, none⟩) (Nat.lt_of_lt_of_le h0 b1.size)).trans c31
    have B2 := Lib.hid ((B0.out.trans (b1.mono B0.out.size)).trans (b2.mono (B0.out.trans (b1.mono B0.out.size)).size))
    have D3 := Lib.hid d3
    have D6 := Lib.hid d6
    have HFS := Lib.hid (fun (W0 : World) (q : Nat) (R2 : RowN W0 a ps.length c ps.length (bitsN ps ps.length)) (Z2 : RowI W0 bo zs.length d zs) (D6 : W0.cell? ⟨q, 0, none⟩ = some (.slice a ps.length c)) (D3 : W0.cell? ⟨w.heap.size, 0, none⟩ = some (.slice bo zs.length d)) =>
      fromStep_ok ps.length h5 115 #[.pointer (some ⟨q, 0, none⟩), .pointer (some ⟨w.heap.size, 0, none⟩)] (fun s => runTo ps zs s zs.length) W0 (fun _ _ => by kernel_rfl)
        (fun s hs W hW => nobClosure_ok s q w.heap.size a bo c zs.length d ps zs W ((hW.cell (p := ⟨q, 0, none⟩) (World.block_lt_of_cell? W0 ⟨q, 0, none⟩ D6)).trans D6) ((hW.cell (p := ⟨w.heap.size, 0, none⟩) (World.block_lt_of_cell? W0 ⟨w.heap.size, 0, none⟩ D3)).trans D3) (HRun.out a c s W (R2.below hW (Nat.le_refl _)) (Z2.below hW (Nat.le_refl _)) hs)) HLt.out)
    have HF := Lib.hid (HFS.out _ _ R2.out Z2.out D6.out D3.out)
    clear o1 r1 b1 b2 d6 d3 c31 hlen HFS
    go_wp2_with fail
    refine HF.out.mono ?_
    rintro e w3 ⟨v3, rfl, o3, b3⟩
    have C3' := Lib.hid (B2.out.trans (b3.mono B2.out.size))
    obtain ⟨a3, c3, rfl, r3⟩ := o3.row (fromL_wide _ _ _)
    rw [fromL_len] at r3 ⊢
    have HT := Lib.hid (netText_ok a3 ps.length c3 (schF ps zs) w3 r3 ⟨by omega, h5⟩ (fun k s _ _ => bN_lt _ _))
    clear o3 r3 b3
    go_wp2_with fail
    refine HT.out.mono ?_
    rintro e w4 ⟨rfl, b4⟩
    go_wp2_with fail
    go_ret2
    exact ⟨ret2s HV.out.symm rfl, C3'.out.trans (b4.mono C3'.out.size)⟩

end Go.Proofs.YtjkgcgbialiipaaDoor
/- The laws FnExactNetworkOfBlocks and FnExactSameSchedule. -/
namespace Go.Proofs.YtjkgcgbialiipaaDoor
open Go.RowKit

/-- What SameSchedule gives. -/
def ssV (ps : List ByteArray) (xs ys : List Int) : Bool := nbB ps xs && (nbB ps ys && ((nbT ps xs).toList == (nbT ps ys).toList))

set_option maxHeartbeats 1000000 in
theorem ssI_ok (t : ByteArray) (ao bo : Option Addr) (n c l d : Nat) (xs ys : List Int) (w : World) (hs : t.size ≤ 1048576) (hx : RowI w ao n c xs) (hn : n ≤ 1048576) (hy : RowI w bo l d ys) (hl : l ≤ 1048576) (hm : MaxLenIs w) :
    Calls Tryd.prog 35 #[.string t, .slice ao n c, .slice bo l d] w fun e w' => e = .returned (.bool (ssV (cutsP 44 t) xs ys)) ∧ Below w.heap.size w w' := by
  have H1 := Lib.hid (nobI_ok t ao n c xs w hs hx hn hm)
  have H2 := Lib.hid (fun W (hW : Below w.heap.size w W) => nobI_ok t bo l d ys W hs (hy.below hW (Nat.le_refl _)) hl (hm.below hW (Nat.le_refl _)))
  have HV : Hid (ssV (cutsP 44 t) xs ys = (nbB (cutsP 44 t) xs && (nbB (cutsP 44 t) ys && ((nbT (cutsP 44 t) xs).toList == (nbT (cutsP 44 t) ys).toList)))) := rfl
  clear hx hy hm
  generalize nbT (cutsP 44 t) xs = tx at H1 HV
  generalize nbT (cutsP 44 t) ys = ty at H2 HV
  generalize nbB (cutsP 44 t) xs = bx at H1 HV
  generalize nbB (cutsP 44 t) ys = by' at H2 HV
  cases bx <;> cases by'
  all_goals
    go_enter Tryd.func35, Tryd.ntmps35
    go_wp2_with fail
    refine H1.out.mono ?_
    rintro e w1 ⟨rfl, b1⟩
    go_wp2_with fail
    refine (H2.out _ b1).mono ?_
    rintro e w2 ⟨rfl, b2⟩
    go_wp2_with fail
    go_ret
    exact ⟨retb (by rw [HV.out]; rfl), b1.trans (b2.mono b1.size)⟩
set_option maxHeartbeats 1000000 in
theorem ssS_ok (t : ByteArray) (ao bo : Option Addr) (n c l d : Nat) (xs ys : List Int) (w : World) (hs : t.size ≤ 1048576) (hx : RowI w ao n c xs) (hn : n ≤ 1048576) (hy : RowI w bo l d ys) (hl : l ≤ 1048576) :
    Calls Tryd.prog 36 #[.string t, .slice ao n c, .slice bo l d] w fun e w' => e = .returned (.bool (ssV (cutsP 44 t) xs ys)) ∧ Below w.heap.size w w' := by
  have H1 := Lib.hid (nobS_ok t ao n c xs w hs hx hn)
  have H2 := Lib.hid (fun W (hW : Below w.heap.size w W) => nobS_ok t bo l d ys W hs (hy.below hW (Nat.le_refl _)) hl)
  have HV : Hid (ssV (cutsP 44 t) xs ys = (nbB (cutsP 44 t) xs && (nbB (cutsP 44 t) ys && ((nbT (cutsP 44 t) xs).toList == (nbT (cutsP 44 t) ys).toList)))) := rfl
  clear hx hy
  generalize nbT (cutsP 44 t) xs = tx at H1 HV
  generalize nbT (cutsP 44 t) ys = ty at H2 HV
  generalize nbB (cutsP 44 t) xs = bx at H1 HV
  generalize nbB (cutsP 44 t) ys = by' at H2 HV
  cases bx <;> cases by'
  all_goals
    go_enter Tryd.func36, Tryd.ntmps36
    go_wp2_with fail
    refine H1.out.mono ?_
    rintro e w1 ⟨rfl, b1⟩
    go_wp2_with fail
    refine (H2.out _ b1).mono ?_
    rintro e w2 ⟨rfl, b2⟩
    go_wp2_with fail
    go_ret
    exact ⟨retb (by rw [HV.out]; rfl), b1.trans (b2.mono b1.size)⟩

end Go.Proofs.YtjkgcgbialiipaaDoor
/- The law FnJoinBlocks. -/
namespace Go.Proofs.YtjkgcgbialiipaaDoor
open Go.RowKit

set_option maxHeartbeats 1000000 in
theorem bnSame_ok (ao bo : Option Addr) (c d : Nat) (zs : List Int) (w : World) (h : RowI w ao zs.length c zs) (h' : RowI w bo zs.length d zs) :
    Calls Tryd.prog 49 #[.slice ao zs.length c, .slice bo zs.length d] w fun e w' => e = .returned (.bool true) ∧ Below w.heap.size w w' := by
  have hcap := h.2.cap
  have hle := h.2.le
  unfold maxLen at hcap
  go_enter Tryd.func49, Tryd.ntmps49
  go_wp2_with fail
  go_loopw [5] (fun q wr => ∃ k : Nat, k ≤ zs.length ∧ q = .int .i64 k ∧ Below w.heap.size w wr) (fun q _ => zs.length - (intOf q).toNat)
  case atStart => exact ⟨0, Nat.zero_le _, rfl, Below.refl _ _⟩
  case round =>
    obtain ⟨k, hk, rfl, hb⟩ := hrel
    by_cases hlt : k < zs.length
    · obtain ⟨b, o, rfl, _⟩ := h.2.some (by omega)
      obtain ⟨b', o', rfl, _⟩ := h'.2.some (by omega)
      have hc1 := (h.below hb (Nat.le_refl _)).2.cell b o rfl k hlt
      have hc2 := (h'.below hb (Nat.le_refl _)).2.cell b' o' rfl k hlt
      have hlt' : (k : Int) < (zs.length : Int) := by omega
      clear h h'
      go_wp2_with fail
      go_quiet (fail)
      go_wp2_with fail
      go_roundw
      case rel => exact ⟨k + 1, by omega, by go_num, hb.trans ⟨rfl, rfl, rfl, Nat.le_refl _, fun _ _ => rfl⟩⟩
      case measure => simp [intOf]; omega
    · obtain rfl : k = zs.length := by omega
      go_wp2_with fail
      go_ret
      exact ⟨rfl, hb⟩

theorem join_acts {ps : List ByteArray} {b c : Nat} (h : joinB ps b c = true) : ∀ i j, i < ps.length → j < ps.length → b.testBit i = true → c.testBit j = true → actB ps i j = false := by
  intro i j hi hj hb hc
  rw [joinB, Bool.not_eq_true', Bool.eq_false_iff, Ne, anyTo_iff] at h
  rw [Bool.eq_false_iff]
  intro ha
  refine h ⟨i, hi, ?_⟩
  rw [stopB, hb, Bool.true_and, hitB, anyTo_iff]
  exact ⟨j, hj, by rw [hc, ha]; rfl⟩

/-- What may be joined is joined, and the schedule does the same. -/
theorem join_all {ps : List ByteArray} {zs : List Int} {q : Int} (h0 : 0 < ps.length) (h : cjV ps zs q = true) :
    netB ps = true ∧ joinW zs ps.length q = true ∧ (joinL zs ps.length q).length + 1 = zs.length ∧ blocksI (joinL zs ps.length q) ps.length = true ∧ ssV ps zs (joinL zs ps.length q) = true := by
  rw [cjV, Bool.and_eq_true, Bool.and_eq_true, inB_iff] at h
  obtain ⟨hnb, ⟨hq0, hq1⟩, hj⟩ := h
  obtain ⟨k, rfl⟩ := Int.eq_ofNat_of_zero_le hq0
  rw [Int.toNat_natCast] at hj
  have hnet := nb_net hnb
  have h5 := net_le hnet h0
  have hk : k + 1 < zs.length := by omega
  have hw : joinW zs ps.length (k : Int) = true := by
    rw [joinW, ← nb_yes hnet, hnb, decide_eq_true hq0, decide_eq_true hq1]; rfl
  have hL : joinL zs ps.length (k : Int) = joinV zs k := by rw [joinL, if_pos hw, Int.toNat_natCast]
  have hnj : nbB ps (joinV zs k) = true := nb_join hnb hk
  rw [hL]
  refine ⟨hnet, hw, by simp [joinV]; omega, by rw [blocks_same, ← nb_yes hnet]; exact hnj, ?_⟩
  rw [ssV, hnb, hnj, Bool.true_and, Bool.true_and, list_beq, decide_eq_true_iff]
  refine (ss_iff hnet h0 h5 hnb hnj).2 fun s hs => (run_join h5 hnb hk (join_acts hj) hs).symm

set_option maxRecDepth 100000 in
set_option maxHeartbeats 8000000 in
theorem FnJoinBlocks_ok (ao : Option Addr) (l c : Nat) (cs : List Int) (w : World) (h : RowU w ao l c cs) (hm : MaxLenIs w) :
    Calls Tryd.prog 8 #[.slice ao l c] w fun e w' => e = .returned (.bool true) ∧ Below w.heap.size w w' := by
  go_enter Tryd.func8, Tryd.ntmps8
  by_cases hbig : 1048576 < l
  · have hbig' : (1048576 : Int) < (l : Int) := by omega
    go_wp2_with fail
    go_ret
    exact ⟨rfl, Below.refl _ _⟩
  · have hbig' : ¬ (1048576 : Int) < (l : Int) := by omega
    have HD := Lib.hid (drawCJ_ok ao l c cs w h (by omega))
    have HM := Lib.hid (fun W (hW : Below w.heap.size w W) => hm.below hW (Nat.le_refl _))
    clear h hm
    go_wp2_with fail
    refine HD.out.mono ?_
    rintro e w1 ⟨t, v0, zs, q, rfl, ht, hzl, o1, b1⟩
    have B1 := Lib.hid b1
    obtain ⟨va, vc, rfl, ho1⟩ := o1.out
    have Z1 := Lib.hid (fun W (hW : Below w1.heap.size w1 W) => ho1.rowI.below hW (Nat.le_refl _))
    have HM1 := Lib.hid (fun W (hW : Below w1.heap.size w1 W) => HM.out W (B1.out.trans (hW.mono B1.out.size)))
    have HCi := Lib.hid (fun W (hW : Below w1.heap.size w1 W) => cjI_ok t va zs.length vc zs q W ht (Z1.out W hW) (by omega) (HM1.out W hW))
    have HCs := Lib.hid (fun W (hW : Below w1.heap.size w1 W) => cjS_ok t va zs.length vc zs q W ht (Z1.out W hW) (by omega))
    have HSz := Lib.hid (fun W (hW : Below w1.heap.size w1 W) => sizeI_ok t W ht (HM1.out W hW))
    have HJi := Lib.hid (fun W m (hW : Below w1.heap.size w1 W) => jbI_ok va zs.length vc zs m q W (Z1.out W hW) (by omega))
    have HJs := Lib.hid (fun W m (hW : Below w1.heap.size w1 W) => jbS_ok va zs.length vc zs m q W (Z1.out W hW) (by omega))
    have HSs := Lib.hid (fun W a n d ys (hW : Below w1.heap.size w1 W) (hr : RowI W a n d ys) (hn : n ≤ 1048576) => ssI_ok t va a zs.length vc n d zs ys W ht (Z1.out W hW) (by omega) hr hn (HM1.out W hW))
    have hp0 := cutsP_pos 44 t
    obtain ⟨ps, hps⟩ : ∃ ps, cutsP 44 t = ps := ⟨_, rfl⟩
    rw [hps] at HCi HCs HSz HSs hp0
    clear b1 HD o1 ho1 hps
    have HAll := Lib.hid (join_all (q := q) (zs := zs) hp0)
    obtain ⟨C, hC⟩ : ∃ C, cjV ps zs q = C := ⟨_, rfl⟩
    rw [hC] at HCi HCs HAll
    have HSV := Lib.hid (sizV_yes (ps := ps))
    clear hC
    obtain ⟨n, hn⟩ : ∃ n, sizV ps = n := ⟨_, rfl⟩
    rw [hn] at HSz HSV
    clear hn
    have hbs : (joinL zs n q).length ≤ 1048576 := by
      rw [joinL]
      split
      · rename_i hw
        rw [joinW, Bool.and_eq_true, Bool.and_eq_true, decide_eq_true_iff, decide_eq_true_iff] at hw
        simp [joinV]; omega
      · exact Nat.zero_le _
    go_wp2_with fail
    refine (HCi.out _ (Below.refl _ _)).mono ?_
    rintro e w2 ⟨rfl, b2⟩
    have B2 := Lib.hid b2
    clear b2
    go_wp2_with fail
    refine (HSz.out _ B2.out).mono ?_
    rintro e w3 ⟨rfl, b3⟩
    have B3 := Lib.hid (B2.out.trans (b3.mono B2.out.size))
    clear b3
    go_wp2_with fail
    refine (HJi.out _ n B3.out).mono ?_
    rintro e w4 ⟨v4, rfl, o4, b4⟩
    have B4 := Lib.hid (B3.out.trans (b4.mono B3.out.size))
    obtain ⟨la, lc, rfl, ho4⟩ := o4.out
    have L4 := Lib.hid (fun W (hW : Below w4.heap.size w4 W) => ho4.rowI.below hW (Nat.le_refl _))
    clear b4 o4 ho4
    go_wp2_with fail
    refine (HJs.out _ n B4.out).mono ?_
    rintro e w5 ⟨v5, rfl, o5, b5⟩
    have B5 := Lib.hid (B4.out.trans (b5.mono B4.out.size))
    obtain ⟨sa, sc, rfl, ho5⟩ := o5.out
    have C5 := Lib.hid b5
    have S5 := Lib.hid (fun W (hW : Below w5.heap.size w5 W) => ho5.rowI.below hW (Nat.le_refl _))
    clear b5 o5 ho5
    have HBn := Lib.hid (fun W (hW : Below w5.heap.size w5 W) => bnSame_ok la sa lc sc (joinL zs n q) W (L4.out W (C5.out.trans (hW.mono C5.out.size))) (S5.out W hW))
    have HBv := Lib.hid (fun W m (hW : Below w4.heap.size w4 W) => bvI_ok la (joinL zs n q).length lc (joinL zs n q) m W (L4.out W hW))
    have HS4 := Lib.hid (fun W (hW : Below w4.heap.size w4 W) => HSs.out W _ _ _ _ (B4.out.trans (hW.mono B4.out.size)) (L4.out W hW) hbs)
    have HEnd : Hid (C = true → ∃ m : Nat, n = (m : Int) ∧ joinW zs n q = true ∧ (joinL zs n q).length + 1 = zs.length ∧ blocksI (joinL zs n q) n = true ∧ ssV ps zs (joinL zs n q) = true) := by
      intro hc
      have ha := HAll.out hc
      have hn := HSV.out ha.1
      rw [hn]
      exact ⟨ps.length, rfl, ha.2⟩
    clear HAll HSV HSs L4 S5
    generalize joinW zs n q = J at HEnd ⊢
    generalize hJL : joinL zs n q = L at HBn HBv HS4 HEnd hbs ⊢
    clear hJL
    cases C with
    | false =>
      clear HEnd
      go_wp2_with fail
      refine (HCs.out _ B5.out).mono ?_
      rintro e w6 ⟨rfl, b6⟩
      have C6 := Lib.hid b6
      have B6 := Lib.hid (B5.out.trans (b6.mono B5.out.size))
      clear b6
      go_wp2_with fail
      refine (HBn.out _ C6.out).mono ?_
      rintro e w7 ⟨rfl, b7⟩
      have C7 := Lib.hid (C6.out.trans (b7.mono C6.out.size))
      have B7 := Lib.hid (B6.out.trans (b7.mono B6.out.size))
      clear b7
      go_wp2_with fail
      refine (HCs.out _ B7.out).mono ?_
      rintro e w8 ⟨rfl, b8⟩
      have C8 := Lib.hid (C7.out.trans (b8.mono C7.out.size))
      have B8 := Lib.hid (B7.out.trans (b8.mono B7.out.size))
      clear b8
      go_wp2_with fail
      refine (HBn.out _ C8.out).mono ?_
      rintro e w9 ⟨rfl, b9⟩
      go_wp2_with fail
      go_ret
      exact ⟨rfl, B1.out.trans ((B8.out.trans (b9.mono B8.out.size)).mono B1.out.size)⟩
    | true =>
      obtain ⟨m, rfl, hJ, hLl, hBl, hSs⟩ := HEnd.out rfl
      subst hJ
      have HBv1 := Lib.hid (fun W hW => HBv.out W (m : Int) hW)
      rw [hBl] at HBv1
      rw [hSs] at HS4
      have hl1 : ((zs.length : Nat) : Int) - 1 = (L.length : Int) := by omega
      have HL1 := Lib.hid hl1
      have hzl7 : zs.length ≤ 7 := hzl
      clear HEnd hBl hSs HBv hl1
      go_wp2_with fail
      refine (HCs.out _ B5.out).mono ?_
      rintro e w6 ⟨rfl, b6⟩
      have C6 := Lib.hid b6
      have B6 := Lib.hid (B5.out.trans (b6.mono B5.out.size))
      clear b6
      go_wp2_with fail
      refine (HBn.out _ C6.out).mono ?_
      rintro e w7 ⟨rfl, b7⟩
      have D7 := Lib.hid (C5.out.trans ((C6.out.trans (b7.mono C6.out.size)).mono C5.out.size))
      have B7 := Lib.hid (B6.out.trans (b7.mono B6.out.size))
      have hlb : (((L.length : Nat) : Int) == ((zs.length : Nat) : Int) - 1) = true := by rw [beq_iff_eq]; omega
      clear b7
      go_wp2_with fail
      refine (HBv1.out _ D7.out).mono ?_
      rintro e w8 ⟨rfl, b8⟩
      have D8 := Lib.hid (D7.out.trans (b8.mono D7.out.size))
      have B8 := Lib.hid (B7.out.trans (b8.mono B7.out.size))
      clear b8
      go_wp2_with fail
      refine (HS4.out _ D8.out).mono ?_
      rintro e w9 ⟨rfl, b9⟩
      go_wp2_with fail
      go_ret
      exact ⟨rfl, B1.out.trans ((B8.out.trans (b9.mono B8.out.size)).mono B1.out.size)⟩

end Go.Proofs.YtjkgcgbialiipaaDoor
