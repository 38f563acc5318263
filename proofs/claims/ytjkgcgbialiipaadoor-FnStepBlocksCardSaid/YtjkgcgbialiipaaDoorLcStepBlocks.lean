/- Walks and plain facts of one law: several of my texts in one. -/
import Derived.Test.YtjkgcgbialiipaaDoorGrC
import Derived.Test.YtjkgcgbialiipaaDoorGrE
import Derived.Maps.AppendAt
import Derived.Test.YtjkgcgbialiipaaDoorGrB
import Derived.Test.YtjkgcgbialiipaaDoorGrD
/- Walks: blocks that are drawn. -/
namespace Go.Proofs.YtjkgcgbialiipaaDoor
open Go.RowKit

/-- A list of numbers is drawn. -/
def ListP (g P M : Nat) (w : World) (e : Ending) (w' : World) : Prop := ∃ v zs, e = .returned v ∧ zs.length ≤ M ∧ OwnI w' w.heap.size v zs ∧ Rd w' g P ∧ DrB g w.heap.size w w'

/-- What the three orders of a statement that builds a list anew have in common. -/
structure NewL (w1 W : World) (v : Value) : Prop where
  bel : Below w1.heap.size w1 W
  own : OwnI W w1.heap.size v []
theorem NewL.a (w1 : World) : NewL w1 (w1.alloc (.cells #[] 3)).drew (.slice (some ⟨w1.heap.size, 0, none⟩) 0 0) :=
  ⟨((Below.refl _ _).alloc (Nat.le_refl _) _).drew, OwnI.drew (OwnI.lit w1 w1.heap.size [] (Nat.le_refl _) (by decide))⟩
theorem NewL.b (w1 : World) (x : Int) : NewL w1 ((w1.alloc (.cells #[] 3)).alloc (.cells #[.int .i64 x] 3)).drew (.slice (some ⟨w1.heap.size, 0, none⟩) 0 0) :=
  ⟨(((Below.refl _ _).alloc (Nat.le_refl _) _).alloc (by simp) _).drew, OwnI.drew (OwnI.alloc (OwnI.lit w1 w1.heap.size [] (Nat.le_refl _) (by decide)) _)⟩
theorem NewL.c (w1 : World) (x : Int) : NewL w1 ((w1.alloc (.cells #[.int .i64 x] 3)).alloc (.cells #[] 3)).drew (.slice (some ⟨w1.heap.size + 1, 0, none⟩) 0 0) := by
  refine ⟨(((Below.refl _ _).alloc (Nat.le_refl _) _).alloc (by simp) _).drew, OwnI.drew ?_⟩
  have := OwnI.lit (w1.alloc (.cells #[.int .i64 x] 3)) w1.heap.size [] (by simp) (by decide)
  rw [show (w1.alloc (.cells #[.int .i64 x] 3)).heap.size = w1.heap.size + 1 by simp] at this
  exact this
theorem one_b (w1 : World) (x : Int) : RowI ((w1.alloc (.cells #[] 3)).alloc (.cells #[.int .i64 x] 3)).drew (some ⟨w1.heap.size + 1, 0, none⟩) 1 1 [x] := by
  have := RowI.drew (RowI.one (w1.alloc (.cells #[] 3)) x)
  rw [show (w1.alloc (.cells #[] 3)).heap.size = w1.heap.size + 1 by simp] at this
  exact this
theorem one_c (w1 : World) (x : Int) : RowI ((w1.alloc (.cells #[.int .i64 x] 3)).alloc (.cells #[] 3)).drew (some ⟨w1.heap.size, 0, none⟩) 1 1 [x] :=
  RowI.drew ((RowI.one w1 x).below ((Below.refl _ _).alloc (Nat.le_refl _) _) (Nat.le_refl _))
theorem NewL.next {w1 W w3 : World} {v v3 : Value} {ys : List Int} (h : NewL w1 W v) (_ : OwnI w3 w1.heap.size v3 ys) (g : W.grownBy w3 v.ownBlock) : Below w1.heap.size w1 w3 := h.bel.grown g h.bel.size (fun j hj => (World.ownsRow.lt h.own j hj).1)
theorem own_next {w1 W w3 : World} {v : Value} {zs : List Int} (b : Below w1.heap.size w1 W) (h : OwnI W w1.heap.size v zs) (g : W.grownBy w3 v.ownBlock) : Below w1.heap.size w1 w3 := b.grown g b.size (fun j hj => (World.ownsRow.lt h j hj).1)

theorem OwnI.base2 {w : World} {B B' : Nat} {v : Value} {zs : List Int} (h : OwnI w B v zs) (hB : B' ≤ B) : OwnI w B' v zs := by
  obtain ⟨h0, h1 | ⟨g, cap, cur, e, hg, h2⟩⟩ := h
  · exact ⟨h0, .inl h1⟩
  · exact ⟨h0, .inr ⟨g, cap, cur, e, Nat.le_trans hB hg, h2⟩⟩

theorem OwnI.out2 {w : World} {B : Nat} {v : Value} {zs : List Int} (h : OwnI w B v zs) : ∃ ao c, v = .slice ao zs.length c ∧ OutI w B ao zs.length c zs ∧ (∀ a, ao = some a → ∃ b o, a = ⟨b, o, none⟩) := by
  have h0 := h
  obtain ⟨_, ⟨rfl, hn⟩ | ⟨g, cap, cur, rfl, hg, hh, hle, hm, hs, ht⟩⟩ := h
  · obtain ⟨ao, c, e, ho⟩ := h0.out
    injection e with e1 e2 e3
    exact ⟨ao, c, by rw [← e1, ← e2, ← e3], ho, fun a ha => by rw [← e1] at ha; cases ha⟩
  · obtain ⟨ao, c, e, ho⟩ := h0.out
    injection e with e1 e2 e3
    exact ⟨ao, c, by rw [← e1, ← e3], ho, fun a ha => by rw [← e1] at ha; cases ha; exact ⟨_, _, rfl⟩⟩

set_option maxRecDepth 100000 in
set_option maxHeartbeats 4000000 in
theorem l3Orders_ok (g P n : Nat) (w : World) (h : Rd w g P) (hn : n ≤ 5) (hP : P ≤ 700000) :
    Calls Tryd.prog 163 #[.pointer (some ⟨g, 0, none⟩), .int .i64 n] w (ListP g (P + 20) 6 w) := by
  have hgw := h.lt
  have HK := Lib.hid (fun Q m W (h : Rd W g Q) (hQ : Q ≤ 1000000) (hm : m ≤ 1048576) => pick_ok g Q m W h hQ hm)
  have b0 : Below w.heap.size w (w.alloc (.cells #[] 3)) := (Below.refl _ _).alloc (Nat.le_refl _) _
  have R0 := Lib.hid (h.below b0 (Nat.le_refl _))
  have D0 := Lib.hid (DrB.ofB (g := g) b0)
  have O0 := Lib.hid (OwnI.lit w w.heap.size [] (Nat.le_refl _) (by decide))
  have hs0 : (w.alloc (.cells #[] 3)).heap.size = w.heap.size + 1 := by simp
  clear h b0
  go_enter Tryd.func163, Tryd.ntmps163
  go_wp2_with fail
  go_loopw [5, 6] (fun v q wr => ∃ (k : Nat) (zs : List Int), k ≤ n ∧ zs.length = k ∧ q = .int .i64 k ∧ OwnI wr w.heap.size v zs ∧ w.heap.size ≤ wr.heap.size ∧ Rd wr g (P + k) ∧ DrB g w.heap.size w wr) (fun _ q _ => n - (intOf q).toNat)
  case atStart => exact ⟨0, [], Nat.zero_le _, rfl, rfl, O0.out, by rw [hs0]; omega, R0.out, D0.out⟩
  case round =>
    obtain ⟨k, zs, hk, hzl, rfl, ho, hsz, hr, hd⟩ := hrel
    have HO := Lib.hid ho
    have HR := Lib.hid hr
    have HDr := Lib.hid hd
    clear ho hr hd
    by_cases hkn : k < n
    · have hkw : (k : Int) < (n : Int) := by omega
      obtain ⟨oa, oc, rfl, q1, hsp⟩ := HO.out.out2
      have hkc : (k : Int) + 1 = ((k + 1 : Nat) : Int) := by omega
      have HKk := Lib.hid (HK.out _ (k + 1) _ HR.out (by omega) (by omega))
      rw [← hkc] at HKk
      rw [hzl] at q1 ⊢
      clear hkc
      go_wp2_with fail
      refine HKk.out.mono ?_
      rintro e w1 ⟨a, rfl, ha, r1, g1⟩
      have hak : a ≤ k := by omega
      have haw : (a : Int) ≤ (k : Int) := by omega
      have hac : (a : Int) ≤ (oc : Int) := by have := q1.2.row.le; omega
      have hz1 : RowI w1 oa k oc zs := q1.rowI.grown g1 (fun x e e2 => by have := q1.2.own x e; have e3 := Option.some.inj e2; omega)
      have hsz1 := g1.size
      have HZ := Lib.hid hz1
      have R1 := Lib.hid r1
      have D1 := Lib.hid (HDr.out.trans ((DrB.ofG g1).mono HDr.out.size))
      clear r1 q1 hz1 ha g1
      cases oa with
      | none =>
        have hoc0 : oc = 0 := HZ.out.2.nil rfl
        have hk0 : k = 0 := by have := HZ.out.2.le; omega
        subst hoc0
        obtain rfl : a = 0 := by omega
        have hzn : zs = [] := List.eq_nil_of_length_eq_zero (by omega)
        subst hk0 hzn
        have HNa := Lib.hid (NewL.a w1)
        have HNb := Lib.hid (NewL.b w1 ((0 : Nat) : Int))
        have HNc := Lib.hid (NewL.c w1 ((0 : Nat) : Int))
        have HT := Lib.hid (RowI.empty w1 none 0 (Nat.zero_le _) (fun _ => rfl))
        have HDp := Lib.hid (RowI.empty w1 none 0 (Nat.zero_le _) (fun _ => rfl))
        have hb1 : (([] : List Int).length + 0) * 8 ≤ 140737488355328 := by simp
        have hb2 : (([] ++ ([] : List Int)).length + 1) * 8 ≤ 140737488355328 := by simp
        have hb3 : (([] ++ ([] : List Int) ++ [((0 : Nat) : Int)]).length + 0) * 8 ≤ 140737488355328 := by simp
        have HB1 := Lib.hid hb1
        have HB2 := Lib.hid hb2
        have HB3 := Lib.hid hb3
        clear hb1 hb2 hb3
        go_wp2_with fail
        go_region_law ((first
          | (refine step_appI HNa.out.own (HT.out.below HNa.out.bel (Nat.le_refl _)) rfl _ _ rfl rfl rfl HB1.out HNa.out.bel.size ?_; intro v3 w3 o3 g3; have c3 := own_next HNa.out.bel HNa.out.own g3)
          | (refine step_appI HNb.out.own (HT.out.below HNb.out.bel (Nat.le_refl _)) rfl _ _ rfl rfl rfl HB1.out HNb.out.bel.size ?_; intro v3 w3 o3 g3; have c3 := own_next HNb.out.bel HNb.out.own g3; have x3 := (one_b w1 ((0 : Nat) : Int)).grown g3 (fun x e e2 => by cases e; simp [Value.ownBlock] at e2))
          | (refine step_appI HNc.out.own (HT.out.below HNc.out.bel (Nat.le_refl _)) rfl _ _ rfl rfl rfl HB1.out HNc.out.bel.size ?_; intro v3 w3 o3 g3; have c3 := own_next HNc.out.bel HNc.out.own g3; have x3 := (one_c w1 ((0 : Nat) : Int)).grown g3 (fun x e e2 => by cases e; simp [Value.ownBlock] at e2))
          | (refine step_appI (OwnI.alloc o3 _) (RowI.one _ _) rfl _ _ rfl rfl rfl HB2.out (c3.alloc c3.size _).size ?_; intro v4 w4 o4 g4; have c4 := own_next (c3.alloc c3.size _) (OwnI.alloc o3 _) g4)
          | (refine step_appI o3 x3 rfl _ _ rfl rfl rfl HB2.out c3.size ?_; intro v4 w4 o4 g4; have c4 := own_next c3 o3 g4)
          | (refine step_appI o4 (HDp.out.below c4 (Nat.le_refl _)) rfl _ _ rfl rfl rfl HB3.out c4.size ?_; intro v5 w5 o5 g5; have c5 := own_next c4 o4 g5)))
        all_goals
          go_wp2_with fail
          go_roundw
          case rel => exact ⟨1, _, by omega, by simp, by go_num, OwnI.base2 o5 (Nat.le_trans hsz hsz1), Nat.le_trans (Nat.le_trans hsz hsz1) c5.size, (R1.out.below c5 (Nat.le_refl _)).more (by omega), D1.out.trans (DrB.ofB (c5.mono (Nat.le_trans hsz hsz1)))⟩
          case measure => simp [intOf] <;> omega
      | some ad =>
        obtain ⟨b, o, rfl⟩ := hsp ad rfl
        have h0k : (0 : Int) ≤ (a : Int) := by omega
        have HT := Lib.hid (HZ.out.take a hak)
        by_cases hoc : oc = a
        · have hka : k - a = 0 := by have := HZ.out.2.le; omega
          have hdr : zs.drop a = [] := List.drop_of_length_le (by omega)
          have HDp : Hid (RowI w1 (some ⟨b, o, none⟩) 0 0 []) := Lib.hid (RowI.empty _ _ _ (Nat.zero_le _) (fun e => by cases e))
          have hoc' : (a = oc) := hoc.symm
          subst hoc'
          have HNa := Lib.hid (NewL.a w1)
          have HNb := Lib.hid (NewL.b w1 k)
          have HNc := Lib.hid (NewL.c w1 k)
          have hb1 : (([] : List Int).length + a) * 8 ≤ 140737488355328 := by simp; omega
          have hb2 : (([] ++ zs.take a).length + 1) * 8 ≤ 140737488355328 := by simp; omega
          have hb3 : (([] ++ zs.take a ++ [(k : Int)]).length + 0) * 8 ≤ 140737488355328 := by simp; omega
          have HB1 := Lib.hid hb1
          have HB2 := Lib.hid hb2
          have HB3 := Lib.hid hb3
          clear hb1 hb2 hb3
          go_wp2_with fail
          go_region_law ((first
            | (refine step_appI HNa.out.own (HT.out.below HNa.out.bel (Nat.le_refl _)) rfl _ _ rfl rfl rfl HB1.out HNa.out.bel.size ?_; intro v3 w3 o3 g3; have c3 := own_next HNa.out.bel HNa.out.own g3)
            | (refine step_appI HNb.out.own (HT.out.below HNb.out.bel (Nat.le_refl _)) rfl _ _ rfl rfl rfl HB1.out HNb.out.bel.size ?_; intro v3 w3 o3 g3; have c3 := own_next HNb.out.bel HNb.out.own g3; have x3 := (one_b w1 k).grown g3 (fun x e e2 => by cases e; simp [Value.ownBlock] at e2))
            | (refine step_appI HNc.out.own (HT.out.below HNc.out.bel (Nat.le_refl _)) rfl _ _ rfl rfl rfl HB1.out HNc.out.bel.size ?_; intro v3 w3 o3 g3; have c3 := own_next HNc.out.bel HNc.out.own g3; have x3 := (one_c w1 k).grown g3 (fun x e e2 => by cases e; simp [Value.ownBlock] at e2))
            | (refine step_appI (OwnI.alloc o3 _) (RowI.one _ _) rfl _ _ rfl rfl rfl HB2.out (c3.alloc c3.size _).size ?_; intro v4 w4 o4 g4; have c4 := own_next (c3.alloc c3.size _) (OwnI.alloc o3 _) g4)
            | (refine step_appI o3 x3 rfl _ _ rfl rfl rfl HB2.out c3.size ?_; intro v4 w4 o4 g4; have c4 := own_next c3 o3 g4)
            | (refine step_appI o4 (HDp.out.below c4 (Nat.le_refl _)) rfl _ _ rfl rfl rfl HB3.out c4.size ?_; intro v5 w5 o5 g5; have c5 := own_next c4 o4 g5)))
          all_goals
            go_wp2_with fail
            go_roundw
            case rel => exact ⟨k + 1, _, by omega, by simp; omega, by go_num, OwnI.base2 o5 (Nat.le_trans hsz hsz1), Nat.le_trans (Nat.le_trans hsz hsz1) c5.size, (R1.out.below c5 (Nat.le_refl _)).more (by omega), D1.out.trans (DrB.ofB (c5.mono (Nat.le_trans hsz hsz1)))⟩
            case measure => simp [intOf] <;> omega
        · have hoc' : ¬ (a = oc) := fun e => hoc e.symm
          have HDp := Lib.hid (HZ.out.drop a hak)
          have HNa := Lib.hid (NewL.a w1)
          have HNb := Lib.hid (NewL.b w1 k)
          have HNc := Lib.hid (NewL.c w1 k)
          have hb1 : (([] : List Int).length + a) * 8 ≤ 140737488355328 := by simp; omega
          have hb2 : (([] ++ zs.take a).length + 1) * 8 ≤ 140737488355328 := by simp; omega
          have hb3 : (([] ++ zs.take a ++ [(k : Int)]).length + (k - a)) * 8 ≤ 140737488355328 := by simp; omega
          have HB1 := Lib.hid hb1
          have HB2 := Lib.hid hb2
          have HB3 := Lib.hid hb3
          clear hb1 hb2 hb3
          go_wp2_with fail
          go_region_law ((first
            | (refine step_appI HNa.out.own (HT.out.below HNa.out.bel (Nat.le_refl _)) rfl _ _ rfl rfl rfl HB1.out HNa.out.bel.size ?_; intro v3 w3 o3 g3; have c3 := own_next HNa.out.bel HNa.out.own g3)
            | (refine step_appI HNb.out.own (HT.out.below HNb.out.bel (Nat.le_refl _)) rfl _ _ rfl rfl rfl HB1.out HNb.out.bel.size ?_; intro v3 w3 o3 g3; have c3 := own_next HNb.out.bel HNb.out.own g3; have x3 := (one_b w1 k).grown g3 (fun x e e2 => by cases e; simp [Value.ownBlock] at e2))
            | (refine step_appI HNc.out.own (HT.out.below HNc.out.bel (Nat.le_refl _)) rfl _ _ rfl rfl rfl HB1.out HNc.out.bel.size ?_; intro v3 w3 o3 g3; have c3 := own_next HNc.out.bel HNc.out.own g3; have x3 := (one_c w1 k).grown g3 (fun x e e2 => by cases e; simp [Value.ownBlock] at e2))
            | (refine step_appI (OwnI.alloc o3 _) (RowI.one _ _) rfl _ _ rfl rfl rfl HB2.out (c3.alloc c3.size _).size ?_; intro v4 w4 o4 g4; have c4 := own_next (c3.alloc c3.size _) (OwnI.alloc o3 _) g4)
            | (refine step_appI o3 x3 rfl _ _ rfl rfl rfl HB2.out c3.size ?_; intro v4 w4 o4 g4; have c4 := own_next c3 o3 g4)
            | (refine step_appI o4 (HDp.out.below c4 (Nat.le_refl _)) rfl _ _ rfl rfl rfl HB3.out c4.size ?_; intro v5 w5 o5 g5; have c5 := own_next c4 o4 g5)))
          all_goals
            go_wp2_with fail
            go_roundw
            case rel => exact ⟨k + 1, _, by omega, by simp; omega, by go_num, OwnI.base2 o5 (Nat.le_trans hsz hsz1), Nat.le_trans (Nat.le_trans hsz hsz1) c5.size, (R1.out.below c5 (Nat.le_refl _)).more (by omega), D1.out.trans (DrB.ofB (c5.mono (Nat.le_trans hsz hsz1)))⟩
            case measure => simp [intOf] <;> omega
    · have hkw : ¬ (k : Int) < (n : Int) := by omega
      have hz6 : zs.length ≤ 5 := by omega
      go_wp2_with fail
      refine (HK.out _ 16 _ HR.out (by omega) (by omega)).mono ?_
      rintro e w1 ⟨x, rfl, hx, r1, g1⟩
      have R1 := Lib.hid r1
      have D1 := Lib.hid (HDr.out.trans ((DrB.ofG g1).mono HDr.out.size))
      have O1 := Lib.hid (HO.out.dr (DrB.ofG g1) (Nat.le_refl _) hgw)
      clear r1 g1
      by_cases x0 : x = 0
      · have tx : ((x : Int) == 0) = true := by rw [x0]; rfl
        clear x0 hx
        have b2 : Below w1.heap.size w1 (w1.alloc (.cells (ints [0, 5, -1]).toArray 3)) := (Below.refl _ _).alloc (Nat.le_refl _) _
        have HX := Lib.hid (num_lit g _ 3 [0, 5, -1] _ _ (R1.out.below b2 (Nat.le_refl _)) (Blk.new w1 3 (ints [0, 5, -1])) (by have := R1.out.lt; omega) rfl (by omega) (by omega) (by omega))
        have D2 := Lib.hid (D1.out.trans (DrB.ofB (g := g) (b2.mono D1.out.size)))
        have O2 := Lib.hid (O1.out.alloc (.cells (ints [0, 5, -1]).toArray 3))
        clear b2
        go_wp2_with fail
        refine HX.out.mono ?_
        rintro e w3 ⟨z, hz, rfl, r3, g3⟩
        generalize gI [0, 5, -1] z = q
        have R3 := Lib.hid r3
        have D3 := Lib.hid (D2.out.trans ((DrB.ofG g3).mono D2.out.size))
        have O3 := Lib.hid (O2.out.dr (DrB.ofG g3) (Nat.le_refl _) hgw)
        clear r3 g3 hz
        go_wp2_with (at_builtin; refine wpList_appI (OwnI.alloc O3.out _) (RowI.one _ _) rfl _ _ rfl rfl rfl (by omega) (by have := D3.out.size; simp; omega) ?_; intro v6 w6 o6 g6)
        go_ret
        exact ⟨_, _, rfl, by simp; omega, o6, (O3.out.oneApp hgw R3.out g6).more (by omega), (D3.out.alloc D3.out.size _).grown g6 (by have := D3.out.size; simp; omega) (fun j hj => (World.ownsRow.lt O3.out j hj).1)⟩
      · have tx : ((x : Int) == 0) = false := by rw [beq_eq_false_iff_ne]; omega
        clear x0 hx
        go_wp2_with fail
        go_ret
        exact ⟨_, zs, rfl, by omega, O1.out, R1.out.more (by omega), D1.out⟩

end Go.Proofs.YtjkgcgbialiipaaDoor
/- Walks: blocks that are drawn. -/
namespace Go.Proofs.YtjkgcgbialiipaaDoor
open Go.RowKit

/-- A cell of an own list is written. -/
theorem OwnI.store {w : World} {B g n cap : Nat} {zs : List Int} (h : OwnI w B (.slice (some ⟨g, 0, none⟩) n cap) zs) (k : Nat) (v : Int) : OwnI (w.setCell ⟨g, k, none⟩ (.int .i64 v)) B (.slice (some ⟨g, 0, none⟩) n cap) (zs.set k v) := by
  obtain ⟨h0, ⟨e, _⟩ | ⟨g', cap', cur, e, hg, hh, hle, hm, hs, ht⟩⟩ := h
  · cases e
  · cases e
    have hB : Blk w g 3 cur.toList := by unfold Blk; rw [hh]
    have hB2 := hB.set k (.int .i64 v)
    unfold Blk at hB2
    refine ⟨by simp [ints], .inr ⟨g, cap, _, by simp, hg, hB2, by simpa using hle, hm, by simpa using hs, ?_⟩⟩
    simp only [List.length_set] at ht ⊢
    rw [List.take_set, ht]
    simp [ints]
theorem OwnI.form {w : World} {B : Nat} {v : Value} {zs : List Int} (h : OwnI w B v zs) (hn : 0 < zs.length) : ∃ g c, v = .slice (some ⟨g, 0, none⟩) zs.length c ∧ B ≤ g ∧ g < w.heap.size ∧ RowI w (some ⟨g, 0, none⟩) zs.length c zs := by
  obtain ⟨ao, c, e, ho⟩ := h.out
  have h2 := h.2
  rcases h2 with ⟨rfl, h0⟩ | ⟨g, cap, cur, e2, hg, hh, _⟩
  · omega
  · rw [e2] at e
    injection e with e1 e3 e4
    exact ⟨g, c, by rw [e2, e4], hg, lt_of_block hh, by rw [e1]; exact ho.rowI⟩
theorem OwnI.free {w : World} {B g n c : Nat} {zs : List Int} (h : OwnI w B (.slice (some ⟨g, 0, none⟩) n c) zs) (i : Nat) : w.frozen? ⟨g, i, none⟩ = false := by
  obtain ⟨h0, ⟨e, _⟩ | ⟨g', cap', cur, e, hg, hh, _⟩⟩ := h
  · cases e
  · cases e
    simp [World.frozen?, hh]
/-- 'append' of one number, and where the list lies then. -/
theorem wpList_appI1 {w : World} {ops : Array Oper} {rest : List Oper} {o : Oper} {a : Act} {Q : Exit → Act → World → Prop} {B : Nat} {v : Value} {zs ys : List Int} {ad : Addr} {m c : Nat} (hown : OwnI w B v zs) (hr : RowI w (some ad) m c ys)
    (hgd : o.guard = none) (s x : Operand) (ho : o.op = .call { callee := .builtin .append, args := #[s, x], argTypes := #[23, 23] }) (hs : a.eval s = v) (hx : a.eval x = .slice (some ad) m c)
    (hbytes : (zs.length + m) * 8 ≤ 140737488355328) (hB : B ≤ w.heap.size)
    (h : ∀ v' w', OwnI w' B v' (zs ++ ys) → w.grownBy w' v.ownBlock → (v'.ownBlock = v.ownBlock ∨ v'.ownBlock = some w.heap.size) → wpList Tryd.prog ops Q rest (a.put o.dst v') w') : wpList Tryd.prog ops Q (o :: rest) a w := by
  obtain ⟨i, hi, hz, hsz, hby⟩ := info_parts i3
  have hl : (ints ys).length = m * 1 := by simp [ints, hr.1]
  have h1 : ∀ u ∈ ints ys, u.oneCell' = true := ints_oneCell _ _
  have e1 : zs.length + m = (zs ++ ys).length := by simp [hr.1]
  have e2 : ints zs ++ ints ys = ints (zs ++ ys) := by simp [ints]
  refine wpList_append_own_at w hgd s x _ ho B 3 i (.int .i64 0) 1 8 Tryd.underlying23 hi hz hsz hby rfl (by decide) v _ _ hs hown ad m c (ints ys) hx hl (hr.cells ad rfl) h1 (by unfold maxLen; omega) hbytes hB ?_
  intro v' w' r1 r2 _ r4
  exact h v' w' (by unfold OwnI; rw [← e1, ← e2]; exact r1) r2 r4

theorem new_ne {w : World} {o : Obj} {tb tq : Nat} {v v' : Value} (h : ∀ a : Addr, some (⟨tb, tq, none⟩ : Addr) = some a → some a.block ≠ v.ownBlock) (ht : tb < w.heap.size) (p : v'.ownBlock = v.ownBlock ∨ v'.ownBlock = some (w.alloc o).heap.size) :
    ∀ a : Addr, some (⟨tb, tq, none⟩ : Addr) = some a → some a.block ≠ v'.ownBlock := by
  intro a e e2
  rcases p with p | p
  · exact h a e (e2.trans p)
  · rw [p] at e2
    cases e
    have := Option.some.inj e2
    simp at this
    omega
theorem six_at (x : Int) : ∃ y : Nat, y ≤ 6 ∧ min (max x 0) 6 = (y : Int) := ⟨(min (max x 0) 6).toNat, by omega, by omega⟩

set_option maxRecDepth 100000 in
set_option maxHeartbeats 4000000 in
theorem l11Draw_ok (g P n : Nat) (w : World) (h : Rd w g P) (hn : n ≤ 5) (hP : P ≤ 600000) :
    Calls Tryd.prog 112 #[.pointer (some ⟨g, 0, none⟩), .int .i64 n] w (ListP g (P + 40) 7 w) := by
  have hgw := h.lt
  have HK := Lib.hid (fun Q m W (h : Rd W g Q) (hQ : Q ≤ 1000000) (hm : m ≤ 1048576) => pick_ok g Q m W h hQ hm)
  have b0 : Below w.heap.size w (w.alloc (.cells #[] 3)) := (Below.refl _ _).alloc (Nat.le_refl _) _
  have R0 := Lib.hid (h.below b0 (Nat.le_refl _))
  have D0 := Lib.hid (DrB.ofB (g := g) b0)
  have O0 := Lib.hid (OwnI.lit w w.heap.size [] (Nat.le_refl _) (by decide))
  have hs0 : (w.alloc (.cells #[] 3)).heap.size = w.heap.size + 1 := by simp
  clear h b0
  go_enter Tryd.func112, Tryd.ntmps112
  go_wp2_with fail
  refine (l3Orders_ok g P n _ R0.out hn (by omega)).mono ?_
  rintro e w1 ⟨tv, ts, rfl, htl, o1, r1, d1⟩
  have hw0 : (w.alloc (.cells #[] 3)).heap.size = w.heap.size + 1 := hs0
  obtain ⟨ta, tc, rfl, q1⟩ := o1.out
  have HT := Lib.hid q1.rowI
  have R1 := Lib.hid r1
  have D1 := Lib.hid (D0.out.trans (d1.mono D0.out.size))
  have O1 := Lib.hid (O0.out.dr d1 (Nat.le_refl _) hgw)
  have T1 : Hid (∀ a, ta = some a → some a.block ≠ (Value.slice (some ⟨w.heap.size, 0, none⟩) 0 0).ownBlock) := fun a e => by have := q1.2.own a e; rw [hs0] at this; simp [Value.ownBlock]; omega
  have hs1 : w.heap.size ≤ w1.heap.size := D1.out.size
  have T2 : Hid (∀ a, ta = some a → w.heap.size ≤ a.block ∧ g < a.block) := fun a e => by have := q1.2.own a e; rw [hs0] at this; omega
  generalize htn : ts.length = m at *
  clear q1 o1 r1 d1 hw0
  go_wp2_with fail
  go_loopw [5, 7] (fun v q wr => ∃ (k : Nat) (zs : List Int), k ≤ m ∧ zs.length ≤ k ∧ q = .int .i64 k ∧ OwnI wr w.heap.size v zs ∧ w.heap.size ≤ wr.heap.size ∧ Rd wr g (P + 20 + k) ∧ DrB g w.heap.size w wr ∧ RowI wr ta m tc ts ∧ (∀ a, ta = some a → some a.block ≠ v.ownBlock)) (fun _ q _ => m - (intOf q).toNat)
  case atStart => exact ⟨0, [], Nat.zero_le _, Nat.zero_le _, rfl, O1.out, hs1, R1.out.more (by omega), D1.out, HT.out, T1.out⟩
  case round =>
    obtain ⟨k, zs, hk, hzl, rfl, ho, hsz, hr, hd, ht, hne⟩ := hrel
    have HO := Lib.hid ho
    have HR := Lib.hid hr
    have HDr := Lib.hid hd
    have HTr := Lib.hid ht
    have HNe := Lib.hid hne
    clear ho hr hd ht hne
    by_cases hkm : k < m
    · have hkw : (k : Int) < (m : Int) := by omega
      obtain ⟨tb, tq, rfl, htb⟩ := HTr.out.2.some (by omega)
      have hcell := HTr.out.2.cell tb tq rfl k hkm
      obtain ⟨y, hy, hye⟩ := six_at (gI ts k)
      generalize gI ts k = x at hcell hye
      by_cases hz0 : zs = []
      · subst hz0
        obtain ⟨oa, oc, rfl, q1, hsp⟩ := HO.out.out2
        simp only [List.length_nil] at q1
        clear q1 hsp
        go_wp2_with (at_builtin; refine wpList_appI1 (OwnI.alloc HO.out _) (RowI.one _ _) rfl _ _ rfl rfl rfl (by simp) (by simp; omega) ?_; intro v6 w6 o6 g6 p6)
        go_roundw
        case rel => exact ⟨k + 1, _, by omega, by simp, by go_num, o6, by have := g6.size; simp at this; omega, (HO.out.oneApp hgw HR.out g6).more (by omega), (HDr.out.alloc HDr.out.size _).grown g6 (by simp; omega) (fun j hj => (World.ownsRow.lt HO.out j hj).1), (HTr.out.below ((Below.refl _ _).alloc (Nat.le_refl _) _) (Nat.le_refl _)).grown g6 HNe.out, new_ne HNe.out htb p6⟩
        case measure => simp [intOf] <;> omega
      · obtain ⟨g1, c1, rfl, hg1, hl1, hrow⟩ := HO.out.form (List.length_pos_iff.2 hz0)
        obtain ⟨m1, hm1⟩ : ∃ m1, zs.length = m1 + 1 := ⟨zs.length - 1, by have := List.length_pos_iff.2 hz0; omega⟩
        have hm6 : m1 ≤ 5 := by omega
        rw [hm1] at HO HNe hrow ⊢
        go_wp2_with fail
        refine (HK.out _ 3 _ HR.out (by omega) (by omega)).mono ?_
        rintro e w3 ⟨z, rfl, hz, r3, g3⟩
        have R3 := Lib.hid r3
        have D3 := Lib.hid (HDr.out.trans ((DrB.ofG g3).mono HDr.out.size))
        have O3 := Lib.hid (HO.out.dr (DrB.ofG g3) (Nat.le_refl _) hgw)
        have T3 := Lib.hid (HTr.out.grown g3 (fun a e e2 => by have := (T2.out a e).2; have := Option.some.inj e2; omega))
        have htb3 := Nat.lt_of_lt_of_le htb g3.size
        have hs3 := Nat.le_trans hsz g3.size
        have hr3 := hrow.grown g3 (fun a e e2 => by cases e; have := Option.some.inj e2; simp at this; omega)
        clear r3 g3 hz hrow
        by_cases z0 : z = 0
        · have tz : ((z : Int) == 0) = true := by rw [z0]; rfl
          clear z0
          have hc2 := hr3.2.cell g1 0 rfl m1 (by omega)
          rw [Nat.zero_add] at hc2
          have hf2 := O3.out.free m1
          have hgr := grownBy_setCell (World.grownBy.refl w3 (some g1)) (a := ⟨g1, m1, none⟩) rfl (.int .i64 (bits .or .i64 (gI zs m1) (wrap64 (2 ^ y))))
          have HGr := Lib.hid hgr
          clear hgr
          go_wp2_with fail
          go_roundw
          case rel => exact ⟨k + 1, _, by omega, by simp; omega, by go_num, O3.out.store m1 _, by have := HGr.out.size; omega, (R3.out.grown HGr.out (fun j hj => by have := Option.some.inj hj; omega)).more (by omega), D3.out.grown HGr.out hs3 (fun j hj => by have := Option.some.inj hj; omega), T3.out.grown HGr.out HNe.out, HNe.out⟩
          case measure => simp [intOf] <;> omega
        · have tz : ((z : Int) == 0) = false := by rw [beq_eq_false_iff_ne]; omega
          clear z0
          go_wp2_with (at_builtin; refine wpList_appI1 (OwnI.alloc O3.out _) (RowI.one _ _) rfl _ _ rfl rfl rfl (by rw [hm1]; omega) (by simp; omega) ?_; intro v6 w6 o6 g6 p6)
          go_roundw
          case rel => exact ⟨k + 1, _, by omega, by simp; omega, by go_num, o6, by have := g6.size; simp at this; omega, (O3.out.oneApp hgw R3.out g6).more (by omega), (D3.out.alloc D3.out.size _).grown g6 (by simp; omega) (fun j hj => (World.ownsRow.lt O3.out j hj).1), (T3.out.below ((Below.refl _ _).alloc (Nat.le_refl _) _) (Nat.le_refl _)).grown g6 HNe.out, new_ne HNe.out htb3 p6⟩
          case measure => simp [intOf] <;> omega
    · have hkw : ¬ (k : Int) < (m : Int) := by omega
      have hz6 : zs.length ≤ 6 := by omega
      go_wp2_with fail
      refine (HK.out _ 24 _ HR.out (by omega) (by omega)).mono ?_
      rintro e w4 ⟨x, rfl, hx, r1, g1⟩
      have R4 := Lib.hid r1
      have D4 := Lib.hid (HDr.out.trans ((DrB.ofG g1).mono HDr.out.size))
      have O4 := Lib.hid (HO.out.dr (DrB.ofG g1) (Nat.le_refl _) hgw)
      clear r1 g1
      by_cases x0 : x = 0
      · have tx : ((x : Int) == 0) = true := by rw [x0]; rfl
        clear x0 hx
        have b2 : Below w4.heap.size w4 (w4.alloc (.cells (ints [0, 1, -1, 32]).toArray 3)) := (Below.refl _ _).alloc (Nat.le_refl _) _
        have HX := Lib.hid (num_lit g _ 4 [0, 1, -1, 32] _ _ (R4.out.below b2 (Nat.le_refl _)) (Blk.new w4 3 (ints [0, 1, -1, 32])) (by have := R4.out.lt; omega) rfl (by omega) (by omega) (by omega))
        have D5 := Lib.hid (D4.out.trans (DrB.ofB (g := g) (b2.mono D4.out.size)))
        have O5 := Lib.hid (O4.out.alloc (.cells (ints [0, 1, -1, 32]).toArray 3))
        clear b2
        go_wp2_with fail
        refine HX.out.mono ?_
        rintro e w6 ⟨z, hz, rfl, r3, g3⟩
        generalize gI [0, 1, -1, 32] z = q
        have R6 := Lib.hid r3
        have D6 := Lib.hid (D5.out.trans ((DrB.ofG g3).mono D5.out.size))
        have O6 := Lib.hid (O5.out.dr (DrB.ofG g3) (Nat.le_refl _) hgw)
        clear r3 g3 hz
        go_wp2_with (at_builtin; refine wpList_appI (OwnI.alloc O6.out _) (RowI.one _ _) rfl _ _ rfl rfl rfl (by omega) (by have := D6.out.size; simp; omega) ?_; intro v7 w7 o7 g7)
        go_ret
        exact ⟨_, _, rfl, by simp; omega, o7, (O6.out.oneApp hgw R6.out g7).more (by omega), (D6.out.alloc D6.out.size _).grown g7 (by have := D6.out.size; simp; omega) (fun j hj => (World.ownsRow.lt O6.out j hj).1)⟩
      · have tx : ((x : Int) == 0) = false := by rw [beq_eq_false_iff_ne]; omega
        clear x0 hx
        go_wp2_with fail
        go_ret
        exact ⟨_, zs, rfl, by omega, O4.out, R4.out.more (by omega), D4.out⟩

end Go.Proofs.YtjkgcgbialiipaaDoor
/- Walks: the arguments of SeeSteps, drawn. -/
namespace Go.Proofs.YtjkgcgbialiipaaDoor
open Go.RowKit

/-- A network's text and states are drawn. -/
def DrawSS (w : World) (e : Ending) (w' : World) : Prop := ∃ t v zs, e = .returned (.tuple #[.string t, v]) ∧ t.size ≤ 1048576 ∧ zs.length ≤ 64 ∧ OwnI w' w.heap.size v zs ∧ Below w.heap.size w w'

theorem OwnI.baseW {w : World} {B B' : Nat} {v : Value} {zs : List Int} (h : OwnI w B v zs) (hB : B' ≤ B) : OwnI w B' v zs := by
  obtain ⟨h0, h1 | ⟨g, cap, cur, e, hg, h2⟩⟩ := h
  · exact ⟨h0, .inl h1⟩
  · exact ⟨h0, .inr ⟨g, cap, cur, e, Nat.le_trans hB hg, h2⟩⟩
theorem OwnI.made (w : World) (B n : Nat) (hB : B ≤ w.heap.size) (hn : n ≤ 1048576) : OwnI (w.alloc (.cells (ints (List.replicate n 0)).toArray 3)) B (.slice (some ⟨w.heap.size, 0, none⟩) n n) (List.replicate n 0) := by
  have := OwnI.lit w B (List.replicate n 0) hB (by rw [List.length_replicate]; unfold maxLen; omega)
  rw [List.length_replicate] at this
  exact this

set_option maxHeartbeats 4000000 in
theorem drawSS_ok (ao : Option Addr) (l c : Nat) (cs : List Int) (w : World) (h : RowU w ao l c cs) (hl : l ≤ 1048576) :
    Calls Tryd.prog 22 #[.slice ao l c] w (DrawSS w) := by
  have HO := Lib.hid (l14Open_ok ao l c cs w h hl)
  have HK := Lib.hid (fun g Q m W (h : Rd W g Q) (hQ : Q ≤ 1000000) (hm : m ≤ 1048576) => pick_ok g Q m W h hQ hm)
  clear h
  go_enter Tryd.func22, Tryd.ntmps22
  go_wp2_with fail
  refine HO.out.mono ?_
  rintro e w1 ⟨g, rfl, hg, r1, b1⟩
  have R1 := Lib.hid r1
  have B1 := Lib.hid b1
  have hgo : g < w1.heap.size := r1.lt
  clear r1 b1 HO
  go_wp2_with fail
  refine (l7Open_ok g 0 _ R1.out (by omega)).mono ?_
  rintro e w2 ⟨u, rfl, hu, r2, d2⟩
  have HU : Hid (u.size ≤ 1048576) := Nat.le_trans hu (by decide)
  have D2 := Lib.hid ((DrB.ofB (g := g) B1.out).trans (d2.mono B1.out.size))
  have hs2 := d2.size
  have b3 : Below w2.heap.size w2 (w2.alloc (.cells #[] 3)) := (Below.refl _ _).alloc (Nat.le_refl _) _
  have R3 := Lib.hid (r2.below b3 (Nat.le_refl _))
  have D3 := Lib.hid (D2.out.trans (DrB.ofB (g := g) (b3.mono D2.out.size)))
  have O3 := Lib.hid (OwnI.lit w2 w1.heap.size [] hs2 (by decide))
  have hs3 : (w2.alloc (.cells #[] 3)).heap.size = w2.heap.size + 1 := by simp
  have hw3 := D3.out.size
  clear r2 d2 b3 hu
  go_wp2_with fail
  refine (HK.out g _ 5 _ R3.out (by omega) (by omega)).mono ?_
  rintro e w4 ⟨y, rfl, hy, r4, g4⟩
  have hy5 : y < 5 := by omega
  have R4 := Lib.hid r4
  have D4 := Lib.hid (D3.out.trans ((DrB.ofG g4).mono D3.out.size))
  have O4 := Lib.hid (O3.out.dr (DrB.ofG g4) (Nat.le_refl _) hgo)
  have hs4 : w1.heap.size ≤ w4.heap.size := by have := g4.size; omega
  clear r4 g4 hy hs3 hw3
  go_wp2_with fail
  go_loopw [6, 7] (fun v q wr => ∃ (k : Nat) (zs : List Int), k + zs.length ≤ 5 ∧ q = .int .i64 k ∧ OwnI wr w1.heap.size v zs ∧ w1.heap.size ≤ wr.heap.size ∧ Rd wr g (401 + 3 * zs.length) ∧ DrB g w.heap.size w wr) (fun _ q _ => (intOf q).toNat)
  case atStart => exact ⟨y, [], by simp; omega, rfl, O4.out, hs4, R4.out.more (by simp), D4.out⟩
  case round =>
    obtain ⟨k, zs, hk, rfl, ho, hsz, hr, hd⟩ := hrel
    have HOw := Lib.hid ho
    have HR := Lib.hid hr
    have HDr := Lib.hid hd
    clear ho hr hd
    by_cases hk0 : 0 < k
    · have hkw : (0 : Int) < (k : Int) := by omega
      go_wp2_with fail
      refine (HK.out g _ 4 _ HR.out (by omega) (by omega)).mono ?_
      rintro e w5 ⟨x1, rfl, hx1, r5, g5⟩
      have R5 := Lib.hid r5
      have D5 := Lib.hid (HDr.out.trans ((DrB.ofG g5).mono HDr.out.size))
      have O5 := Lib.hid (HOw.out.dr (DrB.ofG g5) (Nat.le_refl _) hgo)
      have hs5 := g5.size
      clear r5 g5 hx1
      go_wp2_with fail
      refine (HK.out g _ 8 _ R5.out (by omega) (by omega)).mono ?_
      rintro e w6 ⟨x2, rfl, hx2, r6, g6⟩
      have R6 := Lib.hid r6
      have D6 := Lib.hid (D5.out.trans ((DrB.ofG g6).mono D5.out.size))
      have O6 := Lib.hid (O5.out.dr (DrB.ofG g6) (Nat.le_refl _) hgo)
      have hs6 := g6.size
      clear r6 g6 hx2
      have b7 : Below w6.heap.size w6 (w6.alloc (.cells (ints [(x1 : Int), (x2 : Int), 0, 1]).toArray 3)) := (Below.refl _ _).alloc (Nat.le_refl _) _
      have HX := Lib.hid (num_lit g _ 4 [(x1 : Int), (x2 : Int), 0, 1] _ _ (R6.out.below b7 (Nat.le_refl _)) (Blk.new w6 3 (ints [(x1 : Int), (x2 : Int), 0, 1])) (by have := R6.out.lt; omega) rfl (by omega) (by omega) (by omega))
      have D7 := Lib.hid (D6.out.trans (DrB.ofB (g := g) (b7.mono D6.out.size)))
      have O7 := Lib.hid (O6.out.alloc (.cells (ints [(x1 : Int), (x2 : Int), 0, 1]).toArray 3))
      have hs7 : (w6.alloc (.cells (ints [(x1 : Int), (x2 : Int), 0, 1]).toArray 3)).heap.size = w6.heap.size + 1 := by simp
      have hw7 := D7.out.size
      clear b7
      go_wp2_with fail
      refine HX.out.mono ?_
      rintro e w8 ⟨z, hz, rfl, r8, g8⟩
      generalize gI [(x1 : Int), (x2 : Int), 0, 1] z = q
      have R8 := Lib.hid r8
      have D8 := Lib.hid (D7.out.trans ((DrB.ofG g8).mono D7.out.size))
      have O8 := Lib.hid (O7.out.dr (DrB.ofG g8) (Nat.le_refl _) hgo)
      have hs8 := g8.size
      clear r8 g8 hz hw7
      go_wp2_with (at_builtin; refine wpList_appI (OwnI.alloc O8.out _) (RowI.one _ _) rfl _ _ rfl rfl rfl (by omega) (by simp; omega) ?_; intro v9 w9 o9 g9)
      go_roundw
      case rel => exact ⟨k - 1, _, by simp; omega, by rw [show ((k : Int) - 1) = ((k - 1 : Nat) : Int) by omega], o9, by have := g9.size; simp at this; omega, (O8.out.oneApp hgo R8.out g9).more (by simp; omega), (D8.out.alloc D8.out.size _).grown g9 (by have := D8.out.size; simp; omega) (fun j hj => by have := (World.ownsRow.lt O8.out j hj).1; have := B1.out.size; omega)⟩
      case measure => simp [intOf] <;> omega
    · have hkw : ¬ (0 : Int) < (k : Int) := by omega
      have hzl : zs.length ≤ 5 := by omega
      clear hk hk0
      go_wp2_with fail
      refine (HK.out g _ 24 _ HR.out (by omega) (by omega)).mono ?_
      rintro e w5 ⟨x, rfl, hx, r5, g5⟩
      have R5 := Lib.hid r5
      have D5 := Lib.hid (HDr.out.trans ((DrB.ofG g5).mono HDr.out.size))
      have O5 := Lib.hid (HOw.out.dr (DrB.ofG g5) (Nat.le_refl _) hgo)
      have hs5 := g5.size
      clear r5 g5
      by_cases x0 : x = 0
      · have tx : ((x : Int) == 0) = true := by rw [x0]; rfl
        clear x0 hx
        go_wp2_with fail
        refine (HK.out g _ 2 _ R5.out (by omega) (by omega)).mono ?_
        rintro e w6 ⟨x2, rfl, hx2, r6, g6⟩
        have hx2' : x2 < 2 := by omega
        have hmk := run_make_ints (32 + x2) (by omega) w6
        have hcast : ((32 + x2 : Nat) : Int) = 32 + (x2 : Int) := by omega
        rw [hcast] at hmk
        have D6 := Lib.hid (D5.out.trans ((DrB.ofG g6).mono D5.out.size))
        have O6 := Lib.hid (OwnI.made w6 w.heap.size (32 + x2) D6.out.size (by omega))
        clear r6 g6 hx2 hcast
        go_wp2_with fail
        refine bodyPost_ret (v := .tuple #[.string u, .slice (some ⟨w6.heap.size, 0, none⟩) (32 + x2) (32 + x2)]) (by simp [results, Tryd.results22, go_sem]) rfl ⟨u, _, _, rfl, HU.out, by rw [List.length_replicate]; omega, O6.out, (D6.out.alloc D6.out.size _).below hg⟩
      · have tx : ((x : Int) == 0) = false := by rw [beq_eq_false_iff_ne]; omega
        clear x0 hx
        obtain ⟨va, vc, rfl, _⟩ := O5.out.out
        go_wp2_with fail
        refine bodyPost_ret (v := .tuple #[.string u, .slice va zs.length vc]) (by simp [results, Tryd.results22, go_sem]) rfl ⟨u, _, zs, rfl, HU.out, by omega, OwnI.baseW O5.out B1.out.size, D5.out.below hg⟩

end Go.Proofs.YtjkgcgbialiipaaDoor
/- Walks: one switch's step by the program; a network and blocks, drawn. -/
namespace Go.Proofs.YtjkgcgbialiipaaDoor
open Go.RowKit

set_option maxHeartbeats 1000000 in
theorem holdI_ok (s i v : Nat) (w : World) (hs : s < 32) (hi : i < 5) (hv : v < 2) :
    Calls Tryd.prog 153 #[.int .i64 s, .int .i64 i, .int .i64 v] w fun e w' => e = .returned (.int .i64 (setN s i v : Nat)) ∧ Below w.heap.size w w' := by
  have hp : (2 ^ i : Nat) < 32 := Nat.pow_lt_pow_right (by decide) hi
  have h1 : wrap64 (2 ^ i) = ((2 ^ i : Nat) : Int) := wrap_pow_nat i (by omega)
  have h2 : wrap64 ((v : Int) * 2 ^ i) = ((v * 2 ^ i : Nat) : Int) := by
    rcases (show v = 0 ∨ v = 1 by omega) with rfl | rfl
    · simp; decide +kernel
    · simpa using h1
  have h3 := andNot_32 s (2 ^ i) hs hp
  have h4 : bits .or .i64 ((s &&& (31 - 2 ^ i) : Nat) : Int) ((v * 2 ^ i : Nat) : Int) = ((setN s i v : Nat) : Int) := or_nat _ _ (Nat.lt_of_lt_of_le (and_lt32 hs) (by decide)) (Nat.lt_of_le_of_lt (Nat.mul_le_mul (show v ≤ 1 by omega) (Nat.le_of_lt hp)) (by decide))
  generalize ((2 ^ i : Nat) : Int) = a at h1 h3
  generalize ((s &&& (31 - 2 ^ i) : Nat) : Int) = b at h3 h4
  generalize ((v * 2 ^ i : Nat) : Int) = c at h2 h4
  go_enter Tryd.func153, Tryd.ntmps153
  go_wp2
  have hi0 : (0 : Int) ≤ (i : Int) := by omega
  have him : min i 64 = i := by omega
  go_region_held3 (fun w' => Below w.heap.size w w') (first | exact ⟨rfl, rfl, rfl, Nat.le_refl _, fun _ _ => rfl⟩ | assumption) (fail)
  go_wp2_with fail
  go_ret
  refine ⟨reti ?_, ⟨rfl, rfl, rfl, Nat.le_refl _, fun _ _ => rfl⟩⟩
  have hw : ∀ z : Int, IntKind.i64.wrap z = wrap64 z := fun z => by simp [IntKind.wrap, wrap64, IntKind.signed, IntKind.bits] <;> omega
  rw [hw, hw, h1, h3, h2, h4]

/-- The bit of a table in a network's row. -/
theorem net_cell2 {w : World} {q o c : Nat} {ps : List ByteArray} (h : RowN w (some ⟨q, o, none⟩) ps.length c ps.length (bitsN ps ps.length)) (hn : netB ps = true) (h5 : ps.length ≤ 5) {i s : Nat} (hi : i < ps.length) (hs : s < 2 ^ ps.length) :
    w.cell? ⟨q, o + i * 33 + 1 + s, none⟩ = some (.int .u8 ((bitN ps i s : Nat) : Int)) := by
  have hp : (2 ^ ps.length : Nat) ≤ 32 := Nat.pow_le_pow_right (n := 2) (by decide) h5
  have hbs : (bitsN ps ps.length)[i]? = some (eachL (byD (gT ps i)) (gT ps i).size) := by simp [bitsN, hi]
  have := h.range q o rfl i _ hbs (1 + s) _ (tabC_get (ps.length : Int) (eachL (byD (gT ps i)) (gT ps i).size) s (by rw [eachL_len]; omega))
  rw [Nat.add_assoc, this, eachL_get _ _ _ (by omega) (by rw [net_size hn i hi]; exact hs), bitN_eq (netB_get hn i hi).1]

set_option maxHeartbeats 2000000 in
theorem stepOne_ok (ao : Option Addr) (c : Nat) (ps : List ByteArray) (s i : Nat) (w : World) (h : RowN w ao ps.length c ps.length (bitsN ps ps.length)) (hn : netB ps = true) (h5 : ps.length ≤ 5) (hs : s < 2 ^ ps.length) (hi : i < ps.length) :
    Calls Tryd.prog 95 #[.slice ao ps.length c, .int .i64 s, .int .i64 i] w fun e w' => e = .returned (.int .i64 (setN s i (bitN ps i s) : Nat)) ∧ Below w.heap.size w w' := by
  obtain ⟨q, o, rfl, hq⟩ := h.some (by omega)
  have hc := net_cell2 h hn h5 hi hs
  have hp : (2 ^ ps.length : Nat) ≤ 32 := Nat.pow_le_pow_right (n := 2) (by decide) h5
  have hb : bitN ps i s < 2 := bitN_lt (netB_get hn i hi).1 s
  have HH := Lib.hid (fun W => holdI_ok s i (bitN ps i s) W (by omega) (by omega) hb)
  have hs32 : (s : Int) < 32 := by omega
  generalize bitN ps i s = b at hc HH hb ⊢
  have hin : (i : Int) < (ps.length : Int) := by omega
  generalize ps.length = n at hin hc ⊢
  clear h hn hs hi hp
  go_enter Tryd.func95, Tryd.ntmps95
  go_wp2_with fail
  refine (HH.out _).mono ?_
  rintro e w2 ⟨rfl, b2⟩
  go_wp2_with fail
  go_ret
  exact ⟨rfl, b2⟩

/-- What StepOne gives. -/
def soV (ps : List ByteArray) (s i : Int) : Int := if (stB' ps s && decide (0 ≤ i ∧ i < ps.length)) = true then (setN s.toNat i.toNat (bitN ps i.toNat s.toNat) : Nat) else -1
theorem soV_no {ps : List ByteArray} {s i : Int} (h : stB' ps s = false) : soV ps s i = -1 := by simp [soV, h]
theorem soV_out {ps : List ByteArray} {s i : Int} (h : ¬ (0 ≤ i ∧ i < ps.length)) : soV ps s i = -1 := by simp [soV, h]
theorem soV_yes {ps : List ByteArray} {s i : Nat} (h : stB' ps (s : Int) = true) (hi : i < ps.length) : soV ps (s : Int) (i : Int) = (setN s i (bitN ps i s) : Nat) := by
  simp [soV, h, hi]

set_option maxHeartbeats 2000000 in
theorem stepOneI_ok (t : ByteArray) (s : Int) (i : Nat) (w : World) (hs : t.size ≤ 1048576) (hm : MaxLenIs w) (hi : i < (cutsP 44 t).length) :
    Calls Tryd.prog 19 #[.string t, .int .i64 s, .int .i64 i] w fun e w' => e = .returned (.int .i64 (soV (cutsP 44 t) s i)) ∧ Below w.heap.size w w' := by
  have HO := Lib.hid (stateOf_ok t s w hs hm)
  have hp0 := cutsP_pos 44 t
  generalize cutsP 44 t = ps at HO hp0 hi ⊢
  cases hb : stB' ps s with
  | false =>
    have HV := Lib.hid (soV_no (i := i) hb)
    rw [hb] at HO
    clear hb
    go_enter Tryd.func19, Tryd.ntmps19
    go_wp2_with fail
    refine HO.out.mono ?_
    rintro e w1 ⟨v, rfl, o1, b1⟩
    clear o1
    go_wp2_with fail
    go_ret
    exact ⟨reti HV.out.symm, b1⟩
  | true =>
    obtain ⟨hn, h0, h1⟩ := stB'_get hb
    obtain ⟨m, rfl⟩ := Int.eq_ofNat_of_zero_le h0
    have h5 := net_le hn hp0
    have hlen := bitsN_len ps ps.length
    have hsm : m < 2 ^ ps.length := by omega
    have HV := Lib.hid (soV_yes hb hi)
    have HN := Lib.hid (netN_yes hn)
    have HS := Lib.hid (fun (ao : Option Addr) (c : Nat) W h => stepOne_ok ao c ps m i W h hn h5 hsm hi)
    have hiw : (i : Int) < (ps.length : Int) := by omega
    rw [hb] at HO
    clear hb hn h0 h1 hsm
    go_enter Tryd.func19, Tryd.ntmps19
    go_wp2_with fail
    refine HO.out.mono ?_
    rintro e w1 ⟨v, rfl, o1, b1⟩
    rw [HN.out] at o1
    obtain ⟨a, c, rfl, r1⟩ := o1.row (bitsN_wide ps ps.length)
    rw [hlen] at r1 ⊢
    have HS1 := Lib.hid (HS.out _ _ _ r1)
    clear o1 r1
    go_wp2_with fail
    refine HS1.out.mono ?_
    rintro e w2 ⟨rfl, b2⟩
    go_wp2_with fail
    go_ret
    exact ⟨reti HV.out.symm, b1.trans (b2.mono b1.size)⟩

/-- A network's text and blocks are drawn. -/
def WithP (g P : Nat) (w : World) (e : Ending) (w' : World) : Prop := ∃ u v zs, e = .returned (.tuple #[.string u, v]) ∧ u.size ≤ 1048576 ∧ zs.length ≤ 7 ∧ OwnI w' w.heap.size v zs ∧ Rd w' g P ∧ DrB g w.heap.size w w'

theorem szV_max (t : ByteArray) : ∃ n : Nat, n ≤ 5 ∧ max (szV (cutsP 44 t)) 1 = (n : Int) := by
  rcases szV_range t with h | ⟨n, h, h1, h5, _⟩
  · exact ⟨1, by omega, by rw [h]; decide⟩
  · exact ⟨n, h5, by rw [h]; omega⟩

set_option maxHeartbeats 2000000 in
theorem l11With_ok (g P : Nat) (w : World) (h : Rd w g P) (hP : P ≤ 500000) :
    Calls Tryd.prog 83 #[.pointer (some ⟨g, 0, none⟩)] w (WithP g (P + 440) w) := by
  have hgw := h.lt
  have HO := Lib.hid (l7Open_ok g P w h hP)
  clear h
  go_enter Tryd.func83, Tryd.ntmps83
  go_wp2_with fail
  refine HO.out.mono ?_
  rintro e w1 ⟨u, rfl, hu, r1, d1⟩
  have HU : Hid (u.size ≤ 1048576) := Nat.le_trans hu (by decide)
  have R1 := Lib.hid r1
  have D1 := Lib.hid d1
  clear r1 d1 hu
  obtain ⟨n, hn5, hmx⟩ := szV_max u
  go_wp2_with fail
  refine (sizeOf_ok u _ HU.out).mono ?_
  rintro e w2 ⟨rfl, b2⟩
  have R2 := Lib.hid (R1.out.below b2 (Nat.le_refl _))
  have D2 := Lib.hid (D1.out.trans ((DrB.ofB (g := g) b2).mono D1.out.size))
  clear b2
  generalize szV (cutsP 44 u) = q at hmx ⊢
  go_wp2_with fail
  refine (l11Draw_ok g _ n _ R2.out hn5 (by omega)).mono ?_
  rintro e w3 ⟨v, zs, rfl, hzl, o3, r3, d3⟩
  have R3 := Lib.hid r3
  have D3 := Lib.hid (D2.out.trans (d3.mono D2.out.size))
  have O3 := Lib.hid (OwnI.baseW o3 D2.out.size)
  clear r3 d3 o3
  obtain ⟨va, vc, rfl, _⟩ := O3.out.out
  go_wp2_with fail
  refine bodyPost_ret (v := .tuple #[.string u, .slice va zs.length vc]) (by simp [results, Tryd.results83, go_sem]) rfl ⟨u, _, zs, rfl, HU.out, hzl, O3.out, R3.out, D3.out⟩

end Go.Proofs.YtjkgcgbialiipaaDoor
/- Walks: the arguments of StepBlocks, drawn; the plain facts of the law StepBlocks. -/
namespace Go.Proofs.YtjkgcgbialiipaaDoor
open Go.RowKit

/-- A network's text, blocks and a number are drawn. -/
def DrawSB (w : World) (e : Ending) (w' : World) : Prop := ∃ t v zs q, e = .returned (.tuple #[.string t, v, .int .i64 q]) ∧ t.size ≤ 1048576 ∧ zs.length ≤ 7 ∧ OwnI w' w.heap.size v zs ∧ Below w.heap.size w w'

set_option maxHeartbeats 4000000 in
theorem drawSB_ok (ao : Option Addr) (l c : Nat) (cs : List Int) (w : World) (h : RowU w ao l c cs) (hl : l ≤ 1048576) :
    Calls Tryd.prog 15 #[.slice ao l c] w (DrawSB w) := by
  have HO := Lib.hid (l14Open_ok ao l c cs w h hl)
  have HK := Lib.hid (fun g Q m W (h : Rd W g Q) (hQ : Q ≤ 1000000) (hm : m ≤ 1048576) => pick_ok g Q m W h hQ hm)
  clear h
  go_enter Tryd.func15, Tryd.ntmps15
  go_wp2_with fail
  refine HO.out.mono ?_
  rintro e w1 ⟨g, rfl, hg, r1, b1⟩
  have R1 := Lib.hid r1
  have B1 := Lib.hid b1
  have hgo : g < w1.heap.size := r1.lt
  clear r1 b1 HO
  go_wp2_with fail
  refine (l11With_ok g 0 _ R1.out (by omega)).mono ?_
  rintro e w2 ⟨u, v, zs, rfl, hu, hzl, o2, r2, d2⟩
  have R2 := Lib.hid r2
  have D2 := Lib.hid ((DrB.ofB (g := g) B1.out).trans (d2.mono B1.out.size))
  have O2 := Lib.hid o2
  have hs2 := d2.size
  clear r2 d2 o2
  go_wp2_with fail
  refine (HK.out g _ 8 _ R2.out (by omega) (by omega)).mono ?_
  rintro e w4 ⟨y, rfl, hy, r4, g4⟩
  have R4 := Lib.hid r4
  have D4 := Lib.hid (D2.out.trans ((DrB.ofG g4).mono D2.out.size))
  have O4 := Lib.hid (O2.out.dr (DrB.ofG g4) (Nat.le_refl _) hgo)
  have hs4 := g4.size
  clear r4 g4 hy
  go_wp2_with fail
  refine (HK.out g _ 4 _ R4.out (by omega) (by omega)).mono ?_
  rintro e w5 ⟨x, rfl, hx, r5, g5⟩
  have R5 := Lib.hid r5
  have D5 := Lib.hid (D4.out.trans ((DrB.ofG g5).mono D4.out.size))
  have O5 := Lib.hid (O4.out.dr (DrB.ofG g5) (Nat.le_refl _) hgo)
  have hs5 := g5.size
  clear r5 g5 hx
  have b7 : Below w5.heap.size w5 (w5.alloc (.cells (ints [(y : Int), (x : Int), 0, -1, 32]).toArray 3)) := (Below.refl _ _).alloc (Nat.le_refl _) _
  have HX := Lib.hid (num_lit g _ 5 [(y : Int), (x : Int), 0, -1, 32] _ _ (R5.out.below b7 (Nat.le_refl _)) (Blk.new w5 3 (ints [(y : Int), (x : Int), 0, -1, 32])) (by have := R5.out.lt; omega) rfl (by omega) (by omega) (by omega))
  have D7 := Lib.hid (D5.out.trans (DrB.ofB (g := g) (b7.mono D5.out.size)))
  have O7 := Lib.hid (O5.out.alloc (.cells (ints [(y : Int), (x : Int), 0, -1, 32]).toArray 3))
  clear b7
  go_wp2_with fail
  refine HX.out.mono ?_
  rintro e w8 ⟨z, hz, rfl, r8, g8⟩
  generalize gI [(y : Int), (x : Int), 0, -1, 32] z = q
  have D8 := Lib.hid (D7.out.trans ((DrB.ofG g8).mono D7.out.size))
  have O8 := Lib.hid (OwnI.baseW (O7.out.dr (DrB.ofG g8) (Nat.le_refl _) hgo) B1.out.size)
  clear r8 g8 hz
  obtain ⟨va, vc, rfl, _⟩ := O8.out.out
  go_wp2_with fail
  refine bodyPost_ret (v := .tuple #[.string u, .slice va zs.length vc, .int .i64 q]) (by simp [results, Tryd.results15, go_sem]) rfl ⟨u, _, zs, q, rfl, hu, hzl, O8.out, D8.out.below hg⟩

/-- Which one switch a block holds: the last of those tried, or -1. -/
def oneV (z : Int) : Nat → Int
  | 0 => -1
  | k + 1 => if z = ((2 ^ k : Nat) : Int) then k else oneV z k
theorem oneV_get (z : Int) : ∀ n, oneV z n = -1 ∨ ∃ i : Nat, i < n ∧ oneV z n = i ∧ z = ((2 ^ i : Nat) : Int)
  | 0 => .inl rfl
  | k + 1 => by
    unfold oneV
    split
    · rename_i h
      exact .inr ⟨k, by omega, rfl, h⟩
    · rcases oneV_get z k with h | ⟨i, hi, h1, h2⟩
      · exact .inl h
      · exact .inr ⟨i, by omega, h1, h2⟩

theorem step_one {ps : List ByteArray} (hn : netB ps = true) (h5 : ps.length ≤ 5) {s i : Nat} (hs : s < 2 ^ ps.length) (hi : i < ps.length) : setN s i (bitN ps i s) = stepTo ps s (2 ^ i) ps.length := by
  have hp := pow_32 h5
  have hb := bitN_lt (netB_get hn i hi).1 s
  refine eq_pow (setN_pow hs hi hb) (stepTo_lt hn h5 _ hs) fun j hj => ?_
  rw [setN_bit (by omega) (by omega) hb (by omega), stepTo_bit hn h5 hs hj, Nat.testBit_two_pow]
  by_cases e : j = i
  · subst e; simp
  · have e2 : ¬ i = j := fun h => e h.symm
    simp [e, e2]

theorem all_block {ps : List ByteArray} (hn : netB ps = true) (h0 : 0 < ps.length) (h5 : ps.length ≤ 5) {s : Nat} (hs : s < 2 ^ ps.length) : sbV ps [((2 ^ ps.length : Nat) : Int) - 1] (s : Int) = saV ps (s : Int) := by
  have hp := pow_32 h5
  have hp2 : 2 ≤ 2 ^ ps.length := by have := Nat.pow_le_pow_right (n := 2) (by decide) (show 1 ≤ ps.length from h0); simpa using this
  have hst : stOk ps.length (s : Int) = true := by rw [stOk_iff]; omega
  have hnb : nbB ps [((2 ^ ps.length : Nat) : Int) - 1] = true := by
    have e : addB 32 0 (((2 ^ ps.length : Nat) : Int) - 1) = some (2 ^ ps.length - 1) := by
      rw [addB, if_pos ⟨by omega, by omega, by simp⟩, Nat.zero_or]
      congr 1
      omega
    have e2 : [((2 ^ ps.length : Nat) : Int) - 1].foldlM (addB 32) 0 = some (2 ^ ps.length - 1) := by
      rw [List.foldlM_cons, e]; rfl
    rw [nb_yes hn, blocksV, unionB, e2, Int.toNat_natCast]
    simp
    omega
  rw [sb_yes hnb hst, saV_all h5 (by rw [stB'_in hn]; exact hst)]
  rw [runTo_all, runL_cons, runL_nil, show (((2 ^ ps.length : Nat) : Int) - 1).toNat = 2 ^ ps.length - 1 by omega, step_all hn h5 hs]

end Go.Proofs.YtjkgcgbialiipaaDoor
/- The law FnStepBlocks. -/
namespace Go.Proofs.YtjkgcgbialiipaaDoor
open Go.RowKit

set_option maxRecDepth 100000 in
set_option maxHeartbeats 8000000 in
theorem FnStepBlocks_ok (ao : Option Addr) (l c : Nat) (cs : List Int) (w : World) (h : RowU w ao l c cs) (hm : MaxLenIs w) :
    Calls Tryd.prog 3 #[.slice ao l c] w fun e w' => e = .returned (.bool true) ∧ Below w.heap.size w w' := by
  go_enter Tryd.func3, Tryd.ntmps3
  by_cases hbig : 1048576 < l
  · have hbig' : (1048576 : Int) < (l : Int) := by omega
    go_wp2_with fail
    go_ret
    exact ⟨rfl, Below.refl _ _⟩
  · have hbig' : ¬ (1048576 : Int) < (l : Int) := by omega
    have HD := Lib.hid (drawSB_ok ao l c cs w h (by omega))
    have HM := Lib.hid (fun W (hW : Below w.heap.size w W) => hm.below hW (Nat.le_refl _))
    clear h hm
    go_wp2_with fail
    refine HD.out.mono ?_
    rintro e w1 ⟨t, v0, zs, q, rfl, ht, hzl, o1, b1⟩
    have B1 := Lib.hid b1
    obtain ⟨va, vc, rfl, ho1⟩ := o1.out
    have Z1 := Lib.hid ho1.rowI
    have HI := Lib.hid (fun W a n c zs s (hW : Below w1.heap.size w1 W) (hr : RowI W a n c zs) (hn : n ≤ 1048576) => sbI_ok t a n c zs s W ht hr hn (HM.out W (B1.out.trans (hW.mono B1.out.size))))
    have HS := Lib.hid (sbS_ok t va zs.length vc zs q)
    have HSz := Lib.hid (fun W (hW : Below w1.heap.size w1 W) => sizeI_ok t W ht (HM.out W (B1.out.trans (hW.mono B1.out.size))))
    have HAll := Lib.hid (fun W s (hW : Below w1.heap.size w1 W) => stepAllI_ok t s W ht (HM.out W (B1.out.trans (hW.mono B1.out.size))))
    have HOne := Lib.hid (fun W s i (hW : Below w1.heap.size w1 W) hi => stepOneI_ok t s i W ht (HM.out W (B1.out.trans (hW.mono B1.out.size))) hi)
    have HBv := Lib.hid (fun W m (hW : Below w1.heap.size w1 W) => bvI_ok va zs.length vc zs m W (Z1.out.below hW (Nat.le_refl _)))
    have hp0 := cutsP_pos 44 t
    obtain ⟨ps, hps⟩ : ∃ ps, cutsP 44 t = ps := ⟨_, rfl⟩
    rw [hps] at HI HS HSz HAll HOne hp0
    clear b1 HD o1 ho1 hps
    have HI1 := Lib.hid (HI.out w1 _ _ _ _ q (Below.refl _ _) Z1.out (by omega))
    cases hv : (nbB ps zs && stOk ps.length q) with
    | false =>
      have HV : Hid (sbV ps zs q = -1) := by unfold Hid sbV; rw [hv]; rfl
      clear hv
      rw [HV.out] at HI1
      go_wp2_with fail
      refine HI1.out.mono ?_
      rintro e w2 ⟨rfl, b2⟩
      have HS2 := Lib.hid (HS.out w2 ht (Z1.out.below b2 (Nat.le_refl _)) (by omega))
      have B2 := Lib.hid b2
      rw [HV.out] at HS2
      clear b2
      go_wp2_with fail
      refine HS2.out.mono ?_
      rintro e w3 ⟨rfl, b3⟩
      have HS3 := Lib.hid (HS.out w3 ht (Z1.out.below (B2.out.trans (b3.mono B2.out.size)) (Nat.le_refl _)) (by omega))
      have B3 := Lib.hid (B2.out.trans (b3.mono B2.out.size))
      rw [HV.out] at HS3
      clear b3
      go_wp2_with fail
      refine HS3.out.mono ?_
      rintro e w4 ⟨rfl, b4⟩
      go_wp2_with fail
      go_ret
      exact ⟨rfl, B1.out.trans ((B3.out.trans (b4.mono B3.out.size)).mono B1.out.size)⟩
    | true =>
      rw [Bool.and_eq_true] at hv
      obtain ⟨hnb, hst⟩ := hv
      have hnet := nb_net hnb
      have h5 := net_le hnet hp0
      have hp := pow_32 h5
      have hq := stOk_iff.1 hst
      obtain ⟨s, rfl⟩ := Int.eq_ofNat_of_zero_le hq.1
      have hs : s < 2 ^ ps.length := by omega
      have HV := Lib.hid (sb_yes hnb hst)
      rw [runTo_all] at HV
      have HAb := Lib.hid (all_block hnet hp0 h5 hs)
      have HB1 : Hid (blocksI zs ps.length = true) := by unfold Hid; rw [blocks_same, ← nb_yes hnet]; exact hnb
      have HSz1 := Lib.hid (HSz.out)
      rw [sizV_yes hnet] at HSz1
      have HF : Hid (∃ F : Nat → Nat, F 0 = s ∧ F zs.length = runL ps s zs ∧ ∀ k i : Nat, k < zs.length → i < ps.length → gI zs k = ((2 ^ i : Nat) : Int) → soV ps ((F k : Nat) : Int) (i : Int) = ((F (k + 1) : Nat) : Int)) := by
        refine ⟨fun k => runL ps s (zs.take k), by simp [runL], by simp, fun k i hk hi hz => ?_⟩
        have hlt := runL_lt hnet h5 (zs.take k) hs
        show soV ps ((runL ps s (zs.take k) : Nat) : Int) (i : Int) = ((runL ps s (zs.take (k + 1)) : Nat) : Int)
        rw [soV_yes (by rw [stB'_in hnet, stOk_iff]; omega) hi, step_one hnet h5 hlt hi, take_succ_of zs k _ (gI_lt hk), runL_app, runL_cons, runL_nil, hz, Int.toNat_natCast]
      obtain ⟨F, HF0, HFe, HFs⟩ := HF.out
      have HFs' := Lib.hid HFs
      have hpw := wrap_pow_nat ps.length (by omega)
      have hpws := Lib.hid (fun i (hi : i < ps.length) => wrap_pow_nat i (by omega))
      rw [← HFe] at HV
      clear hnb hst hnet hp0 hq hs HSz HF HFs HFe
      rw [HV.out] at HI1
      obtain ⟨K, hK⟩ : ∃ K, F zs.length = K := ⟨_, rfl⟩
      rw [hK] at HI1 HV
      have HK := Lib.hid hK
      have hK0 : ¬ ((K : Nat) : Int) < 0 := by omega
      clear hK
      go_wp2_with fail
      refine HI1.out.mono ?_
      rintro e w2 ⟨rfl, b2⟩
      have HS2 := Lib.hid (HS.out w2 ht (Z1.out.below b2 (Nat.le_refl _)) (by omega))
      have B2 := Lib.hid b2
      rw [HV.out] at HS2
      clear b2
      go_wp2_with fail
      refine HS2.out.mono ?_
      rintro e w3 ⟨rfl, b3⟩
      have B3 := Lib.hid (B2.out.trans (b3.mono B2.out.size))
      clear b3
      go_wp2_with fail
      refine (HSz1.out _ B3.out).mono ?_
      rintro e w4 ⟨rfl, b4⟩
      have B4 := Lib.hid (B3.out.trans (b4.mono B3.out.size))
      clear b4
      generalize (2 ^ ps.length : Nat) = N at hp hpw HAb
      have b5 : Below w4.heap.size w4 (w4.alloc (.cells #[.int .i64 ((N : Int) - 1)] 3)) := (Below.refl _ _).alloc (Nat.le_refl _) _
      have HI2 := Lib.hid (HI.out _ _ _ _ _ s (B4.out.trans (b5.mono B4.out.size)) (RowI.one w4 ((N : Int) - 1)) (by omega))
      rw [HAb.out] at HI2
      have B5 := Lib.hid (B4.out.trans (b5.mono B4.out.size))
      have HAl := Lib.hid (fun W hW => HAll.out W s hW)
      generalize saV ps (s : Int) = A at HI2 HAl
      clear b5 HAb
      go_wp2_with fail
      refine HI2.out.mono ?_
      rintro e w6 ⟨rfl, b6⟩
      have B6 := Lib.hid (B5.out.trans (b6.mono B5.out.size))
      clear b6
      go_wp2_with fail
      go_loopw [9, 10, 11] (fun a g j wr => ∃ (k : Nat) (x : Int) (b : Bool), k ≤ zs.length ∧ j = .int .i64 k ∧ a = .int .i64 x ∧ g = .bool b ∧ (b = true → x = (F k : Nat)) ∧ Below w1.heap.size w1 wr) (fun _ _ j _ => zs.length - (intOf j).toNat)
      case atStart => exact ⟨0, s, true, Nat.zero_le _, rfl, rfl, rfl, fun _ => by rw [HF0], B6.out⟩
      case round =>
        obtain ⟨k, x, b, hk, rfl, rfl, rfl, hx, hb⟩ := hrel
        have HX := Lib.hid hx
        have HB := Lib.hid hb
        clear hx hb
        by_cases hkl : k < zs.length
        · have hkw : (k : Int) < (zs.length : Int) := by omega
          obtain ⟨tb, tq, rfl, htb⟩ := Z1.out.2.some (by omega)
          have HZc := Lib.hid (fun W (hW : Below w1.heap.size w1 W) => (Z1.out.below hW (Nat.le_refl _)).2.cell tb tq rfl k hkl)
          have HFk := Lib.hid (HFs'.out k)
          obtain ⟨z, hz⟩ : ∃ z, gI zs k = z := ⟨_, rfl⟩
          rw [hz] at HZc HFk
          have hzl7 : zs.length ≤ 7 := hzl
          clear hz
          go_wp2_with fail
          go_loopw [12, 13] (fun o i wi => ∃ m : Nat, m ≤ ps.length ∧ i = .int .i64 m ∧ o = .int .i64 (oneV z m) ∧ Below wr.heap.size wr wi) (fun _ i _ => ps.length - (intOf i).toNat)
          case atStart => exact ⟨0, Nat.zero_le _, rfl, rfl, Below.refl _ _⟩
          case round =>
            obtain ⟨m, hm, rfl, rfl, hwi⟩ := hrel
            have HBi := Lib.hid (HB.out.trans (hwi.mono HB.out.size))
            have HWi := Lib.hid hwi
            clear hwi
            by_cases hml : m < ps.length
            · have hmw : (m : Int) < (ps.length : Int) := by omega
              have hc := HZc.out _ HBi.out
              have hpm := hpws.out m hml
              by_cases hz : z = ((2 ^ m : Nat) : Int)
              · have hzb : (z == ((2 ^ m : Nat) : Int)) = true := by rw [hz]; exact beq_self_eq_true _
                have ho : Hid (oneV z (m + 1) = (m : Int)) := by unfold Hid oneV; rw [if_pos hz]
                clear hz
                generalize ((2 ^ m : Nat) : Int) = pm at hpm hzb
                go_wp2_with fail
                go_roundw
                case rel => exact ⟨m + 1, by omega, by go_num, by rw [ho.out], HWi.out⟩
                case measure => simp [intOf] <;> omega
              · have hzb : (z == ((2 ^ m : Nat) : Int)) = false := by rw [beq_eq_false_iff_ne]; exact hz
                have ho : Hid (oneV z (m + 1) = oneV z m) := by unfold Hid; rw [oneV, if_neg hz]
                clear hz
                generalize ((2 ^ m : Nat) : Int) = pm at hpm hzb
                generalize oneV z m = om at ho ⊢
                go_wp2_with fail
                go_roundw
                case rel => exact ⟨m + 1, by omega, by go_num, by rw [ho.out], HWi.out⟩
                case measure => simp [intOf] <;> omega
            · have hmw : ¬ (m : Int) < (ps.length : Int) := by omega
              obtain rfl : m = ps.length := by omega
              rcases oneV_get z ps.length with ho | ⟨i, hi, ho, hzi⟩
              · rw [ho]
                clear ho
                cases b
                all_goals
                  go_wp2_with fail
                  go_roundw
                  case rel => exact ⟨k + 1, x, false, by omega, by go_num, rfl, rfl, fun e => by (cases e), HBi.out⟩
                  case measure => simp [intOf] <;> omega
              · rw [ho]
                have hi0 : (0 : Int) ≤ (i : Int) := by omega
                have hSo := HFk.out i hkl hi hzi
                have HO1 := Lib.hid (HOne.out wr x i HBi.out hi)
                have HX2 : Hid (b = true → soV ps x i = ((F (k + 1) : Nat) : Int)) := fun e => by rw [HX.out e]; exact hSo
                generalize soV ps x i = y at HX2 HO1
                clear ho hzi hSo
                cases b
                all_goals
                  go_wp2_with fail
                  refine HO1.out.mono ?_
                  rintro e w7 ⟨rfl, b7⟩
                  have HB7 := Lib.hid (HBi.out.trans (b7.mono HBi.out.size))
                  clear b7
                  go_wp2_with fail
                  go_roundw
                  case rel => exact ⟨k + 1, y, _, by omega, by go_num, rfl, rfl, fun _ => (by first | exact HX2.out trivial | contradiction), HB7.out⟩
                  case measure => simp [intOf] <;> omega
        · have hkw : ¬ (k : Int) < (zs.length : Int) := by omega
          obtain rfl : k = zs.length := by omega
          go_wp2_with fail
          refine (HAl.out _ HB.out).mono ?_
          rintro e w7 ⟨rfl, b7⟩
          have B7 := Lib.hid (HB.out.trans (b7.mono HB.out.size))
          have HBv1 := Lib.hid (HBv.out _ (ps.length : Int) B7.out)
          rw [HB1.out] at HBv1
          clear b7
          cases b with
          | false =>
            go_wp2_with fail
            refine HBv1.out.mono ?_
            rintro e w8 ⟨rfl, b8⟩
            go_wp2_with fail
            go_ret
            exact ⟨rfl, B1.out.trans ((B7.out.trans (b8.mono B7.out.size)).mono B1.out.size)⟩
          | true =>
            have hxe : (x == ((K : Nat) : Int)) = true := by rw [HX.out rfl, HK.out]; exact beq_self_eq_true _
            go_wp2_with fail
            refine HBv1.out.mono ?_
            rintro e w8 ⟨rfl, b8⟩
            go_wp2_with fail
            go_ret
            exact ⟨rfl, B1.out.trans ((B7.out.trans (b8.mono B7.out.size)).mono B1.out.size)⟩

end Go.Proofs.YtjkgcgbialiipaaDoor
