/- Walks and plain facts: several of my texts in one. -/
import Derived.Test.YtcmjogojlijdgaaGreatDoorGrB
import Derived.Test.YtcmjogojlijdgaaGreatDoorGrC
import Derived.Test.YtcmjogojlijdgaaGreatDoorGrE
import Derived.Maps.AppendAt
import Derived.Test.YtcmjogojlijdgaaGreatDoorGrD
import Derived.Test.YtcmjogojlijdgaaGreatDoorGrG
/- Walks: NetworkOfBlocks on both sides. -/
namespace Go.Proofs.YtcmjogojlijdgaaGreatDoor
open Go.RowKit

theorem OwnI.belowB {w w' : World} {B B' : Nat} {v : Value} {zs : List Int} (h : OwnI w B v zs) (hb : Below B' w w') (hB : w.heap.size ≤ B') : OwnI w' B v zs := by
  obtain ⟨h0, h1 | ⟨g, cap, cur, e, hg, hh, h2⟩⟩ := h
  · exact ⟨h0, .inl h1⟩
  · exact ⟨h0, .inr ⟨g, cap, cur, e, hg, by rw [hb.block g (by have := lt_of_block hh; omega)]; exact hh, h2⟩⟩

/-- The values of the network of a schedule. -/
def schF (ps : List ByteArray) (zs : List Int) (k s : Nat) : Nat := bN (runTo ps zs s zs.length) k
def nbT (ps : List ByteArray) (zs : List Int) : ByteArray := if nbB ps zs = true then netT (schF ps zs) ps.length else ⟨#[]⟩
theorem nbT_no {ps : List ByteArray} {zs : List Int} (h : nbB ps zs = false) : nbT ps zs = ⟨#[]⟩ := by simp [nbT, h]
theorem nbT_yes {ps : List ByteArray} {zs : List Int} (h : nbB ps zs = true) : nbT ps zs = netT (schF ps zs) ps.length := by simp [nbT, h]
/-- The values of one table, so far. -/
def valsL (F : Nat → Nat → Nat) (k N : Nat) : List Int := (List.range N).map fun s => ((F k s : Nat) : Int)
theorem valsL_next (F : Nat → Nat → Nat) (k N : Nat) : valsL F k (N + 1) = valsL F k N ++ [((F k N : Nat) : Int)] := by simp [valsL, List.range_succ]
theorem valsL_len (F : Nat → Nat → Nat) (k N : Nat) : (valsL F k N).length = N := by simp [valsL]
theorem valsL_get (F : Nat → Nat → Nat) (k N i : Nat) (h : i < N) : gI (valsL F k N) i = (F k i : Nat) := by simp [gI, valsL, List.getD, h]

end Go.Proofs.YtcmjogojlijdgaaGreatDoor
/- Walks: NetworkOfBlocks, SameSchedule; the laws on them. -/
namespace Go.Proofs.YtcmjogojlijdgaaGreatDoor
open Go.RowKit

theorem ret2s {a b : ByteArray} {c d : Bool} (h : a = b) (h' : c = d) : Ending.returned (.tuple #[.string a, .bool c]) = .returned (.tuple #[.string b, .bool d]) := by rw [h, h']
theorem netT_size (F : Nat → Nat → Nat) (n : Nat) (hn : n ≤ 5) : (netT F n).size ≤ 165 := by
  have hp : (2 ^ n : Nat) ≤ 32 := Nat.pow_le_pow_right (n := 2) (by decide) hn
  have := joinF_size (digF F n) ⟨#[44]⟩ 32 (by decide) (fun i => by rw [digF_size]; exact hp) n
  have h2 : n * (32 + 1) ≤ 5 * (32 + 1) := Nat.mul_le_mul_right _ hn
  unfold netT
  omega

theorem netN_wide (ps : List ByteArray) : W32 (netN ps) := by
  unfold netN
  split
  · exact bitsN_wide ps _
  · intro b hb; cases hb

end Go.Proofs.YtcmjogojlijdgaaGreatDoor
/- Walks: the arguments of SeeSteps, drawn. -/
namespace Go.Proofs.YtcmjogojlijdgaaGreatDoor
open Go.RowKit

/-- A network's text and states are drawn. -/
def DrawSS (w : World) (e : Ending) (w' : World) : Prop := ∃ t v zs, e = .returned (.tuple #[.string t, v]) ∧ t.size ≤ 1048576 ∧ zs.length ≤ 64 ∧ OwnI w' w.heap.size v zs ∧ Below w.heap.size w w'

theorem OwnI.baseW {w : World} {B B' : Nat} {v : Value} {zs : List Int} (h : OwnI w B v zs) (hB : B' ≤ B) : OwnI w B' v zs := by
  obtain ⟨h0, h1 | ⟨g, cap, cur, e, hg, h2⟩⟩ := h
  · exact ⟨h0, .inl h1⟩
  · exact ⟨h0, .inr ⟨g, cap, cur, e, Nat.le_trans hB hg, h2⟩⟩
theorem OwnI.made (w : World) (B n : Nat) (hB : B ≤ w.heap.size) (hn : n ≤ 1048576) : OwnI (w.alloc (.cells (ints (List.replicate n 0)).toArray 3)) B (.slice (some ⟨w.heap.size, 0, none⟩) n n) (List.replicate n 0) := by
  have := OwnI.lit w B (List.replicate n 0) hB (by rw [List.length_replicate]; unfold maxLen; omega)
  rw [List.length_replicate] at this
  exact this

end Go.Proofs.YtcmjogojlijdgaaGreatDoor
/- Walks: blocks that are drawn. -/
namespace Go.Proofs.YtcmjogojlijdgaaGreatDoor
open Go.RowKit

/-- A list of numbers is drawn. -/
def ListP (g P M : Nat) (w : World) (e : Ending) (w' : World) : Prop := ∃ v zs, e = .returned v ∧ zs.length ≤ M ∧ OwnI w' w.heap.size v zs ∧ Rd w' g P ∧ DrB g w.heap.size w w'

/-- What the three orders of a statement that builds a list anew have in common. -/
structure NewL (w1 W : World) (v : Value) : Prop where
  bel : Below w1.heap.size w1 W
  own : OwnI W w1.heap.size v []
theorem NewL.a (w1 : World) : NewL w1 (w1.alloc (.cells #[] 3)).drew (.slice (some ⟨w1.heap.size, 0, none⟩) 0 0) :=
  ⟨((Below.refl _ _).alloc (Nat.le_refl _) _).drew, OwnI.drew (OwnI.lit w1 w1.heap.size [] (Nat.le_refl _) (by decide))⟩
theorem NewL.b (w1 : World) (x : Int) : NewL w1 ((w1.alloc (.cells #[] 3)).alloc (.cells #[.int .i64 x] 3)).drew (.slice (some ⟨w1.heap.size, 0, none⟩) 0 0) :=
  ⟨(((Below.refl _ _).alloc (Nat.le_refl _) _).alloc (by simp) _).drew, OwnI.drew (OwnI.alloc (OwnI.lit w1 w1.heap.size [] (Nat.le_refl _) (by decide)) _)⟩
theorem NewL.c (w1 : World) (x : Int) : NewL w1 ((w1.alloc (.cells #[.int .i64 x] 3)).alloc (.cells #[] 3)).drew (.slice (some ⟨w1.heap.size + 1, 0, none⟩) 0 0) := by
  refine ⟨(((Below.refl _ _).alloc (Nat.le_refl _) _).alloc (by simp) _).drew, OwnI.drew ?_⟩
  have := OwnI.lit (w1.alloc (.cells #[.int .i64 x] 3)) w1.heap.size [] (by simp) (by decide)
  rw [show (w1.alloc (.cells #[.int .i64 x] 3)).heap.size = w1.heap.size + 1 by simp] at this
  exact this
theorem one_b (w1 : World) (x : Int) : RowI ((w1.alloc (.cells #[] 3)).alloc (.cells #[.int .i64 x] 3)).drew (some ⟨w1.heap.size + 1, 0, none⟩) 1 1 [x] := by
  have := RowI.drew (RowI.one (w1.alloc (.cells #[] 3)) x)
  rw [show (w1.alloc (.cells #[] 3)).heap.size = w1.heap.size + 1 by simp] at this
  exact this
theorem one_c (w1 : World) (x : Int) : RowI ((w1.alloc (.cells #[.int .i64 x] 3)).alloc (.cells #[] 3)).drew (some ⟨w1.heap.size, 0, none⟩) 1 1 [x] :=
  RowI.drew ((RowI.one w1 x).below ((Below.refl _ _).alloc (Nat.le_refl _) _) (Nat.le_refl _))
theorem NewL.next {w1 W w3 : World} {v v3 : Value} {ys : List Int} (h : NewL w1 W v) (_ : OwnI w3 w1.heap.size v3 ys) (g : W.grownBy w3 v.ownBlock) : Below w1.heap.size w1 w3 := h.bel.grown g h.bel.size (fun j hj => (World.ownsRow.lt h.own j hj).1)
theorem own_next {w1 W w3 : World} {v : Value} {zs : List Int} (b : Below w1.heap.size w1 W) (h : OwnI W w1.heap.size v zs) (g : W.grownBy w3 v.ownBlock) : Below w1.heap.size w1 w3 := b.grown g b.size (fun j hj => (World.ownsRow.lt h j hj).1)

theorem OwnI.base2 {w : World} {B B' : Nat} {v : Value} {zs : List Int} (h : OwnI w B v zs) (hB : B' ≤ B) : OwnI w B' v zs := by
  obtain ⟨h0, h1 | ⟨g, cap, cur, e, hg, h2⟩⟩ := h
  · exact ⟨h0, .inl h1⟩
  · exact ⟨h0, .inr ⟨g, cap, cur, e, Nat.le_trans hB hg, h2⟩⟩

theorem OwnI.out2 {w : World} {B : Nat} {v : Value} {zs : List Int} (h : OwnI w B v zs) : ∃ ao c, v = .slice ao zs.length c ∧ OutI w B ao zs.length c zs ∧ (∀ a, ao = some a → ∃ b o, a = ⟨b, o, none⟩) := by
  have h0 := h
  obtain ⟨_, ⟨rfl, hn⟩ | ⟨g, cap, cur, rfl, hg, hh, hle, hm, hs, ht⟩⟩ := h
  · obtain ⟨ao, c, e, ho⟩ := h0.out
    injection e with e1 e2 e3
    exact ⟨ao, c, by rw [← e1, ← e2, ← e3], ho, fun a ha => by rw [← e1] at ha; cases ha⟩
  · obtain ⟨ao, c, e, ho⟩ := h0.out
    injection e with e1 e2 e3
    exact ⟨ao, c, by rw [← e1, ← e3], ho, fun a ha => by rw [← e1] at ha; cases ha; exact ⟨_, _, rfl⟩⟩

end Go.Proofs.YtcmjogojlijdgaaGreatDoor
/- Walks: blocks that are drawn. -/
namespace Go.Proofs.YtcmjogojlijdgaaGreatDoor
open Go.RowKit

/-- A cell of an own list is written. -/
theorem OwnI.store {w : World} {B g n cap : Nat} {zs : List Int} (h : OwnI w B (.slice (some ⟨g, 0, none⟩) n cap) zs) (k : Nat) (v : Int) : OwnI (w.setCell ⟨g, k, none⟩ (.int .i64 v)) B (.slice (some ⟨g, 0, none⟩) n cap) (zs.set k v) := by
  obtain ⟨h0, ⟨e, _⟩ | ⟨g', cap', cur, e, hg, hh, hle, hm, hs, ht⟩⟩ := h
  · cases e
  · cases e
    have hB : Blk w g 3 cur.toList := by unfold Blk; rw [hh]
    have hB2 := hB.set k (.int .i64 v)
    unfold Blk at hB2
    refine ⟨by simp [ints], .inr ⟨g, cap, _, by simp, hg, hB2, by simpa using hle, hm, by simpa using hs, ?_⟩⟩
    simp only [List.length_set] at ht ⊢
    rw [List.take_set, ht]
    simp [ints]
theorem OwnI.form {w : World} {B : Nat} {v : Value} {zs : List Int} (h : OwnI w B v zs) (hn : 0 < zs.length) : ∃ g c, v = .slice (some ⟨g, 0, none⟩) zs.length c ∧ B ≤ g ∧ g < w.heap.size ∧ RowI w (some ⟨g, 0, none⟩) zs.length c zs := by
  obtain ⟨ao, c, e, ho⟩ := h.out
  have h2 := h.2
  rcases h2 with ⟨rfl, h0⟩ | ⟨g, cap, cur, e2, hg, hh, _⟩
  · omega
  · rw [e2] at e
    injection e with e1 e3 e4
    exact ⟨g, c, by rw [e2, e4], hg, lt_of_block hh, by rw [e1]; exact ho.rowI⟩
theorem OwnI.free {w : World} {B g n c : Nat} {zs : List Int} (h : OwnI w B (.slice (some ⟨g, 0, none⟩) n c) zs) (i : Nat) : w.frozen? ⟨g, i, none⟩ = false := by
  obtain ⟨h0, ⟨e, _⟩ | ⟨g', cap', cur, e, hg, hh, _⟩⟩ := h
  · cases e
  · cases e
    simp [World.frozen?, hh]
/-- 'append' of one number, and where the list lies then. -/
theorem wpList_appI1 {w : World} {ops : Array Oper} {rest : List Oper} {o : Oper} {a : Act} {Q : Exit → Act → World → Prop} {B : Nat} {v : Value} {zs ys : List Int} {ad : Addr} {m c : Nat} (hown : OwnI w B v zs) (hr : RowI w (some ad) m c ys)
    (hgd : o.guard = none) (s x : Operand) (ho : o.op = .call { callee := .builtin .append, args := #[s, x], argTypes := #[24, 24] }) (hs : a.eval s = v) (hx : a.eval x = .slice (some ad) m c)
    (hbytes : (zs.length + m) * 8 ≤ 140737488355328) (hB : B ≤ w.heap.size)
    (h : ∀ v' w', OwnI w' B v' (zs ++ ys) → w.grownBy w' v.ownBlock → (v'.ownBlock = v.ownBlock ∨ v'.ownBlock = some w.heap.size) → wpList Tryz.prog ops Q rest (a.put o.dst v') w') : wpList Tryz.prog ops Q (o :: rest) a w := by
  obtain ⟨i, hi, hz, hsz, hby⟩ := info_parts i3
  have hl : (ints ys).length = m * 1 := by simp [ints, hr.1]
  have h1 : ∀ u ∈ ints ys, u.oneCell' = true := ints_oneCell _ _
  have e1 : zs.length + m = (zs ++ ys).length := by simp [hr.1]
  have e2 : ints zs ++ ints ys = ints (zs ++ ys) := by simp [ints]
  refine wpList_append_own_at w hgd s x _ ho B 3 i (.int .i64 0) 1 8 Tryz.underlying24 hi hz hsz hby rfl (by decide) v _ _ hs hown ad m c (ints ys) hx hl (hr.cells ad rfl) h1 (by unfold maxLen; omega) hbytes hB ?_
  intro v' w' r1 r2 _ r4
  exact h v' w' (by unfold OwnI; rw [← e1, ← e2]; exact r1) r2 r4

theorem new_ne {w : World} {o : Obj} {tb tq : Nat} {v v' : Value} (h : ∀ a : Addr, some (⟨tb, tq, none⟩ : Addr) = some a → some a.block ≠ v.ownBlock) (ht : tb < w.heap.size) (p : v'.ownBlock = v.ownBlock ∨ v'.ownBlock = some (w.alloc o).heap.size) :
    ∀ a : Addr, some (⟨tb, tq, none⟩ : Addr) = some a → some a.block ≠ v'.ownBlock := by
  intro a e e2
  rcases p with p | p
  · exact h a e (e2.trans p)
  · rw [p] at e2
    cases e
    have := Option.some.inj e2
    simp at this
    omega
theorem six_at (x : Int) : ∃ y : Nat, y ≤ 6 ∧ min (max x 0) 6 = (y : Int) := ⟨(min (max x 0) 6).toNat, by omega, by omega⟩

end Go.Proofs.YtcmjogojlijdgaaGreatDoor
/- Walks: one switch's step by the program; a network and blocks, drawn. -/
namespace Go.Proofs.YtcmjogojlijdgaaGreatDoor
open Go.RowKit

set_option maxHeartbeats 1000000 in
theorem holdI_ok (s i v : Nat) (w : World) (hs : s < 32) (hi : i < 5) (hv : v < 2) :
    Calls Tryz.prog 97 #[.int .i64 s, .int .i64 i, .int .i64 v] w fun e w' => e = .returned (.int .i64 (setN s i v : Nat)) ∧ Below w.heap.size w w' := by
  have hp : (2 ^ i : Nat) < 32 := Nat.pow_lt_pow_right (by decide) hi
  have h1 : wrap64 (2 ^ i) = ((2 ^ i : Nat) : Int) := wrap_pow_nat i (by omega)
  have h2 : wrap64 ((v : Int) * 2 ^ i) = ((v * 2 ^ i : Nat) : Int) := by
    rcases (show v = 0 ∨ v = 1 by omega) with rfl | rfl
    · simp; decide +kernel
    · simpa using h1
  have h3 := andNot_32 s (2 ^ i) hs hp
  have h4 : bits .or .i64 ((s &&& (31 - 2 ^ i) : Nat) : Int) ((v * 2 ^ i : Nat) : Int) = ((setN s i v : Nat) : Int) := or_nat _ _ (Nat.lt_of_lt_of_le (and_lt32 hs) (by decide)) (Nat.lt_of_le_of_lt (Nat.mul_le_mul (show v ≤ 1 by omega) (Nat.le_of_lt hp)) (by decide))
  generalize ((2 ^ i : Nat) : Int) = a at h1 h3
  generalize ((s &&& (31 - 2 ^ i) : Nat) : Int) = b at h3 h4
  generalize ((v * 2 ^ i : Nat) : Int) = c at h2 h4
  go_enter Tryz.func97, Tryz.ntmps97
  go_wp2
  have hi0 : (0 : Int) ≤ (i : Int) := by omega
  have him : min i 64 = i := by omega
  go_region_held3 (fun w' => Below w.heap.size w w') (first | exact ⟨rfl, rfl, rfl, Nat.le_refl _, fun _ _ => rfl⟩ | assumption) (fail)
  go_wp2_with fail
  go_ret
  refine ⟨reti ?_, ⟨rfl, rfl, rfl, Nat.le_refl _, fun _ _ => rfl⟩⟩
  have hw : ∀ z : Int, IntKind.i64.wrap z = wrap64 z := fun z => by simp [IntKind.wrap, wrap64, IntKind.signed, IntKind.bits] <;> omega
  rw [hw, hw, h1, h3, h2, h4]

/-- The bit of a table in a network's row. -/
theorem net_cell2 {w : World} {q o c : Nat} {ps : List ByteArray} (h : RowN w (some ⟨q, o, none⟩) ps.length c ps.length (bitsN ps ps.length)) (hn : netB ps = true) (h5 : ps.length ≤ 5) {i s : Nat} (hi : i < ps.length) (hs : s < 2 ^ ps.length) :
    w.cell? ⟨q, o + i * 33 + 1 + s, none⟩ = some (.int .u8 ((bitN ps i s : Nat) : Int)) := by
  have hp : (2 ^ ps.length : Nat) ≤ 32 := Nat.pow_le_pow_right (n := 2) (by decide) h5
  have hbs : (bitsN ps ps.length)[i]? = some (eachL (byD (gT ps i)) (gT ps i).size) := by simp [bitsN, hi]
  have := h.range q o rfl i _ hbs (1 + s) _ (tabC_get (ps.length : Int) (eachL (byD (gT ps i)) (gT ps i).size) s (by rw [eachL_len]; omega))
  rw [Nat.add_assoc, this, eachL_get _ _ _ (by omega) (by rw [net_size hn i hi]; exact hs), bitN_eq (netB_get hn i hi).1]

set_option maxHeartbeats 2000000 in
theorem stepOne_ok (ao : Option Addr) (c : Nat) (ps : List ByteArray) (s i : Nat) (w : World) (h : RowN w ao ps.length c ps.length (bitsN ps ps.length)) (hn : netB ps = true) (h5 : ps.length ≤ 5) (hs : s < 2 ^ ps.length) (hi : i < ps.length) :
    Calls Tryz.prog 69 #[.slice ao ps.length c, .int .i64 s, .int .i64 i] w fun e w' => e = .returned (.int .i64 (setN s i (bitN ps i s) : Nat)) ∧ Below w.heap.size w w' := by
  obtain ⟨q, o, rfl, hq⟩ := h.some (by omega)
  have hc := net_cell2 h hn h5 hi hs
  have hp : (2 ^ ps.length : Nat) ≤ 32 := Nat.pow_le_pow_right (n := 2) (by decide) h5
  have hb : bitN ps i s < 2 := bitN_lt (netB_get hn i hi).1 s
  have HH := Lib.hid (fun W => holdI_ok s i (bitN ps i s) W (by omega) (by omega) hb)
  have hs32 : (s : Int) < 32 := by omega
  generalize bitN ps i s = b at hc HH hb ⊢
  have hin : (i : Int) < (ps.length : Int) := by omega
  generalize ps.length = n at hin hc ⊢
  clear h hn hs hi hp
  go_enter Tryz.func69, Tryz.ntmps69
  go_wp2_with fail
  refine (HH.out _).mono ?_
  rintro e w2 ⟨rfl, b2⟩
  go_wp2_with fail
  go_ret
  exact ⟨rfl, b2⟩

/-- What StepOne gives. -/
def soV (ps : List ByteArray) (s i : Int) : Int := if (stB' ps s && decide (0 ≤ i ∧ i < ps.length)) = true then (setN s.toNat i.toNat (bitN ps i.toNat s.toNat) : Nat) else -1
theorem soV_no {ps : List ByteArray} {s i : Int} (h : stB' ps s = false) : soV ps s i = -1 := by simp [soV, h]
theorem soV_out {ps : List ByteArray} {s i : Int} (h : ¬ (0 ≤ i ∧ i < ps.length)) : soV ps s i = -1 := by simp [soV, h]
theorem soV_yes {ps : List ByteArray} {s i : Nat} (h : stB' ps (s : Int) = true) (hi : i < ps.length) : soV ps (s : Int) (i : Int) = (setN s i (bitN ps i s) : Nat) := by
  simp [soV, h, hi]

/-- A network's text and blocks are drawn. -/
def WithP (g P : Nat) (w : World) (e : Ending) (w' : World) : Prop := ∃ u v zs, e = .returned (.tuple #[.string u, v]) ∧ u.size ≤ 1048576 ∧ zs.length ≤ 7 ∧ OwnI w' w.heap.size v zs ∧ Rd w' g P ∧ DrB g w.heap.size w w'

theorem szV_max (t : ByteArray) : ∃ n : Nat, n ≤ 5 ∧ max (szV (cutsP 44 t)) 1 = (n : Int) := by
  rcases szV_range t with h | ⟨n, h, h1, h5, _⟩
  · exact ⟨1, by omega, by rw [h]; decide⟩
  · exact ⟨n, h5, by rw [h]; omega⟩

end Go.Proofs.YtcmjogojlijdgaaGreatDoor
/- Plain: the network in which switches are held; what is forced. -/
namespace Go.Proofs.YtcmjogojlijdgaaGreatDoor
open Go.RowKit

theorem ht_len {ps : List ByteArray} {l : List UInt8} (h : htB ps l = true) : netB ps = true ∧ l.length = ps.length ∧ l.all isT = true := by
  rw [htB, Bool.and_eq_true, termB, Bool.and_eq_true, Bool.and_eq_true, decide_eq_true_iff, decide_eq_true_iff] at h
  exact ⟨h.1, by omega, h.2.2⟩
theorem hsF_lt {ps : List ByteArray} {l : List UInt8} (hn : netB ps = true) (hl : l.all isT = true) {k s : Nat} (hk : k < ps.length) : hsF ps l k s < 2 := by
  unfold hsF
  split
  · exact bitN_lt (netB_get hn k hk).1 s
  · have := ltr_lt hl k; omega
/-- The parts of the held network's text. -/
def hsP (ps : List ByteArray) (l : List UInt8) : List ByteArray := listF (digF (hsF ps l) ps.length) ps.length
theorem hsP_len (ps : List ByteArray) (l : List UInt8) : (hsP ps l).length = ps.length := listF_len _ _
theorem hs_cuts {ps : List ByteArray} {l : List UInt8} (h0 : 0 < ps.length) (h : htB ps l = true) : cutsP 44 (hsT ps l) = hsP ps l := by
  obtain ⟨hn, _, hl⟩ := ht_len h
  rw [hsT_yes h]
  exact cuts_net h0 fun k s hk _ => hsF_lt hn hl hk
theorem hsP_bit {ps : List ByteArray} {l : List UInt8} (hn : netB ps = true) (hl : l.all isT = true) {k s : Nat} (hk : k < ps.length) (hs : s < 2 ^ ps.length) : bitN (hsP ps l) k s = hsF ps l k s := bitN_net hk hs (hsF_lt hn hl hk)
theorem hsP_net {ps : List ByteArray} {l : List UInt8} (hn : netB ps = true) (hl : l.all isT = true) (h0 : 0 < ps.length) (h5 : ps.length ≤ 5) : netB (hsP ps l) = true := netB_net ⟨h0, h5⟩ fun _ _ hk _ => hsF_lt hn hl hk
/-- A step of the held network. -/
def hsS (ps : List ByteArray) (l : List UInt8) (s : Nat) : Nat := allTo (hsP ps l) s ps.length
theorem hsS_lt {ps : List ByteArray} {l : List UInt8} (hn : netB ps = true) (hl : l.all isT = true) (h0 : 0 < ps.length) (h5 : ps.length ≤ 5) (s : Nat) : hsS ps l s < 2 ^ ps.length := by
  have := allTo_lt (hsP_net hn hl h0 h5) (by rw [hsP_len]; exact h5) s
  rw [hsP_len] at this
  exact this
theorem hsS_bit {ps : List ByteArray} {l : List UInt8} (hn : netB ps = true) (hl : l.all isT = true) (h0 : 0 < ps.length) (h5 : ps.length ≤ 5) {s j : Nat} (hj : j < ps.length) (hs : s < 2 ^ ps.length) : (hsS ps l s).testBit j = decide (hsF ps l j s = 1) := by
  have := allTo_bit (hsP_net hn hl h0 h5) (by rw [hsP_len]; exact h5) (s := s) (j := j) (by rw [hsP_len]; exact hj)
  rw [hsP_len, hsP_bit hn hl hj hs] at this
  exact this
/-- The held network of a term without a held switch is the network. -/
theorem hs_self {t : ByteArray} {ps : List ByteArray} {l : List UInt8} (ht : cutsP 44 t = ps) (_ : 0 < ps.length) (h : htB ps l = true) (hst : ∀ i, i < ps.length → ltr l i = 2) : hsT ps l = t := by
  obtain ⟨hn, _, hl⟩ := ht_len h
  have e := text_cuts t
  rw [ht] at e
  rw [hsT_yes h]
  conv => rhs; rw [← e]
  rw [netT]
  have key : ∀ n, n ≤ ps.length → joinF (digF (hsF ps l) ps.length) ⟨#[44]⟩ n = joinF (gT ps) ⟨#[44]⟩ n := by
    intro n
    induction n with
    | zero => intro _; rfl
    | succ n ih =>
      intro hn'
      rw [joinF, joinF, ih (by omega), hs_star (hst n (by omega)), gT_dig hn (by omega)]
  exact key _ (Nat.le_refl _)

/-! The set of held switches. -/
theorem heldTo_bit (l : List UInt8) (i : Nat) : ∀ k, (heldTo l k).testBit i = (decide (i < k) && !decide (l.getD i 42 = 42))
  | 0 => by simp [heldTo]
  | k + 1 => by
    have ih := heldTo_bit l i k
    rw [heldTo_succ]
    split
    · rename_i h
      rw [ih]
      by_cases e : i = k
      · subst e; rw [h]; simp
      · have : decide (i < k + 1) = decide (i < k) := by rw [decide_eq_decide]; omega
        rw [this]
    · rename_i h
      rw [Nat.testBit_or, ih, Nat.testBit_two_pow]
      by_cases e : i = k
      · subst e
        rw [show decide (l.getD i 42 = 42) = false from decide_eq_false h]; simp
      · have h1 : decide (i < k + 1) = decide (i < k) := by rw [decide_eq_decide]; omega
        have h2 : decide (k = i) = false := by simp; omega
        rw [h1, h2, Bool.or_false]
theorem ltr_two {l : List UInt8} (hl : l.all isT = true) {i : Nat} : ltr l i = 2 ↔ l.getD i 42 = 42 := by
  constructor
  · intro h
    by_cases hi : i < l.length
    · refine Classical.byContradiction fun hne => ?_
      have := (ltr_dig hl hi hne).2
      omega
    · rw [List.getD_eq_getElem?_getD, List.getElem?_eq_none (by omega)]; rfl
  · exact ltr_star
theorem held_no {l : List UInt8} (hl : l.all isT = true) {i : Nat} (h : (heldTo l l.length).testBit i = false) (hi : i < l.length) : ltr l i = 2 := by
  rw [heldTo_bit] at h
  rw [ltr_two hl]
  simpa [hi] using h
theorem held_zero {l : List UInt8} (hl : l.all isT = true) (h : heldTo l l.length = 0) {i : Nat} (hi : i < l.length) : ltr l i = 2 := held_no hl (by rw [h]; simp) hi
/-- Whether a state's switches have the values of a term. -/
theorem hasT_iff {l : List UInt8} {s : Nat} : hasT l s = true ↔ ∀ i, i < l.length → ltr l i = 2 ∨ ltr l i = bN s i := by
  rw [hasT, List.all_eq_true]
  constructor
  · intro h i hi
    have := h i (List.mem_range.2 hi)
    simpa [letB] using this
  · intro h i hi
    have := h i (List.mem_range.1 hi)
    simpa [letB] using this
/-- A step of the held network lies in the term. -/
theorem hsS_has {ps : List ByteArray} {l : List UInt8} (h0 : 0 < ps.length) (h5 : ps.length ≤ 5) (h : htB ps l = true) {s : Nat} (hs : s < 2 ^ ps.length) : hasT l (hsS ps l s) = true := by
  obtain ⟨hn, hz, hl⟩ := ht_len h
  rw [hasT_iff]
  intro i hi
  by_cases e : ltr l i = 2
  · exact .inl e
  · refine .inr ?_
    have hb := hsS_bit hn hl h0 h5 (s := s) (j := i) (by omega) hs
    have hlt := ltr_lt hl i
    have h1 : hsF ps l i s = ltr l i := by rw [hsF, if_neg e]
    have h2 := bit_test (hsS ps l s) i
    rw [show hsS ps l s / 2 ^ i % 2 = bN (hsS ps l s) i from rfl, hb, h1] at h2
    rw [h2]
    rcases (show ltr l i = 0 ∨ ltr l i = 1 by omega) with e1 | e1 <;> rw [e1] <;> rfl
/-- Free switches take the values of their rules. -/
theorem hsS_free {ps : List ByteArray} {l : List UInt8} (h0 : 0 < ps.length) (h5 : ps.length ≤ 5) (h : htB ps l = true) {s i : Nat} (hs : s < 2 ^ ps.length) (hi : i < ps.length) (hf : ltr l i = 2) : (hsS ps l s).testBit i = (allTo ps s ps.length).testBit i := by
  obtain ⟨hn, hz, hl⟩ := ht_len h
  rw [hsS_bit hn hl h0 h5 hi hs, allTo_bit hn h5 hi, hsF, if_pos hf]
theorem hsS_held {ps : List ByteArray} {l : List UInt8} (h0 : 0 < ps.length) (h5 : ps.length ≤ 5) (h : htB ps l = true) {s : Nat} (hs : s < 2 ^ ps.length) : (hsS ps l s ^^^ allTo ps s ps.length) &&& (31 - heldTo l l.length) = 0 := by
  obtain ⟨hn, hz, hl⟩ := ht_len h
  have hp := pow_32 h5
  have hh := heldTo_lt l l.length
  rw [hz] at hh
  apply Nat.eq_of_testBit_eq
  intro i
  rw [Nat.testBit_and, Nat.testBit_xor, Nat.zero_testBit]
  by_cases hi : i < ps.length
  · by_cases e : ltr l i = 2
    · rw [hsS_free h0 h5 h hs hi e]; simp
    · have : (heldTo l l.length).testBit i = true := by
        cases hb : (heldTo l l.length).testBit i with
        | true => rfl
        | false => exact absurd (held_no hl hb (by omega)) e
      have h2 := andNot_bit 31 (heldTo l l.length) i (by rw [hz]; omega) (by omega)
      have h3 : (31 &&& (31 - heldTo l l.length)) = 31 - heldTo l l.length := by
        rw [Nat.and_comm, show (31 : Nat) = 2 ^ 5 - 1 from rfl, Nat.and_two_pow_sub_one_eq_mod, Nat.mod_eq_of_lt (by omega)]
      rw [h3, this] at h2
      rw [h2]; simp
  · have h4 : (2 : Nat) ^ ps.length ≤ 2 ^ i := Nat.pow_le_pow_right (by decide) (by omega)
    rw [Nat.testBit_lt_two_pow (Nat.lt_of_lt_of_le (hsS_lt hn hl h0 h5 s) h4), Nat.testBit_lt_two_pow (Nat.lt_of_lt_of_le (allTo_lt hn h5 s) h4)]
    rfl
/-- The fixed points of the held network are those that have the held values and in which no free switch is restless. -/
theorem hs_fixed {ps : List ByteArray} {l : List UInt8} (h0 : 0 < ps.length) (h5 : ps.length ≤ 5) (h : htB ps l = true) {s : Nat} (hs : s < 2 ^ ps.length) : hsS ps l s = s ↔ (hasT l s = true ∧ ∀ i, i < ps.length → ltr l i = 2 → s.testBit i = (allTo ps s ps.length).testBit i) := by
  obtain ⟨hn, hz, hl⟩ := ht_len h
  constructor
  · intro e
    refine ⟨by have := hsS_has h0 h5 h hs; rwa [e] at this, fun i hi hf => ?_⟩
    have := hsS_free h0 h5 h hs hi hf
    rwa [e] at this
  · rintro ⟨h1, h2⟩
    refine eq_pow (hsS_lt hn hl h0 h5 s) hs fun i hi => ?_
    by_cases e : ltr l i = 2
    · rw [hsS_free h0 h5 h hs hi e, h2 i hi e]
    · have h3 := hasT_iff.1 (hsS_has h0 h5 h hs) i (by omega)
      have h4 := hasT_iff.1 h1 i (by omega)
      have h5' : bN (hsS ps l s) i = bN s i := by
        rcases h3 with h3 | h3
        · exact absurd h3 e
        rcases h4 with h4 | h4
        · exact absurd h4 e
        omega
      have e1 := bit_test (hsS ps l s) i
      have e2 := bit_test s i
      rw [show hsS ps l s / 2 ^ i % 2 = bN (hsS ps l s) i from rfl] at e1
      rw [show s / 2 ^ i % 2 = bN s i from rfl] at e2
      rw [e1, e2] at h5'
      cases h6 : (hsS ps l s).testBit i <;> cases h7 : s.testBit i <;> simp_all

end Go.Proofs.YtcmjogojlijdgaaGreatDoor
