/- The law FnLearnRule. -/
import Derived.Test.YtlfeipibhdggcaaK2
import Derived.Test.YtlfeipibhdggcaaE3
import Derived.Test.YtlfeipibhdggcaaM1
import Derived.Deep.RegionHeld3
namespace Go.Proofs.Ytlfeipibhdggcaa
open Go.RowKit Go.Maps

set_option maxHeartbeats 1000000 in
theorem drawRule_ok (ao : Option Addr) (l c : Nat) (cs : List Int) (w : World) (h : RowU w ao l c cs) (hl : l ≤ 1048576) :
    Calls Try.prog 13 #[.slice ao l c] w (DrawL w) := by
  have HO := Lib.hid (l14Open_ok ao l c cs w h hl)
  clear h
  go_enter Try.func13, Try.ntmps13
  go_wp2_with fail
  refine HO.out.mono ?_
  rintro e w1 ⟨g, rfl, hg, r1, b1⟩
  have R1 := Lib.hid r1
  have B1 := Lib.hid b1
  clear r1 b1 HO
  go_wp2_with fail
  refine (l12With_ok g 0 _ R1.out (by omega)).mono ?_
  rintro e w2 ⟨v, zs, n, i, rfl, hz, o2, r2, d2⟩
  have O2 := Lib.hid (o2.base B1.out.size)
  have D2 := Lib.hid ((DrB.ofB (g := g) B1.out).trans (d2.mono B1.out.size))
  clear r2 o2 d2
  go_wp2_with fail
  refine bodyPost_ret (v := .tuple #[v, .int .i64 n, .int .i64 i]) (by simp [results, Try.results13, go_sem]) rfl ⟨_, zs, n, i, rfl, hz, O2.out, D2.out.below hg⟩

set_option maxHeartbeats 1000000 in
theorem bnSame_ok (ao bo : Option Addr) (c d : Nat) (zs : List Int) (w : World) (h : RowI w ao zs.length c zs) (h' : RowI w bo zs.length d zs) :
    Calls Try.prog 18 #[.slice ao zs.length c, .slice bo zs.length d] w fun e w' => e = .returned (.bool true) ∧ Below w.heap.size w w' := by
  have hcap := h.2.cap
  have hle := h.2.le
  unfold maxLen at hcap
  go_enter Try.func18, Try.ntmps18
  go_wp2_with fail
  go_loopw [5] (fun q wr => ∃ k : Nat, k ≤ zs.length ∧ q = .int .i64 k ∧ Below w.heap.size w wr) (fun q _ => zs.length - (intOf q).toNat)
  case atStart => exact ⟨0, Nat.zero_le _, rfl, Below.refl _ _⟩
  case round =>
    obtain ⟨k, hk, rfl, hb⟩ := hrel
    by_cases hlt : k < zs.length
    · obtain ⟨b, o, rfl, _⟩ := h.2.some (by omega)
      obtain ⟨b', o', rfl, _⟩ := h'.2.some (by omega)
      have hc1 := (h.below hb (Nat.le_refl _)).2.cell b o rfl k hlt
      have hc2 := (h'.below hb (Nat.le_refl _)).2.cell b' o' rfl k hlt
      have hlt' : (k : Int) < (zs.length : Int) := by omega
      clear h h'
      go_wp2_with fail
      go_quiet (fail)
      go_wp2_with fail
      go_roundw
      case rel => exact ⟨k + 1, by omega, by go_num, hb.trans ⟨rfl, rfl, rfl, Nat.le_refl _, fun _ _ => rfl⟩⟩
      case measure => simp [intOf]; omega
    · obtain rfl : k = zs.length := by omega
      go_wp2_with fail
      go_ret
      exact ⟨rfl, hb⟩

/-- A whole table is read, where a guard lets it. -/
theorem wpList_tabLoadG {ops : Array Oper} {rest : List Oper} {o : Oper} {a : Act} {w : World} {Q : Exit → Act → World → Prop} (hw : Region.wanted o (yielded ops a.tmps) = true) (x : Operand) (ho : o.op = .load 58 x)
    (g : Nat) (n : Int) (bs : List Int) (hx : a.eval x = .pointer (some ⟨g, 0, none⟩)) (hl : bs.length = 32) (t : TypeId) (hB : Blk w g t (tabC n bs))
    (h : wpList Try.prog ops Q rest (a.put o.dst (tabV n bs)) w) : wpList Try.prog ops Q (o :: rest) a w := by
  obtain ⟨d, hd, hd2⟩ := tab_under
  unfold wpList
  rw [if_pos hw]
  exact .inl (wp_load_mid 58 x ho g 0 hx (tabC n bs) d (fun j v hv => by rw [Nat.zero_add]; exact hB.cell hv) hd hd2 (by rw [tabC_len, hl]; exact tab_size) h)

set_option maxHeartbeats 2000000 in
theorem valueAtI_ok (f : ByteArray) (n s : Nat) (w : World) (hn : 1 ≤ n ∧ n ≤ 5) (h : DT n f) (hs : s < 2 ^ n) :
    Calls Try.prog 20 #[.string f, .int .i64 s] w fun e w' => e = .returned (.int .i64 (byD f s)) ∧ Below w.heap.size w w' := by
  have hp : (2 ^ n : Nat) ≤ 32 := Nat.pow_le_pow_right (n := 2) (by decide) hn.2
  have htv := h.val hn
  have HR := Lib.hid (readTable_ok f w (by rw [h.2]; omega))
  rw [htv, rtV_yes htv, h.2, inpV_pow n hn] at HR
  have HL := Lib.hid (eachL_len (byD f) (2 ^ n))
  have hget := eachL_get (byD f) (2 ^ n) s (by omega) hs
  have HW := Lib.hid (fun bs W => width_ok n bs (by omega) W)
  have hbit := byD_bit h.1 s
  have hw64 : IntKind.i64.wrap (byD f s) = byD f s := wraps_i64 _ (by omega) (by omega)
  have hs32 : (s : Int) < 32 := by omega
  have hs0 : ¬ (s : Int) < 0 := by omega
  have hs00 : (0 : Int) ≤ (s : Int) := by omega
  have hsn : ¬ ((2 ^ n : Nat) : Int) ≤ (s : Int) := by omega
  have HGet := Lib.hid (tabC_get (n : Int) (eachL (byD f) (2 ^ n)) s (by rw [HL.out]; omega))
  rw [hget] at HGet
  clear h htv hget hp
  generalize eachL (byD f) (2 ^ n) = bs at HR HL HGet
  generalize ((2 ^ n : Nat) : Int) = top at HW hsn
  generalize byD f s = x at hbit hw64 HGet ⊢
  clear hbit
  go_enter Try.func20, Try.ntmps20
  go_wp2_with fail
  refine HR.out.mono ?_
  rintro e w1 ⟨rfl, b1⟩
  have HBn := Lib.hid (Blk.new w1 58 (tabC 0 z32))
  have B1 := Lib.hid b1
  clear b1
  go_wp2_with (first | (refine wpList_tabAlloc rfl rfl ?_) | (refine wpList_tabStore rfl _ _ rfl _ (n : Int) bs rfl rfl HL.out _ _ HBn.out rfl ?_; intro w4 k4 g4 z4; have c4 := Lib.hid ((B1.out.alloc B1.out.size _).grown g4 (by have := B1.out.size; simp; omega) (fun j hj => by cases hj; exact B1.out.size)); have K4 := Lib.hid k4; clear k4 g4) | (refine wpList_tabLoadG (by simp [Region.wanted, yielded]) _ rfl _ (n : Int) bs rfl HL.out _ K4.out ?_))
  refine (HW.out bs _).mono ?_
  rintro e w5 ⟨rfl, b5⟩
  have K5 := K4.out.below b5 K4.out.lt
  have hx := K5.cell HGet.out
  have C5 := Lib.hid (c4.out.trans (b5.mono c4.out.size))
  clear b5 K5
  go_wp2_with fail
  go_ret
  exact ⟨rfl, C5.out⟩

theorem byD_digT {zs : List Int} (h : bitsL zs) (s : Nat) (hs : s < zs.length) : byD (digT zs) s = gI zs s := by
  have e : (digT zs).data.toList.getD s 48 = UInt8.ofNat (48 + (gI zs s).toNat) := by
    rw [List.getD_eq_getElem?_getD]
    simp only [digT, List.getElem?_map, gI_lt hs]
    rfl
  rw [byD, e]
  rcases h s hs with e | e <;> rw [e] <;> rfl

/-- Cells of truths. -/
def boolC (N : Nat) (p : Nat → Bool) : List Value := (List.range N).map fun s => .bool (p s)
theorem boolC_len (N : Nat) (p : Nat → Bool) : (boolC N p).length = N := by simp [boolC]
theorem boolC_get (N : Nat) (p : Nat → Bool) (s : Nat) (h : s < N) : (boolC N p)[s]? = some (.bool (p s)) := by simp [boolC, h]
theorem boolC_set (N : Nat) (p : Nat → Bool) (s : Nat) : (boolC N p).set s (.bool true) = boolC N (fun x => p x || x == s) := by
  apply List.ext_getElem?
  intro i
  simp only [boolC, List.getElem?_set, List.getElem?_map, List.length_map, List.length_range]
  by_cases e : s = i
  · subst e
    by_cases hs : s < N
    · simp [hs]
    · simp [hs]
  · have e2 : (i == s) = false := by simp; omega
    by_cases hi : i < N
    · simp [e, hi, e2]
    · simp [e, hi]
theorem boolC_false (N : Nat) : boolC N (fun _ => false) = List.replicate N (.bool false) := by
  rw [List.eq_replicate_iff]
  refine ⟨boolC_len _ _, fun b hb => ?_⟩
  simp only [boolC, List.mem_map] at hb
  obtain ⟨_, _, rfl⟩ := hb
  rfl
theorem iBool : (Try.prog.info? 4).map (fun i => (i.zero, i.size, i.bytes)) = some (some (.bool false), 1, 1) := by kernel_rfl
theorem made_bools (n : Nat) : madeCells (Value.cells (.bool false)) (n * 1) = (List.replicate n (Value.bool false)).toArray := by
  apply Array.ext
  · simp [madeCells]
  · intro i h1 h2
    simp [madeCells, Value.cells, Nat.mod_one]
theorem run_make_bools (n : Nat) (hn : n ≤ 1048576) (w : World) :
    (Instr.makeSlice 40 (.int .i64 (n : Int)) (.int .i64 (n : Int))).run Try.prog w = .ok (.slice (some ⟨w.heap.size, 0, none⟩) n n) (w.alloc (.cells (List.replicate n (Value.bool false)).toArray 4)) := by
  obtain ⟨i, hi, hz, hs, hby⟩ := info_parts iBool
  have := run_make (P := Try.prog) w 40 4 i (.bool false) Try.underlying40 hi hz .i64 .i64 n n (by omega) (Int.le_refl _) (by rw [hby]; omega) (by omega)
  rw [this, hs]
  simp only [Int.toNat_natCast, made_bools]

/-- Which states were seen among the first k steps. -/
def hasTo (zs : List (Int × Int)) : Nat → Nat → Bool
  | 0, _ => false
  | k + 1, s => hasTo zs k s || s == (gS zs k).1.toNat
theorem hasTo_iff (zs : List (Int × Int)) (s : Nat) : ∀ k, hasTo zs k s = true ↔ ∃ j, j < k ∧ s = (gS zs j).1.toNat
  | 0 => by simp [hasTo]
  | k + 1 => by
    rw [hasTo, Bool.or_eq_true, hasTo_iff zs s k, beq_iff_eq]
    constructor
    · rintro (⟨j, h1, h2⟩ | h)
      · exact ⟨j, by omega, h2⟩
      · exact ⟨k, by omega, h⟩
    · rintro ⟨j, h1, h2⟩
      by_cases e : j = k
      · subst e; exact .inr h2
      · exact .inl ⟨j, by omega, h2⟩
theorem hasTo_all {zs : List (Int × Int)} (hz : Small zs) (s : Nat) : hasTo zs zs.length s = hasB zs (s : Int) := by
  rw [Bool.eq_iff_iff, hasTo_iff, hasB, List.any_eq_true]
  constructor
  · rintro ⟨j, h1, h2⟩
    refine ⟨gS zs j, List.mem_of_getElem? (gS_lt h1), ?_⟩
    have := (hz j h1).1
    rw [beq_iff_eq]; omega
  · rintro ⟨x, hx, h⟩
    obtain ⟨j, hj, rfl⟩ := List.getElem_of_mem hx
    refine ⟨j, hj, ?_⟩
    have e : zs[j] = gS zs j := by simp [gS, List.getD, hj]
    rw [e, beq_iff_eq] at h
    omega
theorem seen_small {zs : List (Int × Int)} {m : Int} (h : seenB zs m = true) : Small zs ∧ ∀ k, k < zs.length → 0 ≤ (gS zs k).1 ∧ (gS zs k).1 < 2 ^ m.toNat := by
  rw [seenB] at h
  simp only [Bool.and_eq_true, decide_eq_true_iff, List.all_eq_true] at h
  have hp : (2 : Int) ^ m.toNat ≤ 32 := by
    have : (2 ^ m.toNat : Nat) ≤ 2 ^ 5 := Nat.pow_le_pow_right (by decide) (by omega)
    have h2 : ((2 ^ m.toNat : Nat) : Int) = 2 ^ m.toNat := by simp
    omega
  have key : ∀ k, k < zs.length → okS (2 ^ m.toNat) (gS zs k) = true := fun k hk => h.2 _ (List.mem_of_getElem? (gS_lt hk))
  refine ⟨fun k hk => ?_, fun k hk => ?_⟩
  · have := okS_iff.1 (key k hk); omega
  · have := okS_iff.1 (key k hk); omega
theorem rule_at {zs : List (Int × Int)} {i r : Nat} (ha : Agree zs i r zs.length) {k : Nat} (hk : k < zs.length) : ruleTo zs i r (gS zs k).1.toNat zs.length = (valN i (gS zs k) : Nat) := by
  have := keyF_has zs i r zs.length ha k hk
  rw [ruleTo]
  rw [keyN] at this
  rw [this]; rfl

theorem held2c {wr W w5 : World} {q o : Nat} {v1 v2 : Value} (h : Below wr.heap.size wr W ∧ W.cell? ⟨q, o, none⟩ = some v1 ∧ W.cell? ⟨q, o + 1, none⟩ = some v2) (b : Below W.heap.size W w5) (h1 : q < wr.heap.size) :
    Below wr.heap.size wr w5 ∧ w5.cell? ⟨q, o, none⟩ = some v1 ∧ w5.cell? ⟨q, o + 1, none⟩ = some v2 :=
  ⟨h.1.trans (b.mono h.1.size), (b.cell (p := ⟨q, o, none⟩) (Nat.lt_of_lt_of_le h1 h.1.size)).trans h.2.1, (b.cell (p := ⟨q, o + 1, none⟩) (Nat.lt_of_lt_of_le h1 h.1.size)).trans h.2.2⟩

set_option maxRecDepth 100000 in
set_option maxHeartbeats 16000000 in
theorem FnLearnRule_ok (ao : Option Addr) (l c : Nat) (cs : List Int) (w : World) (h : RowU w ao l c cs) :
    Calls Try.prog 5 #[.slice ao l c] w fun e w' => e = .returned (.bool true) ∧ Below w.heap.size w w' := by
  go_enter Try.func5, Try.ntmps5
  by_cases hbig : 1048576 < l
  · have hbig' : (1048576 : Int) < (l : Int) := by omega
    go_wp2_with fail
    go_ret
    exact ⟨rfl, Below.refl _ _⟩
  · have hbig' : ¬ (1048576 : Int) < (l : Int) := by omega
    have HD := Lib.hid (drawRule_ok ao l c cs w h (by omega))
    clear h
    go_wp2_with fail
    refine HD.out.mono ?_
    rintro e w1 ⟨v, zs, n, i, rfl, hz, o1, b1⟩
    obtain ⟨so, sc, rfl, hr, _⟩ := o1.out
    have HB1 := Lib.hid b1
    clear o1 b1 HD
    have HRow := Lib.hid (fun W (hW : Below w1.heap.size w1 W) => hr.below hW (Nat.le_refl _))
    have HLI := Lib.hid (fun W (hW : Below w1.heap.size w1 W) => lrI_ok so zs.length sc zs n i W (hr.below hW (Nat.le_refl _)))
    have HLS := Lib.hid (fun W (hW : Below w1.heap.size w1 W) => lrS_ok so zs.length sc zs n i W (hr.below hW (Nat.le_refl _)))
    have HAI := Lib.hid (fun W (hW : Below w1.heap.size w1 W) => alI_ok so zs.length sc zs n i W (hr.below hW (Nat.le_refl _)))
    have HAS := Lib.hid (fun W (hW : Below w1.heap.size w1 W) => alS_ok so zs.length sc zs n i W (hr.below hW (Nat.le_refl _)))
    have HUI := Lib.hid (fun W (hW : Below w1.heap.size w1 W) => unI_ok so zs.length sc zs n W (hr.below hW (Nat.le_refl _)))
    have HUS := Lib.hid (fun W (hW : Below w1.heap.size w1 W) => unS_ok so zs.length sc zs n W (hr.below hW (Nat.le_refl _)))
    clear hr
    go_wp2_with fail
    refine (HLI.out _ (Below.refl _ _)).mono ?_
    rintro e w2 ⟨rfl, b2⟩
    go_wp2_with fail
    refine (HLS.out _ b2).mono ?_
    rintro e w3 ⟨rfl, b3⟩
    have C3 := Lib.hid (b2.trans (b3.mono b2.size))
    clear b2 b3
    go_wp2_with fail
    refine (HAI.out _ C3.out).mono ?_
    rintro e w4 ⟨rfl, b4⟩
    have C4 := Lib.hid (C3.out.trans (b4.mono C3.out.size))
    clear b4
    go_wp2_with fail
    refine (HUI.out _ C4.out).mono ?_
    rintro e w5 ⟨ua, ul, rfl, uo, b5⟩
    have hul := uo.1
    subst hul
    have C5 := Lib.hid (C4.out.trans (b5.mono C4.out.size))
    have HU5 := Lib.hid uo.rowI
    clear b5 uo
    have hun := unV_len zs n
    go_wp2_with fail
    refine (HAS.out _ C5.out).mono ?_
    rintro e w6 ⟨rfl, b6⟩
    have C6 := Lib.hid (C5.out.trans (b6.mono C5.out.size))
    have HU6 := Lib.hid (HU5.out.below b6 (Nat.le_refl _))
    clear b6
    go_wp2_with fail
    refine (HUS.out _ C6.out).mono ?_
    rintro e w7 ⟨v7, rfl, o7, b7⟩
    obtain ⟨a7, c7, rfl, q7⟩ := o7.out
    have C7 := Lib.hid (C6.out.trans (b7.mono C6.out.size))
    have HU7 := Lib.hid (HU6.out.below b7 (Nat.le_refl _))
    have HQ7 := Lib.hid q7.rowI
    clear b7 o7 q7
    go_wp2_with fail
    refine (bnSame_ok _ _ _ _ (unV zs n) _ HU7.out HQ7.out).mono ?_
    rintro e w8 ⟨rfl, b8⟩
    have C8 := Lib.hid (C7.out.trans (b8.mono C7.out.size))
    have HU8 := Lib.hid (HU7.out.below b8 (Nat.le_refl _))
    clear b8
    rcases leastI_cases zs n i with ⟨h1, h2⟩ | ⟨h1, h2, h3⟩ | ⟨r, h1, h2, h3, h4, _⟩
    · have hal := allV_no h1
      obtain ⟨hlt, hlb⟩ := lr_no (zs := zs) (m := n) (i := i) (by rw [h2]; decide)
      rw [hal] at HAS ⊢
      rw [hlt, hlb]
      clear h1 h2 hal hlt hlb
      go_wp2_with fail
      refine (HAS.out _ C8.out).mono ?_
      rintro e w9 ⟨rfl, b9⟩
      have C9 := Lib.hid (C8.out.trans (b9.mono C8.out.size))
      have HU9 := Lib.hid (HU8.out.below b9 (Nat.le_refl _))
      clear b9
      go_wp2_with fail
      refine (HUS.out _ C9.out).mono ?_
      rintro e w10 ⟨v10, rfl, o10, b10⟩
      obtain ⟨a10, c10, rfl, q10⟩ := o10.out
      have C10 := Lib.hid (C9.out.trans (b10.mono C9.out.size))
      have HU10 := Lib.hid (HU9.out.below b10 (Nat.le_refl _))
      have HQ10 := Lib.hid q10.rowI
      clear b10 o10 q10
      go_wp2_with fail
      refine (bnSame_ok _ _ _ _ (unV zs n) _ HU10.out HQ10.out).mono ?_
      rintro e w11 ⟨rfl, b11⟩
      go_wp2_with fail
      go_ret
      exact ⟨rfl, HB1.out.trans ((C10.out.trans (b11.mono C10.out.size)).mono HB1.out.size)⟩
    · obtain ⟨_, ⟨hn1, hn5⟩, hi0, _⟩ := swB_get h1
      obtain ⟨p, rfl⟩ := Int.eq_ofNat_of_zero_le (show 0 ≤ n by omega)
      obtain ⟨x, rfl⟩ := Int.eq_ofNat_of_zero_le hi0
      rw [Int.toNat_natCast] at h3
      have hal : allV zs (p : Int) (x : Int) = 0 := by
        refine allV_zero h1 fun ha => ?_
        have hp0 := Nat.two_pow_pos p
        have := h3 (2 ^ p - 1) (by omega)
        rw [Bool.eq_false_iff, Ne, explV_iff] at this
        have hc : ((2 ^ p : Nat) : Int) = 2 ^ p := by simp
        exact this ⟨h1, ⟨by omega, by rw [Int.toNat_natCast]; omega⟩, by rw [Int.toNat_natCast, Int.toNat_natCast]; exact ha⟩
      obtain ⟨hlt, hlb⟩ := lr_no (zs := zs) (m := p) (i := x) (by rw [h2]; decide)
      rw [hal, hlt, hlb]
      clear h1 h2 h3 hal hlt hlb
      go_wp2_with fail
      go_ret
      exact ⟨rfl, HB1.out.trans (C8.out.mono HB1.out.size)⟩
    · obtain ⟨hsn, ⟨hn1, hn5⟩, hi0, hi1⟩ := swB_get h1
      have hsm := seen_small hsn
      have HSm := Lib.hid hsm.1
      have HS2 := Lib.hid hsm.2
      obtain ⟨p, rfl⟩ := Int.eq_ofNat_of_zero_le (show 0 ≤ n by omega)
      obtain ⟨x, rfl⟩ := Int.eq_ofNat_of_zero_le hi0
      have hag := (explV_iff.1 h4).2.2
      rw [Int.toNat_natCast, Int.toNat_natCast] at hag
      rw [Int.toNat_natCast] at h3
      have HAg := Lib.hid (fun k (hk : k < zs.length) => rule_at hag hk)
      have hp : (2 ^ p : Nat) ≤ 32 := Nat.pow_le_pow_right (n := 2) (by decide) (show p ≤ 5 by omega)
      have hpw : wrap64 (2 ^ p) = ((2 ^ p : Nat) : Int) := wrap_pow_nat p (by omega)
      have hal := expl_all h4
      obtain ⟨hlt, hlb⟩ := lr_yes h2
      have HUn := Lib.hid (unV_yes hsn)
      have hbl : bitsL (ruleL zs x r (2 ^ p)) := fun j hj => ruleL_bit _ _ _ _ _ (by rwa [ruleL_len] at hj)
      have hdt : DT p (digT (ruleL zs x r (2 ^ p))) := ⟨digT_dig hbl, by rw [digT_size, ruleL_len]⟩
      have HVA := Lib.hid (fun s W (hs : s < 2 ^ p) => valueAtI_ok (digT (ruleL zs x r (2 ^ p))) p s W ⟨by omega, by omega⟩ hdt hs)
      have HBy := Lib.hid (fun s (hs : s < 2 ^ p) => (byD_digT hbl s (by rw [ruleL_len]; exact hs)).trans (show gI (ruleL zs x r (2 ^ p)) s = ruleTo zs x r s zs.length by simp [gI, ruleL, List.getD, hs]))
      have hfz : (digT (ruleL zs x r (2 ^ p))).size ≤ 32 := by rw [digT_size, ruleL_len]; exact hp
      rw [hal, hlt, hlb]
      have hx5 : x < 5 := by omega
      have HUl := Lib.hid (show (unV zs (p : Int)).length = (unTo zs (2 ^ p)).length by rw [HUn.out])
      have hull := unTo_len zs (2 ^ p)
      clear h1 h2 h3 h4 hal hlt hlb hsn hsm hag hbl hdt
      generalize digT (ruleL zs x r (2 ^ p)) = f at HVA HBy hfz ⊢
      have hcN : ((2 ^ p : Nat) : Int) = (2 : Int) ^ p := by simp
      have HcN := Lib.hid hcN
      clear hcN
      have HTwo := Lib.hid (wrap_pow_nat (unV zs (p : Int)).length (by omega))
      generalize hA : (2 ^ (unV zs (p : Int)).length : Nat) = A at HTwo ⊢
      clear hA
      have hA0 : ¬ (A : Int) < 0 := by omega
      generalize (2 ^ p : Nat) = N at hp hpw HVA HBy HUl hull HcN
      rw [Int.toNat_natCast] at HS2
      go_wp2_with fail
      go_loopw [12] (fun q wr => ∃ k : Nat, k ≤ zs.length ∧ q = .int .i64 k ∧ Below w1.heap.size w1 wr) (fun q _ => zs.length - (intOf q).toNat)
      case atStart => exact ⟨0, Nat.zero_le _, rfl, C8.out⟩
      case round =>
        obtain ⟨k, hk, rfl, hb⟩ := hrel
        have HB := Lib.hid hb
        clear hb
        by_cases hlt : k < zs.length
        · have hlt' : (k : Int) < (zs.length : Int) := by omega
          have hrow := HRow.out _ HB.out
          obtain ⟨bq, o, rfl, hbo⟩ := hrow.some (by omega)
          have hc1 := hrow.before bq o rfl k hlt
          have hc2 := hrow.after bq o rfl k hlt
          obtain ⟨z0, z1, z2, z3⟩ := HSm.out k hlt
          have z4 := (HS2.out k hlt).2
          obtain ⟨y1, hy1⟩ := Int.eq_ofNat_of_zero_le z0
          obtain ⟨y2, hy2⟩ := Int.eq_ofNat_of_zero_le z2
          have hy1N : y1 < N := by have := HcN.out; omega
          have HVk := Lib.hid (fun W => HVA.out y1 W hy1N)
          have hbk := HBy.out y1 hy1N
          have hag := HAg.out k hlt
          rw [hy1, Int.toNat_natCast] at hag
          rw [hbk, hag] at HVk
          have hvl := valN_lt x (gS zs k)
          have ev : bits .and .i64 ((y2 : Int) / 2 ^ x) 1 = ((valN x (gS zs k) : Nat) : Int) := by
            have := bit_int (y2 : Int) x (by omega) (by omega)
            rw [this, valN, hy2]
          rw [hy1] at hc1
          rw [hy2] at hc2
          have hb0 : bq < wr.heap.size := Nat.lt_of_lt_of_le hbo (Nat.le_refl _)
          have HC1 := Lib.hid hc1
          have HC2 := Lib.hid hc2
          clear hrow z0 z1 z2 z3 z4 hy1 hy2 hbk hag
          generalize valN x (gS zs k) = vv at HVk ev hvl
          have hne : (((vv : Nat) : Int) != ((vv : Nat) : Int)) = false := by simp
          have hxw : IntKind.u64.wrap (x : Int) = (x : Int) := by rw [IntKind.wrap_u64]; omega
          have hxm : min x 64 = x := by omega
          go_wp2_with fail
          go_region_held3 (fun w' => Below wr.heap.size wr w' ∧ w'.cell? ⟨bq, o + k * 2, none⟩ = some (.int .i64 y1) ∧ w'.cell? ⟨bq, o + k * 2 + 1, none⟩ = some (.int .i64 y2))
            (first | exact ⟨⟨rfl, rfl, rfl, Nat.le_refl _, fun _ _ => rfl⟩, hc1, hc2⟩ | exact held2c (by assumption) b5 hb0)
            ((go_at_call 20; refine (HVk.out _).mono ?_; rintro e w5 ⟨rfl, b5⟩))
          have HB5 : Hid (Below wr.heap.size wr w5) := (by assumption : Below wr.heap.size wr w5 ∧ _ ∧ _).1
          go_wp2_with fail
          go_roundw
          case rel => exact ⟨k + 1, by omega, by go_num, HB.out.trans (HB5.out.mono HB.out.size)⟩
          case measure => simp [intOf] <;> omega
        · obtain rfl : k = zs.length := by omega
          have hmk := run_make_bools N (by omega)
          have k0 := Blk.new wr 4 (boolC N (hasTo zs 0))
          rw [show boolC N (hasTo zs 0) = List.replicate N (.bool false) from boolC_false N] at k0
          have K0 := Lib.hid k0
          have B0 := Lib.hid ((Below.refl wr.heap.size wr).alloc (Nat.le_refl _) (.cells (List.replicate N (Value.bool false)).toArray 4))
          clear k0
          go_wp2_with fail
          clear hmk
          obtain ⟨wo, hwo⟩ : ∃ wo : World, wo = wr := ⟨_, rfl⟩
          subst hwo
          go_loopw [14] (fun q wr => ∃ k : Nat, k ≤ zs.length ∧ q = .int .i64 k ∧ Blk wr wo.heap.size 4 (boolC N (hasTo zs k)) ∧ Below wo.heap.size wo wr) (fun q _ => zs.length - (intOf q).toNat)
          case atStart => exact ⟨0, Nat.zero_le _, rfl, by rw [show boolC N (hasTo zs 0) = List.replicate N (.bool false) from boolC_false N]; exact K0.out, B0.out⟩
          case round =>
            obtain ⟨k, hk, rfl, hB, hb⟩ := hrel
            have HK := Lib.hid hB
            have HBe := Lib.hid hb
            have HW := Lib.hid (HB.out.trans (hb.mono HB.out.size))
            clear hb
            by_cases hlt : k < zs.length
            · have hlt' : (k : Int) < (zs.length : Int) := by omega
              have hrow := HRow.out _ HW.out
              obtain ⟨bq, o, rfl, hbo⟩ := hrow.some (by omega)
              have hc1 := hrow.before bq o rfl k hlt
              obtain ⟨z0, z1, _, _⟩ := HSm.out k hlt
              have z4 := (HS2.out k hlt).2
              obtain ⟨y1, hy1⟩ := Int.eq_ofNat_of_zero_le z0
              have hy1N : y1 < N := by have := HcN.out; omega
              have hy1w : (y1 : Int) < (N : Int) := by omega
              have hx := hB.cell (boolC_get N (hasTo zs k) y1 hy1N)
              have hf := hB.free y1
              have hset := hB.set y1 (.bool true)
              rw [boolC_set] at hset
              have HSt : Hid (Blk (wr.setCell ⟨wo.heap.size, y1, none⟩ (.bool true)) wo.heap.size 4 (boolC N (hasTo zs (k + 1)))) := by
                unfold Hid
                have e : hasTo zs (k + 1) = fun z => hasTo zs k z || z == y1 := by
                  funext z
                  rw [hasTo, hy1, Int.toNat_natCast]
                rw [e]; exact hset
              rw [hy1] at hc1
              clear hB hrow z0 z1 z4 hy1 hset
              go_wp2_with fail
              go_roundw
              case rel => exact ⟨k + 1, by omega, by go_num, HSt.out, HBe.out.setCell (Nat.le_refl _) _⟩
              case measure => simp [intOf] <;> omega
            · obtain rfl : k = zs.length := by omega
              have hB2 : Hid (∀ s, s < N → wr.cell? ⟨wo.heap.size, s, none⟩ = some (.bool (hasB zs (s : Int)))) := fun s hs => by
                have := hB.cell (boolC_get N (hasTo zs zs.length) s hs)
                rw [hasTo_all HSm.out] at this; exact this
              clear hB
              go_wp2_with fail
              go_loop [15, 16] (fun a q => ∃ s : Nat, s ≤ N ∧ q = .int .i64 s ∧ a = .int .i64 ((unTo zs s).length : Nat)) (fun _ q => N - (intOf q).toNat)
              case atStart => exact ⟨0, Nat.zero_le _, rfl, rfl⟩
              case round =>
                obtain ⟨s, hs, rfl, rfl⟩ := hrel
                have hull2 := unTo_len zs s
                by_cases hsN : s < N
                · have hsw : (s : Int) < (N : Int) := by omega
                  have hx := hB2.out s hsN
                  cases hh : hasB zs (s : Int) with
                  | true =>
                    rw [hh] at hx
                    have HN := Lib.hid (unTo_skip hh)
                    clear hh
                    go_wp2_with fail
                    go_round
                    case rel => exact ⟨s + 1, by omega, by go_num, by rw [HN.out]⟩
                    case measure => simp [intOf]; omega
                  | false =>
                    rw [hh] at hx
                    have HN := Lib.hid (unTo_take hh)
                    clear hh
                    go_wp2_with fail
                    go_round
                    case rel => exact ⟨s + 1, by omega, by go_num, by rw [HN.out]; simp⟩
                    case measure => simp [intOf]; omega
                · obtain rfl : s = N := by omega
                  have hse : (((unTo zs s).length : Nat) : Int) = (((unV zs (p : Int)).length : Nat) : Int) := by rw [HUl.out]
                  rw [hse]
                  have htw := HTwo.out
                  clear hse
                  generalize (unV zs (p : Int)).length = ul at htw hun ⊢
                  go_wp2_with fail
                  go_ret
                  exact ⟨rfl, HB1.out.trans ((HB.out.trans (HBe.out.mono HB.out.size)).mono HB1.out.size)⟩

end Go.Proofs.Ytlfeipibhdggcaa
