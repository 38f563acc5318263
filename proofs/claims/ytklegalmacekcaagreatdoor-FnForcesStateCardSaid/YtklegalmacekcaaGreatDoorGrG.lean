/- Walks and plain facts: several of my texts in one. -/
import Derived.Test.YtklegalmacekcaaGreatDoorGrA
import Derived.Test.YtklegalmacekcaaGreatDoorGrB
import Derived.Test.YtklegalmacekcaaGreatDoorGrF
import Derived.Deep.RegionWith
import Derived.Laws.IdiomStrings
import Derived.Test.YtklegalmacekcaaGreatDoorGrD
/- Walks: FormatState. -/
namespace Go.Proofs.YtklegalmacekcaaGreatDoor
open Go.RowKit

/-- The digits of the first n bits of a number. -/
def bitL (s n : Nat) : List Int := (List.range n).map fun i => ((bN s i : Nat) : Int)
theorem bitL_next (s n : Nat) : bitL s (n + 1) = bitL s n ++ [((bN s n : Nat) : Int)] := by simp [bitL, List.range_succ]
theorem bitL_len (s n : Nat) : (bitL s n).length = n := by simp [bitL]
theorem bitL_get (s n i : Nat) (h : i < n) : gI (bitL s n) i = (bN s i : Nat) := by simp [gI, bitL, List.getD, h]
/-- Bytes that are digits, as a text. -/
def digS (zs : List Int) : ByteArray := strOfNums (zs.map (48 + ·))
theorem digS_app (xs ys : List Int) : digS xs ++ digS ys = digS (xs ++ ys) := by
  apply ByteArray.ext
  simp [digS, strOfNums]
theorem digS_size (xs : List Int) : (digS xs).size = xs.length := by simp [digS, strOfNums, ByteArray.size]

theorem conv_one (x : Int) (W : World) : (convert 22 9 (.slice (some ⟨W.heap.size, 0, none⟩) 1 1)).run Tryz.prog (W.alloc (.cells #[.int .u8 x] 5)) = .ok (.string (strOfNums [x])) (W.alloc (.cells #[.int .u8 x] 5)) :=
  run_convert_bytes_arg _ 22 5 Tryz.underlying22 Tryz.underlying5 W.heap.size 0 1 1 [x] rfl (fun i hi => by
    obtain rfl : i = 0 := by omega
    exact (Blk.new W 5 [.int .u8 x]).cell (i := 0) rfl) 9 Tryz.underlying9

set_option maxHeartbeats 1000000 in
/-- One digit in decimal. -/
theorem l14Dec_digit (v : Nat) (hv : v ≤ 9) (w : World) :
    Calls Tryz.prog 45 #[.int .i64 v] w fun e w' => e = .returned (.string (digS [(v : Int)])) ∧ Below w.heap.size w w' := by
  have hcv := fun (W : World) => conv_one (48 + (v : Int)) W
  have hw : IntKind.u8.wrap (48 + (v : Int)) = 48 + (v : Int) := by rw [IntKind.wrap_u8]; omega
  have h1 : ¬ (v : Int) < -9223372036854775807 := by omega
  have h2 : ¬ (v : Int) < 0 := by omega
  have h3 : ¬ 9 < (v : Int) := by omega
  have hsz : (strOfNums [48 + (v : Int)]).size = 1 := rfl
  have HE : Hid (strOfNums [48 + (v : Int)] ++ ⟨#[]⟩ = digS [(v : Int)]) := by
    apply ByteArray.ext
    simp [digS, strOfNums]
  generalize strOfNums [48 + (v : Int)] = t at hcv hsz HE
  go_enter Tryz.func45, Tryz.ntmps45
  go_wp2_with fail
  refine wp_loop_rounds 1 ?_
  rw [rounds_succ]
  go_wp2_with fail
  go_ret
  exact ⟨rett HE.out, (Below.refl _ _).alloc (Nat.le_refl _) _⟩

set_option maxHeartbeats 1000000 in
theorem l3Told_ok (s n : Nat) (hs : s < 32) (hn : n ≤ 5) (w : World) :
    Calls Tryz.prog 23 #[.int .i64 s, .int .i64 n] w fun e w' => e = .returned (.string (digS (bitL s n))) ∧ Below w.heap.size w w' := by
  go_enter Tryz.func23, Tryz.ntmps23
  go_wp2
  go_loopw [5, 6] (fun v i wr => ∃ k : Nat, k ≤ n ∧ i = .int .i64 k ∧ v = .string (digS (bitL s k)) ∧ Below w.heap.size w wr) (fun _ i _ => n - (intOf i).toNat)
  case atStart => exact ⟨0, Nat.zero_le _, rfl, rfl, Below.refl _ _⟩
  case round =>
    obtain ⟨k, hk, rfl, rfl, hb⟩ := hrel
    by_cases hlt : k < n
    · have hlt' : (k : Int) < (n : Int) := by omega
      have hbl := bN_lt s k
      have HD := Lib.hid (l14Dec_digit (bN s k) (by omega) wr)
      have HN : Hid (digS (bitL s k) ++ digS [((bN s k : Nat) : Int)] = digS (bitL s (k + 1))) := by
        unfold Hid
        rw [digS_app, bitL_next]
      have hz1 : (digS (bitL s k)).size ≤ 5 := by rw [digS_size, bitL_len]; omega
      have hz2 : (digS [((bN s k : Nat) : Int)]).size ≤ 1 := by rw [digS_size]; simp
      generalize digS (bitL s k) = t1 at hz1 HN
      generalize digS [((bN s k : Nat) : Int)] = t2 at hz2 HN HD
      go_wp2_with (first | (go_at_call 46; refine (l1Bit_ok _ _ _ (by omega) (by omega) (by omega) (by omega)).mono ?_; rintro e w' ⟨rfl, rfl⟩))
      refine HD.out.mono ?_
      rintro e w1 ⟨rfl, b1⟩
      go_wp2_with fail
      go_roundw
      case rel => exact ⟨k + 1, by omega, by go_num, by rw [HN.out], hb.trans (b1.mono hb.size)⟩
      case measure => simp [intOf]; omega
    · obtain rfl : k = n := by omega
      go_wp2
      go_ret
      exact ⟨rfl, hb⟩

/-- Whether a number is a state of n switches. -/
def stB (s n : Int) : Bool := inB n 1 5 && inB s 0 (2 ^ n.toNat - 1)
def stT (s n : Int) : ByteArray := if stB s n = true then digS (bitL s.toNat n.toNat) else ⟨#[]⟩
theorem stT_no {s n : Int} (h : stB s n = false) : stT s n = ⟨#[]⟩ := by simp [stT, h]
theorem stT_yes {s n : Nat} (h : stB s n = true) : stT s n = digS (bitL s n) := by simp [stT, h]

/-- What formatState has written after k rounds. -/
def fsTo (s N k : Nat) : List Int := (List.range N).map fun j => if j < k then 48 + ((bN s j : Nat) : Int) else 0
theorem fsTo_zero (s N : Nat) : fsTo s N 0 = List.replicate N 0 := by
  apply List.ext_getElem <;> simp [fsTo]
theorem fsTo_len (s N k : Nat) : (fsTo s N k).length = N := by simp [fsTo]
theorem fsTo_next (s N k : Nat) : (fsTo s N k).set k (48 + ((bN s k : Nat) : Int)) = fsTo s N (k + 1) := by
  apply List.ext_getElem?
  intro i
  simp [fsTo, List.getElem?_set]
  grind
theorem fsTo_end (s N : Nat) : strOfNums (fsTo s N N) = digS (bitL s N) := by
  have : fsTo s N N = (bitL s N).map (48 + ·) := by
    simp only [fsTo, bitL, List.map_map]
    apply List.map_congr_left
    intro j hj
    simp [List.mem_range.1 hj]
  rw [this, digS]

set_option maxHeartbeats 2000000 in
theorem fmtI_ok (s n : Nat) (hs : s < 32) (hn : n ≤ 5) (w : World) :
    Calls Tryz.prog 18 #[.int .i64 s, .int .i64 n] w fun e w' => e = .returned (.string (digS (bitL s n))) ∧ Below w.heap.size w w' := by
  have hmk := run_make_bytes n (by omega)
  go_enter Tryz.func18, Tryz.ntmps18
  go_wp2_with fail
  clear hmk
  go_loopw [11] (fun i wr => ∃ k : Nat, k ≤ n ∧ i = .int .i64 k ∧ Blk wr w.heap.size 5 (byC (fsTo s n k)) ∧ Below w.heap.size w wr) (fun i _ => n - (intOf i).toNat)
  case atStart => exact ⟨0, Nat.zero_le _, rfl, by rw [fsTo_zero]; exact Blk.new _ _ _, (Below.refl _ _).alloc (Nat.le_refl _) _⟩
  case round =>
    obtain ⟨k, hk, rfl, hB, hb⟩ := hrel
    by_cases hkN : k < n
    · have hkw : (k : Int) < (n : Int) := by omega
      have hy := hB.cell (byC_get (fsTo s n k) k (by rw [fsTo_len]; omega))
      have hf := hB.free k
      have HS := Lib.hid (hB.set k (.int .u8 (48 + ((bN s k : Nat) : Int))))
      have ev : bits .and .i64 ((s : Int) / 2 ^ k) 1 = ((bN s k : Nat) : Int) := bit_int (s : Int) k (by omega) (by omega)
      have hbl := bN_lt s k
      have HBe := Lib.hid hb
      have hw1 : IntKind.u8.wrap ((bN s k : Nat) : Int) = ((bN s k : Nat) : Int) := by rw [IntKind.wrap_u8]; omega
      have hw2 : IntKind.u8.wrap (48 + ((bN s k : Nat) : Int)) = 48 + ((bN s k : Nat) : Int) := by rw [IntKind.wrap_u8]; omega
      have HN := Lib.hid (fsTo_next s n k)
      clear hB hb
      generalize bN s k = u at ev hbl hw1 hw2 HS HN
      go_wp2_with fail
      go_roundw
      case rel => exact ⟨k + 1, by omega, by go_num, by have := HS.out; rw [byC_set, HN.out] at this; exact this, HBe.out.setCell (Nat.le_refl _) _⟩
      case measure => simp [intOf]; omega
    · obtain rfl : k = n := by omega
      have hcv := run_convert_bytes_arg wr 22 5 Tryz.underlying22 Tryz.underlying5 w.heap.size 0 k k (fsTo s k k) (fsTo_len _ _ _) (fun i hi => by rw [Nat.zero_add]; exact hB.cell (byC_get _ i (by rw [fsTo_len]; exact hi))) 9 Tryz.underlying9
      rw [fsTo_end] at hcv
      clear hB
      go_wp2_with fail
      go_ret
      exact ⟨rfl, hb⟩

end Go.Proofs.YtklegalmacekcaaGreatDoor
/- Walks: holding switches, on both sides. -/
namespace Go.Proofs.YtklegalmacekcaaGreatDoor
open Go.RowKit

theorem digT_self {t : ByteArray} (h : digB t = true) : digT ((List.range t.size).map (byD t)) = t := by
  apply ByteArray.ext
  apply Array.ext'
  simp only [digT, List.map_map]
  apply List.ext_getElem?
  intro i
  by_cases hi : i < t.size
  · have hb := at_byte t i hi
    rw [hb]
    simp only [List.getElem?_map, List.getElem?_range hi, Option.map_some, Function.comp]
    rw [digB, List.all_eq_true] at h
    have hd := (isD_int _).1 (h t[i] (List.mem_of_getElem? hb))
    have e : byD t i = ((t[i].toNat : Nat) : Int) - 48 := byD_at t i hi
    have e2 : 48 + (byD t i).toNat = t[i].toNat := by omega
    rw [e2, UInt8.ofNat_toNat]
  · rw [List.getElem?_eq_none (by simp; omega), List.getElem?_eq_none (by simp; omega)]
theorem gT_dig {ps : List ByteArray} (hn : netB ps = true) {k : Nat} (hk : k < ps.length) : gT ps k = digF (bitN ps) ps.length k := by
  have hd := (netB_get hn k hk).1
  have hz := net_size hn k hk
  rw [digF, ← hz]
  conv => lhs; rw [← digT_self hd]
  congr 1
  apply List.map_congr_left
  intro s _
  exact bitN_eq hd s

/-- A letter repeated. -/
def repB (b : UInt8) (n : Nat) : ByteArray := ⟨(List.replicate n b).toArray⟩
theorem repB_size (b : UInt8) (n : Nat) : (repB b n).size = n := by simp [repB, ByteArray.size]
theorem repB_app (b : UInt8) (i j : Nat) : repB b i ++ repB b j = repB b (i + j) := by
  apply ByteArray.ext
  apply Array.ext'
  simp [repB]
theorem repB_one (b : UInt8) : repB b 1 = ⟨#[b]⟩ := rfl
theorem repB_zero (b : UInt8) : repB b 0 = ⟨#[]⟩ := rfl
theorem digT_rep (v n : Nat) : digT ((List.range n).map fun _ => ((v : Nat) : Int)) = repB (UInt8.ofNat (48 + v)) n := by
  apply ByteArray.ext
  apply Array.ext'
  simp only [digT, repB, List.map_map]
  rw [List.eq_replicate_iff]
  refine ⟨by simp, fun b hb => ?_⟩
  simp only [List.mem_map, Function.comp] at hb
  obtain ⟨_, _, rfl⟩ := hb
  simp

end Go.Proofs.YtklegalmacekcaaGreatDoor
/- Walks: HoldSwitches of the reference. -/
namespace Go.Proofs.YtklegalmacekcaaGreatDoor
open Go.RowKit

/-- Whether texts are a network and a term of its switches. -/
def htB (ps : List ByteArray) (l : List UInt8) : Bool := netB ps && termB l ps.length
theorem ht_no {ps : List ByteArray} {l : List UInt8} (h : netB ps = false) : htB ps l = false := by simp [htB, h]
theorem ht_in {ps : List ByteArray} {l : List UInt8} (h : netB ps = true) : htB ps l = termB l ps.length := by simp [htB, h]
theorem ht_get {ps : List ByteArray} {t : ByteArray} (h : htB ps t.data.toList = true) : netB ps = true ∧ t.size = ps.length ∧ t.data.toList.all isT = true := by
  rw [htB, Bool.and_eq_true, termB] at h
  simp only [Bool.and_eq_true, decide_eq_true_iff] at h
  exact ⟨h.1, by have := h.2.1.2; exact_mod_cast this, h.2.2⟩

set_option maxHeartbeats 1000000 in
theorem l6Term_ok (s t : ByteArray) (w : World) (hs : s.size ≤ 1048576) (ht : t.size ≤ 1048576) :
    Calls Tryz.prog 19 #[.string s, .string t] w fun e w' => ∃ v, e = .returned (.tuple #[v, .bool (htB (cutsP 44 s) t.data.toList)]) ∧ OwnT w' w.heap.size v (netL (cutsP 44 s)) ∧ Below w.heap.size w w' := by
  have HO := Lib.hid (l3Open_ok s w hs)
  have HTv := Lib.hid (fun m W => tvS_ok t m W (by unfold maxLen; omega))
  generalize cutsP 44 s = ps at HO
  cases hb : netB ps with
  | false =>
    have HV := Lib.hid (ht_no (l := t.data.toList) hb)
    rw [hb] at HO
    clear hb
    go_enter Tryz.func19, Tryz.ntmps19
    go_wp2_with fail
    refine HO.out.mono ?_
    rintro e w1 ⟨v, rfl, o1, b1⟩
    have O1 := Lib.hid o1
    clear o1
    go_wp2_with fail
    go_ret2
    exact ⟨_, retv HV.out.symm, O1.out, b1⟩
  | true =>
    have HV := Lib.hid (ht_in (l := t.data.toList) hb)
    have HN := Lib.hid (netL_yes hb)
    rw [hb] at HO
    clear hb
    go_enter Tryz.func19, Tryz.ntmps19
    go_wp2_with fail
    refine HO.out.mono ?_
    rintro e w1 ⟨v, rfl, o1, b1⟩
    have O1 := Lib.hid o1
    rw [HN.out] at o1
    obtain ⟨a, c, rfl, _⟩ := o1.row
    have HTk := Lib.hid (HTv.out (ps.length : Int) w1)
    clear o1
    go_wp2_with fail
    refine HTk.out.mono ?_
    rintro e w2 ⟨rfl, rfl⟩
    go_wp2_with fail
    go_ret2
    exact ⟨_, retv HV.out.symm, O1.out, b1⟩

/-- The values of a network in which a term's switches are held. -/
def hsF (ps : List ByteArray) (l : List UInt8) (k s : Nat) : Nat := if ltr l k = 2 then bitN ps k s else ltr l k
theorem hs_star {ps : List ByteArray} {l : List UInt8} {k n : Nat} (h : ltr l k = 2) : digF (hsF ps l) n k = digF (bitN ps) n k := by
  unfold digF
  congr 1
  apply List.map_congr_left
  intro s _
  simp [hsF, h]
theorem hs_dig {ps : List ByteArray} {l : List UInt8} {k n : Nat} (h : ltr l k < 2) : digF (hsF ps l) n k = repB (UInt8.ofNat (48 + ltr l k)) (2 ^ n) := by
  rw [← digT_rep]
  unfold digF
  congr 1
  apply List.map_congr_left
  intro s _
  rw [hsF, if_neg (by omega)]
theorem extract_one (t : ByteArray) (k : Nat) (h : k < t.size) : t.extract k (k + 1) = ⟨#[t[k]]⟩ := by
  apply ByteArray.ext
  apply Array.ext'
  apply List.ext_getElem?
  intro i
  have hk : k < t.data.size := h
  simp only [ByteArray.data_extract, Array.getElem?_toList, Array.getElem?_extract]
  cases i with
  | zero =>
    rw [if_pos (by omega)]
    rw [Nat.add_zero, Array.getElem?_eq_getElem hk]
    rfl
  | succ i =>
    rw [if_neg (by omega)]
    simp

/-- What HoldSwitches gives. -/
def hsT (ps : List ByteArray) (l : List UInt8) : ByteArray := if htB ps l = true then netT (hsF ps l) ps.length else ⟨#[]⟩
theorem hsT_no {ps : List ByteArray} {l : List UInt8} (h : htB ps l = false) : hsT ps l = ⟨#[]⟩ := by simp [hsT, h]
theorem hsT_yes {ps : List ByteArray} {l : List UInt8} (h : htB ps l = true) : hsT ps l = netT (hsF ps l) ps.length := by simp [hsT, h]
theorem ret2h {a b : ByteArray} {c d : Bool} (h : a = b) (h' : c = d) : Ending.returned (.tuple #[.string a, .bool c]) = .returned (.tuple #[.string b, .bool d]) := by rw [h, h']

end Go.Proofs.YtklegalmacekcaaGreatDoor
/- Walks: HoldSwitches of the program. -/
namespace Go.Proofs.YtklegalmacekcaaGreatDoor
open Go.RowKit

/-- Tables that lie side by side in one block, and may be written. -/
structure TabsAt (w : World) (g : Nat) (n : Nat) (bss : List (List Int)) : Prop where
  len : bss.length = n
  wide : W32 bss
  room : w.there g 0 (n * 33)
  range : ∀ i bs, bss[i]? = some bs → w.rangeAt g (i * 33) (tabC n bs)
  lt : g < w.heap.size
theorem TabsAt.below {w w' : World} {g n B : Nat} {bss : List (List Int)} (h : TabsAt w g n bss) (hb : Below B w w') (hB : w.heap.size ≤ B) : TabsAt w' g n bss :=
  ⟨h.len, h.wide, fun j hj => by
    have hc := hb.cell (p := ⟨g, 0 + j, none⟩) (Nat.lt_of_lt_of_le h.lt hB)
    have hf := hb.frozen (p := ⟨g, 0 + j, none⟩) (Nat.lt_of_lt_of_le h.lt hB)
    rw [hc, hf]; exact h.room j hj, fun i bs hi j v hv => (hb.cell (p := ⟨g, i * 33 + j, none⟩) (Nat.lt_of_lt_of_le h.lt hB)).trans (h.range i bs hi j v hv), Nat.lt_of_lt_of_le h.lt hb.size⟩
theorem setCells_size (b : Nat) : ∀ (vs : List Value) (o : Nat) (w : World), (w.setCells b o vs).heap.size = w.heap.size
  | [], _, _ => rfl
  | v :: r, o, w => by
    rw [World.setCells, setCells_size b r (o + 1)]
    simp [World.setCell]
theorem below_setCells {B : Nat} {a : World} (b : Nat) (hb : B ≤ b) : ∀ (vs : List Value) (o : Nat) (w : World), Below B a w → Below B a (w.setCells b o vs)
  | [], _, _, h => h
  | v :: r, o, w, h => by
    rw [World.setCells]
    exact below_setCells b hb r (o + 1) _ (h.setCell hb _)
theorem TabsAt.set {w : World} {g n : Nat} {bss : List (List Int)} (h : TabsAt w g n bss) (k : Nat) (hk : k < n) (bs : List Int) (hl : bs.length = 32) : TabsAt (w.setCells g (k * 33) (tabC n bs)) g n (bss.set k bs) := by
  have hl33 : (tabC (n : Int) bs).length = 33 := by rw [tabC_len, hl]
  refine ⟨by simp [h.len], fun b hb => ?_, World.there_setCells h.room _ _ _, fun i b hi => ?_, by rw [setCells_size]; exact h.lt⟩
  · rcases List.mem_or_eq_of_mem_set hb with hb | rfl
    · exact h.wide b hb
    · exact hl
  · have hkl : k < bss.length := by rw [h.len]; exact hk
    by_cases e : i = k
    · subst e
      rw [List.getElem?_set_self hkl] at hi
      cases hi
      exact World.rangeAt_setCells_same _ _ _ _ (fun j hj => by
        have := h.room (i * 33 + j) (by omega)
        rw [Nat.zero_add] at this; exact this)
    · rw [List.getElem?_set_ne (fun e2 => e e2.symm)] at hi
      refine World.rangeAt_setCells_apart (h.range i b hi) _ _ _ (.inr ?_)
      have hlb : (tabC (n : Int) b).length = 33 := by rw [tabC_len, h.wide b (List.mem_of_getElem? hi)]
      rw [hlb, hl33]
      omega
theorem OwnN.tabsAt {w : World} {B : Nat} {v : Value} {n : Nat} {bss : List (List Int)} (h : OwnN w B v n bss) (hw : W32 bss) (hn : bss.length = n) (h0 : 0 < n) : ∃ g c, v = .slice (some ⟨g, 0, none⟩) n c ∧ n ≤ c ∧ c ≤ maxLen ∧ B ≤ g ∧ TabsAt w g n bss := by
  obtain ⟨ao, c, rfl, hr⟩ := h.row hw
  obtain ⟨_, ⟨e, hz⟩ | ⟨g, cap, cur, e, hg, hh, hle, hm, hs, ht⟩⟩ := h
  · omega
  · cases e
    subst hn
    refine ⟨g, c, rfl, hr.le, hr.cap, hg, rfl, hw, fun j hj => ?_, fun i bs hi => ?_, lt_of_block hh⟩
    · have hjs : j < cur.size := by
        have : bss.length * 33 ≤ c * 33 := Nat.mul_le_mul_right _ hle
        omega
      constructor
      · rw [Nat.zero_add, cell_of_row w g _ cur 52 (0, 0) hh]
        simp [hjs]
      · simp [World.frozen?, hh]
    · have := hr.range g 0 rfl i bs hi
      rw [Nat.zero_add] at this; exact this
theorem TabsAt.rowN {w : World} {g n c : Nat} {bss : List (List Int)} (h : TabsAt w g n bss) (hc : n ≤ c) (hm : c ≤ maxLen) : RowN w (some ⟨g, 0, none⟩) n c n bss :=
  ⟨h.len, h.wide, hc, hm, fun _ => ⟨g, 0, rfl, h.lt⟩, fun b o e i bs hi => by
    cases e
    rw [Nat.zero_add]; exact h.range i bs hi⟩

set_option maxHeartbeats 1000000 in
theorem termOf_ok (s t : ByteArray) (w : World) (hs : s.size ≤ 1048576) (ht : t.size ≤ 1048576) (hm : MaxLenIs w) :
    Calls Tryz.prog 15 #[.string s, .string t] w fun e w' => ∃ v, e = .returned (.tuple #[v, .bool (htB (cutsP 44 s) t.data.toList)]) ∧ OwnN w' w.heap.size v (cutsP 44 s).length (netN (cutsP 44 s)) ∧ Below w.heap.size w w' := by
  have HO := Lib.hid (readNetwork_ok s w hs hm)
  have HTv := Lib.hid (fun m W => tvI_ok t m W (by unfold maxLen; omega))
  generalize cutsP 44 s = ps at HO
  cases hb : netB ps with
  | false =>
    have HV := Lib.hid (ht_no (l := t.data.toList) hb)
    rw [hb] at HO
    clear hb
    go_enter Tryz.func15, Tryz.ntmps15
    go_wp2_with fail
    refine HO.out.mono ?_
    rintro e w1 ⟨v, rfl, o1, b1⟩
    have O1 := Lib.hid o1
    clear o1
    go_wp2_with fail
    go_ret2
    exact ⟨_, retv HV.out.symm, O1.out, b1⟩
  | true =>
    have HV := Lib.hid (ht_in (l := t.data.toList) hb)
    have HN := Lib.hid (netN_yes hb)
    have hlen := bitsN_len ps ps.length
    rw [hb] at HO
    clear hb
    go_enter Tryz.func15, Tryz.ntmps15
    go_wp2_with fail
    refine HO.out.mono ?_
    rintro e w1 ⟨v, rfl, o1, b1⟩
    have O1 := Lib.hid o1
    rw [HN.out] at o1
    obtain ⟨a, c, rfl, _⟩ := o1.row (bitsN_wide ps ps.length)
    rw [hlen] at O1 ⊢
    have HTk := Lib.hid (HTv.out (ps.length : Int) w1)
    clear o1 hlen
    go_wp2_with fail
    refine HTk.out.mono ?_
    rintro e w2 ⟨rfl, rfl⟩
    go_wp2_with fail
    go_ret2
    exact ⟨_, retv HV.out.symm, O1.out, b1⟩

set_option maxHeartbeats 1000000 in
theorem hsClosure_ok (s k p3 p8 v : Nat) (t : ByteArray) (w : World) (hk : k < t.size) (hv : ((t[k].toNat : Nat) : Int) = 48 + (v : Nat)) (hv2 : v < 2) (c3 : w.cell? ⟨p3, 0, none⟩ = some (.string t)) (c8 : w.cell? ⟨p8, 0, none⟩ = some (.int .i64 k)) :
    Calls Tryz.prog 25 #[.int .i64 s, .pointer (some ⟨p3, 0, none⟩), .pointer (some ⟨p8, 0, none⟩)] w fun e w' => e = .returned (.int .u8 (v : Nat)) ∧ Below w.heap.size w w' := by
  have hkw : (k : Int) < (t.size : Int) := by omega
  have HW : Hid (IntKind.u8.wrap (((t[k].toNat : Nat) : Int) - 48) = ((v : Nat) : Int)) := by unfold Hid; rw [hv, IntKind.wrap_u8]; omega
  have hw1 := HW.out
  clear hv
  go_enter Tryz.func25, Tryz.ntmps25
  go_wp2_with fail
  go_ret
  exact ⟨rfl, Below.refl _ _⟩

end Go.Proofs.YtklegalmacekcaaGreatDoor
/- Walks: HoldSwitches of the program. -/
namespace Go.Proofs.YtklegalmacekcaaGreatDoor
open Go.RowKit

/-- The values while the first k switches are done. -/
def mxF (ps : List ByteArray) (l : List UInt8) (k i s : Nat) : Nat := if i < k then hsF ps l i s else bitN ps i s
theorem eachL_congr {f g : Nat → Int} {N : Nat} (h : ∀ s, s < N → f s = g s) : eachL f N = eachL g N := by
  unfold eachL
  apply List.map_congr_left
  intro j _
  by_cases hj : j < N
  · rw [if_pos hj, if_pos hj, h j hj]
  · rw [if_neg hj, if_neg hj]
theorem tabsL_congr {F G : Nat → Nat → Nat} {n m : Nat} (h : ∀ i s, i < m → F i s = G i s) : tabsL F n m = tabsL G n m := by
  unfold tabsL
  apply List.map_congr_left
  intro i hi
  exact eachL_congr fun s _ => by rw [h i s (by simpa using hi)]
theorem mx_zero {ps : List ByteArray} (l : List UInt8) (hn : netB ps = true) : bitsN ps ps.length = tabsL (mxF ps l 0) ps.length ps.length := by
  unfold tabsL bitsN
  apply List.map_congr_left
  intro i hi
  have hi' : i < ps.length := by simpa using hi
  rw [net_size hn i hi']
  exact eachL_congr fun s _ => by rw [bitN_eq (netB_get hn i hi').1]; simp [mxF]
theorem mx_last (ps : List ByteArray) (l : List UInt8) : tabsL (mxF ps l ps.length) ps.length ps.length = tabsL (hsF ps l) ps.length ps.length :=
  tabsL_congr fun i s hi => by simp [mxF, hi]
theorem mx_star {ps : List ByteArray} {l : List UInt8} {k : Nat} (h : ltr l k = 2) : tabsL (mxF ps l (k + 1)) ps.length ps.length = tabsL (mxF ps l k) ps.length ps.length :=
  tabsL_congr fun i s hi => by
    unfold mxF
    by_cases h1 : i < k
    · rw [if_pos h1, if_pos (by omega)]
    · rw [if_neg h1]
      by_cases h2 : i < k + 1
      · obtain rfl : i = k := by omega
        rw [if_pos h2, hsF, if_pos h]
      · rw [if_neg h2]
theorem mx_set {ps : List ByteArray} {l : List UInt8} {k : Nat} (hk : k < ps.length) (h : ltr l k < 2) : tabsL (mxF ps l (k + 1)) ps.length ps.length = (tabsL (mxF ps l k) ps.length ps.length).set k (eachL (fun _ => ((ltr l k : Nat) : Int)) (2 ^ ps.length)) := by
  apply List.ext_getElem?
  intro i
  by_cases hi : i < ps.length
  · rw [tabsL_get _ _ _ _ hi]
    by_cases e : i = k
    · subst e
      rw [List.getElem?_set_self (by rw [tabsL_len]; exact hi)]
      congr 1
      exact eachL_congr fun s _ => by simp [mxF, hsF, show ltr l i ≠ 2 by omega]
    · rw [List.getElem?_set_ne (fun e2 => e e2.symm), tabsL_get _ _ _ _ hi]
      congr 1
      exact eachL_congr fun s _ => by
        have : (i < k + 1) = (i < k) := by apply propext; omega
        simp only [mxF, this]
  · rw [List.getElem?_eq_none (by rw [tabsL_len]; omega), List.getElem?_eq_none (by simp [tabsL_len]; omega)]

theorem TabsAt.drew {w : World} {g n : Nat} {bss : List (List Int)} (h : TabsAt w g n bss) : TabsAt w.drew g n bss := ⟨h.len, h.wide, h.room, h.range, h.lt⟩
theorem below_drew1 {B : Nat} {a w : World} (h : Below B a w) : Below B a w.drew := ⟨h.os, h.tape, h.output, h.size, h.block⟩
theorem TabsAt.stores {w : World} {g n : Nat} {bss : List (List Int)} (h : TabsAt w g n bss) (k : Nat) (hk : k < n) (arr : Array Value) (hs : arr.size = 33) (h1 : arr.all (·.oneCell') = true) :
    (storeCells ⟨g, k * 33, none⟩ arr.toList).run Tryz.prog w = .ok () (w.setCells g (k * 33) arr.toList) := by
  have := run_storeCells_cells (P := Tryz.prog) g (k * 33) arr.toList 0 w (fun j hj => by
    have hj' : j < 33 := by simpa [hs] using hj
    have := h.room (k * 33 + j) (by omega)
    rw [Nat.zero_add] at this; exact this.1) (fun j hj => by
    have hj' : j < 33 := by simpa [hs] using hj
    have := h.room (k * 33 + j) (by omega)
    rw [Nat.zero_add] at this; exact this.2) (fun v hv => (Array.all_eq_true_iff_forall_mem.1 h1) v (by simpa using hv))
  simpa using this

set_option maxRecDepth 100000 in
set_option maxHeartbeats 4000000 in
theorem hsI_ok (s t : ByteArray) (w : World) (hs : s.size ≤ 1048576) (ht : t.size ≤ 1048576) (hm : MaxLenIs w) :
    Calls Tryz.prog 7 #[.string s, .string t] w fun e w' => e = .returned (.tuple #[.string (hsT (cutsP 44 s) t.data.toList), .bool (htB (cutsP 44 s) t.data.toList)]) ∧ Below w.heap.size w w' := by
  have b0 : Below w.heap.size w (w.alloc (.cells #[.string t] 9)) := (Below.refl _ _).alloc (Nat.le_refl _) _
  have HO := Lib.hid (termOf_ok s t (w.alloc (.cells #[.string t] 9)) hs ht (hm.below b0 (Nat.le_refl _)))
  have hp0 := cutsP_pos 44 s
  have c0 : (w.alloc (.cells #[.string t] 9)).cell? ⟨w.heap.size, 0, none⟩ = some (.string t) := (Blk.new w 9 [.string t]).cell (i := 0) rfl
  have s0 : (w.alloc (.cells #[.string t] 9)).heap.size = w.heap.size + 1 := by simp
  have B0 := Lib.hid b0
  have C0 := Lib.hid c0
  have S0 := Lib.hid s0
  clear b0 s0
  generalize cutsP 44 s = ps at HO hp0 ⊢
  cases hb : htB ps t.data.toList with
  | false =>
    have HV := Lib.hid (hsT_no hb)
    rw [hb] at HO
    clear hb
    go_enter Tryz.func7, Tryz.ntmps7
    go_wp2_with fail
    refine HO.out.mono ?_
    rintro e w1 ⟨v, rfl, o1, b1⟩
    clear o1
    go_wp2_with fail
    go_ret2
    exact ⟨ret2h HV.out.symm rfl, B0.out.trans (b1.mono B0.out.size)⟩
  | true =>
    rw [hb] at HO
    have HV := Lib.hid (hsT_yes hb)
    obtain ⟨hn, hz, hT⟩ := ht_get hb
    have h5 := net_le hn hp0
    have hp : (2 ^ ps.length : Nat) ≤ 32 := Nat.pow_le_pow_right (n := 2) (by decide) h5
    have HN := Lib.hid (netN_yes hn)
    have HMx := Lib.hid (mx_zero t.data.toList hn)
    have HLast := Lib.hid (mx_last ps t.data.toList)
    have HLen := Lib.hid (bitsN_len ps ps.length)
    have HW := Lib.hid (bitsN_wide ps ps.length)
    have HT := Lib.hid hT
    have HLt : Hid (t.data.toList.length = t.size) := rfl
    have HF : Hid (∀ k s, k < ps.length → s < 2 ^ ps.length → hsF ps t.data.toList k s < 2) := fun k s hk _ => by
      unfold hsF
      split
      · exact bitN_lt (netB_get hn k hk).1 s
      · have := ltr_lt hT k; omega
    clear hb hn hT
    go_enter Tryz.func7, Tryz.ntmps7
    go_wp2_with fail
    refine HO.out.mono ?_
    rintro e w1 ⟨v, rfl, o1, b1⟩
    rw [HN.out] at o1
    obtain ⟨g, c, rfl, hcl, hcm, hg, ht0⟩ := o1.tabsAt HW.out HLen.out hp0
    rw [HMx.out] at ht0
    have T0 := Lib.hid ht0
    have B1 := Lib.hid b1
    clear o1 b1 ht0
    go_wp2_with fail
    generalize hw0 : w.alloc (.cells #[.string t] 9) = w0 at B0 C0 S0 T0 B1 ⊢
    have hg0 : w0.heap.size ≤ g := by rw [← hw0]; exact hg
    clear hw0 hg
    go_loopw [19] (fun q wr => ∃ k : Nat, k ≤ ps.length ∧ q = .int .i64 k ∧ TabsAt wr g ps.length (tabsL (mxF ps t.data.toList k) ps.length ps.length) ∧ Below w0.heap.size w0 wr) (fun q _ => ps.length - (intOf q).toNat)
    case atStart => exact ⟨0, Nat.zero_le _, rfl, T0.out, B1.out⟩
    case round =>
      obtain ⟨k, hk, rfl, hTt, hb⟩ := hrel
      have HTt := Lib.hid hTt
      have HB := Lib.hid hb
      clear hTt hb
      by_cases hlt : k < ps.length
      · have hlt' : (k : Int) < (ps.length : Int) := by omega
        have hkt : k < t.size := by omega
        have hktw : (k : Int) < (t.size : Int) := by omega
        have hbyte := bytes_get t k hkt
        have e1 : Below w0.heap.size w0 (wr.alloc (.cells #[.int .i64 k] 3)) := HB.out.alloc HB.out.size _
        have d1 : (wr.alloc (.cells #[.int .i64 k] 3)).cell? ⟨wr.heap.size, 0, none⟩ = some (.int .i64 k) := (Blk.new wr 3 [.int .i64 k]).cell (i := 0) rfl
        have hbel : Below wr.heap.size wr (wr.alloc (.cells #[.int .i64 k] 3)) := (Below.refl _ _).alloc (Nat.le_refl _) _
        have T1 := Lib.hid (HTt.out.below hbel (Nat.le_refl _))
        have c3 : (wr.alloc (.cells #[.int .i64 k] 3)).cell? ⟨w.heap.size, 0, none⟩ = some (.string t) := (e1.cell (p := ⟨w.heap.size, 0, none⟩) (by show w.heap.size < w0.heap.size; rw [S0.out]; omega)).trans C0.out
        have E1 := Lib.hid e1
        have D1 := Lib.hid d1
        have C3 := Lib.hid c3
        clear hbel e1
        by_cases hst : t.data.toList.getD k 42 = 42
        · have hb1 : (((t[k].toNat : Nat) : Int) != 42) = false := by rw [hbyte, hst]; rfl
          have HS := Lib.hid (mx_star (ps := ps) (ltr_star hst))
          clear hst hbyte
          go_wp2_with fail
          go_roundw
          case rel => exact ⟨k + 1, by omega, by go_num, by rw [HS.out]; exact T1.out, E1.out⟩
          case measure => simp [intOf] <;> omega
        · obtain ⟨hd1, hd2⟩ := ltr_dig HT.out (by rw [HLt.out]; exact hkt) hst
          rw [← hbyte] at hd1
          have hb1 : (((t[k].toNat : Nat) : Int) != 42) = true := by rw [hd1]; simp; omega
          have HS := Lib.hid (mx_set (ps := ps) hlt hd2)
          have hdi : ((t[k].toNat : Nat) : Int) = 48 + (ltr t.data.toList k : Nat) := hd1
          have hl0 : k < ps.length := hlt
          have HL := Lib.hid (eachL_len (fun _ => ((ltr t.data.toList k : Nat) : Int)) (2 ^ ps.length))
          have HEk := Lib.hid (fun (W1 : World) (D1 : W1.cell? ⟨wr.heap.size, 0, none⟩ = some (.int .i64 k)) (C3 : W1.cell? ⟨w.heap.size, 0, none⟩ = some (.string t)) =>
            each_ok ps.length h5 25 #[.pointer (some ⟨w.heap.size, 0, none⟩), .pointer (some ⟨wr.heap.size, 0, none⟩)] (fun _ => ((ltr t.data.toList k : Nat) : Int)) W1 (fun _ _ => by kernel_rfl)
              (fun s hs W hW => hsClosure_ok s k w.heap.size wr.heap.size (ltr t.data.toList k) t W hkt hdi hd2
                ((hW.cell (p := ⟨w.heap.size, 0, none⟩) (World.block_lt_of_cell? W1 ⟨w.heap.size, 0, none⟩ C3)).trans C3) ((hW.cell (p := ⟨wr.heap.size, 0, none⟩) (World.block_lt_of_cell? W1 ⟨wr.heap.size, 0, none⟩ D1)).trans D1)))
          clear hst hbyte hd1 hdi
          generalize eachL (fun _ => ((ltr t.data.toList k : Nat) : Int)) (2 ^ ps.length) = bs at HS HL HEk
          obtain ⟨arr, hA⟩ : ∃ arr, arr = (tabC (ps.length : Int) bs).toArray := ⟨_, rfl⟩
          have hAV : tabV (ps.length : Int) bs = .agg arr := by rw [hA]; rfl
          have hAz : arr.size = 33 := by rw [hA]; simp [tabC_len, HL.out]
          have HSt := Lib.hid (fun (W : World) (T : TabsAt W g ps.length (tabsL (mxF ps t.data.toList k) ps.length ps.length)) => T.stores k hl0 arr hAz (by rw [hA]; exact tabC_one _ _))
          have HEnd := Lib.hid (fun (W : World) (T : TabsAt W g ps.length (tabsL (mxF ps t.data.toList k) ps.length ps.length)) => T.set k hl0 bs HL.out)
          have HA : Hid (arr.toList = tabC (ps.length : Int) bs) := by unfold Hid; rw [hA]
          rw [hAV] at HEk
          clear hAV hA
          go_wp2_with fail
          go_region_with (first | (go_at_call 24; refine (HEk.out _ ?_ ?_).mono ?_; (first | exact D1.out | (have := D1.out; simpa using this)); (first | exact C3.out | (have := C3.out; simpa using this)); rintro e w5 ⟨rfl, b5⟩; have HT5 := Lib.hid (T1.out.drew.below b5 (Nat.le_refl _)); have HB5 := Lib.hid ((below_drew1 E1.out).trans (b5.mono (below_drew1 E1.out).size)); have hst5 := HSt.out w5 HT5.out; have d5 := (b5.cell (p := ⟨wr.heap.size, 0, none⟩) (World.block_lt_of_cell? _ ⟨wr.heap.size, 0, none⟩ D1.out)).trans D1.out))
          all_goals
            go_wp2_with fail
            go_roundw
            case rel => exact ⟨k + 1, by omega, by go_num, by rw [HS.out, HA.out]; exact HEnd.out _ HT5.out, below_setCells g hg0 _ _ _ HB5.out⟩
            case measure => simp [intOf] <;> omega
      · obtain rfl : k = ps.length := by omega
        have hkw : ¬ (ps.length : Int) < (ps.length : Int) := by omega
        have HNt := Lib.hid (netText_ok (some ⟨g, 0, none⟩) ps.length c (hsF ps t.data.toList) wr (by
          have := HTt.out.rowN hcl hcm
          rw [HLast.out] at this; exact this) ⟨hp0, h5⟩ HF.out)
        go_wp2_with fail
        refine HNt.out.mono ?_
        rintro e w4 ⟨rfl, b4⟩
        go_wp2_with fail
        go_ret2
        exact ⟨ret2h HV.out.symm rfl, (B0.out.trans (HB.out.mono B0.out.size)).trans (b4.mono (by have := B0.out.size; have := HB.out.size; omega))⟩

end Go.Proofs.YtklegalmacekcaaGreatDoor
/- What a term spreads to: plain. -/
namespace Go.Proofs.YtklegalmacekcaaGreatDoor
open Go.RowKit

theorem bits_ex (f : Nat → Nat) (hf : ∀ i, f i < 2) : ∀ n, ∃ s, s < 2 ^ n ∧ ∀ i, i < n → bN s i = f i
  | 0 => ⟨0, by simp, fun i hi => absurd hi (Nat.not_lt_zero _)⟩
  | n + 1 => by
    obtain ⟨s, h1, h2⟩ := bits_ex f hf n
    have hv := hf n
    refine ⟨s + f n * 2 ^ n, ?_, fun i hi => ?_⟩
    · rw [Nat.pow_succ]
      rcases (show f n = 0 ∨ f n = 1 by omega) with e | e <;> rw [e] <;> omega
    · have hp : 0 < 2 ^ i := Nat.two_pow_pos _
      by_cases e : i = n
      · subst e
        unfold bN
        rw [Nat.add_mul_div_right _ _ hp, Nat.div_eq_of_lt h1]
        omega
      · have hi' : i < n := by omega
        rw [← h2 i hi']
        unfold bN
        have e2 : (2 : Nat) ^ n = 2 * 2 ^ (n - i - 1) * 2 ^ i := by
          rw [← Nat.pow_succ', ← Nat.pow_add]
          congr 1
          omega
        rw [e2, ← Nat.mul_assoc, Nat.add_mul_div_right _ _ hp, ← Nat.mul_assoc, Nat.mul_comm (f n) 2, Nat.mul_assoc]
        omega
/-- A term has a state. -/
theorem term_has {l : List UInt8} (hl : l.all isT = true) : ∃ s, s < 2 ^ l.length ∧ hasT l s = true := by
  obtain ⟨s, h1, h2⟩ := bits_ex (fun i => if ltr l i = 1 then 1 else 0) (fun i => by split <;> decide) l.length
  refine ⟨s, h1, hasT_yes fun i hi => ?_⟩
  have := ltr_lt hl i
  rw [letB, h2 i hi]
  rcases (show ltr l i = 0 ∨ ltr l i = 1 ∨ ltr l i = 2 by omega) with e | e | e <;> simp [e]


/-- Whether a state of a term leads a switch to a value. -/
def toB (ps : List ByteArray) (l : List UInt8) (i v : Nat) : Bool := (List.range (2 ^ l.length)).any fun s => hasT l s && (bitN ps i s == v)
theorem toB_yes {ps : List ByteArray} {l : List UInt8} {i v s : Nat} (h : s < 2 ^ l.length) (hs : hasT l s = true) (hv : bitN ps i s = v) : toB ps l i v = true := by
  rw [toB, List.any_eq_true]
  exact ⟨s, List.mem_range.2 h, by simp [hs, hv]⟩
theorem toB_get {ps : List ByteArray} {l : List UInt8} {i v : Nat} (h : toB ps l i v = true) : ∃ s, s < 2 ^ l.length ∧ hasT l s = true ∧ bitN ps i s = v := by
  rw [toB, List.any_eq_true] at h
  obtain ⟨s, h1, h2⟩ := h
  rw [Bool.and_eq_true, beq_iff_eq] at h2
  exact ⟨s, List.mem_range.1 h1, h2.1, h2.2⟩
/-- The letter of a switch after a round. -/
def spC (ps : List ByteArray) (l : List UInt8) (i : Nat) : UInt8 := if l.getD i 42 = 42 then (if toB ps l i 0 = false then 49 else if toB ps l i 1 = false then 48 else 42) else l.getD i 42
def spR (ps : List ByteArray) (l : List UInt8) : List UInt8 := (List.range l.length).map (spC ps l)
theorem spR_len (ps : List ByteArray) (l : List UInt8) : (spR ps l).length = l.length := by simp [spR]
theorem spR_get {ps : List ByteArray} {l : List UInt8} {i : Nat} (h : i < l.length) : (spR ps l).getD i 42 = spC ps l i := by simp [spR, List.getD, h]
theorem spC_star {ps : List ByteArray} {l : List UInt8} {i : Nat} (h : spC ps l i = 42) : l.getD i 42 = 42 := by
  unfold spC at h
  split at h
  · assumption
  · exact h
theorem spC_isT {ps : List ByteArray} {l : List UInt8} {i : Nat} (hl : l.all isT = true) (hi : i < l.length) : isT (spC ps l i) = true := by
  unfold spC
  split
  · split
    · decide
    · split <;> decide
  · have e : l.getD i 42 = l[i] := by simp [List.getD, hi]
    rw [e]
    exact List.all_eq_true.1 hl _ (List.getElem_mem hi)
theorem spR_isT {ps : List ByteArray} {l : List UInt8} (hl : l.all isT = true) : (spR ps l).all isT = true := by
  rw [List.all_eq_true]
  intro c hc
  simp only [spR, List.mem_map, List.mem_range] at hc
  obtain ⟨i, hi, rfl⟩ := hc
  exact spC_isT hl hi
/-- How many stars a term has. -/
def stars (l : List UInt8) : Nat := cnt (fun i => l.getD i 42 == 42) l.length
theorem stars_le (l : List UInt8) : stars l ≤ l.length := cnt_bound _ _
theorem stars_spR (ps : List ByteArray) (l : List UInt8) : stars (spR ps l) = cnt (fun i => spC ps l i == 42) l.length := by
  unfold stars cnt
  rw [spR_len]
  congr 1
  apply List.filter_congr
  intro i hi
  rw [spR_get (by simpa using hi)]
/-- Whether a round changes one of the first k letters. -/
def chgB (ps : List ByteArray) (l : List UInt8) (k : Nat) : Bool := (List.range k).any fun i => l.getD i 42 == 42 && spC ps l i != 42
theorem chgB_next (ps : List ByteArray) (l : List UInt8) (k : Nat) : chgB ps l (k + 1) = (chgB ps l k || (l.getD k 42 == 42 && spC ps l k != 42)) := by simp [chgB, List.range_succ]
theorem chg_stars {ps : List ByteArray} {l : List UInt8} (h : chgB ps l l.length = true) : stars (spR ps l) < stars l := by
  rw [stars_spR]
  rw [chgB, List.any_eq_true] at h
  obtain ⟨i, hi, h2⟩ := h
  rw [Bool.and_eq_true] at h2
  exact cnt_lt _ (fun j _ hj => by simpa using spC_star (by simpa using hj)) ⟨i, by simpa using hi, h2.1, by simpa using h2.2⟩
theorem chg_same {ps : List ByteArray} {l : List UInt8} (h : chgB ps l l.length = false) : spR ps l = l := by
  apply List.ext_getElem?
  intro i
  by_cases hi : i < l.length
  · have h3 : (spR ps l)[i]? = some (spC ps l i) := by simp [spR, hi]
    have e : l.getD i 42 = l[i] := by simp [List.getD, hi]
    rw [h3, List.getElem?_eq_getElem hi]
    congr 1
    rw [chgB, List.any_eq_false] at h
    have := h i (List.mem_range.2 hi)
    by_cases hs : l.getD i 42 = 42
    · have hc : spC ps l i = 42 := by
        rw [hs] at this
        simpa using this
      rw [hc, ← e, hs]
    · rw [spC, if_neg hs, e]
  · rw [List.getElem?_eq_none (by rw [spR_len]; omega), List.getElem?_eq_none (by omega)]
theorem same_chg {ps : List ByteArray} {l : List UInt8} (h : spR ps l ≠ l) : chgB ps l l.length = true := by
  cases hc : chgB ps l l.length with
  | true => rfl
  | false => exact absurd (chg_same hc) h

/-- Rounds, one after the other. -/
def spN (ps : List ByteArray) (l : List UInt8) : Nat → List UInt8
  | 0 => l
  | k + 1 => spR ps (spN ps l k)
theorem spN_len (ps : List ByteArray) (l : List UInt8) : ∀ k, (spN ps l k).length = l.length
  | 0 => rfl
  | k + 1 => by rw [spN, spR_len]; exact spN_len ps l k
theorem spN_isT {ps : List ByteArray} {l : List UInt8} (hl : l.all isT = true) : ∀ k, (spN ps l k).all isT = true
  | 0 => hl
  | k + 1 => spR_isT (spN_isT hl k)
theorem spN_fix {ps : List ByteArray} {l : List UInt8} {k : Nat} (h : spR ps (spN ps l k) = spN ps l k) : ∀ m, k ≤ m → spN ps l m = spN ps l k
  | 0, hm => by
    obtain rfl : k = 0 := by omega
    rfl
  | m + 1, hm => by
    by_cases e : k = m + 1
    · rw [e]
    · rw [spN, spN_fix h m (by omega), h]
/-- What a term spreads to. -/
def spL (ps : List ByteArray) (l : List UInt8) : List UInt8 := spN ps l 5
theorem spL_len (ps : List ByteArray) (l : List UInt8) : (spL ps l).length = l.length := spN_len ps l 5
theorem spL_eq {ps : List ByteArray} {l : List UInt8} {k : Nat} (h : spR ps (spN ps l k) = spN ps l k) (hk : k ≤ 5) : spN ps l k = spL ps l := (spN_fix h 5 hk).symm

/-- The value that all states of a term lead a switch to, or -1. -/
def frcV (ps : List ByteArray) (l : List UInt8) (i : Nat) : Int := if toB ps l i 0 = false then 1 else if toB ps l i 1 = false then 0 else -1
theorem frcV_range (ps : List ByteArray) (l : List UInt8) (i : Nat) : frcV ps l i = -1 ∨ frcV ps l i = 0 ∨ frcV ps l i = 1 := by
  unfold frcV
  split
  · exact .inr (.inr rfl)
  · split
    · exact .inr (.inl rfl)
    · exact .inl rfl
theorem spC_frc {ps : List ByteArray} {l : List UInt8} {i : Nat} (h : l.getD i 42 = 42) : spC ps l i = if frcV ps l i = 1 then 49 else if frcV ps l i = 0 then 48 else 42 := by
  unfold spC frcV
  rw [if_pos h]
  by_cases h0 : toB ps l i 0 = false
  · simp [h0]
  · by_cases h1 : toB ps l i 1 = false <;> simp [h0, h1]
theorem frc_same {ps : List ByteArray} {l : List UInt8} {i s0 : Nat} (h0 : s0 < 2 ^ l.length) (hs0 : hasT l s0 = true) (hb : bitN ps i s0 < 2) (h : ∀ s, s < 2 ^ l.length → hasT l s = true → bitN ps i s = bitN ps i s0) : frcV ps l i = (bitN ps i s0 : Nat) := by
  have hn : ∀ v, v ≠ bitN ps i s0 → toB ps l i v = false := fun v hv => by
    cases hc : toB ps l i v with
    | false => rfl
    | true =>
      obtain ⟨s, h1, h2, h3⟩ := toB_get hc
      exact absurd (h3.symm.trans (h s h1 h2)) hv
  have hy := toB_yes (ps := ps) (i := i) h0 hs0 rfl
  rcases (show bitN ps i s0 = 0 ∨ bitN ps i s0 = 1 by omega) with e | e
  · rw [e] at hy hn ⊢
    rw [frcV, if_neg (by rw [hy]; decide), if_pos (hn 1 (by decide))]
    rfl
  · rw [e] at hn ⊢
    rw [frcV, if_pos (hn 0 (by decide))]
    rfl
theorem frc_two {ps : List ByteArray} {l : List UInt8} {i s0 s1 : Nat} (h0 : s0 < 2 ^ l.length) (hs0 : hasT l s0 = true) (hb : bitN ps i s0 < 2) (h1 : s1 < 2 ^ l.length) (hs1 : hasT l s1 = true) (hb1 : bitN ps i s1 < 2) (hne : bitN ps i s1 ≠ bitN ps i s0) : frcV ps l i = -1 := by
  have hy := toB_yes (ps := ps) (i := i) h0 hs0 rfl
  have hy1 := toB_yes (ps := ps) (i := i) h1 hs1 rfl
  have : toB ps l i 0 = true ∧ toB ps l i 1 = true := by
    rcases (show bitN ps i s0 = 0 ∨ bitN ps i s0 = 1 by omega) with e | e
    · rw [e] at hy hne
      rw [show bitN ps i s1 = 1 by omega] at hy1
      exact ⟨hy, hy1⟩
    · rw [e] at hy hne
      rw [show bitN ps i s1 = 0 by omega] at hy1
      exact ⟨hy1, hy⟩
  rw [frcV, if_neg (by rw [this.1]; decide), if_neg (by rw [this.2]; decide)]

end Go.Proofs.YtklegalmacekcaaGreatDoor
/- Walks: what a term spreads to, by the reference. -/
namespace Go.Proofs.YtklegalmacekcaaGreatDoor
open Go.RowKit

set_option maxHeartbeats 4000000 in
theorem l6Forced_ok (ps : List ByteArray) (i : Nat) (t : ByteArray) (w : World) (hn : netB ps = true) (hi : i < ps.length) (ht : t.data.toList.all isT = true) (hz : t.size = ps.length) (h5 : ps.length ≤ 5) :
    Calls Tryz.prog 44 #[.string (gT ps i), .string t] w fun e w' => e = .returned (.int .i64 (frcV ps t.data.toList i)) ∧ Below w.heap.size w w' := by
  have hp : (2 ^ t.size : Nat) ≤ 32 := Nat.pow_le_pow_right (n := 2) (by decide) (show t.size ≤ 5 by omega)
  have HS := Lib.hid (l6States_ok t w ht (by omega))
  have hd := (netB_get hn i hi).1
  have hsz := net_size hn i hi
  have HAt := Lib.hid (fun s W (hs : s < 2 ^ t.size) => by
    have := l1At_ok (gT ps i) s W (by rw [hsz, ← hz]; exact hs)
    rw [bitN_eq hd s] at this; exact this)
  have HB := Lib.hid (fun s => bitN_lt hd s)
  have HLt : Hid (t.data.toList.length = t.size) := rfl
  have HG := Lib.hid (fun k (h : k < (stL t.data.toList (2 ^ t.size)).length) => stL_get h)
  have hpos : 0 < (stL t.data.toList (2 ^ t.size)).length := by
    obtain ⟨s, h1, h2⟩ := term_has ht
    obtain ⟨j, hj, _⟩ := stL_mem (l := t.data.toList) h1 h2
    exact Nat.lt_of_le_of_lt (Nat.zero_le _) hj
  have hmax := stL_len t.data.toList (2 ^ t.size)
  obtain ⟨s0, e0, h0, hs0⟩ := stL_get hpos
  have HSame := Lib.hid (fun (h : ∀ k, k < (stL t.data.toList (2 ^ t.size)).length → bitN ps i (gI (stL t.data.toList (2 ^ t.size)) k).toNat = bitN ps i s0) => frc_same (ps := ps) (l := t.data.toList) (i := i) h0 hs0 (bitN_lt hd s0) (fun s h1 h2 => by
    obtain ⟨j, hj, ej⟩ := stL_mem (l := t.data.toList) h1 h2
    have := h j hj
    have ej' : gI (stL t.data.toList (2 ^ t.size)) j = (s : Int) := ej
    rw [ej', Int.toNat_natCast] at this
    exact this))
  have HTwo := Lib.hid (fun s1 (h1 : s1 < 2 ^ t.size) (hs1 : hasT t.data.toList s1 = true) (hne : bitN ps i s1 ≠ bitN ps i s0) => frc_two (ps := ps) (l := t.data.toList) (i := i) h0 hs0 (bitN_lt hd s0) h1 hs1 (bitN_lt hd s1) hne)
  have HA0 := Lib.hid (fun W => HAt.out s0 W h0)
  have hb0 := bitN_lt hd s0
  clear hd hsz ht hn hs0
  generalize (2 ^ t.size : Nat) = N at hp HS HAt HG hpos hmax HSame HTwo h0 e0
  generalize stL t.data.toList N = L at HS HG hpos hmax HSame e0
  generalize gT ps i = f at HAt HA0 ⊢
  go_enter Tryz.func44, Tryz.ntmps44
  go_wp2_with fail
  refine HS.out.mono ?_
  rintro e w1 ⟨v, rfl, o1, b1⟩
  obtain ⟨ao, c, rfl, q1⟩ := o1.out
  have R1 := Lib.hid q1.rowI
  have B1 := Lib.hid b1
  clear o1 q1 b1
  go_wp2_with fail
  go_loopw [6] (fun q wr => ∃ k : Nat, 1 ≤ k ∧ k ≤ L.length ∧ q = .int .i64 k ∧ (∀ j, j < k → bitN ps i (gI L j).toNat = bitN ps i s0) ∧ Below w1.heap.size w1 wr) (fun q _ => L.length - (intOf q).toNat)
  case atStart => exact ⟨1, Nat.le_refl _, hpos, rfl, fun j hj => by
      obtain rfl : j = 0 := by omega
      rw [e0, Int.toNat_natCast], Below.refl _ _⟩
  case round =>
    obtain ⟨k, hk1, hk, rfl, hall, hb⟩ := hrel
    have HA := Lib.hid hall
    have HBk := Lib.hid hb
    have R := R1.out.below hb (Nat.le_refl _)
    obtain ⟨b, o, rfl, hbo⟩ := R.2.some hpos
    have hc0 := R.2.cell b o rfl 0 hpos
    rw [e0, Nat.add_zero] at hc0
    clear hall hb
    by_cases hlt : k < L.length
    · have hlt' : (k : Int) < (L.length : Int) := by omega
      have hlpos : (0 : Int) < (L.length : Int) := by omega
      obtain ⟨sk, ek, h1, h2⟩ := HG.out k hlt
      have hck := R.2.cell b o rfl k hlt
      rw [ek] at hck
      have HAk := Lib.hid (fun W => HAt.out sk W h1)
      have hbk := HB.out sk
      have HTk := Lib.hid (HTwo.out sk h1 h2)
      have HEk : Hid (∀ x, bitN ps i sk = x → bitN ps i (gI L k).toNat = x) := fun x hx => by rw [ek, Int.toNat_natCast]; exact hx
      clear ek h2 R
      by_cases hu : bitN ps i sk = bitN ps i s0
      · have hbq : (((bitN ps i sk : Nat) : Int) != ((bitN ps i s0 : Nat) : Int)) = false := by rw [hu]; simp
        have HQ := Lib.hid (HEk.out _ hu)
        clear hu
        go_wp2_with fail
        go_quiet ((go_at_call 73; exact Calls.quiet_of_same (sameW (HAt.out _ _ (by assumption)))))
        go_wp2_with fail
        go_roundw
        case rel => exact ⟨k + 1, by omega, by omega, by go_num, fun j hj => by
            by_cases e : j = k
            · rw [e]; exact HQ.out
            · exact HA.out j (by omega), HBk.out.trans ⟨rfl, rfl, rfl, Nat.le_refl _, fun _ _ => rfl⟩⟩
        case measure => simp [intOf]; omega
      · have hbq : (((bitN ps i sk : Nat) : Int) != ((bitN ps i s0 : Nat) : Int)) = true := by simp; omega
        have HQ := Lib.hid (HTk.out hu)
        clear hu
        go_wp2_with fail
        go_quiet ((go_at_call 73; exact Calls.quiet_of_same (sameW (HAt.out _ _ (by assumption)))))
        go_wp2_with fail
        go_ret
        exact ⟨congrArg (fun x => Ending.returned (.int .i64 x)) HQ.out.symm, (B1.out.trans (HBk.out.mono B1.out.size)).trans ⟨rfl, rfl, rfl, Nat.le_refl _, fun _ _ => rfl⟩⟩
    · obtain rfl : k = L.length := by omega
      have HQ := Lib.hid (HSame.out HA.out)
      have hlpos : (0 : Int) < (L.length : Int) := by omega
      clear R
      go_wp2_with fail
      refine (HA0.out _).mono ?_
      rintro e w3 ⟨rfl, rfl⟩
      go_wp2_with fail
      go_ret
      exact ⟨congrArg (fun x => Ending.returned (.int .i64 x)) HQ.out.symm, B1.out.trans (HBk.out.mono B1.out.size)⟩

end Go.Proofs.YtklegalmacekcaaGreatDoor
/- Walks: l6Spread. -/
namespace Go.Proofs.YtklegalmacekcaaGreatDoor
open Go.RowKit

/-- The first k letters after a round. -/
def spX (ps : List ByteArray) (l : List UInt8) (k : Nat) : ByteArray := ⟨((List.range k).map (spC ps l)).toArray⟩
theorem spX_next (ps : List ByteArray) (l : List UInt8) (k : Nat) (x : ByteArray) (h : x = ⟨#[spC ps l k]⟩) : spX ps l k ++ x = spX ps l (k + 1) := by
  subst h
  apply ByteArray.ext
  simp [spX, List.range_succ]
theorem spX_size (ps : List ByteArray) (l : List UInt8) (k : Nat) : (spX ps l k).size = k := by simp [spX, ByteArray.size]
theorem spX_end (ps : List ByteArray) (l : List UInt8) : (spX ps l l.length).data.toList = spR ps l := by simp [spX, spR]
theorem dig_one (d : Nat) (h : d < 2) : digS [(d : Int)] = ⟨#[UInt8.ofNat (48 + d)]⟩ := by
  rcases (show d = 0 ∨ d = 1 by omega) with rfl | rfl <;> rfl
def strL : Value → List UInt8
  | .string b => b.data.toList
  | _ => []
def onB : Value → Bool
  | .bool b => b
  | _ => false
theorem bytes_eq {a b : ByteArray} (h : a.data.toList = b.data.toList) : a = b := by
  apply ByteArray.ext
  exact Array.toList_inj.1 h

set_option maxRecDepth 100000 in
set_option maxHeartbeats 4000000 in
theorem l6Spread_ok (ao : Option Addr) (n c : Nat) (ps : List ByteArray) (t0 : ByteArray) (w : World) (h : RowT w ao n c ps) (hn : netB ps = true) (ht : t0.data.toList.all isT = true) (hz : t0.size = ps.length) (h5 : n ≤ 5) :
    Calls Tryz.prog 22 #[.slice ao n c, .string t0] w fun e w' => e = .returned (.string ⟨(spL ps t0.data.toList).toArray⟩) ∧ Below w.heap.size w w' := by
  obtain rfl := h.1
  have HF := Lib.hid (fun i tb W (hi : i < ps.length) (htb : tb.data.toList.all isT = true) (hzb : tb.size = ps.length) => l6Forced_ok ps i tb W hn hi htb hzb h5)
  have HT := Lib.hid (fun k => spN_isT (ps := ps) ht k)
  have HLn := Lib.hid (fun k => spN_len ps t0.data.toList k)
  have HZ : Hid (t0.data.toList.length = ps.length) := hz
  have hst0 : stars t0.data.toList ≤ 5 := Nat.le_trans (stars_le _) (by rw [HZ.out]; exact h5)
  clear hn ht hz
  go_enter Tryz.func22, Tryz.ntmps22
  go_wp2_with fail
  go_loopw [1, 5] (fun v1 v5 wr => ∃ k tb b, v1 = .string tb ∧ v5 = .bool b ∧ tb.data.toList = spN ps t0.data.toList k ∧ k + stars tb.data.toList ≤ 5 ∧ (b = false → spR ps tb.data.toList = tb.data.toList) ∧ Below w.heap.size w wr) (fun v1 v5 _ => if onB v5 = true then stars (strL v1) + 1 else 0)
  case atStart => exact ⟨0, t0, true, rfl, rfl, rfl, by omega, (fun h => nomatch h), Below.refl _ _⟩
  case round =>
    obtain ⟨k, tb, b, rfl, rfl, hT, hk, hfx, hb⟩ := hrel
    have htT : tb.data.toList.all isT = true := by rw [hT]; exact HT.out k
    have htl : tb.data.toList.length = ps.length := by rw [hT, HLn.out k]; exact HZ.out
    have htz : tb.size = ps.length := htl
    have HTb := Lib.hid hT
    have HK := Lib.hid hk
    have HFx := Lib.hid hfx
    have HB := Lib.hid hb
    clear hT hk hfx hb
    cases b with
    | false =>
      have hfix := HFx.out rfl
      have HV : Hid (tb = ⟨(spL ps t0.data.toList).toArray⟩) := by
        have h3 := HTb.out
        have hk5 := HK.out
        rw [h3] at hfix
        rw [spL_eq hfix (by omega)] at h3
        exact bytes_eq (by simpa using h3)
      clear hfix htT htl htz
      go_wp2_with fail
      go_ret
      exact ⟨rett HV.out, HB.out⟩
    | true =>
      have HTt := Lib.hid htT
      have HTl := Lib.hid htl
      have HTz := Lib.hid htz
      clear htT htl htz
      obtain ⟨wo, hwo⟩ : ∃ wo : World, wo = wr := ⟨_, rfl⟩
      go_wp2_with fail
      subst hwo
      go_loopw [5, 6, 7] (fun v5 v6 v7 wr => ∃ i : Nat, i ≤ ps.length ∧ v7 = .int .i64 i ∧ v6 = .string (spX ps tb.data.toList i) ∧ v5 = .bool (chgB ps tb.data.toList i) ∧ Below w.heap.size w wr) (fun _ _ v7 _ => ps.length - (intOf v7).toNat)
      case atStart => exact ⟨0, Nat.zero_le _, rfl, rfl, rfl, HB.out⟩
      case round =>
        obtain ⟨i, hi, rfl, rfl, rfl, hb⟩ := hrel
        have HB2 := Lib.hid hb
        clear hb
        by_cases hlt : i < ps.length
        · obtain ⟨q, o, rfl, hbo⟩ := h.2.some (by omega)
          have hcx := (h.below HB2.out (Nat.le_refl _)).2.cell q o rfl i hlt
          have hlt' : (i : Int) < (ps.length : Int) := by omega
          have hitt : i < tb.size := by rw [HTz.out]; exact hlt
          have hit : (i : Int) < (tb.size : Int) := by omega
          have hi1 : (i : Int) + 1 ≤ (tb.size : Int) := by omega
          have hbyte := bytes_get tb i hitt
          have HFi := Lib.hid (HF.out i tb wr hlt HTt.out HTz.out)
          have HNx := Lib.hid (spX_next ps tb.data.toList i)
          have HCn := Lib.hid (chgB_next ps tb.data.toList i)
          have hsz := spX_size ps tb.data.toList i
          have hex := extract_one tb i hitt
          have hgd : tb.data.toList.getD i 42 = tb[i] := at_getD tb i hitt
          have hfr := frcV_range ps tb.data.toList i
          generalize gT ps i = f at hcx HFi
          by_cases hst : tb.data.toList.getD i 42 = 42
          · have hb1 : (((tb[i].toNat : Nat) : Int) == 42) = true := by rw [hbyte, hst]; rfl
            have hC := spC_frc (ps := ps) hst
            by_cases hneg : frcV ps tb.data.toList i = -1
            · have hC2 : spC ps tb.data.toList i = 42 := by rw [hC, hneg]; rfl
              have HP := Lib.hid (HNx.out (tb.extract i (i + 1)) (by rw [hex, hC2, ← hst, hgd]))
              have HCh : Hid (chgB ps tb.data.toList (i + 1) = chgB ps tb.data.toList i) := by
                unfold Hid
                rw [HCn.out, hC2]; simp
              have hpz : (tb.extract i (i + 1)).size = 1 := by rw [hex]; rfl
              rw [hneg] at HFi
              clear hst hC hneg hC2 hex hgd hfr hbyte h
              generalize spX ps tb.data.toList i = u at hsz HP
              go_wp2_with fail
              refine HFi.out.mono ?_
              rintro e w2 ⟨rfl, b2⟩
              go_wp2_with fail
              go_roundw
              case rel => exact ⟨i + 1, by omega, by go_num, by rw [HP.out], by rw [HCh.out], HB2.out.trans (b2.mono HB2.out.size)⟩
              case measure => simp [intOf] <;> omega
            · obtain ⟨d, hd, hdl⟩ : ∃ d : Nat, frcV ps tb.data.toList i = (d : Int) ∧ d < 2 := by
                rcases hfr with e | e | e
                · exact absurd e hneg
                · exact ⟨0, e, by decide⟩
                · exact ⟨1, e, by decide⟩
              have hC2 : spC ps tb.data.toList i = UInt8.ofNat (48 + d) := by
                rw [hC, hd]
                rcases (show d = 0 ∨ d = 1 by omega) with rfl | rfl <;> rfl
              have HP := Lib.hid (HNx.out (digS [(d : Int)]) (by rw [dig_one d hdl, hC2]))
              have HCh : Hid (chgB ps tb.data.toList (i + 1) = true) := by
                unfold Hid
                rw [HCn.out, hst, hC2]
                rcases (show d = 0 ∨ d = 1 by omega) with rfl | rfl <;> simp
              have hpz : (digS [(d : Int)]).size ≤ 1 := by rw [digS_size]; simp
              have HD := Lib.hid (fun W => l14Dec_digit d (by omega) W)
              have hge : (0 : Int) ≤ (d : Int) := by omega
              rw [hd] at HFi
              clear hst hC hneg hC2 hex hgd hfr hbyte h hd
              generalize spX ps tb.data.toList i = u at hsz HP
              generalize digS [(d : Int)] = x at HP hpz HD
              go_wp2_with fail
              refine HFi.out.mono ?_
              rintro e w2 ⟨rfl, b2⟩
              have C2 := Lib.hid (HB2.out.trans (b2.mono HB2.out.size))
              clear b2
              go_wp2_with fail
              refine (HD.out _).mono ?_
              rintro e w3 ⟨rfl, b3⟩
              go_wp2_with fail
              go_roundw
              case rel => exact ⟨i + 1, by omega, by go_num, by rw [HP.out], by rw [HCh.out], C2.out.trans (b3.mono C2.out.size)⟩
              case measure => simp [intOf] <;> omega
          · have hb1 : (((tb[i].toNat : Nat) : Int) == 42) = false := by
              rw [beq_eq_false_iff_ne]
              intro e
              exact hst (by rw [hgd]; exact (star_iff _).2 e)
            have hC2 : spC ps tb.data.toList i = tb[i] := by rw [spC, if_neg hst, hgd]
            have HP := Lib.hid (HNx.out (tb.extract i (i + 1)) (by rw [hex, hC2]))
            have HCh : Hid (chgB ps tb.data.toList (i + 1) = chgB ps tb.data.toList i) := by
              unfold Hid
              rw [HCn.out]
              have : (tb.data.toList.getD i 42 == 42) = false := by rw [beq_eq_false_iff_ne]; exact hst
              rw [this]; simp
            have hpz : (tb.extract i (i + 1)).size = 1 := by rw [hex]; rfl
            clear hst hC2 hex hgd hfr hbyte h
            generalize spX ps tb.data.toList i = u at hsz HP
            generalize frcV ps tb.data.toList i = fv at HFi
            go_wp2_with fail
            refine HFi.out.mono ?_
            rintro e w2 ⟨rfl, b2⟩
            go_wp2_with fail
            go_roundw
            case rel => exact ⟨i + 1, by omega, by go_num, by rw [HP.out], by rw [HCh.out], HB2.out.trans (b2.mono HB2.out.size)⟩
            case measure => simp [intOf] <;> omega
        · obtain rfl : i = ps.length := by omega
          have hlt' : ¬ (ps.length : Int) < (ps.length : Int) := by omega
          have hl : tb.data.toList.length = ps.length := HTl.out
          have HX : Hid ((spX ps tb.data.toList ps.length).data.toList = spR ps tb.data.toList) := by
            unfold Hid
            rw [← hl]; exact spX_end _ _
          have HS : Hid (∀ k, tb.data.toList = spN ps t0.data.toList k → spR ps tb.data.toList = spN ps t0.data.toList (k + 1)) := fun k e => by rw [spN, ← e]
          have HK0 := HK.out
          cases hch : chgB ps tb.data.toList ps.length with
          | true =>
            have hlt2 := chg_stars (ps := ps) (l := tb.data.toList) (by rw [hl]; exact hch)
            have HR := Lib.hid hlt2
            clear h hl hch hlt2
            go_wp2_with fail
            go_roundw
            case rel => exact ⟨k + 1, _, true, rfl, rfl, by rw [HX.out]; exact HS.out k HTb.out, by rw [HX.out]; have := HR.out; omega, (fun h => nomatch h), HB2.out⟩
            case measure =>
              have e1 := HX.out
              have e2 := HR.out
              simp only [strL, onB]
              rw [e1]
              simp
              exact e2
          | false =>
            have hsm := chg_same (ps := ps) (l := tb.data.toList) (by rw [hl]; exact hch)
            have HR := Lib.hid hsm
            clear h hl hch hsm
            go_wp2_with fail
            go_roundw
            case rel => exact ⟨k, _, false, rfl, rfl, by rw [HX.out, HR.out]; exact HTb.out, by rw [HX.out, HR.out]; exact HK0, fun _ => by rw [HX.out, HR.out, HR.out], HB2.out⟩
            case measure => simp [onB]
end Go.Proofs.YtklegalmacekcaaGreatDoor
/- Walks: what a term spreads to, by the program. -/
namespace Go.Proofs.YtklegalmacekcaaGreatDoor
open Go.RowKit

/-- Bytes that may be written, from a block's start on. -/
structure ByAt (w : World) (g : Nat) (zs : List Int) : Prop where
  cell : ∀ k, k < zs.length → w.cell? ⟨g, k, none⟩ = some (.int .u8 (gI zs k))
  free : ∀ k, k < zs.length → w.frozen? ⟨g, k, none⟩ = false
  lt : g < w.heap.size
theorem ByAt.below {B : Nat} {w w' : World} {g : Nat} {zs : List Int} (h : ByAt w g zs) (hb : Below B w w') (hB : w.heap.size ≤ B) : ByAt w' g zs :=
  ⟨fun k hk => (hb.cell (p := ⟨g, k, none⟩) (Nat.lt_of_lt_of_le h.lt hB)).trans (h.cell k hk), fun k hk => (hb.frozen (p := ⟨g, k, none⟩) (Nat.lt_of_lt_of_le h.lt hB)).trans (h.free k hk), Nat.lt_of_lt_of_le h.lt hb.size⟩
theorem ByAt.drew {w : World} {g : Nat} {zs : List Int} (h : ByAt w g zs) : ByAt w.drew g zs := ⟨h.cell, h.free, h.lt⟩
theorem ByAt.set {w : World} {g : Nat} {zs : List Int} (h : ByAt w g zs) (k : Nat) (hk : k < zs.length) (v : Int) : ByAt (w.setCell ⟨g, k, none⟩ (.int .u8 v)) g (zs.set k v) := by
  refine ⟨fun i hi => ?_, fun i hi => ?_, by simpa [World.setCell] using h.lt⟩
  · have hi' : i < zs.length := by simpa using hi
    by_cases hik : i = k
    · subst hik
      rw [World.cell?_setCell_same' _ _ _ (by rw [h.cell i hk]; rfl)]
      simp [gI, List.getD, hk]
    · have hne : (⟨g, k, none⟩ : Addr) ≠ ⟨g, i, none⟩ := fun e => by
        have := congrArg Addr.off e
        simp at this
        omega
      have e1 : (w.setCell ⟨g, k, none⟩ (.int .u8 v)).cell? ⟨g, i, none⟩ = w.cell? ⟨g, i, none⟩ := by
        first | exact World.cell?_setCell_other _ _ _ hne | exact World.cell?_setCell_other _ _ _ _ hne
      rw [e1, h.cell i hi']
      simp [gI, List.getD, show ¬ k = i by omega]
  · have hi' : i < zs.length := by simpa using hi
    have := h.free i hi'
    simpa using this
/-- The bytes of a text. -/
def byZ (t : ByteArray) : List Int := t.data.toList.map fun b => ((b.toNat : Nat) : Int)
theorem byZ_len (t : ByteArray) : (byZ t).length = t.size := by rw [byZ, List.length_map]; rfl
theorem ByAt.conv (w : World) (t : ByteArray) (cap : Nat) (e : TypeId) (hc : t.size ≤ cap) : ByAt (w.alloc (.cells (bytesRow t cap) e ((bytesRow t cap).size, (bytesRow t cap).size + 1))) w.heap.size (byZ t) := by
  have hz : (bytesRow t cap).size = cap := by
    have e : t.data.size = t.size := rfl
    rw [bytesRow, Array.size_append, Array.size_map, Array.size_replicate, e]; omega
  refine ⟨fun k hk => ?_, fun k hk => ?_, by simp⟩
  · rw [byZ_len] at hk
    rw [World.cell?_alloc_mark, bytesRow_at t cap k hk]
    congr 2
    simp only [gI, byZ, List.getD_eq_getElem?_getD, List.getElem?_map, Array.getElem?_toList]
    rw [Array.getElem?_eq_getElem (show k < t.data.size from hk)]
    rfl
  · rw [byZ_len] at hk
    rw [World.frozen?_alloc_mark, hz]
    simp
    omega

/-- The letters while the first k are done. -/
def mzL (ps : List ByteArray) (l : List UInt8) (k : Nat) : List Int := (List.range l.length).map fun j => (((if j < k then spC ps l j else l.getD j 42).toNat : Nat) : Int)
theorem mzL_len (ps : List ByteArray) (l : List UInt8) (k : Nat) : (mzL ps l k).length = l.length := by simp [mzL]
theorem mzL_zero (ps : List ByteArray) (t : ByteArray) : mzL ps t.data.toList 0 = byZ t := by
  apply List.ext_getElem?
  intro i
  by_cases hi : i < t.data.toList.length
  · have h1 : (mzL ps t.data.toList 0)[i]? = some (((t.data.toList.getD i 42).toNat : Nat) : Int) := by simp only [mzL, List.getElem?_map, List.getElem?_range hi]; rfl
    have h2 : (byZ t)[i]? = some (((t.data.toList.getD i 42).toNat : Nat) : Int) := by
      rw [byZ, List.getElem?_map, List.getElem?_eq_getElem hi, List.getD, List.getElem?_eq_getElem hi]; rfl
    rw [h1, h2]
  · rw [List.getElem?_eq_none (by rw [mzL_len]; omega), List.getElem?_eq_none (by rw [byZ_len]; exact Nat.le_of_not_lt hi)]
theorem mzL_get {ps : List ByteArray} {l : List UInt8} {k : Nat} (h : k < l.length) : gI (mzL ps l k) k = (((l.getD k 42).toNat : Nat) : Int) := by
  simp [gI, mzL, h]
theorem mzL_set {ps : List ByteArray} {l : List UInt8} {k : Nat} (h : k < l.length) : (mzL ps l k).set k (((spC ps l k).toNat : Nat) : Int) = mzL ps l (k + 1) := by
  apply List.ext_getElem?
  intro i
  by_cases hi : i < l.length
  · have h2 : (mzL ps l (k + 1))[i]? = some (((if i < k + 1 then spC ps l i else l.getD i 42).toNat : Nat) : Int) := by simp only [mzL, List.getElem?_map, List.getElem?_range hi]; rfl
    rw [h2]
    by_cases e : i = k
    · subst e
      rw [List.getElem?_set_self (by rw [mzL_len]; exact hi), if_pos (by omega)]
    · have h1 : (mzL ps l k)[i]? = some (((if i < k then spC ps l i else l.getD i 42).toNat : Nat) : Int) := by simp only [mzL, List.getElem?_map, List.getElem?_range hi]; rfl
      rw [List.getElem?_set_ne (fun e2 => e e2.symm), h1]
      have : (i < k + 1) = (i < k) := by apply propext; omega
      simp only [this]
  · rw [List.getElem?_eq_none (by simp [mzL_len]; omega), List.getElem?_eq_none (by rw [mzL_len]; omega)]
theorem mzL_same {ps : List ByteArray} {l : List UInt8} {k : Nat} (h : spC ps l k = l.getD k 42) : mzL ps l (k + 1) = mzL ps l k := by
  unfold mzL
  apply List.map_congr_left
  intro j _
  by_cases e : j = k
  · subst e
    rw [if_pos (by omega), if_neg (by omega), h]
  · have : (j < k + 1) = (j < k) := by apply propext; omega
    simp only [this]
theorem mzL_end (ps : List ByteArray) (l : List UInt8) : strOfNums (mzL ps l l.length) = ⟨(spR ps l).toArray⟩ := by
  apply ByteArray.ext
  apply Array.ext'
  show (mzL ps l l.length).map (fun n => UInt8.ofNat n.toNat) = spR ps l
  unfold mzL spR
  rw [List.map_map]
  apply List.map_congr_left
  intro j hj
  have hj' : j < l.length := by simpa using hj
  simp [hj']

/-- Whether one of the first k states of a list leads a switch to a value. -/
def tzB (L : List Int) (ps : List ByteArray) (i v k : Nat) : Bool := (List.range k).any fun j => bitN ps i (gI L j).toNat == v
theorem tzB_next (L : List Int) (ps : List ByteArray) (i v k : Nat) : tzB L ps i v (k + 1) = (tzB L ps i v k || bitN ps i (gI L k).toNat == v) := by simp [tzB, List.range_succ]
theorem tzB_end (l : List UInt8) (ps : List ByteArray) (i v : Nat) : tzB (stL l (2 ^ l.length)) ps i v (stL l (2 ^ l.length)).length = toB ps l i v := by
  cases h : toB ps l i v with
  | true =>
    obtain ⟨s, h1, h2, h3⟩ := toB_get h
    obtain ⟨j, hj, ej⟩ := stL_mem h1 h2
    rw [tzB, List.any_eq_true]
    exact ⟨j, List.mem_range.2 hj, by rw [ej, Int.toNat_natCast, h3]; simp⟩
  | false =>
    rw [tzB, List.any_eq_false]
    intro j hj
    obtain ⟨s, e, h1, h2⟩ := stL_get (List.mem_range.1 hj)
    rw [e, Int.toNat_natCast, beq_iff_eq]
    intro hv
    rw [toB_yes h1 h2 hv] at h
    cases h

end Go.Proofs.YtklegalmacekcaaGreatDoor
/- Walks: what a term spreads to, by the program. -/
namespace Go.Proofs.YtklegalmacekcaaGreatDoor
open Go.RowKit

/-- The bit of a table in a network. -/
theorem net_cell {w : World} {q o c : Nat} {ps : List ByteArray} (h : RowN w (some ⟨q, o, none⟩) ps.length c ps.length (bitsN ps ps.length)) (hn : netB ps = true) (h5 : ps.length ≤ 5) {i s : Nat} (hi : i < ps.length) (hs : s < 2 ^ ps.length) :
    w.cell? ⟨q, o + i * 33 + 1 + s, none⟩ = some (.int .u8 ((bitN ps i s : Nat) : Int)) := by
  have hp : (2 ^ ps.length : Nat) ≤ 32 := Nat.pow_le_pow_right (n := 2) (by decide) h5
  have hbs : (bitsN ps ps.length)[i]? = some (eachL (byD (gT ps i)) (gT ps i).size) := by simp [bitsN, hi]
  have := h.range q o rfl i _ hbs (1 + s) _ (tabC_get (ps.length : Int) (eachL (byD (gT ps i)) (gT ps i).size) s (by rw [eachL_len]; omega))
  rw [Nat.add_assoc, this, eachL_get _ _ _ (by omega) (by rw [net_size hn i hi]; exact hs), bitN_eq (netB_get hn i hi).1]

set_option maxRecDepth 100000 in
set_option maxHeartbeats 4000000 in
theorem spread_ok (ao : Option Addr) (c : Nat) (ps : List ByteArray) (t0 : ByteArray) (w : World) (h : RowN w ao ps.length c ps.length (bitsN ps ps.length)) (hn : netB ps = true) (ht : t0.data.toList.all isT = true) (hz : t0.size = ps.length) (h5 : ps.length ≤ 5) (h0 : 0 < ps.length) :
    Calls Tryz.prog 17 #[.slice ao ps.length c, .string t0] w fun e w' => e = .returned (.string ⟨(spL ps t0.data.toList).toArray⟩) ∧ Below w.heap.size w w' := by
  obtain ⟨q, o, rfl, hq⟩ := h.some h0
  have HC := Lib.hid (fun W i s (hW : Below w.heap.size w W) (hi : i < ps.length) (hs : s < 2 ^ ps.length) => net_cell (h.below hW (Nat.le_refl _)) hn h5 hi hs)
  have HBl := Lib.hid (fun i s (hi : i < ps.length) => bitN_lt (netB_get hn i hi).1 s)
  have HSt := Lib.hid (fun tb W (htb : tb.data.toList.all isT = true) (hzb : tb.size = ps.length) => statesOf_ok tb W htb (by omega))
  have HT := Lib.hid (fun k => spN_isT (ps := ps) ht k)
  have HLn := Lib.hid (fun k => spN_len ps t0.data.toList k)
  have HZ : Hid (t0.data.toList.length = ps.length) := hz
  have hst0 : stars t0.data.toList ≤ 5 := Nat.le_trans (stars_le _) (by rw [HZ.out]; exact h5)
  clear hn ht hz h
  go_enter Tryz.func17, Tryz.ntmps17
  go_wp2_with fail
  go_loopw [1] (fun v1 wr => ∃ k tb, v1 = .string tb ∧ tb.data.toList = spN ps t0.data.toList k ∧ k + stars tb.data.toList ≤ 5 ∧ Below w.heap.size w wr) (fun v1 _ => stars (strL v1))
  case atStart => exact ⟨0, t0, rfl, rfl, by omega, Below.refl _ _⟩
  case round =>
    obtain ⟨k, tb, rfl, hT, hk, hb⟩ := hrel
    have htT : tb.data.toList.all isT = true := by rw [hT]; exact HT.out k
    have htl : tb.data.toList.length = ps.length := by rw [hT, HLn.out k]; exact HZ.out
    have htz : tb.size = ps.length := htl
    have HTb := Lib.hid hT
    have HK := Lib.hid hk
    have HB := Lib.hid hb
    have hcv := run_bytes_of_string (P := Tryz.prog) wr 9 22 5 tb Tryz.underlying9 Tryz.underlying22 Tryz.underlying5
    have hcap := grownCap_ge wr tb.size 0 5
    generalize grownCap wr tb.size 0 5 = cap at hcv hcap
    have b1 : Below w.heap.size w (wr.drew.alloc (.cells (bytesRow tb cap) 5 ((bytesRow tb cap).size, (bytesRow tb cap).size + 1))) :=
      (show Below w.heap.size w wr.drew from ⟨hb.os, hb.tape, hb.output, hb.size, hb.block⟩).alloc hb.size _
    have Y1 := ByAt.conv wr.drew tb cap 5 hcap
    have hgw : w.heap.size ≤ wr.heap.size := hb.size
    rw [← mzL_zero ps] at Y1
    have HY1 := Lib.hid Y1
    have B1 := Lib.hid b1
    have HTt := Lib.hid htT
    have HTl := Lib.hid htl
    have HTz := Lib.hid htz
    clear hT hk hb b1 Y1 htT htl htz
    generalize hw1 : wr.drew.alloc (.cells (bytesRow tb cap) 5 ((bytesRow tb cap).size, (bytesRow tb cap).size + 1)) = w1 at hcv HY1 B1
    have hs1 : w1.heap.size = wr.heap.size + 1 := by rw [← hw1]; simp
    obtain ⟨wo, hwo⟩ : ∃ wo : World, wo = wr := ⟨_, rfl⟩
    go_wp2_with fail
    subst hwo
    clear hcv hw1
    go_loopw [14] (fun v14 wr => ∃ i : Nat, i ≤ ps.length ∧ v14 = .int .i64 i ∧ ByAt wr wo.heap.size (mzL ps tb.data.toList i) ∧ Below w.heap.size w wr) (fun v14 _ => ps.length - (intOf v14).toNat)
    case atStart => exact ⟨0, Nat.zero_le _, rfl, HY1.out, B1.out⟩
    case round =>
      obtain ⟨i, hi, rfl, hY, hb⟩ := hrel
      have HY := Lib.hid hY
      have HB2 := Lib.hid hb
      by_cases hlt : i < ps.length
      · have hlt' : (i : Int) < (tb.size : Int) := by rw [HTz.out]; omega
        have hil : i < tb.data.toList.length := by rw [HTl.out]; exact hlt
        have hil2 : i < (mzL ps tb.data.toList i).length := by rw [mzL_len]; exact hil
        have hcl := hY.cell i hil2
        have hfr := hY.free i hil2
        rw [mzL_get hil] at hcl
        have HSet := Lib.hid (fun W (h : ByAt W wo.heap.size (mzL ps tb.data.toList i)) (v : Int) => h.set i hil2 v)
        have HNs := Lib.hid (mzL_set (ps := ps) hil)
        clear hY hb hil2
        by_cases hst : tb.data.toList.getD i 42 = 42
        · rw [hst] at hcl
          have hg0 := HY.out.lt
          have hC3 : spC ps tb.data.toList i = if toB ps tb.data.toList i 0 = false then 49 else if toB ps tb.data.toList i 1 = false then 48 else 42 := by rw [spC, if_pos hst]
          have HC3 := Lib.hid hC3
          have HM := Lib.hid (fun h => mzL_same (ps := ps) (l := tb.data.toList) (k := i) h)
          have HS42 := Lib.hid hst
          have HSti := Lib.hid (fun W => HSt.out tb W HTt.out HTz.out)
          have HG := Lib.hid (fun k (h : k < (stL tb.data.toList (2 ^ tb.size)).length) => stL_get h)
          have HE0 := Lib.hid (tzB_end tb.data.toList ps i 0)
          have HE1 := Lib.hid (tzB_end tb.data.toList ps i 1)
          have hmax := stL_len tb.data.toList (2 ^ tb.size)
          have hp : (2 ^ tb.size : Nat) ≤ 32 := Nat.pow_le_pow_right (n := 2) (by decide) (show tb.size ≤ 5 by rw [HTz.out]; exact h5)
          have HCi := Lib.hid (fun W s (hW : Below w.heap.size w W) (hs : s < 2 ^ tb.size) => HC.out W i s hW hlt (by rw [← HTz.out]; exact hs))
          have HBi := Lib.hid (fun s => HBl.out i s hlt)
          have HE0' : Hid (tzB (stL tb.data.toList (2 ^ tb.size)) ps i 0 (stL tb.data.toList (2 ^ tb.size)).length = toB ps tb.data.toList i 0) := HE0.out
          have HE1' : Hid (tzB (stL tb.data.toList (2 ^ tb.size)) ps i 1 (stL tb.data.toList (2 ^ tb.size)).length = toB ps tb.data.toList i 1) := HE1.out
          clear hC3 hst HE0 HE1
          generalize (2 ^ tb.size : Nat) = N at HSti HG hmax hp HCi HE0' HE1'
          generalize stL tb.data.toList N = L at HSti HG hmax HE0' HE1'
          go_wp2_with fail
          refine (HSti.out _).mono ?_
          rintro e w2 ⟨a, m, rfl, oI, b2⟩
          obtain rfl := oI.1
          have hS := (Blk.new wr 72 [.bool false, .bool false])
          have hS2 := hS.below b2 (by simp)
          have hbW : Below wr.heap.size wr w2 := ((Below.refl wr.heap.size wr).alloc (Nat.le_refl _) _).trans (b2.mono (by simp))
          have R2 := Lib.hid oI.rowI
          have S2 := Lib.hid hS2
          have W2 := Lib.hid hbW
          have HNe : Hid (∀ a', a = some a' → some a'.block ≠ some wr.heap.size) := fun a' e e' => by
            have h1 := oI.2.own a' e
            have h2 : a'.block = wr.heap.size := by simpa using e'
            simp at h1
            omega
          clear oI b2 hS hS2 hbW
          obtain ⟨wi, hwi⟩ : ∃ wi : World, wi = wr := ⟨_, rfl⟩
          go_wp2_with fail
          subst hwi
          go_loopw [26] (fun v26 wr => ∃ j : Nat, j ≤ L.length ∧ v26 = .int .i64 j ∧ RowI wr a L.length L.length L ∧ Blk wr wi.heap.size 72 [.bool (tzB L ps i 0 j), .bool (tzB L ps i 1 j)] ∧ Below wi.heap.size wi wr) (fun v26 _ => L.length - (intOf v26).toNat)
          case atStart => exact ⟨0, Nat.zero_le _, rfl, R2.out, S2.out, W2.out⟩
          case round =>
            obtain ⟨j, hj, rfl, hR, hS, hbW⟩ := hrel
            have HR := Lib.hid hR
            have HSb := Lib.hid hS
            have HW := Lib.hid hbW
            have HBw := Lib.hid (HB2.out.trans (hbW.mono HB2.out.size))
            by_cases hjl : j < L.length
            · have hjl' : (j : Int) < (L.length : Int) := by omega
              obtain ⟨s, es, hsN, _⟩ := HG.out j hjl
              obtain ⟨ba, oa, rfl, hba⟩ := hR.2.some (by omega)
              have hcs := hR.2.cell ba oa rfl j hjl
              rw [es] at hcs
              have hct := HCi.out wr s HBw.out hsN
              have hbt := HBi.out s
              have hs32 : (s : Int) < 32 := by omega
              have HN0 := Lib.hid (tzB_next L ps i 0 j)
              have HN1 := Lib.hid (tzB_next L ps i 1 j)
              rw [es, Int.toNat_natCast] at HN0 HN1
              have hil' : (i : Int) < (ps.length : Int) := by omega
              clear hR hbW es
              generalize bitN ps i s = bv at hct hbt HN0 HN1
              generalize tzB L ps i 0 j = z0 at hS HSb HN0
              generalize tzB L ps i 1 j = z1 at hS HSb HN1
              rcases (show bv = 0 ∨ bv = 1 by omega) with rfl | rfl
              · have hc0 := hS.cell (i := 0) rfl
                have hf0 := hS.free 0
                have HSs := Lib.hid (hS.set 0 (.bool true))
                have E0 : Hid (tzB L ps i 0 (j + 1) = true) := by unfold Hid; rw [HN0.out]; simp
                have E1 : Hid (tzB L ps i 1 (j + 1) = z1) := by unfold Hid; rw [HN1.out]; simp
                clear hS HN0 HN1
                go_wp2_with fail
                go_roundw
                case rel => exact ⟨j + 1, by omega, by go_num, HR.out.grown (row := some wi.heap.size) (grownBy_setCell (World.grownBy.refl _ _) rfl _) HNe.out, by rw [E0.out, E1.out]; exact HSs.out, HW.out.setCell (Nat.le_refl _) _⟩
                case measure => simp [intOf] <;> omega
              · have hc0 := hS.cell (i := 1) rfl
                have hf0 := hS.free 1
                have HSs := Lib.hid (hS.set 1 (.bool true))
                have E0 : Hid (tzB L ps i 0 (j + 1) = z0) := by unfold Hid; rw [HN0.out]; simp
                have E1 : Hid (tzB L ps i 1 (j + 1) = true) := by unfold Hid; rw [HN1.out]; simp
                clear hS HN0 HN1
                go_wp2_with fail
                go_roundw
                case rel => exact ⟨j + 1, by omega, by go_num, HR.out.grown (row := some wi.heap.size) (grownBy_setCell (World.grownBy.refl _ _) rfl _) HNe.out, by rw [E0.out, E1.out]; exact HSs.out, HW.out.setCell (Nat.le_refl _) _⟩
                case measure => simp [intOf] <;> omega
            · obtain rfl : j = L.length := by omega
              have hjl' : ¬ (L.length : Int) < (L.length : Int) := by omega
              have hY2 := HY.out.below hbW (Nat.le_refl _)
              have hil2 : i < (mzL ps tb.data.toList i).length := by rw [mzL_len]; exact hil
              have hcl2 := hY2.cell i hil2
              have hfr2 := hY2.free i hil2
              have HY2 := Lib.hid hY2
              rw [HE0'.out, HE1'.out] at hS
              have hc0 := hS.cell (i := 0) rfl
              have hc1 := hS.cell (i := 1) rfl
              clear hR hbW hY2 hil2 hS hcl
              cases hz0 : toB ps tb.data.toList i 0 with
              | false =>
                have HX : Hid (spC ps tb.data.toList i = 49) := by unfold Hid; rw [HC3.out, if_pos hz0]
                rw [hz0] at hc0
                clear hz0 hc1
                have HQ := Lib.hid (HSet.out wr HY2.out 49)
                have HNx : Hid ((mzL ps tb.data.toList i).set i 49 = mzL ps tb.data.toList (i + 1)) := by
                  have := HNs.out
                  rw [HX.out] at this
                  exact this
                generalize gI (mzL ps tb.data.toList i) i = x at hcl2
                go_wp2_with fail
                go_roundw
                case rel => exact ⟨i + 1, by omega, by go_num, by rw [← HNx.out]; exact HQ.out, HBw.out.setCell hgw _⟩
                case measure => simp [intOf] <;> omega
              | true =>
                rw [hz0] at hc0
                cases hz1 : toB ps tb.data.toList i 1 with
                | false =>
                  have HX : Hid (spC ps tb.data.toList i = 48) := by unfold Hid; rw [HC3.out, if_neg (by rw [hz0]; decide), if_pos hz1]
                  rw [hz1] at hc1
                  clear hz0 hz1
                  have HQ := Lib.hid (HSet.out wr HY2.out 48)
                  have HNx : Hid ((mzL ps tb.data.toList i).set i 48 = mzL ps tb.data.toList (i + 1)) := by
                    have := HNs.out
                    rw [HX.out] at this
                    exact this
                  generalize gI (mzL ps tb.data.toList i) i = x at hcl2
                  go_wp2_with fail
                  go_roundw
                  case rel => exact ⟨i + 1, by omega, by go_num, by rw [← HNx.out]; exact HQ.out, HBw.out.setCell hgw _⟩
                  case measure => simp [intOf] <;> omega
                | true =>
                  have HX : Hid (spC ps tb.data.toList i = tb.data.toList.getD i 42) := by unfold Hid; rw [HC3.out, if_neg (by rw [hz0]; decide), if_neg (by rw [hz1]; decide), HS42.out]
                  rw [hz1] at hc1
                  clear hz0 hz1
                  have HNx := Lib.hid (HM.out HX.out)
                  generalize gI (mzL ps tb.data.toList i) i = x at hcl2
                  go_wp2_with fail
                  go_roundw
                  case rel => exact ⟨i + 1, by omega, by go_num, by rw [HNx.out]; exact HY2.out, HBw.out⟩
                  case measure => simp [intOf] <;> omega
        · have hb1 : (((tb.data.toList.getD i 42).toNat : Nat) : Int) ≠ 42 := fun e => hst ((star_iff _).2 e)
          have hb2 : ((((tb.data.toList.getD i 42).toNat : Nat) : Int) != 42) = true := by simpa using hb1
          have HM := Lib.hid (mzL_same (ps := ps) (l := tb.data.toList) (k := i) (by rw [spC, if_neg hst]))
          clear hst hb1
          generalize (((tb.data.toList.getD i 42).toNat : Nat) : Int) = x at hcl hb2
          go_wp2_with fail
          go_roundw
          case rel => exact ⟨i + 1, by omega, by go_num, by rw [HM.out]; exact HY.out, HB2.out⟩
          case measure => simp [intOf] <;> omega
      · obtain rfl : i = ps.length := by omega
        have hlt' : ¬ (ps.length : Int) < (tb.size : Int) := by rw [HTz.out]; omega
        have hcv := run_convert_bytes_arg wr 22 5 Tryz.underlying22 Tryz.underlying5 wo.heap.size 0 ps.length cap (mzL ps tb.data.toList ps.length) (by rw [mzL_len]; exact HTl.out) (fun i hi => by rw [Nat.zero_add]; exact hY.cell i (by rw [mzL_len, HTl.out]; exact hi)) 9 Tryz.underlying9
        have hE : strOfNums (mzL ps tb.data.toList ps.length) = ⟨(spR ps tb.data.toList).toArray⟩ := by
          have := mzL_end ps tb.data.toList
          rw [HTl.out] at this
          exact this
        rw [hE, ← HTz.out] at hcv
        have HX : Hid ((⟨(spR ps tb.data.toList).toArray⟩ : ByteArray).data.toList = spR ps tb.data.toList) := rfl
        have HSk : Hid (∀ k, tb.data.toList = spN ps t0.data.toList k → spR ps tb.data.toList = spN ps t0.data.toList (k + 1)) := fun k e => by rw [spN, ← e]
        have HK0 := HK.out
        by_cases hsm : spR ps tb.data.toList = tb.data.toList
        · have HV : Hid (tb = ⟨(spL ps t0.data.toList).toArray⟩) := by
            have h3 := HTb.out
            have hk5 := HK.out
            have h4 := hsm
            rw [h3] at h4
            rw [spL_eq h4 (by omega)] at h3
            exact bytes_eq (by simpa using h3)
          have hsame : (⟨(spR ps tb.data.toList).toArray⟩ : ByteArray) = tb := bytes_eq hsm
          rw [hsame] at hcv
          clear hsm hsame hE hY hb HX HSk
          go_wp2_with fail
          go_ret
          exact ⟨rett HV.out, HB2.out⟩
        · have hlt2 := Lib.hid (chg_stars (same_chg hsm))
          have hne : (⟨(spR ps tb.data.toList).toArray⟩ : ByteArray) ≠ tb := fun e => hsm (by rw [← HX.out, e])
          clear hE hY hb hsm
          obtain ⟨nb, hnb⟩ : ∃ nb : ByteArray, nb = ⟨(spR ps tb.data.toList).toArray⟩ := ⟨_, rfl⟩
          rw [← hnb] at hcv HX hne
          have hbe : (nb.toList == tb.toList) = false := by
            rw [beq_eq_false_iff_ne, Lib.toList_data, Lib.toList_data]
            exact fun e => hne (bytes_eq e)
          clear hnb hne
          go_wp2_with fail
          go_roundw
          case rel => exact ⟨k + 1, nb, rfl, by rw [HX.out]; exact HSk.out k HTb.out, by rw [HX.out]; have := hlt2.out; omega, HB2.out⟩
          case measure =>
            show stars nb.data.toList < stars tb.data.toList
            rw [HX.out]
            exact hlt2.out

end Go.Proofs.YtklegalmacekcaaGreatDoor
/- ForcesState on both sides, and the law FnExactForcesState. -/
namespace Go.Proofs.YtklegalmacekcaaGreatDoor
open Go.RowKit

/-- Whether a term's spread is the text of a state. -/
def fsQ (ps : List ByteArray) (l : List UInt8) (s : Nat) : Bool := ((⟨(spL ps l).toArray⟩ : ByteArray).toList == (digS (bitL s ps.length)).toList)
/-- What ForcesState gives. -/
def fsV (ps : List ByteArray) (l : List UInt8) (s : Int) : Bool := htB ps l && (stOk ps.length s && fsQ ps l s.toNat)
theorem fsV_no {ps : List ByteArray} {l : List UInt8} {s : Int} (h : htB ps l = false) : fsV ps l s = false := by simp [fsV, h]
theorem fsV_out {ps : List ByteArray} {l : List UInt8} {s : Int} (h : stOk ps.length s = false) : fsV ps l s = false := by simp [fsV, h]
theorem fsV_in {ps : List ByteArray} {l : List UInt8} {s : Nat} (h : htB ps l = true) (h2 : stOk ps.length (s : Int) = true) : fsV ps l (s : Int) = fsQ ps l s := by simp [fsV, h, h2]

set_option maxRecDepth 100000 in
set_option maxHeartbeats 2000000 in
theorem fscS_ok (s t : ByteArray) (x : Int) (w : World) (hs : s.size ≤ 1048576) (ht : t.size ≤ 1048576) :
    Calls Tryz.prog 6 #[.string s, .string t, .int .i64 x] w fun e w' => e = .returned (.bool (fsV (cutsP 44 s) t.data.toList x)) ∧ Below w.heap.size w w' := by
  have HO := Lib.hid (l6Term_ok s t w hs ht)
  have hp0 := cutsP_pos 44 s
  generalize cutsP 44 s = ps at HO hp0 ⊢
  cases hb : htB ps t.data.toList with
  | false =>
    have HV := Lib.hid (fsV_no (s := x) hb)
    rw [hb] at HO
    clear hb
    go_enter Tryz.func6, Tryz.ntmps6
    go_wp2_with fail
    refine HO.out.mono ?_
    rintro e w1 ⟨v, rfl, o1, b1⟩
    clear o1
    go_wp2_with fail
    go_ret
    exact ⟨retb HV.out.symm, b1⟩
  | true =>
    rw [hb] at HO
    obtain ⟨hn, hz, hT⟩ := ht_get hb
    have h5 := net_le hn hp0
    have HN := Lib.hid (netL_yes hn)
    have HAll := Lib.hid (fun (ao : Option Addr) (c : Nat) W => l3All_ok ao ps.length c W h5)
    have HSp := Lib.hid (fun ao c W (h : RowT W ao ps.length c ps) => l6Spread_ok ao ps.length c ps t W h hn hT hz h5)
    cases hso : stOk ps.length x with
    | false =>
      have HV := Lib.hid (fsV_out (l := t.data.toList) hso)
      have hin : inB x 0 ((2 ^ ps.length - 1 : Nat) : Int) = false := hso
      clear hb hn hT hz hso
      generalize (2 ^ ps.length - 1 : Nat) = N at hin HAll
      go_enter Tryz.func6, Tryz.ntmps6
      go_wp2_with fail
      refine HO.out.mono ?_
      rintro e w1 ⟨v, rfl, o1, b1⟩
      rw [HN.out] at o1
      obtain ⟨a, c, rfl, r1⟩ := o1.row
      have B1 := Lib.hid b1
      have HAa := Lib.hid (fun W => HAll.out a c W)
      clear o1 r1 b1
      go_wp2_with (first | (go_at_call 21; refine (HAa.out _).mono ?_; rintro e w2 ⟨rfl, rfl⟩) | (go_at_call 20; refine (l1In_ok _ _ _ _).mono ?_; rintro e w2 ⟨rfl, rfl⟩))
      go_ret
      exact ⟨retb HV.out.symm, B1.out⟩
    | true =>
      obtain ⟨m, rfl⟩ := Int.eq_ofNat_of_zero_le (stOk_iff.1 hso).1
      have HV := Lib.hid (fsV_in hb hso)
      have hin : inB (m : Int) 0 ((2 ^ ps.length - 1 : Nat) : Int) = true := hso
      have hp : (2 ^ ps.length : Nat) ≤ 32 := Nat.pow_le_pow_right (n := 2) (by decide) h5
      have hm32 : m < 32 := by have := (stOk_iff.1 hso).2; omega
      have HTo := Lib.hid (fun W => l3Told_ok m ps.length hm32 h5 W)
      have HQ : Hid (fsQ ps t.data.toList m = ((⟨(spL ps t.data.toList).toArray⟩ : ByteArray).toList == (digS (bitL m ps.length)).toList)) := rfl
      clear hb hn hT hz hso hp
      generalize (2 ^ ps.length - 1 : Nat) = N at hin HAll
      generalize digS (bitL m ps.length) = u at HTo HQ
      generalize (⟨(spL ps t.data.toList).toArray⟩ : ByteArray) = v at HSp HQ
      go_enter Tryz.func6, Tryz.ntmps6
      go_wp2_with fail
      refine HO.out.mono ?_
      rintro e w1 ⟨vv, rfl, o1, b1⟩
      rw [HN.out] at o1
      obtain ⟨a, c, rfl, r1⟩ := o1.row
      have B1 := Lib.hid b1
      have HAa := Lib.hid (fun W => HAll.out a c W)
      have HS1 := Lib.hid (HSp.out a c _ r1)
      clear o1 r1 b1
      go_wp2_with (first | (go_at_call 21; refine (HAa.out _).mono ?_; rintro e w2 ⟨rfl, rfl⟩) | (go_at_call 20; refine (l1In_ok _ _ _ _).mono ?_; rintro e w2 ⟨rfl, rfl⟩))
      refine HS1.out.mono ?_
      rintro e w2 ⟨rfl, b2⟩
      have C2 := Lib.hid (B1.out.trans (b2.mono B1.out.size))
      clear b2
      go_wp2_with fail
      refine (HTo.out _).mono ?_
      rintro e w3 ⟨rfl, b3⟩
      go_wp2_with fail
      go_ret
      exact ⟨retb (by rw [HV.out, HQ.out]), C2.out.trans (b3.mono C2.out.size)⟩

set_option maxRecDepth 100000 in
set_option maxHeartbeats 2000000 in
theorem fscI_ok (s t : ByteArray) (x : Int) (w : World) (hs : s.size ≤ 1048576) (ht : t.size ≤ 1048576) (hm : MaxLenIs w) :
    Calls Tryz.prog 5 #[.string s, .string t, .int .i64 x] w fun e w' => e = .returned (.bool (fsV (cutsP 44 s) t.data.toList x)) ∧ Below w.heap.size w w' := by
  have HO := Lib.hid (termOf_ok s t w hs ht hm)
  have hp0 := cutsP_pos 44 s
  generalize cutsP 44 s = ps at HO hp0 ⊢
  cases hb : htB ps t.data.toList with
  | false =>
    have HV := Lib.hid (fsV_no (s := x) hb)
    rw [hb] at HO
    clear hb
    go_enter Tryz.func5, Tryz.ntmps5
    go_wp2_with fail
    refine HO.out.mono ?_
    rintro e w1 ⟨v, rfl, o1, b1⟩
    clear o1
    go_wp2_with fail
    go_ret
    exact ⟨retb HV.out.symm, b1⟩
  | true =>
    rw [hb] at HO
    obtain ⟨hn, hz, hT⟩ := ht_get hb
    have h5 := net_le hn hp0
    have HN := Lib.hid (netN_yes hn)
    have hlen := bitsN_len ps ps.length
    have HSts := Lib.hid (fun (ao : Option Addr) (c : Nat) W => states_ok ao ps.length c W (by omega))
    have HSp := Lib.hid (fun ao c W (h : RowN W ao ps.length c ps.length (bitsN ps ps.length)) => spread_ok ao c ps t W h hn hT hz h5 hp0)
    cases hso : stOk ps.length x with
    | false =>
      have HV := Lib.hid (fsV_out (l := t.data.toList) hso)
      have hin := stOk_lt hso
      clear hb hn hT hz hso
      generalize ((2 ^ ps.length : Nat) : Int) = N at hin HSts
      by_cases hneg : x < 0
      · have hge : ¬ (0 : Int) ≤ x := by omega
        go_enter Tryz.func5, Tryz.ntmps5
        go_wp2_with fail
        refine HO.out.mono ?_
        rintro e w1 ⟨v, rfl, o1, b1⟩
        clear o1
        go_wp2_with fail
        go_ret
        exact ⟨retb HV.out.symm, b1⟩
      · have hge : (0 : Int) ≤ x := by omega
        have hnl : ¬ x < N := by omega
        clear hin
        go_enter Tryz.func5, Tryz.ntmps5
        go_wp2_with fail
        refine HO.out.mono ?_
        rintro e w1 ⟨v, rfl, o1, b1⟩
        rw [HN.out] at o1
        obtain ⟨a, c, rfl, r1⟩ := o1.row (bitsN_wide ps ps.length)
        have HAa := Lib.hid (fun W => HSts.out a c W)
        rw [hlen] at r1 ⊢
        have B1 := Lib.hid b1
        clear o1 r1 b1
        go_wp2_with (go_at_call 16; refine (HAa.out _).mono ?_; rintro e w2 ⟨rfl, rfl⟩)
        go_ret
        exact ⟨retb HV.out.symm, B1.out⟩
    | true =>
      obtain ⟨m, rfl⟩ := Int.eq_ofNat_of_zero_le (stOk_iff.1 hso).1
      have HV := Lib.hid (fsV_in hb hso)
      have hp : (2 ^ ps.length : Nat) ≤ 32 := Nat.pow_le_pow_right (n := 2) (by decide) h5
      have hin := (stOk_iff.1 hso).2
      have hm32 : m < 32 := by omega
      have hge : (0 : Int) ≤ (m : Int) := by omega
      have HTo := Lib.hid (fun W => fmtI_ok m ps.length hm32 h5 W)
      have HQ : Hid (fsQ ps t.data.toList m = ((⟨(spL ps t.data.toList).toArray⟩ : ByteArray).toList == (digS (bitL m ps.length)).toList)) := rfl
      clear hb hn hT hz hso hp
      generalize ((2 ^ ps.length : Nat) : Int) = N at hin HSts
      generalize digS (bitL m ps.length) = u at HTo HQ
      generalize (⟨(spL ps t.data.toList).toArray⟩ : ByteArray) = v at HSp HQ
      go_enter Tryz.func5, Tryz.ntmps5
      go_wp2_with fail
      refine HO.out.mono ?_
      rintro e w1 ⟨vv, rfl, o1, b1⟩
      rw [HN.out] at o1
      obtain ⟨a, c, rfl, r1⟩ := o1.row (bitsN_wide ps ps.length)
      have HAa := Lib.hid (fun W => HSts.out a c W)
      rw [hlen] at r1 ⊢
      have B1 := Lib.hid b1
      have HS1 := Lib.hid (HSp.out a c _ r1)
      clear o1 r1 b1 hlen
      go_wp2_with (go_at_call 16; refine (HAa.out _).mono ?_; rintro e w2 ⟨rfl, rfl⟩)
      refine HS1.out.mono ?_
      rintro e w2 ⟨rfl, b2⟩
      have C2 := Lib.hid (B1.out.trans (b2.mono B1.out.size))
      clear b2
      go_wp2_with fail
      refine (HTo.out _).mono ?_
      rintro e w3 ⟨rfl, b3⟩
      go_wp2_with fail
      go_ret
      exact ⟨retb (by rw [HV.out, HQ.out]), C2.out.trans (b3.mono C2.out.size)⟩

end Go.Proofs.YtklegalmacekcaaGreatDoor
/- The term that holds a set of switches, and the least that forces a state: plain. -/
namespace Go.Proofs.YtklegalmacekcaaGreatDoor
open Go.RowKit

/-- The letters that hold the switches of a set at the values of a state. -/
def hlC (s set i : Nat) : UInt8 := if bN set i = 1 then UInt8.ofNat (48 + bN s i) else 42
def hlT (s set n : Nat) : List UInt8 := (List.range n).map (hlC s set)
theorem hlT_len (s set n : Nat) : (hlT s set n).length = n := by simp [hlT]
theorem hlT_get {s set n i : Nat} (h : i < n) : (hlT s set n).getD i 42 = hlC s set i := by simp [hlT, List.getD, h]
theorem hlC_held {s set i : Nat} (h : bN set i = 1) : hlC s set i = UInt8.ofNat (48 + bN s i) := by rw [hlC, if_pos h]
theorem hlC_free {s set i : Nat} (h : bN set i = 0) : hlC s set i = 42 := by rw [hlC, if_neg (by omega)]
theorem hlC_isT (s set i : Nat) : isT (hlC s set i) = true := by
  have := bN_lt s i
  unfold hlC
  split
  · rcases (show bN s i = 0 ∨ bN s i = 1 by omega) with e | e <;> rw [e] <;> decide
  · decide
theorem hlT_isT (s set n : Nat) : (hlT s set n).all isT = true := by
  rw [List.all_eq_true]
  intro c hc
  simp only [hlT, List.mem_map] at hc
  obtain ⟨i, _, rfl⟩ := hc
  exact hlC_isT s set i
theorem hlC_star {s set i : Nat} : hlC s set i = 42 ↔ bN set i = 0 := by
  have := bN_lt set i
  have h2 := bN_lt s i
  constructor
  · intro h
    by_cases e : bN set i = 1
    · rw [hlC_held e] at h
      rcases (show bN s i = 0 ∨ bN s i = 1 by omega) with e2 | e2 <;> rw [e2] at h <;> exact absurd h (by decide)
    · omega
  · exact hlC_free
/-- The set that such a term holds. -/
theorem heldTo_hl (s set n : Nat) : ∀ k, k ≤ n → heldTo (hlT s set n) k = set % 2 ^ k
  | 0, _ => by rw [Nat.pow_zero, Nat.mod_one]; rfl
  | k + 1, hk => by
    have ih := heldTo_hl s set n k (by omega)
    have hlt : set % 2 ^ k < 2 ^ k := Nat.mod_lt _ (Nat.two_pow_pos k)
    rw [heldTo_succ, hlT_get (by omega), ih, Nat.mod_pow_succ]
    have hb := bN_lt set k
    by_cases h : bN set k = 0
    · rw [if_pos (hlC_star.2 h)]
      unfold bN at h
      rw [h]; simp
    · rw [if_neg (fun e => h (hlC_star.1 e))]
      have h1 : set / 2 ^ k % 2 = 1 := by unfold bN at h hb; omega
      have h2 := Nat.two_pow_add_eq_or_of_lt hlt 1
      rw [Nat.mul_one] at h2
      rw [h1, Nat.mul_one, Nat.or_comm, Nat.add_comm, h2]
theorem heldTo_set {s set n : Nat} (h : set < 2 ^ n) : heldTo (hlT s set n) n = set := by
  rw [heldTo_hl s set n n (Nat.le_refl _), Nat.mod_eq_of_lt h]
theorem hl_next (s set k : Nat) (x : ByteArray) (h : x = ⟨#[hlC s set k]⟩) : (⟨(hlT s set k).toArray⟩ : ByteArray) ++ x = ⟨(hlT s set (k + 1)).toArray⟩ := by
  subst h
  apply ByteArray.ext
  simp [hlT, List.range_succ]

theorem pop_fin : ∀ (n : Fin 6) (t : Fin 32), t.val < 2 ^ n.val - 1 → popN t.val < popN (2 ^ n.val - 1) := by decide +kernel
theorem pop_lt {n t : Nat} (hn : n ≤ 5) (h : t < 2 ^ n - 1) : popN t < popN (2 ^ n - 1) := by
  have hp : (2 ^ n : Nat) ≤ 32 := Nat.pow_le_pow_right (n := 2) (by decide) hn
  exact pop_fin ⟨n, by omega⟩ ⟨t, by omega⟩ h

/-- Sets that force a state and are less than all. -/
def lhE (ps : List ByteArray) (s t : Nat) : Prop := fsQ ps (hlT s t ps.length) s = true ∧ popN t < popN (2 ^ ps.length - 1)
/-- The set of which the sides know: the best, or all. -/
def orAll (n : Nat) (b : Int) : Nat := if b = -1 then 2 ^ n - 1 else b.toNat
theorem orAll_no (n : Nat) : orAll n (-1) = 2 ^ n - 1 := by simp [orAll]
theorem orAll_yes (n s : Nat) : orAll n (s : Int) = s := by
  rw [orAll, if_neg (by omega), Int.toNat_natCast]
theorem orAll_lt {ps : List ByteArray} {s lo hi : Nat} {b : Int} (h : Best (lhE ps s) lo hi b) (hh : hi ≤ 2 ^ ps.length) : orAll ps.length b < 2 ^ ps.length := by
  have := Nat.two_pow_pos ps.length
  rcases h with ⟨rfl, _⟩ | ⟨t, rfl, _, h2, _⟩
  · rw [orAll_no]; omega
  · rw [orAll_yes]; omega
/-- Upward: one set more. -/
theorem lh_up_take {ps : List ByteArray} {s hi : Nat} {b : Int} (h : Best (lhE ps s) 0 hi b) (hp : popN hi < popN (orAll ps.length b)) (hq : fsQ ps (hlT s hi ps.length) s = true) : Best (lhE ps s) 0 (hi + 1) (hi : Nat) := by
  have hall : popN hi < popN (2 ^ ps.length - 1) := by
    rcases h with ⟨rfl, _⟩ | ⟨t, rfl, _, _, h3, _⟩
    · rw [orAll_no] at hp; exact hp
    · rw [orAll_yes] at hp; have := h3.2; omega
  exact h.take (Nat.zero_le _) ⟨hq, hall⟩ (fun t e => by rw [e, orAll_yes] at hp; exact hp)
theorem lh_up_skip {ps : List ByteArray} {s hi : Nat} {b : Int} (h : Best (lhE ps s) 0 hi b) (hp : ¬ popN hi < popN (orAll ps.length b) ∨ fsQ ps (hlT s hi ps.length) s = false) : Best (lhE ps s) 0 (hi + 1) b := by
  refine h.skip ?_
  rcases hp with hp | hp
  · rcases h with ⟨rfl, _⟩ | ⟨t, rfl, _⟩
    · rw [orAll_no] at hp
      exact .inl fun e => hp e.2
    · rw [orAll_yes] at hp
      exact .inr ⟨t, rfl, by omega⟩
  · exact .inl fun e => by rw [e.1] at hp; cases hp
/-- Downward: one set more. -/
theorem lh_down_take {ps : List ByteArray} {s lo : Nat} {b : Int} (h5 : ps.length ≤ 5) (h : Best (lhE ps s) (lo + 1) (2 ^ ps.length) b) (hlo : lo < 2 ^ ps.length) (hp : popN lo ≤ popN (orAll ps.length b)) (hq : fsQ ps (hlT s lo ps.length) s = true) :
    ∃ b', Best (lhE ps s) lo (2 ^ ps.length) b' ∧ orAll ps.length b' = lo := by
  by_cases he : lo = 2 ^ ps.length - 1
  · refine ⟨-1, .inl ⟨rfl, fun t h1 h2 e => ?_⟩, by rw [orAll_no, he]⟩
    obtain rfl : t = 2 ^ ps.length - 1 := by omega
    exact absurd e.2 (Nat.lt_irrefl _)
  · have hall := pop_lt (n := ps.length) (t := lo) h5 (by omega)
    exact ⟨(lo : Nat), h.takeDown hlo ⟨hq, hall⟩ (fun t e => by rw [e, orAll_yes] at hp; exact hp), orAll_yes _ _⟩
theorem lh_down_skip {ps : List ByteArray} {s lo : Nat} {b : Int} (_ : ps.length ≤ 5) (h : Best (lhE ps s) (lo + 1) (2 ^ ps.length) b) (_ : lo < 2 ^ ps.length) (hp : ¬ popN lo ≤ popN (orAll ps.length b) ∨ fsQ ps (hlT s lo ps.length) s = false) : Best (lhE ps s) lo (2 ^ ps.length) b := by
  refine h.skipDown ?_
  rcases hp with hp | hp
  · rcases h with ⟨rfl, _⟩ | ⟨t, rfl, _⟩
    · rw [orAll_no] at hp
      exact .inl fun e => hp (Nat.le_of_lt e.2)
    · rw [orAll_yes] at hp
      exact .inr ⟨t, rfl, by omega⟩
  · exact .inl fun e => by rw [e.1] at hp; cases hp
/-- The set of the least term. -/
noncomputable def lhS (ps : List ByteArray) (s : Nat) : Nat := orAll ps.length (least (lhE ps s) (2 ^ ps.length))
theorem lhS_eq {ps : List ByteArray} {s : Nat} {b : Int} (h : Best (lhE ps s) 0 (2 ^ ps.length) b) : orAll ps.length b = lhS ps s := by rw [lhS, h.eq_least]
theorem lhS_lt (ps : List ByteArray) (s : Nat) (b : Int) (h : Best (lhE ps s) 0 (2 ^ ps.length) b) : lhS ps s < 2 ^ ps.length := by
  rw [← lhS_eq h]; exact orAll_lt h (Nat.le_refl _)

end Go.Proofs.YtklegalmacekcaaGreatDoor
/- LeastHold of the reference. -/
namespace Go.Proofs.YtklegalmacekcaaGreatDoor
open Go.RowKit

set_option maxHeartbeats 2000000 in
theorem l10Term_ok (s set n : Nat) (w : World) (hs : s < 32) (hset : set < 32) (hn : n ≤ 5) :
    Calls Tryz.prog 36 #[.int .i64 s, .int .i64 set, .int .i64 n] w fun e w' => e = .returned (.string ⟨(hlT s set n).toArray⟩) ∧ Below w.heap.size w w' := by
  have HBs := Lib.hid (fun k W (hk : k < 5) => by
    have := l1Bit_ok (set : Int) (k : Int) W (by omega) (by omega) (by omega) (by omega)
    rw [Int.toNat_natCast, Int.toNat_natCast] at this; exact this)
  have HBv := Lib.hid (fun k W (hk : k < 5) => by
    have := l1Bit_ok (s : Int) (k : Int) W (by omega) (by omega) (by omega) (by omega)
    rw [Int.toNat_natCast, Int.toNat_natCast] at this; exact this)
  have HZ : Hid (∀ k, (⟨(hlT s set k).toArray⟩ : ByteArray).size = k) := fun k => by simp [ByteArray.size, hlT_len]
  go_enter Tryz.func36, Tryz.ntmps36
  go_wp2_with fail
  go_loopw [7, 8] (fun v7 v8 wr => ∃ k : Nat, k ≤ n ∧ v8 = .int .i64 k ∧ v7 = .string ⟨(hlT s set k).toArray⟩ ∧ Below w.heap.size w wr) (fun _ v8 _ => n - (intOf v8).toNat)
  case atStart => exact ⟨0, Nat.zero_le _, rfl, rfl, Below.refl _ _⟩
  case round =>
    obtain ⟨k, hk, rfl, rfl, hb⟩ := hrel
    have HB := Lib.hid hb
    clear hb
    have hsz := HZ.out k
    by_cases hlt : k < n
    · have hlt' : (k : Int) < (n : Int) := by omega
      have HB1 := Lib.hid (fun W => HBs.out k W (by omega))
      have HB2 := Lib.hid (fun W => HBv.out k W (by omega))
      have hbl := bN_lt set k
      have hbv := bN_lt s k
      have HNx := Lib.hid (hl_next s set k)
      by_cases hh : bN set k = 1
      · have HD := Lib.hid (fun W => l14Dec_digit (bN s k) (by omega) W)
        have HP := Lib.hid (HNx.out (digS [((bN s k : Nat) : Int)]) (by rw [dig_one _ hbv, hlC_held hh]))
        have hpz : (digS [((bN s k : Nat) : Int)]).size ≤ 1 := by rw [digS_size]; simp
        rw [hh] at HB1
        generalize (⟨(hlT s set k).toArray⟩ : ByteArray) = u at hsz HP
        generalize digS [((bN s k : Nat) : Int)] = x at HP hpz HD
        clear hh
        go_wp2_with fail
        refine (HB1.out _).mono ?_
        rintro e w2 ⟨rfl, rfl⟩
        go_wp2_with fail
        refine (HB2.out _).mono ?_
        rintro e w2 ⟨rfl, rfl⟩
        go_wp2_with fail
        refine (HD.out _).mono ?_
        rintro e w3 ⟨rfl, b3⟩
        go_wp2_with fail
        go_roundw
        case rel => exact ⟨k + 1, by omega, by go_num, by rw [HP.out], HB.out.trans (b3.mono HB.out.size)⟩
        case measure => simp [intOf] <;> omega
      · have hh0 : bN set k = 0 := by omega
        have HP := Lib.hid (HNx.out ⟨#[42]⟩ (by rw [hlC_free hh0]))
        rw [hh0] at HB1
        generalize (⟨(hlT s set k).toArray⟩ : ByteArray) = u at hsz HP
        clear hh hh0
        go_wp2_with fail
        refine (HB1.out _).mono ?_
        rintro e w2 ⟨rfl, rfl⟩
        go_wp2_with fail
        go_roundw
        case rel => exact ⟨k + 1, by omega, by go_num, by rw [← HP.out], HB.out⟩
        case measure => simp [intOf] <;> omega
    · obtain rfl : k = n := by omega
      go_wp2_with fail
      go_ret
      exact ⟨rfl, HB.out⟩

end Go.Proofs.YtklegalmacekcaaGreatDoor
