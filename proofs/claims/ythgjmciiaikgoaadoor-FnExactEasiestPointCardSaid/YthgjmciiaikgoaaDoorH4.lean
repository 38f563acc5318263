/- Walks: HoldSwitches of the reference. -/
import Derived.Test.YthgjmciiaikgoaaDoorH3
import Derived.Test.YthgjmciiaikgoaaDoorAll
namespace Go.Proofs.YthgjmciiaikgoaaDoor
open Go.RowKit

/-- Whether texts are a network and a term of its switches. -/
def htB (ps : List ByteArray) (l : List UInt8) : Bool := netB ps && termB l ps.length
theorem ht_no {ps : List ByteArray} {l : List UInt8} (h : netB ps = false) : htB ps l = false := by simp [htB, h]
theorem ht_in {ps : List ByteArray} {l : List UInt8} (h : netB ps = true) : htB ps l = termB l ps.length := by simp [htB, h]
theorem ht_get {ps : List ByteArray} {t : ByteArray} (h : htB ps t.data.toList = true) : netB ps = true ∧ t.size = ps.length ∧ t.data.toList.all isT = true := by
  rw [htB, Bool.and_eq_true, termB] at h
  simp only [Bool.and_eq_true, decide_eq_true_iff] at h
  exact ⟨h.1, by have := h.2.1.2; exact_mod_cast this, h.2.2⟩

set_option maxHeartbeats 1000000 in
theorem l6Term_ok (s t : ByteArray) (w : World) (hs : s.size ≤ 1048576) (ht : t.size ≤ 1048576) :
    Calls Tryd.prog 62 #[.string s, .string t] w fun e w' => ∃ v, e = .returned (.tuple #[v, .bool (htB (cutsP 44 s) t.data.toList)]) ∧ OwnT w' w.heap.size v (netL (cutsP 44 s)) ∧ Below w.heap.size w w' := by
  have HO := Lib.hid (l3Open_ok s w hs)
  have HTv := Lib.hid (fun m W => tvS_ok t m W (by unfold maxLen; omega))
  generalize cutsP 44 s = ps at HO
  cases hb : netB ps with
  | false =>
    have HV := Lib.hid (ht_no (l := t.data.toList) hb)
    rw [hb] at HO
    clear hb
    go_enter Tryd.func62, Tryd.ntmps62
    go_wp2_with fail
    refine HO.out.mono ?_
    rintro e w1 ⟨v, rfl, o1, b1⟩
    have O1 := Lib.hid o1
    clear o1
    go_wp2_with fail
    go_ret2
    exact ⟨_, retv HV.out.symm, O1.out, b1⟩
  | true =>
    have HV := Lib.hid (ht_in (l := t.data.toList) hb)
    have HN := Lib.hid (netL_yes hb)
    rw [hb] at HO
    clear hb
    go_enter Tryd.func62, Tryd.ntmps62
    go_wp2_with fail
    refine HO.out.mono ?_
    rintro e w1 ⟨v, rfl, o1, b1⟩
    have O1 := Lib.hid o1
    rw [HN.out] at o1
    obtain ⟨a, c, rfl, _⟩ := o1.row
    have HTk := Lib.hid (HTv.out (ps.length : Int) w1)
    clear o1
    go_wp2_with fail
    refine HTk.out.mono ?_
    rintro e w2 ⟨rfl, rfl⟩
    go_wp2_with fail
    go_ret2
    exact ⟨_, retv HV.out.symm, O1.out, b1⟩

/-- The values of a network in which a term's switches are held. -/
def hsF (ps : List ByteArray) (l : List UInt8) (k s : Nat) : Nat := if ltr l k = 2 then bitN ps k s else ltr l k
theorem hs_star {ps : List ByteArray} {l : List UInt8} {k n : Nat} (h : ltr l k = 2) : digF (hsF ps l) n k = digF (bitN ps) n k := by
  unfold digF
  congr 1
  apply List.map_congr_left
  intro s _
  simp [hsF, h]
theorem hs_dig {ps : List ByteArray} {l : List UInt8} {k n : Nat} (h : ltr l k < 2) : digF (hsF ps l) n k = repB (UInt8.ofNat (48 + ltr l k)) (2 ^ n) := by
  rw [← digT_rep]
  unfold digF
  congr 1
  apply List.map_congr_left
  intro s _
  rw [hsF, if_neg (by omega)]
theorem extract_one (t : ByteArray) (k : Nat) (h : k < t.size) : t.extract k (k + 1) = ⟨#[t[k]]⟩ := by
  apply ByteArray.ext
  apply Array.ext'
  apply List.ext_getElem?
  intro i
  have hk : k < t.data.size := h
  simp only [ByteArray.data_extract, Array.getElem?_toList, Array.getElem?_extract]
  cases i with
  | zero =>
    rw [if_pos (by omega)]
    rw [Nat.add_zero, Array.getElem?_eq_getElem hk]
    rfl
  | succ i =>
    rw [if_neg (by omega)]
    simp

set_option maxHeartbeats 4000000 in
theorem l10Hold_ok (ao : Option Addr) (n c : Nat) (ps : List ByteArray) (t : ByteArray) (w : World) (h : RowT w ao n c ps) (hn : netB ps = true) (h5 : n ≤ 5) (hz : t.size = n) (hT : t.data.toList.all isT = true) :
    Calls Tryd.prog 69 #[.slice ao n c, .string t] w fun e w' => ∃ v, e = .returned v ∧ OwnT w' w.heap.size v (listF (digF (hsF ps t.data.toList) n) n) ∧ Below w.heap.size w w' := by
  obtain rfl := h.1
  have hp : (2 ^ ps.length : Nat) ≤ 32 := Nat.pow_le_pow_right (n := 2) (by decide) h5
  have HG := Lib.hid (fun k (hk : k < ps.length) => gT_dig hn hk)
  have HGz := Lib.hid (fun k (hk : k < ps.length) => net_size hn k hk)
  have HM := Lib.hid (fun b W => many_ok b (2 ^ ps.length) W (by omega))
  have HDz := Lib.hid (fun k => digF_size (hsF ps t.data.toList) ps.length k)
  have b0 : Below w.heap.size w (w.alloc (.cells #[] 9)) := (Below.refl _ _).alloc (Nat.le_refl _) _
  have B0 := Lib.hid b0
  have O0 := Lib.hid (OwnT.lit w w.heap.size [] (Nat.le_refl _) (by decide))
  have HT := Lib.hid hT
  have HLen : Hid (t.data.toList.length = t.size) := rfl
  clear hn b0 hT
  go_enter Tryd.func69, Tryd.ntmps69
  go_wp2_with fail
  go_loopw [5, 6] (fun v q wr => ∃ k : Nat, k ≤ ps.length ∧ q = .int .i64 k ∧ OwnT wr w.heap.size v (listF (digF (hsF ps t.data.toList) ps.length) k) ∧ Below w.heap.size w wr) (fun _ q _ => ps.length - (intOf q).toNat)
  case atStart => exact ⟨0, Nat.zero_le _, rfl, O0.out, B0.out⟩
  case round =>
    obtain ⟨k, hk, rfl, ho, hb⟩ := hrel
    have HO := Lib.hid ho
    have HB := Lib.hid hb
    have hlen := listF_len (digF (hsF ps t.data.toList) ps.length) k
    clear ho
    by_cases hlt : k < ps.length
    · obtain ⟨b, o, rfl, hbo⟩ := h.2.some (by omega)
      have hcx := (h.below hb (Nat.le_refl _)).2.cell b o rfl k hlt
      have hkt : k < t.size := by omega
      have hlt' : (k : Int) < (ps.length : Int) := by omega
      have hktw : (k : Int) < (t.size : Int) := by omega
      have hk1w : (k : Int) + 1 ≤ (t.size : Int) := by omega
      have hbyte := bytes_get t k hkt
      have HN := Lib.hid (listF_next (digF (hsF ps t.data.toList) ps.length) k)
      have hdz : (digF (hsF ps t.data.toList) ps.length k).size ≤ 32 := by rw [HDz.out k]; exact hp
      clear hb h
      by_cases hst : t.data.toList.getD k 42 = 42
      · have hb1 : (((t[k].toNat : Nat) : Int) != 42) = false := by rw [hbyte, hst]; rfl
        have HE : Hid (gT ps k = digF (hsF ps t.data.toList) ps.length k) := by
          unfold Hid
          rw [hs_star (ltr_star hst)]; exact HG.out k hlt
        rw [HE.out] at hcx
        clear hst hbyte
        generalize digF (hsF ps t.data.toList) ps.length k = dt at hcx HN hdz
        have HCe := Lib.hid (fun W => (Blk.new W 9 [.string dt]).cell (i := 0) rfl)
        go_wp2_with (at_builtin; go_must (refine wpList_appT (OwnT.alloc HO.out _) (HCe.out _) rfl _ _ rfl rfl rfl (by omega) (by have := HB.out.size; simp; omega) ?_); intro v6 w6 o6 g6)
        go_roundw
        case rel => exact ⟨k + 1, by omega, by go_num, by rw [HN.out]; exact o6, (HB.out.alloc HB.out.size _).grown g6 (by have := HB.out.size; simp; omega) (fun j hj => (World.ownsRow.lt HO.out j hj).1)⟩
        case measure => simp [intOf] <;> omega
      · obtain ⟨hd1, hd2⟩ := ltr_dig HT.out (by rw [HLen.out]; exact hkt) hst
        rw [← hbyte] at hd1
        have hb1 : (((t[k].toNat : Nat) : Int) != 42) = true := by rw [hd1]; simp; omega
        have hsz := HGz.out k hlt
        have hzi : ((gT ps k).size : Int) = ((2 ^ ps.length : Nat) : Int) := by rw [hsz]
        have hgz : (gT ps k).size ≤ 32 := by omega
        have hex := extract_one t k hkt
        have HMk := Lib.hid (fun W => HM.out t[k] W)
        have HE : Hid (repB t[k] (2 ^ ps.length) = digF (hsF ps t.data.toList) ps.length k) := by
          unfold Hid
          rw [hs_dig hd2]
          have : UInt8.ofNat (48 + ltr t.data.toList k) = t[k] := by
            rw [show 48 + ltr t.data.toList k = t[k].toNat by omega, UInt8.ofNat_toNat]
          rw [this]
        rw [HE.out] at HMk
        clear hst hbyte hd1 hsz hd2
        generalize digF (hsF ps t.data.toList) ps.length k = dt at HMk HN hdz
        have HCe := Lib.hid (fun W => (Blk.new W 9 [.string dt]).cell (i := 0) rfl)
        generalize gT ps k = gt at hcx hzi hgz
        generalize ((2 ^ ps.length : Nat) : Int) = top at hzi HMk
        go_wp2_with fail
        refine (HMk.out _).mono ?_
        rintro e w3 ⟨rfl, rfl⟩
        go_wp2_with (at_builtin; go_must (refine wpList_appT (OwnT.alloc HO.out _) (HCe.out _) rfl _ _ rfl rfl rfl (by omega) (by have := HB.out.size; simp; omega) ?_); intro v6 w6 o6 g6)
        go_roundw
        case rel => exact ⟨k + 1, by omega, by go_num, by rw [HN.out]; exact o6, (HB.out.alloc HB.out.size _).grown g6 (by have := HB.out.size; simp; omega) (fun j hj => (World.ownsRow.lt HO.out j hj).1)⟩
        case measure => simp [intOf] <;> omega
    · obtain rfl : k = ps.length := by omega
      go_wp2_with fail
      go_ret
      exact ⟨_, rfl, HO.out, hb⟩

/-- What HoldSwitches gives. -/
def hsT (ps : List ByteArray) (l : List UInt8) : ByteArray := if htB ps l = true then netT (hsF ps l) ps.length else ⟨#[]⟩
theorem hsT_no {ps : List ByteArray} {l : List UInt8} (h : htB ps l = false) : hsT ps l = ⟨#[]⟩ := by simp [hsT, h]
theorem hsT_yes {ps : List ByteArray} {l : List UInt8} (h : htB ps l = true) : hsT ps l = netT (hsF ps l) ps.length := by simp [hsT, h]
theorem ret2h {a b : ByteArray} {c d : Bool} (h : a = b) (h' : c = d) : Ending.returned (.tuple #[.string a, .bool c]) = .returned (.tuple #[.string b, .bool d]) := by rw [h, h']

set_option maxHeartbeats 2000000 in
theorem hsS_ok (s t : ByteArray) (w : World) (hs : s.size ≤ 1048576) (ht : t.size ≤ 1048576) :
    Calls Tryd.prog 29 #[.string s, .string t] w fun e w' => e = .returned (.tuple #[.string (hsT (cutsP 44 s) t.data.toList), .bool (htB (cutsP 44 s) t.data.toList)]) ∧ Below w.heap.size w w' := by
  have HO := Lib.hid (l6Term_ok s t w hs ht)
  have hp0 := cutsP_pos 44 s
  generalize cutsP 44 s = ps at HO hp0 ⊢
  cases hb : htB ps t.data.toList with
  | false =>
    have HV := Lib.hid (hsT_no hb)
    rw [hb] at HO
    clear hb
    go_enter Tryd.func29, Tryd.ntmps29
    go_wp2_with fail
    refine HO.out.mono ?_
    rintro e w1 ⟨v, rfl, o1, b1⟩
    clear o1
    go_wp2_with fail
    go_ret2
    exact ⟨ret2h HV.out.symm rfl, b1⟩
  | true =>
    rw [hb] at HO
    have HV := Lib.hid (hsT_yes hb)
    obtain ⟨hn, hz, hT⟩ := ht_get hb
    have h5 := net_le hn hp0
    have HN := Lib.hid (netL_yes hn)
    have HNet := Lib.hid (fun ao c W (h : RowT W ao ps.length c ps) => l10Hold_ok ao ps.length c ps t W h hn h5 hz hT)
    have HZ := Lib.hid (fun k => digF_size (hsF ps t.data.toList) ps.length k)
    have hp : (2 ^ ps.length : Nat) ≤ 32 := Nat.pow_le_pow_right (n := 2) (by decide) h5
    have HE : Hid (netT (hsF ps t.data.toList) ps.length = joinF (digF (hsF ps t.data.toList) ps.length) ⟨#[44]⟩ ps.length) := rfl
    have HLen := Lib.hid (listF_len (digF (hsF ps t.data.toList) ps.length) ps.length)
    have HGT : Hid (∀ i, i < ps.length → gT (listF (digF (hsF ps t.data.toList) ps.length) ps.length) i = digF (hsF ps t.data.toList) ps.length i) := fun i hi => by simp [gT, listF, List.getD, hi]
    clear hb hn hT hz
    go_enter Tryd.func29, Tryd.ntmps29
    go_wp2_with fail
    refine HO.out.mono ?_
    rintro e w1 ⟨v, rfl, o1, b1⟩
    rw [HN.out] at o1
    obtain ⟨a, c, rfl, r1⟩ := o1.row
    have HN1 := Lib.hid (HNet.out _ _ _ r1)
    clear o1 r1
    go_wp2_with fail
    refine HN1.out.mono ?_
    rintro e w2 ⟨v2, rfl, o2, b2⟩
    have C2 := Lib.hid (b1.trans (b2.mono b1.size))
    obtain ⟨a2, cp2, rfl, r2⟩ := o2.row
    rw [HLen.out] at r2 ⊢
    have HT := Lib.hid (l3Text_ok a2 _ cp2 _ (digF (hsF ps t.data.toList) ps.length) w2 r2 HGT.out (fun i => by rw [HZ.out i]; omega) (by omega))
    rw [← HE.out] at HT
    clear o2 r2 b2
    go_wp2_with fail
    refine HT.out.mono ?_
    rintro e w3 ⟨rfl, rfl⟩
    go_wp2_with fail
    go_ret2
    exact ⟨ret2h HV.out.symm rfl, C2.out⟩

end Go.Proofs.YthgjmciiaikgoaaDoor
