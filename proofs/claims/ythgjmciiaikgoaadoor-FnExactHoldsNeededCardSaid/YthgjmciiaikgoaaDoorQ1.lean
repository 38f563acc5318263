/- Walks: steps that were seen, by the reference. -/
import Derived.Test.YthgjmciiaikgoaaDoorAll
import Derived.Test.YthgjmciiaikgoaaDoorO1
namespace Go.Proofs.YthgjmciiaikgoaaDoor
open Go.RowKit

set_option maxHeartbeats 1000000 in
theorem netValidS_ok (t : ByteArray) (w : World) (hs : t.size ≤ 1048576) :
    Calls Tryd.prog 56 #[.string t] w fun e w' => e = .returned (.bool (netB (cutsP 44 t))) ∧ Below w.heap.size w w' := by
  have HO := Lib.hid (l3Open_ok t w hs)
  generalize netB (cutsP 44 t) = b at HO ⊢
  go_enter Tryd.func56, Tryd.ntmps56
  go_wp2_with fail
  refine HO.out.mono ?_
  rintro e w1 ⟨v, rfl, o1, b1⟩
  clear o1
  go_wp2_with fail
  go_ret
  exact ⟨rfl, b1⟩

/-- Whether a number is a state of a network. -/
def stB' (ps : List ByteArray) (s : Int) : Bool := netB ps && stOk ps.length s
theorem stB'_no {ps : List ByteArray} {s : Int} (h : netB ps = false) : stB' ps s = false := by simp [stB', h]
theorem stB'_in {ps : List ByteArray} {s : Int} (h : netB ps = true) : stB' ps s = stOk ps.length s := by simp [stB', h]

set_option maxHeartbeats 1000000 in
theorem l3State_ok (t : ByteArray) (s : Int) (w : World) (hs : t.size ≤ 1048576) :
    Calls Tryd.prog 80 #[.string t, .int .i64 s] w fun e w' => ∃ v, e = .returned (.tuple #[v, .bool (stB' (cutsP 44 t) s)]) ∧ OwnT w' w.heap.size v (netL (cutsP 44 t)) ∧ Below w.heap.size w w' := by
  have HO := Lib.hid (l3Open_ok t w hs)
  have hp0 := cutsP_pos 44 t
  generalize cutsP 44 t = ps at HO hp0
  cases hb : netB ps with
  | false =>
    have HV := Lib.hid (stB'_no (s := s) hb)
    rw [hb] at HO
    clear hb
    go_enter Tryd.func80, Tryd.ntmps80
    go_wp2_with fail
    refine HO.out.mono ?_
    rintro e w1 ⟨v, rfl, o1, b1⟩
    have O1 := Lib.hid o1
    clear o1
    go_wp2_with fail
    go_ret2
    exact ⟨_, retv HV.out.symm, O1.out, b1⟩
  | true =>
    have HV := Lib.hid (stB'_in (s := s) hb)
    have HN := Lib.hid (netL_yes hb)
    have HA := Lib.hid (fun ao c W => l3All_ok ao ps.length c W (net_le hb hp0))
    have HQ : Hid (stOk ps.length s = inB s 0 ((2 ^ ps.length - 1 : Nat) : Int)) := rfl
    rw [hb] at HO
    clear hb
    go_enter Tryd.func80, Tryd.ntmps80
    go_wp2_with fail
    refine HO.out.mono ?_
    rintro e w1 ⟨v, rfl, o1, b1⟩
    have O1 := Lib.hid o1
    rw [HN.out] at o1
    obtain ⟨a, c, rfl, _⟩ := o1.row
    clear o1
    generalize ((2 ^ ps.length - 1 : Nat) : Int) = top at HQ HA
    go_wp2_with fail
    refine (HA.out _ _ _).mono ?_
    rintro e w2 ⟨rfl, rfl⟩
    go_wp2_with (go_at_call 47; refine (l1In_ok _ _ _ _).mono ?_; rintro e w' ⟨rfl, rfl⟩)
    go_ret2
    exact ⟨_, retv (by rw [HV.out, HQ.out]), O1.out, b1⟩

/-- What StepAll gives. -/
def saV (ps : List ByteArray) (s : Int) : Int := if stB' ps s = true then (stepTo ps s.toNat (2 ^ ps.length - 1) ps.length : Nat) else -1
theorem saV_no {ps : List ByteArray} {s : Int} (h : stB' ps s = false) : saV ps s = -1 := by simp [saV, h]
theorem saV_yes {ps : List ByteArray} {s : Nat} (h : stB' ps s = true) : saV ps s = (stepTo ps s (2 ^ ps.length - 1) ps.length : Nat) := by simp [saV, h]
theorem stB'_get {ps : List ByteArray} {s : Int} (h : stB' ps s = true) : netB ps = true ∧ 0 ≤ s ∧ s < ((2 ^ ps.length : Nat) : Int) := by
  rw [stB', Bool.and_eq_true] at h
  exact ⟨h.1, stOk_iff.1 h.2⟩
theorem saV_range (ps : List ByteArray) (s : Int) (hp : 0 < ps.length) : (stB' ps s = false ∧ saV ps s = -1) ∨ (stB' ps s = true ∧ 0 ≤ saV ps s ∧ saV ps s < 32) := by
  cases h : stB' ps s with
  | false => exact .inl ⟨rfl, saV_no h⟩
  | true =>
    obtain ⟨h1, h2, h3⟩ := stB'_get h
    obtain ⟨q, rfl⟩ := Int.eq_ofNat_of_zero_le h2
    have h5 := net_le h1 hp
    have hpw : (2 ^ ps.length : Nat) ≤ 32 := Nat.pow_le_pow_right (n := 2) (by decide) h5
    have := (stepTo_inv h1 h5 (s := q) (2 ^ ps.length - 1) (by omega) ps.length (Nat.le_refl _)).1
    rw [saV_yes h]
    exact .inr ⟨rfl, by omega, by omega⟩

set_option maxHeartbeats 1000000 in
theorem stepAllS_ok (t : ByteArray) (s : Int) (w : World) (hs : t.size ≤ 1048576) :
    Calls Tryd.prog 57 #[.string t, .int .i64 s] w fun e w' => e = .returned (.int .i64 (saV (cutsP 44 t) s)) ∧ Below w.heap.size w w' := by
  have HO := Lib.hid (l3State_ok t s w hs)
  have hp0 := cutsP_pos 44 t
  generalize cutsP 44 t = ps at HO hp0
  cases hb : stB' ps s with
  | false =>
    have HV := Lib.hid (saV_no hb)
    rw [hb] at HO
    clear hb
    go_enter Tryd.func57, Tryd.ntmps57
    go_wp2_with fail
    refine HO.out.mono ?_
    rintro e w1 ⟨v, rfl, o1, b1⟩
    clear o1
    go_wp2_with fail
    go_ret
    exact ⟨reti HV.out.symm, b1⟩
  | true =>
    obtain ⟨h1, h2, h3⟩ := stB'_get hb
    obtain ⟨q, rfl⟩ := Int.eq_ofNat_of_zero_le h2
    have h5 := net_le h1 hp0
    have hpw : (2 ^ ps.length : Nat) ≤ 32 := Nat.pow_le_pow_right (n := 2) (by decide) h5
    have HV := Lib.hid (saV_yes hb)
    have HN := Lib.hid (netL_yes h1)
    have HA := Lib.hid (fun ao c W => l3All_ok ao ps.length c W h5)
    have HS := Lib.hid (fun ao c W (h : RowT W ao ps.length c ps) => l3Step_ok ao ps.length c ps q (2 ^ ps.length - 1) W h h1 h5 (by omega) (by omega))
    rw [hb] at HO
    clear hb h1 h2 h3
    go_enter Tryd.func57, Tryd.ntmps57
    go_wp2_with fail
    refine HO.out.mono ?_
    rintro e w1 ⟨v, rfl, o1, b1⟩
    rw [HN.out] at o1
    obtain ⟨a, c, rfl, r1⟩ := o1.row
    have R1 := Lib.hid r1
    clear o1 r1
    generalize hm : (2 ^ ps.length - 1 : Nat) = m at HA HS HV
    clear hm
    go_wp2_with fail
    refine (HA.out _ _ _).mono ?_
    rintro e w2 ⟨rfl, rfl⟩
    go_wp2_with fail
    refine (HS.out _ _ _ R1.out).mono ?_
    rintro e w2 ⟨rfl, rfl⟩
    go_wp2_with fail
    go_ret
    exact ⟨reti HV.out.symm, b1⟩

/-- What SeeSteps gives. -/
def seeB (ps : List ByteArray) (zs : List Int) : Bool := netB ps && (decide (zs.length ≤ 32) && zs.all (stB' ps))
def seeL (ps : List ByteArray) (zs : List Int) (k : Nat) : List (Int × Int) := (List.range k).map fun i => (gI zs i, saV ps (gI zs i))
theorem seeL_next (ps : List ByteArray) (zs : List Int) (k : Nat) : seeL ps zs (k + 1) = seeL ps zs k ++ [(gI zs k, saV ps (gI zs k))] := by simp [seeL, List.range_succ]
theorem seeL_len (ps : List ByteArray) (zs : List Int) (k : Nat) : (seeL ps zs k).length = k := by simp [seeL]
theorem seeB_net {ps : List ByteArray} {zs : List Int} (h : netB ps = false) : seeB ps zs = false := by simp [seeB, h]
theorem seeB_long {ps : List ByteArray} {zs : List Int} (h : 32 < zs.length) : seeB ps zs = false := by
  have : decide (zs.length ≤ 32) = false := by simp; omega
  simp [seeB, this]
theorem seeB_not {ps : List ByteArray} {zs : List Int} {k : Nat} (hk : k < zs.length) (h : stB' ps (gI zs k) = false) : seeB ps zs = false := by
  have : zs.all (stB' ps) = false := by
    rw [List.all_eq_false]
    exact ⟨gI zs k, List.mem_of_getElem? (gI_lt hk), by simp [h]⟩
  simp [seeB, this]
theorem seeB_yes {ps : List ByteArray} {zs : List Int} (h1 : netB ps = true) (h2 : zs.length ≤ 32) (h : ∀ k, k < zs.length → stB' ps (gI zs k) = true) : seeB ps zs = true := by
  have : zs.all (stB' ps) = true := by
    rw [List.all_eq_true]
    intro x hx
    obtain ⟨i, hi, rfl⟩ := List.getElem_of_mem hx
    rw [gI_eq hi]; exact h i hi
  simp [seeB, this, h1, h2]
def seeV (ps : List ByteArray) (zs : List Int) : List (Int × Int) := if seeB ps zs = true then seeL ps zs zs.length else []
theorem seeV_no {ps : List ByteArray} {zs : List Int} (h : seeB ps zs = false) : seeV ps zs = [] := by simp [seeV, h]
theorem seeV_yes {ps : List ByteArray} {zs : List Int} (h : seeB ps zs = true) : seeV ps zs = seeL ps zs zs.length := by simp [seeV, h]
theorem seeV_len (ps : List ByteArray) (zs : List Int) : (seeV ps zs).length ≤ 32 := by
  cases h : seeB ps zs with
  | false => rw [seeV_no h]; simp
  | true =>
    rw [seeV_yes h, seeL_len]
    rw [seeB] at h
    simp only [Bool.and_eq_true, decide_eq_true_iff] at h
    exact h.2.1

set_option maxHeartbeats 4000000 in
theorem seeS_ok (t : ByteArray) (ao : Option Addr) (n c : Nat) (zs : List Int) (w : World) (hs : t.size ≤ 1048576) (h : RowI w ao n c zs) (hn : n ≤ 1048576) :
    Calls Tryd.prog 21 #[.string t, .slice ao n c] w fun e w' => ∃ v, e = .returned (.tuple #[v, .bool (seeB (cutsP 44 t) zs)]) ∧ OwnS w' w.heap.size v (seeV (cutsP 44 t) zs) ∧ Below w.heap.size w w' := by
  have HNV := Lib.hid (fun W => netValidS_ok t W hs)
  have HSA := Lib.hid (fun s W => stepAllS_ok t s W hs)
  have hp0 := cutsP_pos 44 t
  generalize cutsP 44 t = ps at HNV HSA hp0
  obtain rfl := h.1
  have b0 : Below w.heap.size w (w.alloc (.cells #[] 63)) := (Below.refl _ _).alloc (Nat.le_refl _) _
  have O0 := Lib.hid (OwnS.lit w w.heap.size [] (Nat.le_refl _) (by decide))
  have B0 := Lib.hid b0
  clear b0
  cases hb : netB ps with
  | false =>
    have HV := Lib.hid (seeB_net (zs := zs) hb)
    rw [hb] at HNV
    clear hb h
    go_enter Tryd.func21, Tryd.ntmps21
    go_wp2_with fail
    refine (HNV.out _).mono ?_
    rintro e w1 ⟨rfl, b1⟩
    go_wp2_with fail
    go_ret2
    exact ⟨_, retv HV.out.symm, by rw [seeV_no HV.out]; exact O0.out.below b1 (Nat.le_refl _), B0.out.trans (b1.mono B0.out.size)⟩
  | true =>
    have HN := Lib.hid hb
    rw [hb] at HNV
    clear hb
    by_cases hl : 32 < zs.length
    · have hl' : (32 : Int) < (zs.length : Int) := by omega
      have HV := Lib.hid (seeB_long (ps := ps) hl)
      clear h
      go_enter Tryd.func21, Tryd.ntmps21
      go_wp2_with fail
      refine (HNV.out _).mono ?_
      rintro e w1 ⟨rfl, b1⟩
      go_wp2_with fail
      go_ret2
      exact ⟨_, retv HV.out.symm, by rw [seeV_no HV.out]; exact O0.out.below b1 (Nat.le_refl _), B0.out.trans (b1.mono B0.out.size)⟩
    · have hl' : ¬ (32 : Int) < (zs.length : Int) := by omega
      go_enter Tryd.func21, Tryd.ntmps21
      go_wp2_with fail
      refine (HNV.out _).mono ?_
      rintro e w1 ⟨rfl, b1⟩
      have B1 := Lib.hid (B0.out.trans (b1.mono B0.out.size))
      have O1 := Lib.hid (O0.out.below b1 (Nat.le_refl _))
      clear b1
      go_wp2_with fail
      go_loopw [6, 7] (fun v q wr => ∃ k : Nat, k ≤ zs.length ∧ q = .int .i64 k ∧ OwnS wr w.heap.size v (seeL ps zs k) ∧ (∀ j, j < k → stB' ps (gI zs j) = true) ∧ Below w.heap.size w wr) (fun _ q _ => zs.length - (intOf q).toNat)
      case atStart => exact ⟨0, Nat.zero_le _, rfl, O1.out, fun j hj => absurd hj (Nat.not_lt_zero _), B1.out⟩
      case round =>
        obtain ⟨k, hk, rfl, ho, hall, hbw⟩ := hrel
        have HO := Lib.hid ho
        have HA := Lib.hid hall
        have HB := Lib.hid hbw
        clear ho hall
        by_cases hlt : k < zs.length
        · obtain ⟨b, o, rfl, hbo⟩ := h.2.some (by omega)
          have hcx := (h.below hbw (Nat.le_refl _)).2.cell b o rfl k hlt
          have HW := Lib.hid (fun W (hW : Below wr.heap.size wr W) => (h.below (hbw.trans (hW.mono hbw.size)) (Nat.le_refl _)).2.cell b o rfl k hlt)
          have hlt' : (k : Int) < (zs.length : Int) := by omega
          have hlen := seeL_len ps zs k
          clear hbw h
          rcases saV_range ps (gI zs k) hp0 with ⟨h1, h2⟩ | ⟨h1, h2, h3⟩
          · have HV := Lib.hid (seeB_not hlt h1)
            have HSk := Lib.hid (fun W => HSA.out (gI zs k) W)
            rw [h2] at HSk
            clear h1 h2
            go_wp2_with fail
            refine (HSk.out _).mono ?_
            rintro e w2 ⟨rfl, b2⟩
            have C2 := Lib.hid (HB.out.trans (b2.mono HB.out.size))
            clear b2
            go_wp2_with fail
            go_ret2
            exact ⟨_, retv HV.out.symm, by rw [seeV_no HV.out]; exact OwnS.lit _ _ [] C2.out.size (by decide), C2.out.alloc C2.out.size _⟩
          · have H1 := Lib.hid h1
            have HN2 := Lib.hid (seeL_next ps zs k)
            have HSk := Lib.hid (fun W => HSA.out (gI zs k) W)
            have hneg : ¬ saV ps (gI zs k) < 0 := by omega
            clear h1 h2
            generalize saV ps (gI zs k) = r at hneg h3 HSk HN2
            go_wp2_with fail
            refine (HSk.out _).mono ?_
            rintro e w2 ⟨rfl, b2⟩
            have C2 := Lib.hid (HB.out.trans (b2.mono HB.out.size))
            have O2 := Lib.hid (HO.out.below b2 (Nat.le_refl _))
            have hc2 := HW.out _ b2
            clear b2
            go_wp2_with (at_builtin; refine wpList_appS (p := (gI zs k, r)) (OwnS.alloc O2.out _) (Blk.new _ _ _) rfl _ _ rfl rfl rfl (by omega) (by have := C2.out.size; simp; omega) ?_; intro v6 w6 o6 g6)
            go_roundw
            case rel => exact ⟨k + 1, by omega, by go_num, by rw [HN2.out]; exact o6, fun j hj => by
                by_cases e : j = k
                · rw [e]; exact H1.out
                · exact HA.out j (by omega), (C2.out.alloc C2.out.size _).grown g6 (by have := C2.out.size; simp; omega) (fun j hj => (World.ownsRow.lt O2.out j hj).1)⟩
            case measure => simp [intOf] <;> omega
        · obtain rfl : k = zs.length := by omega
          have HV := Lib.hid (seeB_yes HN.out (by omega) HA.out)
          clear hbw h
          go_wp2_with fail
          go_ret2
          exact ⟨_, retv HV.out.symm, by rw [seeV_yes HV.out]; exact HO.out, HB.out⟩

end Go.Proofs.YthgjmciiaikgoaaDoor
