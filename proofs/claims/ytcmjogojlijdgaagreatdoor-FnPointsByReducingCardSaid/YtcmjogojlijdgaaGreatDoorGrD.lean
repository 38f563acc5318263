/- Walks and plain facts: several of my texts in one. -/
import Derived.Test.YtcmjogojlijdgaaGreatDoorGrB
import Derived.Test.YtcmjogojlijdgaaGreatDoorGrA
/- Plain: a network's text, cut again. -/
namespace Go.Proofs.YtcmjogojlijdgaaGreatDoor
open Go.RowKit

theorem cutsP_cons {c : UInt8} (x r : List UInt8) (hx : c ∉ x) : cutsP c ⟨(x ++ c :: r).toArray⟩ = (⟨x.toArray⟩ : ByteArray) :: cutsP c ⟨r.toArray⟩ := by
  have h1 : (⟨(x ++ c :: r).toArray⟩ : ByteArray).data.toList[x.length]? = some c := by simp
  have h2 : ∀ k, k < x.length → (⟨(x ++ c :: r).toArray⟩ : ByteArray).data.toList[k]? ≠ some c := fun k hk e => by
    have e' : (x ++ c :: r)[k]? = some c := by simpa using e
    rw [List.getElem?_append_left hk] at e'
    exact hx (List.mem_of_getElem? e')
  rw [cutsP_hit h1 h2]
  congr 1
  · apply ByteArray.ext
    simp [ByteArray.data_extract, List.extract_toArray, List.extract_eq_take_drop]
  · congr 1
    apply ByteArray.ext
    have hz : (⟨(x ++ c :: r).toArray⟩ : ByteArray).size = x.length + 1 + r.length := by simp [ByteArray.size]; omega
    rw [hz]
    have hd : (x ++ c :: r).drop (x.length + 1) = r := by rw [← List.drop_drop, List.drop_left]; rfl
    simp only [ByteArray.data_extract, List.extract_toArray, List.extract_eq_take_drop, hd]
    rw [List.take_of_length_le (by omega)]
theorem cuts_list {c : UInt8} : ∀ (ts : List (List UInt8)), ts ≠ [] → (∀ t ∈ ts, c ∉ t) → cutsP c ⟨(Lib.join ts [c]).toArray⟩ = ts.map fun t => (⟨t.toArray⟩ : ByteArray)
  | [], h, _ => absurd rfl h
  | [x], _, hc => by
    rw [Lib.join_one, cutsP_miss]
    · rfl
    · intro k e
      have e' : x[k]? = some c := by simpa using e
      exact hc x (by simp) (List.mem_of_getElem? e')
  | x :: y :: r, _, hc => by
    have ih := cuts_list (y :: r) (by simp) (fun t ht => hc t (by simp [ht]))
    have e : Lib.join (x :: y :: r) [c] = x ++ c :: Lib.join (y :: r) [c] := by
      rw [Lib.join_cons, Lib.join_cons]
      simp [Lib.joinTail]
    rw [e, cutsP_cons _ _ (hc x (by simp)), ih]
    rfl
theorem join_cuts (c : UInt8) : ∀ (n : Nat) (l : List UInt8), l.length ≤ n → Lib.join ((cutsP c ⟨l.toArray⟩).map (·.data.toList)) [c] = l
  | n, l, hl => by
    by_cases hm : c ∈ l
    · obtain ⟨x, r, e, hx⟩ : ∃ x r, l = x ++ c :: r ∧ c ∉ x := by
        clear hl
        induction l with
        | nil => cases hm
        | cons a l ih =>
          by_cases ha : a = c
          · exact ⟨[], l, by rw [ha]; rfl, by simp⟩
          · obtain ⟨x, r, e, hx⟩ := ih (by rcases List.mem_cons.1 hm with h | h; exact absurd h.symm ha; exact h)
            exact ⟨a :: x, r, by rw [e]; rfl, by simp [hx]; exact fun h => ha h.symm⟩
      subst e
      cases n with
      | zero => simp at hl
      | succ n =>
        have ih := join_cuts c n r (by simp at hl; omega)
        rw [cutsP_cons x r hx, List.map_cons, Lib.join_cons]
        have hne : cutsP c ⟨r.toArray⟩ ≠ [] := fun e => by have := cutsP_pos c ⟨r.toArray⟩; rw [e] at this; simp at this
        obtain ⟨y, ys, ey⟩ := List.exists_cons_of_ne_nil hne
        rw [ey] at ih ⊢
        rw [List.map_cons, Lib.join_cons] at ih
        simp only [Lib.joinTail, List.map_cons, List.map_map, List.flatten_cons] at ih ⊢
        rw [← ih]
        simp
    · rw [cutsP_miss]
      · rw [List.map_cons, List.map_nil, Lib.join_one]
      · intro k e
        have e' : l[k]? = some c := by simpa using e
        exact hm (List.mem_of_getElem? e')
/-- A text is its parts, joined. -/
theorem text_cuts (s : ByteArray) : joinF (gT (cutsP 44 s)) ⟨#[44]⟩ (cutsP 44 s).length = s := by
  have h0 := cutsP_pos 44 s
  have h := join_cuts 44 s.data.toList.length s.data.toList (Nat.le_refl _)
  have e : (⟨s.data.toList.toArray⟩ : ByteArray) = s := by apply ByteArray.ext; simp
  rw [e] at h
  rw [← join_eq _ _ _ h0]
  have el : listF (gT (cutsP 44 s)) (cutsP 44 s).length = cutsP 44 s := by
    apply List.ext_getElem?
    intro i
    by_cases hi : i < (cutsP 44 s).length
    · simp [listF, hi, gT, List.getD]
    · simp [listF, hi]
  rw [el, h]

theorem digT_no (zs : List Int) (h : ∀ z ∈ zs, z = 0 ∨ z = 1) : (44 : UInt8) ∉ (digT zs).data.toList := fun hm => by
  simp only [digT] at hm
  obtain ⟨z, hz, e⟩ := List.mem_map.1 hm
  rcases h z hz with rfl | rfl
  · revert e; decide
  · revert e; decide
theorem digF_no {F : Nat → Nat → Nat} {n k : Nat} (h : ∀ s, s < 2 ^ n → F k s < 2) : (44 : UInt8) ∉ (digF F n k).data.toList := by
  refine digT_no _ fun z hz => ?_
  obtain ⟨s, hs, rfl⟩ := List.mem_map.1 hz
  have := h s (by simpa using hs)
  omega
/-- The parts of a network's text are its tables. -/
theorem cuts_net {F : Nat → Nat → Nat} {n : Nat} (h0 : 0 < n) (h : ∀ k s, k < n → s < 2 ^ n → F k s < 2) : cutsP 44 (netT F n) = listF (digF F n) n := by
  rw [netT, ← join_eq _ _ _ h0]
  rw [show (⟨#[44]⟩ : ByteArray).data.toList = [44] from rfl, cuts_list]
  · rw [List.map_map]
    conv => rhs; rw [← List.map_id (listF (digF F n) n)]
    apply List.map_congr_left
    intro t _
    apply ByteArray.ext
    simp
  · intro e
    have := congrArg List.length e
    simp [listF_len] at this
    omega
  · intro t ht
    obtain ⟨u, hu, rfl⟩ := List.mem_map.1 ht
    obtain ⟨k, hk, rfl⟩ := List.mem_map.1 hu
    exact digF_no fun s hs => h k s (by simpa using hk) hs
theorem gT_listF {f : Nat → ByteArray} {n k : Nat} (h : k < n) : gT (listF f n) k = f k := by simp [gT, listF, List.getD, h]
theorem byD_of {zs : List Int} (s : Nat) (hs : s < zs.length) (h : gI zs s = 0 ∨ gI zs s = 1) : byD (digT zs) s = gI zs s := by
  have e : (digT zs).data.toList.getD s 48 = UInt8.ofNat (48 + (gI zs s).toNat) := by
    rw [List.getD_eq_getElem?_getD]
    simp only [digT, List.getElem?_map, gI_lt hs]
    rfl
  rw [byD, e]
  rcases h with e | e <;> rw [e] <;> rfl
theorem bitN_net {F : Nat → Nat → Nat} {n k s : Nat} (hk : k < n) (hs : s < 2 ^ n) (h : F k s < 2) : bitN (listF (digF F n) n) k s = F k s := by
  have hg : gI ((List.range (2 ^ n)).map fun s => ((F k s : Nat) : Int)) s = (F k s : Nat) := by simp [gI, List.getD, hs]
  rw [bitN, gT_listF hk, digF, byD_of s (by simpa using hs) (by rw [hg]; omega), hg]
  rfl
theorem digF_dig {F : Nat → Nat → Nat} {n k : Nat} (h : ∀ s, s < 2 ^ n → F k s < 2) : digB (digF F n k) = true := by
  rw [digB, List.all_eq_true]
  intro b hb
  simp only [digF, digT, List.map_map] at hb
  obtain ⟨s, hs, rfl⟩ := List.mem_map.1 hb
  have := h s (by simpa using hs)
  simp only [Function.comp, Int.toNat_natCast]
  rcases (show F k s = 0 ∨ F k s = 1 by omega) with e | e <;> rw [e] <;> rfl
theorem netB_net {F : Nat → Nat → Nat} {n : Nat} (hn : 1 ≤ n ∧ n ≤ 5) (h : ∀ k s, k < n → s < 2 ^ n → F k s < 2) : netB (listF (digF F n) n) = true := by
  refine netB_yes fun k hk => ?_
  rw [listF_len] at hk ⊢
  rw [gT_listF hk, digF_size, inpV_pow n hn, digF_dig fun s hs => h k s hk hs]
  simp

theorem gT_net {ps : List ByteArray} (hn : netB ps = true) {k : Nat} (hk : k < ps.length) : gT ps k = digT ((List.range (2 ^ ps.length)).map fun s => ((bitN ps k s : Nat) : Int)) := by
  have hd := (netB_get hn k hk).1
  have hz := net_size hn k hk
  apply ByteArray.ext
  apply Array.toList_inj.1
  apply List.ext_getElem?
  intro s
  by_cases hs : s < 2 ^ ps.length
  · have h1 := at_byte (gT ps k) s (by omega)
    have h2 := byD_at (gT ps k) s (by omega)
    rw [bitN_eq hd s] at h2
    have hlt := bitN_lt hd s
    rw [h1]
    simp only [digT, List.map_map, List.getElem?_map, List.getElem?_range hs, Option.map_some, Function.comp, Int.toNat_natCast]
    congr 1
    apply UInt8.toNat_inj.1
    rcases (show bitN ps k s = 0 ∨ bitN ps k s = 1 by omega) with e | e
    · rw [e] at h2 ⊢
      have : (gT ps k)[s].toNat = 48 := by omega
      rw [this]; rfl
    · rw [e] at h2 ⊢
      have : (gT ps k)[s].toNat = 49 := by omega
      rw [this]; rfl
  · rw [List.getElem?_eq_none (by have : (gT ps k).data.toList.length = (gT ps k).size := by simp
                                  omega), List.getElem?_eq_none (by simp [digT]; omega)]

end Go.Proofs.YtcmjogojlijdgaaGreatDoor
/- Plain: what does not act on a switch does not matter for it; steps of blocks. -/
namespace Go.Proofs.YtcmjogojlijdgaaGreatDoor
open Go.RowKit

theorem setN_same {s i v : Nat} (hs : s < 32) (hi : i < 5) (hv : v < 2) (h : s.testBit i = decide (v = 1)) : setN s i v = s :=
  eq_32 (setN_lt hs hi hv) hs fun j hj => by
    rw [setN_bit hs hi hv hj]
    split
    · rename_i e; rw [e, h]
    · rfl
theorem setN_pow {s i v n : Nat} (hs : s < 2 ^ n) (hi : i < n) (hv : v < 2) : setN s i v < 2 ^ n := by
  refine Nat.or_lt_two_pow (Nat.lt_of_le_of_lt Nat.and_le_left hs) ?_
  have := Nat.pow_lt_pow_right (show 1 < 2 by decide) hi
  rcases (show v = 0 ∨ v = 1 by omega) with rfl | rfl
  · simpa using Nat.two_pow_pos n
  · simpa using this
theorem pow_32 {n : Nat} (h5 : n ≤ 5) : (2 ^ n : Nat) ≤ 32 := Nat.pow_le_pow_right (n := 2) (by decide) h5

theorem act_none {ps : List ByteArray} {i k s : Nat} (h : actB ps i k = false) (hs : s < 2 ^ ps.length) : bitN ps k (setN s i 0) = bitN ps k (setN s i 1) := by
  rw [actB, Bool.or_eq_false_iff] at h
  have h1 : ¬ bitU (bitN ps k) i s = true := fun e => by
    have := (anyTo_iff (bitU (bitN ps k) i) (2 ^ ps.length)).2 ⟨s, hs, e⟩
    rw [show anyTo (bitU (bitN ps k) i) (2 ^ ps.length) = false from h.1] at this
    cases this
  have h2 : ¬ bitD (bitN ps k) i s = true := fun e => by
    have := (anyTo_iff (bitD (bitN ps k) i) (2 ^ ps.length)).2 ⟨s, hs, e⟩
    rw [show anyTo (bitD (bitN ps k) i) (2 ^ ps.length) = false from h.2] at this
    cases this
  simp only [bitU, bitD, decide_eq_true_iff] at h1 h2
  omega
theorem act_some {ps : List ByteArray} {i k : Nat} (h : actB ps i k = true) : ∃ s, s < 2 ^ ps.length ∧ bitN ps k (setN s i 0) ≠ bitN ps k (setN s i 1) := by
  rw [actB, Bool.or_eq_true] at h
  rcases h with h | h
  · obtain ⟨s, hs, e⟩ := (anyTo_iff _ _).1 h
    simp only [bitU, decide_eq_true_iff] at e
    exact ⟨s, hs, by omega⟩
  · obtain ⟨s, hs, e⟩ := (anyTo_iff _ _).1 h
    simp only [bitD, decide_eq_true_iff] at e
    exact ⟨s, hs, by omega⟩
theorem act_set {ps : List ByteArray} (h5 : ps.length ≤ 5) {i k s v : Nat} (h : actB ps i k = false) (hi : i < ps.length) (hs : s < 2 ^ ps.length) (hv : v < 2) : bitN ps k (setN s i v) = bitN ps k s := by
  have hp := pow_32 h5
  have h0 := act_none h hs
  cases hb : s.testBit i with
  | true =>
    have e : setN s i 1 = s := setN_same (by omega) (by omega) (by decide) (by rw [hb]; rfl)
    rw [e] at h0
    rcases (show v = 0 ∨ v = 1 by omega) with rfl | rfl
    · exact h0
    · rw [e]
  | false =>
    have e : setN s i 0 = s := setN_same (by omega) (by omega) (by decide) (by rw [hb]; rfl)
    rw [e] at h0
    rcases (show v = 0 ∨ v = 1 by omega) with rfl | rfl
    · rw [e]
    · exact h0.symm
/-- The first j switches of one state, the others of another one. -/
def hyb (s t : Nat) : Nat → Nat
  | 0 => s
  | j + 1 => setN (hyb s t j) j (bN t j)
theorem hyb_inv {s t n : Nat} (h5 : n ≤ 5) (hs : s < 2 ^ n) : ∀ j, j ≤ n → hyb s t j < 2 ^ n ∧ ∀ i, i < 5 → (hyb s t j).testBit i = if i < j then t.testBit i else s.testBit i
  | 0, _ => ⟨hs, fun i _ => by simp [hyb]⟩
  | j + 1, hj => by
    obtain ⟨h1, h2⟩ := hyb_inv h5 hs j (by omega)
    have hp := pow_32 h5
    refine ⟨setN_pow h1 (by omega) (bN_lt t j), fun i hi => ?_⟩
    rw [hyb, setN_bit (by omega) (by omega) (bN_lt t j) hi]
    by_cases e : i = j
    · subst e
      rw [if_pos rfl, if_pos (Nat.lt_succ_self _)]
      have := bit_test t i
      rw [show t / 2 ^ i % 2 = bN t i from rfl] at this
      rw [this]
      cases t.testBit i <;> rfl
    · rw [if_neg e, h2 i hi]
      by_cases h3 : i < j
      · simp [h3, show i < j + 1 by omega]
      · simp [h3, show ¬ i < j + 1 by omega]
/-- A switch's rule has the same value at two states that agree on all that act on it. -/
theorem bit_indep {ps : List ByteArray} (h5 : ps.length ≤ 5) {k s t : Nat} (hs : s < 2 ^ ps.length) (ht : t < 2 ^ ps.length) (h : ∀ i, i < ps.length → actB ps i k = true → s.testBit i = t.testBit i) : bitN ps k s = bitN ps k t := by
  have hp := pow_32 h5
  have key : ∀ j, j ≤ ps.length → bitN ps k (hyb s t j) = bitN ps k s := by
    intro j
    induction j with
    | zero => intro _; rfl
    | succ j ih =>
      intro hj
      obtain ⟨h1, h2⟩ := hyb_inv (t := t) h5 hs j (by omega)
      rw [← ih (by omega)]
      show bitN ps k (setN (hyb s t j) j (bN t j)) = _
      cases ha : actB ps j k with
      | false => exact act_set h5 ha (by omega) h1 (bN_lt t j)
      | true =>
        have e := h j (by omega) ha
        rw [setN_same (by omega) (by omega) (bN_lt t j)]
        rw [h2 j (by omega), if_neg (Nat.lt_irrefl _), e]
        have := bit_test t j
        rw [show t / 2 ^ j % 2 = bN t j from rfl] at this
        rw [this]
        cases t.testBit j <;> rfl
  have h3 := key ps.length (Nat.le_refl _)
  obtain ⟨h1, h2⟩ := hyb_inv (t := t) h5 hs ps.length (Nat.le_refl _)
  have e : hyb s t ps.length = t := eq_32 (by omega) (by omega) fun i hi => by
    rw [h2 i hi]
    split
    · rfl
    · rename_i hx
      have h4 : (2 : Nat) ^ ps.length ≤ 2 ^ i := Nat.pow_le_pow_right (by decide) (by omega)
      rw [Nat.testBit_lt_two_pow (show s < 2 ^ i by omega), Nat.testBit_lt_two_pow (show t < 2 ^ i by omega)]
  rw [e] at h3
  exact h3.symm

/-- The bits of a step of some switches. -/
theorem stepTo_bit {ps : List ByteArray} (hn : netB ps = true) (h5 : ps.length ≤ 5) {s b j : Nat} (hs : s < 2 ^ ps.length) (hj : j < ps.length) : (stepTo ps s b ps.length).testBit j = if b.testBit j = true then decide (bitN ps j s = 1) else s.testBit j := by
  have hp := pow_32 h5
  rw [(stepTo_inv hn h5 b (by omega) ps.length (Nat.le_refl _)).2 j (by omega)]
  simp [hj]
theorem allTo_bit {ps : List ByteArray} (hn : netB ps = true) (h5 : ps.length ≤ 5) {s j : Nat} (hj : j < ps.length) : (allTo ps s ps.length).testBit j = decide (bitN ps j s = 1) := by
  rw [(allTo_inv hn h5 s ps.length (Nat.le_refl _)).2 j (by omega)]
  simp [hj]
theorem allTo_lt {ps : List ByteArray} (hn : netB ps = true) (h5 : ps.length ≤ 5) (s : Nat) : allTo ps s ps.length < 2 ^ ps.length := by
  obtain ⟨h1, h2⟩ := allTo_inv hn h5 s ps.length (Nat.le_refl _)
  refine Nat.lt_pow_two_of_testBit _ fun i hi => ?_
  by_cases h : i < 5
  · rw [h2 i h]; simp; omega
  · exact Nat.testBit_lt_two_pow (Nat.lt_of_lt_of_le h1 (show (2:Nat) ^ 5 ≤ 2 ^ i from Nat.pow_le_pow_right (by decide) (by omega)))
/-- Two states of n switches with the same bits. -/
theorem eq_pow {n a b : Nat} (ha : a < 2 ^ n) (hb : b < 2 ^ n) (h : ∀ i, i < n → a.testBit i = b.testBit i) : a = b := by
  apply Nat.eq_of_testBit_eq
  intro i
  by_cases hi : i < n
  · exact h i hi
  · have h4 : (2 : Nat) ^ n ≤ 2 ^ i := Nat.pow_le_pow_right (by decide) (by omega)
    rw [Nat.testBit_lt_two_pow (show a < 2 ^ i by omega), Nat.testBit_lt_two_pow (show b < 2 ^ i by omega)]
theorem bit_eq {ps : List ByteArray} (hn : netB ps = true) {j s t : Nat} (hj : j < ps.length) (h : decide (bitN ps j s = 1) = decide (bitN ps j t = 1)) : bitN ps j s = bitN ps j t := by
  have h1 := bitN_lt (netB_get hn j hj).1 s
  have h2 := bitN_lt (netB_get hn j hj).1 t
  have h3 : bitN ps j s = 1 ↔ bitN ps j t = 1 := by simpa using h
  omega
theorem step_all {ps : List ByteArray} (hn : netB ps = true) (h5 : ps.length ≤ 5) {s : Nat} (hs : s < 2 ^ ps.length) : stepTo ps s (2 ^ ps.length - 1) ps.length = allTo ps s ps.length :=
  eq_pow (stepTo_lt hn h5 _ hs) (allTo_lt hn h5 s) fun j hj => by
    rw [stepTo_bit hn h5 hs hj, allTo_bit hn h5 hj, Nat.testBit_two_pow_sub_one]
    simp [hj]
/-- Two blocks at once, if none of the first acts on the second. -/
theorem step_join {ps : List ByteArray} (hn : netB ps = true) (h5 : ps.length ≤ 5) {s a b : Nat} (hs : s < 2 ^ ps.length) (h : ∀ i j, i < ps.length → j < ps.length → a.testBit i = true → b.testBit j = true → actB ps i j = false) :
    stepTo ps (stepTo ps s a ps.length) b ps.length = stepTo ps s (a ||| b) ps.length := by
  have h1 := stepTo_lt hn h5 a hs
  refine eq_pow (stepTo_lt hn h5 b h1) (stepTo_lt hn h5 _ hs) fun j hj => ?_
  have e1 := stepTo_bit hn h5 (b := b) h1 hj
  have e2 := stepTo_bit hn h5 (b := a ||| b) hs hj
  have e3 := stepTo_bit hn h5 (b := a) hs hj
  rw [e1, e2, Nat.testBit_or]
  cases hb : b.testBit j with
  | true =>
    have e : bitN ps j (stepTo ps s a ps.length) = bitN ps j s := bit_indep h5 h1 hs fun i hi ha => by
      rw [stepTo_bit hn h5 hs hi]
      cases hai : a.testBit i with
      | false => rfl
      | true =>
        rw [h i j hi hj hai hb] at ha
        cases ha
    rw [e]
    simp
  | false =>
    rw [e3]
    simp
/-- The steps of a list of blocks. -/
def runL (ps : List ByteArray) (s : Nat) (zs : List Int) : Nat := zs.foldl (fun s z => stepTo ps s z.toNat ps.length) s
theorem runL_nil (ps : List ByteArray) (s : Nat) : runL ps s [] = s := rfl
theorem runL_cons (ps : List ByteArray) (s : Nat) (z : Int) (zs : List Int) : runL ps s (z :: zs) = runL ps (stepTo ps s z.toNat ps.length) zs := rfl
theorem runL_app (ps : List ByteArray) (s : Nat) (xs ys : List Int) : runL ps s (xs ++ ys) = runL ps (runL ps s xs) ys := by simp [runL]
theorem runTo_take (ps : List ByteArray) (zs : List Int) (s : Nat) : ∀ k, k ≤ zs.length → runTo ps zs s k = runL ps s (zs.take k)
  | 0, _ => by simp [runTo, runL]
  | k + 1, hk => by
    rw [runTo, runTo_take ps zs s k (by omega), take_succ_of zs k _ (gI_lt (by omega)), runL_app]
    rfl
theorem runTo_all (ps : List ByteArray) (zs : List Int) (s : Nat) : runTo ps zs s zs.length = runL ps s zs := by rw [runTo_take ps zs s _ (Nat.le_refl _), List.take_length]
theorem runL_lt {ps : List ByteArray} (hn : netB ps = true) (h5 : ps.length ≤ 5) : ∀ (zs : List Int) {s : Nat}, s < 2 ^ ps.length → runL ps s zs < 2 ^ ps.length
  | [], _, hs => hs
  | _ :: zs, _, hs => runL_lt hn h5 zs (stepTo_lt hn h5 _ hs)

end Go.Proofs.YtcmjogojlijdgaaGreatDoor
