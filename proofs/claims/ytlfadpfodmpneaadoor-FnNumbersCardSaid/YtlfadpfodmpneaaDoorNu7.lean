/- Plain: lists of numbers as texts, and back. -/
import Derived.Test.YtlfadpfodmpneaaDoorNu6
import Derived.Test.YtlfadpfodmpneaaDoorJn
namespace Go.Proofs.YtlfadpfodmpneaaDoor
open Go.RowKit

theorem cutsP_consN {c : UInt8} (x r : List UInt8) (hx : c ∉ x) : cutsP c ⟨(x ++ c :: r).toArray⟩ = (⟨x.toArray⟩ : ByteArray) :: cutsP c ⟨r.toArray⟩ := by
  have h1 : (⟨(x ++ c :: r).toArray⟩ : ByteArray).data.toList[x.length]? = some c := by simp
  have h2 : ∀ k, k < x.length → (⟨(x ++ c :: r).toArray⟩ : ByteArray).data.toList[k]? ≠ some c := fun k hk e => by
    have e' : (x ++ c :: r)[k]? = some c := by simpa using e
    rw [List.getElem?_append_left hk] at e'
    exact hx (List.mem_of_getElem? e')
  rw [cutsP_hit h1 h2]
  congr 1
  · apply ByteArray.ext
    simp [ByteArray.data_extract, List.extract_toArray, List.extract_eq_take_drop]
  · congr 1
    apply ByteArray.ext
    have hz : (⟨(x ++ c :: r).toArray⟩ : ByteArray).size = x.length + 1 + r.length := by simp [ByteArray.size]; omega
    rw [hz]
    have hd : (x ++ c :: r).drop (x.length + 1) = r := by rw [← List.drop_drop, List.drop_left]; rfl
    simp only [ByteArray.data_extract, List.extract_toArray, List.extract_eq_take_drop, hd]
    rw [List.take_of_length_le (by omega)]
theorem cuts_listN {c : UInt8} : ∀ (ts : List (List UInt8)), ts ≠ [] → (∀ t ∈ ts, c ∉ t) → cutsP c ⟨(Lib.join ts [c]).toArray⟩ = ts.map fun t => (⟨t.toArray⟩ : ByteArray)
  | [], h, _ => absurd rfl h
  | [x], _, hc => by
    rw [Lib.join_one, cutsP_miss]
    · rfl
    · intro k e
      have e' : x[k]? = some c := by simpa using e
      exact hc x (by simp) (List.mem_of_getElem? e')
  | x :: y :: r, _, hc => by
    have ih := cuts_listN (y :: r) (by simp) (fun t ht => hc t (by simp [ht]))
    have e : Lib.join (x :: y :: r) [c] = x ++ c :: Lib.join (y :: r) [c] := by
      rw [Lib.join_cons, Lib.join_cons]
      simp [Lib.joinTail]
    rw [e, cutsP_consN _ _ (hc x (by simp)), ih]
    rfl
theorem join_cutsN (c : UInt8) : ∀ (n : Nat) (l : List UInt8), l.length ≤ n → Lib.join ((cutsP c ⟨l.toArray⟩).map (·.data.toList)) [c] = l
  | n, l, hl => by
    by_cases hm : c ∈ l
    · obtain ⟨x, r, e, hx⟩ : ∃ x r, l = x ++ c :: r ∧ c ∉ x := by
        clear hl
        induction l with
        | nil => cases hm
        | cons a l ih =>
          by_cases ha : a = c
          · exact ⟨[], l, by rw [ha]; rfl, by simp⟩
          · obtain ⟨x, r, e, hx⟩ := ih (by rcases List.mem_cons.1 hm with h | h; exact absurd h.symm ha; exact h)
            exact ⟨a :: x, r, by rw [e]; rfl, by simp [hx]; exact fun h => ha h.symm⟩
      subst e
      cases n with
      | zero => simp at hl
      | succ n =>
        have ih := join_cutsN c n r (by simp at hl; omega)
        rw [cutsP_consN x r hx, List.map_cons, Lib.join_cons]
        have hne : cutsP c ⟨r.toArray⟩ ≠ [] := fun e => by have := cutsP_pos c ⟨r.toArray⟩; rw [e] at this; simp at this
        obtain ⟨y, ys, ey⟩ := List.exists_cons_of_ne_nil hne
        rw [ey] at ih ⊢
        rw [List.map_cons, Lib.join_cons] at ih
        simp only [Lib.joinTail, List.map_cons, List.map_map, List.flatten_cons] at ih ⊢
        rw [← ih]
        simp
    · rw [cutsP_miss]
      · rw [List.map_cons, List.map_nil, Lib.join_one]
      · intro k e
        have e' : l[k]? = some c := by simpa using e
        exact hm (List.mem_of_getElem? e')
/-- A text is its parts, joined. -/
theorem text_cutsN (s : ByteArray) : joinF (gT (cutsP 32 s)) ⟨#[32]⟩ (cutsP 32 s).length = s := by
  have h0 := cutsP_pos 32 s
  have h := join_cutsN 32 s.data.toList.length s.data.toList (Nat.le_refl _)
  have e : (⟨s.data.toList.toArray⟩ : ByteArray) = s := by apply ByteArray.ext; simp
  rw [e] at h
  rw [← join_eq _ _ _ h0]
  have el : listF (gT (cutsP 32 s)) (cutsP 32 s).length = cutsP 32 s := by
    apply List.ext_getElem?
    intro i
    by_cases hi : i < (cutsP 32 s).length
    · simp [listF, hi, gT, List.getD]
    · simp [listF, hi]
  rw [el, h]


theorem itoa_no (n : Int) : (32 : UInt8) ∉ Lib.itoa n := by
  unfold Lib.itoa
  split
  · intro h
    rcases List.mem_cons.1 h with h | h
    · exact absurd h (by decide)
    · have := dec_dig _ _ h
      exact absurd this (by decide)
  · intro h
    have := dec_dig _ _ h
    exact absurd this (by decide)
/-- The parts of the text of a list are the numerals of its numbers. -/
theorem cuts_nus {zs : List Int} (h : 0 < zs.length) : cutsP 32 (nusV zs) = listF (nusF zs) zs.length := by
  rw [nusV_yes h, ← join_eq _ _ _ h, show (⟨#[32]⟩ : ByteArray).data.toList = [32] from rfl, cuts_listN]
  · simp only [List.map_map]
    rw [show ((fun t : List UInt8 => (⟨t.toArray⟩ : ByteArray)) ∘ fun x : ByteArray => x.data.toList) = id from funext fun x => by apply ByteArray.ext; simp]
    simp
  · intro e
    have h2 := congrArg List.length e
    rw [List.length_map, listF_len] at h2
    have h3 : zs.length = 0 := h2
    omega
  · intro t ht
    obtain ⟨b, hb, rfl⟩ := List.mem_map.1 ht
    rw [listF] at hb
    obtain ⟨i, _, rfl⟩ := List.mem_map.1 hb
    exact itoa_no _
theorem gT_listFN {f : Nat → ByteArray} {n k : Nat} (h : k < n) : gT (listF f n) k = f k := by simp [gT, listF, List.getD, h]
/-- Whether a number is neither negative nor too great. -/
def fitB (z : Int) : Bool := decide (0 ≤ z) && decide (z ≤ 1000000)
theorem nm_itoa {z : Int} : numO (Lib.itoa z) = if fitB z = true then some z.toNat else none := by
  by_cases h0 : 0 ≤ z
  · obtain ⟨u, rfl⟩ := Int.eq_ofNat_of_zero_le h0
    rw [Lib.itoa_nonneg]
    by_cases h1 : u ≤ 1000000
    · rw [if_pos (by simp [fitB]; omega)]
      exact numO_some.2 ⟨by simpa using h1, by simp⟩
    · rw [if_neg (by simp [fitB]; omega)]
      refine numO_of fun v hv e => ?_
      have h2 := dec_back v
      rw [e, dec_back] at h2
      have := Option.some.inj h2
      omega
  · rw [if_neg (by simp [fitB]; omega)]
    refine numO_of fun v _ e => ?_
    have e2 : Lib.itoa z = 45 :: Lib.decDigits z.natAbs := by unfold Lib.itoa; rw [if_pos (by omega)]
    rw [e2] at e
    exact dec_not45 e
/-- Whether all of the first k numbers fit, and there is one. -/
def fitTo (zs : List Int) (k : Nat) : Bool := decide (0 < zs.length) && (List.range k).all fun i => fitB (gI zs i)
theorem fitTo_zero (zs : List Int) : fitTo zs 0 = decide (0 < zs.length) := by simp [fitTo]
theorem fitTo_next (zs : List Int) (k : Nat) : fitTo zs (k + 1) = (fitTo zs k && fitB (gI zs k)) := by simp [fitTo, List.range_succ, Bool.and_assoc]
/-- The text of a list is read back, if all numbers fit. -/
theorem back_ok {zs : List Int} (h32 : zs.length ≤ 32) : pnB (cutsP 32 (nusV zs)) = fitTo zs zs.length ∧ (fitTo zs zs.length = true → pnV (cutsP 32 (nusV zs)) = zs) := by
  by_cases h0 : 0 < zs.length
  · have hc := cuts_nus h0
    have hnm : ∀ i, i < zs.length → nmO (listF (nusF zs) zs.length) i = if fitB (gI zs i) = true then some (gI zs i).toNat else none := fun i hi => by
      rw [nmO, gT_listFN hi, nusF, itB_list, nm_itoa]
    have hb : pnB (listF (nusF zs) zs.length) = fitTo zs zs.length := by
      rw [pnB, listF_len, decide_eq_true h32, fitTo, decide_eq_true h0, Bool.true_and, Bool.true_and]
      rw [Bool.eq_iff_iff, List.all_eq_true, List.all_eq_true]
      refine forall_congr' fun i => forall_congr' fun hi => ?_
      rw [hnm i (List.mem_range.1 hi)]
      cases fitB (gI zs i) <;> simp
    rw [hc, hb]
    refine ⟨rfl, fun hf => ?_⟩
    rw [pnV_yes (by rw [hb]; exact hf), listF_len]
    apply List.ext_getElem
    · rw [nmL_len]
    · intro i h1 h2
      have hi : i < zs.length := h2
      have e1 : (nmL (listF (nusF zs) zs.length) zs.length)[i] = gI (nmL (listF (nusF zs) zs.length) zs.length) i := by simp [gI, List.getD, h1]
      have e2 : zs[i] = gI zs i := by simp [gI, List.getD, hi]
      rw [fitTo, Bool.and_eq_true, List.all_eq_true] at hf
      have hfi := hf.2 i (List.mem_range.2 hi)
      rw [e1, nmL_get hi, hnm i hi, if_pos hfi, e2]
      simp only [fitB, Bool.and_eq_true, decide_eq_true_iff] at hfi
      simp only [Option.getD_some]
      omega
  · have e : zs = [] := List.eq_nil_of_length_eq_zero (by omega)
    subst e
    have hc : cutsP 32 (nusV []) = [⟨#[45]⟩] := by rw [nusV_nil]; decide +kernel
    have hn : nmO [⟨#[45]⟩] 0 = none := by
      rw [nmO]
      exact numO_of fun u _ e => dec_not45 (u := u) (r := []) e
    rw [hc]
    have hb : pnB [⟨#[45]⟩] = false := pnB_bad (i := 0) (by decide) hn
    exact ⟨by rw [hb]; rfl, fun h => by cases h⟩
/-- A text that is read is that of the list. -/
theorem text_back {t : ByteArray} (h : pnB (cutsP 32 t) = true) : nusV (pnV (cutsP 32 t)) = t := by
  have h0 := cutsP_pos 32 t
  have ht := text_cutsN t
  generalize cutsP 32 t = ps at *
  rw [pnV_yes h]
  rw [pnB, Bool.and_eq_true, List.all_eq_true] at h
  have hl : (nmL ps ps.length).length = ps.length := nmL_len _ _
  rw [nusV_yes (by rw [hl]; exact h0), hl]
  have : ∀ n, n ≤ ps.length → joinF (nusF (nmL ps ps.length)) ⟨#[32]⟩ n = joinF (gT ps) ⟨#[32]⟩ n := by
    intro n hn
    induction n with
    | zero => rfl
    | succ n ih =>
      have hi := h.2 n (List.mem_range.2 (by omega))
      have e1 : nusF (nmL ps ps.length) n = gT ps n := by
        rw [nusF, nmL_get (by omega)]
        cases hv : nmO ps n with
        | none => rw [hv] at hi; cases hi
        | some u =>
          obtain ⟨_, h2⟩ := numO_some.1 hv
          rw [Option.getD_some, itB_nat, h2]
      by_cases hz : 0 < n
      · rw [joinF_next _ _ _ hz, joinF_next _ _ _ hz, ih (by omega), e1]
      · obtain rfl : n = 0 := by omega
        have j1 : ∀ f : Nat → ByteArray, joinF f ⟨#[32]⟩ (0 + 1) = joinF f ⟨#[32]⟩ 0 ++ f 0 := fun f => rfl
        rw [j1, j1, e1]; rfl
  rw [this _ (Nat.le_refl _), ht]
theorem pnV_inR (ps : List ByteArray) : InR (pnV ps) := by
  intro i hi
  unfold pnV at hi ⊢
  split
  · rename_i h
    rw [if_pos h, nmL_len] at hi
    rw [nmL_get hi]
    cases hv : nmO ps i with
    | none => simp
    | some u =>
      obtain ⟨h1, _⟩ := numO_some.1 hv
      rw [Option.getD_some]
      omega
  · rename_i h
    rw [if_neg h] at hi
    simp at hi

end Go.Proofs.YtlfadpfodmpneaaDoor
