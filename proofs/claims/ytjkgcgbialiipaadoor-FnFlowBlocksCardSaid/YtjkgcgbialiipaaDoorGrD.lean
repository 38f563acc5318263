/- Walks and plain facts: several of my texts in one. -/
import Derived.Test.YtjkgcgbialiipaaDoorGrA
import Derived.Test.YtjkgcgbialiipaaDoorGrB
import Derived.Deep.RegionLaw
import Derived.Lib.AppendZeros
/- Plain: circuits of a relation on few numbers; without one, whatever is open has a source. -/
namespace Go.Proofs.YtjkgcgbialiipaaDoor
open Go.RowKit

/-- Whether a way that began at a number and has come to another one, over a set, can be closed. -/
def walkB (A : Nat → Nat → Bool) (n first : Nat) : Nat → Nat → Nat → Bool
  | 0, _, _ => false
  | f + 1, last, set => A last first || (List.range n).any fun k => decide (first < k) && (A last k && (!set.testBit k && walkB A n first f k (set ||| 2 ^ k)))
/-- Whether there is a circuit. -/
def circB (A : Nat → Nat → Bool) (n : Nat) : Bool := (List.range n).any fun i => walkB A n i 6 i (2 ^ i)

theorem nodup_le : ∀ (n : Nat) (l : List Nat), l.Nodup → (∀ x ∈ l, x < n) → l.length ≤ n
  | 0, [], _, _ => Nat.le_refl _
  | 0, x :: _, _, h => absurd (h x (by simp)) (Nat.not_lt_zero _)
  | n + 1, l, hn, h => by
    by_cases hm : n ∈ l
    · have := nodup_le n (l.erase n) (hn.erase n) (fun x hx => by
        have h1 := (List.Nodup.mem_erase_iff hn).1 hx
        have := h x h1.2
        omega)
      rw [List.length_erase_of_mem hm] at this
      omega
    · exact Nat.le_succ_of_le (nodup_le n l hn fun x hx => by
        have := h x hx
        have : x ≠ n := fun e => hm (e ▸ hx)
        omega)

/-- Steps of a map. -/
def itN (f : Nat → Nat) (x : Nat) : Nat → Nat
  | 0 => x
  | k + 1 => f (itN f x k)
theorem itN_add (f : Nat → Nat) (x a : Nat) : ∀ b, itN f x (a + b) = itN f (itN f x a) b
  | 0 => rfl
  | b + 1 => by show f (itN f x (a + b)) = f _; rw [itN_add f x a b]
theorem itN_lt {f : Nat → Nat} {n x : Nat} (hf : ∀ k, k < n → f k < n) (hx : x < n) : ∀ k, itN f x k < n
  | 0 => hx
  | k + 1 => hf _ (itN_lt hf hx k)
theorem least_nat {P : Nat → Prop} : ∀ n, P n → ∃ m, P m ∧ ∀ k, k < m → ¬ P k := fun n h => by
  classical
  induction n using Nat.strongRecOn with
  | _ n ih =>
    by_cases hx : ∃ k, k < n ∧ P k
    · obtain ⟨k, hk, hp⟩ := hx
      exact ih k hk hp
    · exact ⟨n, h, fun k hk hp => hx ⟨k, hk, hp⟩⟩
theorem map_nodup {g : Nat → Nat} : ∀ (k : Nat), (∀ i j, i < j → j < k → g i ≠ g j) → ((List.range k).map g).Nodup
  | 0, _ => by simp
  | k + 1, h => by
    rw [List.range_succ, List.map_append, List.nodup_append]
    refine ⟨map_nodup k fun i j hi hj => h i j hi (by omega), by simp, fun a ha b hb => ?_⟩
    obtain ⟨i, hi, rfl⟩ := List.mem_map.1 ha
    simp only [List.map_cons, List.map_nil, List.mem_singleton] at hb
    subst hb
    exact h i k (by simpa using hi) (Nat.lt_succ_self _)
theorem it_hits {f : Nat → Nat} {n x : Nat} (hf : ∀ k, k < n → f k < n) (hx : x < n) : ∃ i j, i < j ∧ j ≤ n ∧ itN f x i = itN f x j := by
  classical
  apply Classical.byContradiction
  intro hno
  have := nodup_le n ((List.range (n + 1)).map (itN f x)) (map_nodup _ fun i j hi hj e => hno ⟨i, j, hi, by omega, e⟩) (fun y hy => by
    obtain ⟨i, _, rfl⟩ := List.mem_map.1 hy
    exact itN_lt hf hx i)
  simp at this
  omega

/-- A map without end has a circuit. -/
theorem circ_of {A : Nat → Nat → Bool} {n : Nat} (h5 : n ≤ 5) (f : Nat → Nat) (S : Nat → Prop) (x0 : Nat) (hx : x0 < n) (hf : ∀ k, k < n → f k < n ∧ S (f k)) (he : ∀ k, k < n → S k → A (f k) k = true) : circB A n = true := by
  have hfn : ∀ k, k < n → f k < n := fun k hk => (hf k hk).1
  -- a number that comes again
  have hper : ∃ m, (m < n ∧ ∃ p, 0 < p ∧ itN f m p = m) := by
    obtain ⟨i, j, hij, _, e⟩ := it_hits hfn hx
    refine ⟨itN f x0 i, itN_lt hfn hx i, j - i, by omega, ?_⟩
    rw [← itN_add, show i + (j - i) = j by omega, ← e]
  obtain ⟨m0, hm0⟩ := hper
  obtain ⟨m, ⟨hm, hp⟩, hmin⟩ := least_nat (P := fun m => m < n ∧ ∃ p, 0 < p ∧ itN f m p = m) m0 hm0
  obtain ⟨p0, hp0⟩ := hp
  obtain ⟨p, ⟨hp, hpe⟩, hpmin⟩ := least_nat (P := fun p => 0 < p ∧ itN f m p = m) p0 hp0
  have hge : ∀ t, m ≤ itN f m t := fun t => by
    apply Classical.byContradiction
    intro hlt
    refine hmin (itN f m t) (by omega) ⟨itN_lt hfn hm t, p, hp, ?_⟩
    rw [← itN_add, Nat.add_comm, itN_add, hpe]
  have hne : ∀ t, 0 < t → t < p → itN f m t ≠ m := fun t h1 h2 e => hpmin t h2 ⟨h1, e⟩
  have hdist : ∀ i j, i < j → j < p → itN f m i ≠ itN f m j := fun i j hij hj e => by
    have : itN f m (i + (p - j)) = m := by
      rw [itN_add, e, ← itN_add, show j + (p - j) = p by omega, hpe]
    exact hne (i + (p - j)) (by omega) (by omega) this
  have hpn : p ≤ n := by
    have := nodup_le n ((List.range p).map (itN f m)) (map_nodup _ hdist) (fun y hy => by
      obtain ⟨i, _, rfl⟩ := List.mem_map.1 hy
      exact itN_lt hfn hm i)
    simpa using this
  have hS : ∀ t, 0 < t → S (itN f m t) := fun t ht => by
    obtain ⟨u, rfl⟩ : ∃ u, t = u + 1 := ⟨t - 1, by omega⟩
    exact (hf _ (itN_lt hfn hm u)).2
  have hSm : S m := by rw [← hpe]; exact hS p hp
  have hS' : ∀ t, S (itN f m t) := fun t => by
    by_cases h : t = 0
    · subst h; exact hSm
    · exact hS t (by omega)
  have hedge : ∀ t, A (itN f m (t + 1)) (itN f m t) = true := fun t => he _ (itN_lt hfn hm t) (hS' t)
  -- the way, from the end of the map to its beginning
  have hway : ∀ q, q < p → ∀ fu last set, q < fu → last = itN f m (q + 1) → (∀ t, 0 < t → t ≤ q → set.testBit (itN f m t) = false) → walkB A n m fu last set = true := by
    intro q
    induction q with
    | zero =>
      intro _ fu last set hfu hl _
      obtain ⟨fu', rfl⟩ : ∃ u, fu = u + 1 := ⟨fu - 1, by omega⟩
      have h0 : A (itN f m (0 + 1)) m = true := hedge 0
      rw [walkB, hl, h0]
      rfl
    | succ q ih =>
      intro hq fu last set hfu hl hset
      obtain ⟨fu', rfl⟩ : ∃ u, fu = u + 1 := ⟨fu - 1, by omega⟩
      rw [walkB, Bool.or_eq_true, List.any_eq_true]
      refine .inr ⟨itN f m (q + 1), by rw [List.mem_range]; exact itN_lt hfn hm _, ?_⟩
      have hi := ih (by omega) fu' (itN f m (q + 1)) (set ||| 2 ^ itN f m (q + 1)) (by omega) rfl (fun t h1 h2 => by
        rw [Nat.testBit_or, hset t h1 (by omega), Nat.testBit_two_pow]
        have := hdist t (q + 1) (by omega) hq
        simp; omega)
      have h1 := hge (q + 1)
      have h2 := hne (q + 1) (by omega) hq
      rw [hl, hedge (q + 1), hset (q + 1) (by omega) (Nat.le_refl _), hi]
      simp; omega
  rw [circB, List.any_eq_true]
  refine ⟨m, by rw [List.mem_range]; exact hm, hway (p - 1) (by omega) 6 m (2 ^ m) (by omega) (by rw [show p - 1 + 1 = p by omega, hpe]) (fun t h1 h2 => ?_)⟩
  rw [Nat.testBit_two_pow]
  have := hne t h1 (by omega)
  simp; omega

/-- Whether all that act on a number that is open are done. -/
def srcB (A : Nat → Nat → Bool) (n done k : Nat) : Bool := !done.testBit k && (List.range n).all fun i => done.testBit i || !A i k
theorem src_ex {A : Nat → Nat → Bool} {n done : Nat} (h5 : n ≤ 5) (hc : circB A n = false) (hd : ∃ k, k < n ∧ done.testBit k = false) : ∃ k, k < n ∧ srcB A n done k = true := by
  classical
  apply Classical.byContradiction
  intro hno
  obtain ⟨k0, hk0, hd0⟩ := hd
  have hpred : ∀ k, k < n → done.testBit k = false → ∃ i, i < n ∧ done.testBit i = false ∧ A i k = true := fun k hk hdk => by
    apply Classical.byContradiction
    intro hn
    refine hno ⟨k, hk, ?_⟩
    rw [srcB, hdk, List.all_eq_true.2]
    · rfl
    · intro i hi
      have hi' : i < n := by simpa using hi
      cases h1 : done.testBit i with
      | true => rfl
      | false =>
        cases h2 : A i k with
        | false => rfl
        | true => exact absurd ⟨i, hi', h1, h2⟩ hn
  have hx : ∀ k, ∃ i, (k < n ∧ done.testBit k = false → i < n ∧ done.testBit i = false ∧ A i k = true) ∧ (¬ (k < n ∧ done.testBit k = false) → i = k0) := fun k => by
    by_cases h : k < n ∧ done.testBit k = false
    · obtain ⟨i, hi⟩ := hpred k h.1 h.2
      exact ⟨i, fun _ => hi, fun h' => absurd h h'⟩
    · exact ⟨k0, fun h' => absurd h' h, fun _ => rfl⟩
  let f : Nat → Nat := fun k => Classical.choose (hx k)
  have hf := fun k => Classical.choose_spec (hx k)
  have := circ_of (A := A) h5 f (fun k => done.testBit k = false) k0 hk0 (fun k hk => by
    by_cases h : done.testBit k = false
    · exact ⟨((hf k).1 ⟨hk, h⟩).1, ((hf k).1 ⟨hk, h⟩).2.1⟩
    · have e : f k = k0 := (hf k).2 fun h' => h h'.2
      rw [e]; exact ⟨hk0, hd0⟩) (fun k hk h => ((hf k).1 ⟨hk, h⟩).2.2)
  rw [this] at hc
  cases hc

end Go.Proofs.YtjkgcgbialiipaaDoor
/- Plain: a network's text, cut again. -/
namespace Go.Proofs.YtjkgcgbialiipaaDoor
open Go.RowKit

theorem cutsP_cons {c : UInt8} (x r : List UInt8) (hx : c ∉ x) : cutsP c ⟨(x ++ c :: r).toArray⟩ = (⟨x.toArray⟩ : ByteArray) :: cutsP c ⟨r.toArray⟩ := by
  have h1 : (⟨(x ++ c :: r).toArray⟩ : ByteArray).data.toList[x.length]? = some c := by simp
  have h2 : ∀ k, k < x.length → (⟨(x ++ c :: r).toArray⟩ : ByteArray).data.toList[k]? ≠ some c := fun k hk e => by
    have e' : (x ++ c :: r)[k]? = some c := by simpa using e
    rw [List.getElem?_append_left hk] at e'
    exact hx (List.mem_of_getElem? e')
  rw [cutsP_hit h1 h2]
  congr 1
  · apply ByteArray.ext
    simp [ByteArray.data_extract, List.extract_toArray, List.extract_eq_take_drop]
  · congr 1
    apply ByteArray.ext
    have hz : (⟨(x ++ c :: r).toArray⟩ : ByteArray).size = x.length + 1 + r.length := by simp [ByteArray.size]; omega
    rw [hz]
    have hd : (x ++ c :: r).drop (x.length + 1) = r := by rw [← List.drop_drop, List.drop_left]; rfl
    simp only [ByteArray.data_extract, List.extract_toArray, List.extract_eq_take_drop, hd]
    rw [List.take_of_length_le (by omega)]
theorem cuts_list {c : UInt8} : ∀ (ts : List (List UInt8)), ts ≠ [] → (∀ t ∈ ts, c ∉ t) → cutsP c ⟨(Lib.join ts [c]).toArray⟩ = ts.map fun t => (⟨t.toArray⟩ : ByteArray)
  | [], h, _ => absurd rfl h
  | [x], _, hc => by
    rw [Lib.join_one, cutsP_miss]
    · rfl
    · intro k e
      have e' : x[k]? = some c := by simpa using e
      exact hc x (by simp) (List.mem_of_getElem? e')
  | x :: y :: r, _, hc => by
    have ih := cuts_list (y :: r) (by simp) (fun t ht => hc t (by simp [ht]))
    have e : Lib.join (x :: y :: r) [c] = x ++ c :: Lib.join (y :: r) [c] := by
      rw [Lib.join_cons, Lib.join_cons]
      simp [Lib.joinTail]
    rw [e, cutsP_cons _ _ (hc x (by simp)), ih]
    rfl
theorem join_cuts (c : UInt8) : ∀ (n : Nat) (l : List UInt8), l.length ≤ n → Lib.join ((cutsP c ⟨l.toArray⟩).map (·.data.toList)) [c] = l
  | n, l, hl => by
    by_cases hm : c ∈ l
    · obtain ⟨x, r, e, hx⟩ : ∃ x r, l = x ++ c :: r ∧ c ∉ x := by
        clear hl
        induction l with
        | nil => cases hm
        | cons a l ih =>
          by_cases ha : a = c
          · exact ⟨[], l, by rw [ha]; rfl, by simp⟩
          · obtain ⟨x, r, e, hx⟩ := ih (by rcases List.mem_cons.1 hm with h | h; exact absurd h.symm ha; exact h)
            exact ⟨a :: x, r, by rw [e]; rfl, by simp [hx]; exact fun h => ha h.symm⟩
      subst e
      cases n with
      | zero => simp at hl
      | succ n =>
        have ih := join_cuts c n r (by simp at hl; omega)
        rw [cutsP_cons x r hx, List.map_cons, Lib.join_cons]
        have hne : cutsP c ⟨r.toArray⟩ ≠ [] := fun e => by have := cutsP_pos c ⟨r.toArray⟩; rw [e] at this; simp at this
        obtain ⟨y, ys, ey⟩ := List.exists_cons_of_ne_nil hne
        rw [ey] at ih ⊢
        rw [List.map_cons, Lib.join_cons] at ih
        simp only [Lib.joinTail, List.map_cons, List.map_map, List.flatten_cons] at ih ⊢
        rw [← ih]
        simp
    · rw [cutsP_miss]
      · rw [List.map_cons, List.map_nil, Lib.join_one]
      · intro k e
        have e' : l[k]? = some c := by simpa using e
        exact hm (List.mem_of_getElem? e')
/-- A text is its parts, joined. -/
theorem text_cuts (s : ByteArray) : joinF (gT (cutsP 44 s)) ⟨#[44]⟩ (cutsP 44 s).length = s := by
  have h0 := cutsP_pos 44 s
  have h := join_cuts 44 s.data.toList.length s.data.toList (Nat.le_refl _)
  have e : (⟨s.data.toList.toArray⟩ : ByteArray) = s := by apply ByteArray.ext; simp
  rw [e] at h
  rw [← join_eq _ _ _ h0]
  have el : listF (gT (cutsP 44 s)) (cutsP 44 s).length = cutsP 44 s := by
    apply List.ext_getElem?
    intro i
    by_cases hi : i < (cutsP 44 s).length
    · simp [listF, hi, gT, List.getD]
    · simp [listF, hi]
  rw [el, h]

theorem digT_no (zs : List Int) (h : ∀ z ∈ zs, z = 0 ∨ z = 1) : (44 : UInt8) ∉ (digT zs).data.toList := fun hm => by
  simp only [digT] at hm
  obtain ⟨z, hz, e⟩ := List.mem_map.1 hm
  rcases h z hz with rfl | rfl
  · revert e; decide
  · revert e; decide
theorem digF_no {F : Nat → Nat → Nat} {n k : Nat} (h : ∀ s, s < 2 ^ n → F k s < 2) : (44 : UInt8) ∉ (digF F n k).data.toList := by
  refine digT_no _ fun z hz => ?_
  obtain ⟨s, hs, rfl⟩ := List.mem_map.1 hz
  have := h s (by simpa using hs)
  omega
/-- The parts of a network's text are its tables. -/
theorem cuts_net {F : Nat → Nat → Nat} {n : Nat} (h0 : 0 < n) (h : ∀ k s, k < n → s < 2 ^ n → F k s < 2) : cutsP 44 (netT F n) = listF (digF F n) n := by
  rw [netT, ← join_eq _ _ _ h0]
  rw [show (⟨#[44]⟩ : ByteArray).data.toList = [44] from rfl, cuts_list]
  · rw [List.map_map]
    conv => rhs; rw [← List.map_id (listF (digF F n) n)]
    apply List.map_congr_left
    intro t _
    apply ByteArray.ext
    simp
  · intro e
    have := congrArg List.length e
    simp [listF_len] at this
    omega
  · intro t ht
    obtain ⟨u, hu, rfl⟩ := List.mem_map.1 ht
    obtain ⟨k, hk, rfl⟩ := List.mem_map.1 hu
    exact digF_no fun s hs => h k s (by simpa using hk) hs
theorem gT_listF {f : Nat → ByteArray} {n k : Nat} (h : k < n) : gT (listF f n) k = f k := by simp [gT, listF, List.getD, h]
theorem byD_of {zs : List Int} (s : Nat) (hs : s < zs.length) (h : gI zs s = 0 ∨ gI zs s = 1) : byD (digT zs) s = gI zs s := by
  have e : (digT zs).data.toList.getD s 48 = UInt8.ofNat (48 + (gI zs s).toNat) := by
    rw [List.getD_eq_getElem?_getD]
    simp only [digT, List.getElem?_map, gI_lt hs]
    rfl
  rw [byD, e]
  rcases h with e | e <;> rw [e] <;> rfl
theorem bitN_net {F : Nat → Nat → Nat} {n k s : Nat} (hk : k < n) (hs : s < 2 ^ n) (h : F k s < 2) : bitN (listF (digF F n) n) k s = F k s := by
  have hg : gI ((List.range (2 ^ n)).map fun s => ((F k s : Nat) : Int)) s = (F k s : Nat) := by simp [gI, List.getD, hs]
  rw [bitN, gT_listF hk, digF, byD_of s (by simpa using hs) (by rw [hg]; omega), hg]
  rfl
theorem digF_dig {F : Nat → Nat → Nat} {n k : Nat} (h : ∀ s, s < 2 ^ n → F k s < 2) : digB (digF F n k) = true := by
  rw [digB, List.all_eq_true]
  intro b hb
  simp only [digF, digT, List.map_map] at hb
  obtain ⟨s, hs, rfl⟩ := List.mem_map.1 hb
  have := h s (by simpa using hs)
  simp only [Function.comp, Int.toNat_natCast]
  rcases (show F k s = 0 ∨ F k s = 1 by omega) with e | e <;> rw [e] <;> rfl
theorem netB_net {F : Nat → Nat → Nat} {n : Nat} (hn : 1 ≤ n ∧ n ≤ 5) (h : ∀ k s, k < n → s < 2 ^ n → F k s < 2) : netB (listF (digF F n) n) = true := by
  refine netB_yes fun k hk => ?_
  rw [listF_len] at hk ⊢
  rw [gT_listF hk, digF_size, inpV_pow n hn, digF_dig fun s hs => h k s hk hs]
  simp

theorem gT_net {ps : List ByteArray} (hn : netB ps = true) {k : Nat} (hk : k < ps.length) : gT ps k = digT ((List.range (2 ^ ps.length)).map fun s => ((bitN ps k s : Nat) : Int)) := by
  have hd := (netB_get hn k hk).1
  have hz := net_size hn k hk
  apply ByteArray.ext
  apply Array.toList_inj.1
  apply List.ext_getElem?
  intro s
  by_cases hs : s < 2 ^ ps.length
  · have h1 := at_byte (gT ps k) s (by omega)
    have h2 := byD_at (gT ps k) s (by omega)
    rw [bitN_eq hd s] at h2
    have hlt := bitN_lt hd s
    rw [h1]
    simp only [digT, List.map_map, List.getElem?_map, List.getElem?_range hs, Option.map_some, Function.comp, Int.toNat_natCast]
    congr 1
    apply UInt8.toNat_inj.1
    rcases (show bitN ps k s = 0 ∨ bitN ps k s = 1 by omega) with e | e
    · rw [e] at h2 ⊢
      have : (gT ps k)[s].toNat = 48 := by omega
      rw [this]; rfl
    · rw [e] at h2 ⊢
      have : (gT ps k)[s].toNat = 49 := by omega
      rw [this]; rfl
  · rw [List.getElem?_eq_none (by have : (gT ps k).data.toList.length = (gT ps k).size := by simp
                                  omega), List.getElem?_eq_none (by simp [digT]; omega)]

end Go.Proofs.YtjkgcgbialiipaaDoor
/- Plain: what does not act on a switch does not matter for it; steps of blocks. -/
namespace Go.Proofs.YtjkgcgbialiipaaDoor
open Go.RowKit

theorem setN_same {s i v : Nat} (hs : s < 32) (hi : i < 5) (hv : v < 2) (h : s.testBit i = decide (v = 1)) : setN s i v = s :=
  eq_32 (setN_lt hs hi hv) hs fun j hj => by
    rw [setN_bit hs hi hv hj]
    split
    · rename_i e; rw [e, h]
    · rfl
theorem setN_pow {s i v n : Nat} (hs : s < 2 ^ n) (hi : i < n) (hv : v < 2) : setN s i v < 2 ^ n := by
  refine Nat.or_lt_two_pow (Nat.lt_of_le_of_lt Nat.and_le_left hs) ?_
  have := Nat.pow_lt_pow_right (show 1 < 2 by decide) hi
  rcases (show v = 0 ∨ v = 1 by omega) with rfl | rfl
  · simpa using Nat.two_pow_pos n
  · simpa using this
theorem pow_32 {n : Nat} (h5 : n ≤ 5) : (2 ^ n : Nat) ≤ 32 := Nat.pow_le_pow_right (n := 2) (by decide) h5

theorem act_none {ps : List ByteArray} {i k s : Nat} (h : actB ps i k = false) (hs : s < 2 ^ ps.length) : bitN ps k (setN s i 0) = bitN ps k (setN s i 1) := by
  rw [actB, Bool.or_eq_false_iff] at h
  have h1 : ¬ bitU (bitN ps k) i s = true := fun e => by
    have := (anyTo_iff (bitU (bitN ps k) i) (2 ^ ps.length)).2 ⟨s, hs, e⟩
    rw [show anyTo (bitU (bitN ps k) i) (2 ^ ps.length) = false from h.1] at this
    cases this
  have h2 : ¬ bitD (bitN ps k) i s = true := fun e => by
    have := (anyTo_iff (bitD (bitN ps k) i) (2 ^ ps.length)).2 ⟨s, hs, e⟩
    rw [show anyTo (bitD (bitN ps k) i) (2 ^ ps.length) = false from h.2] at this
    cases this
  simp only [bitU, bitD, decide_eq_true_iff] at h1 h2
  omega
theorem act_some {ps : List ByteArray} {i k : Nat} (h : actB ps i k = true) : ∃ s, s < 2 ^ ps.length ∧ bitN ps k (setN s i 0) ≠ bitN ps k (setN s i 1) := by
  rw [actB, Bool.or_eq_true] at h
  rcases h with h | h
  · obtain ⟨s, hs, e⟩ := (anyTo_iff _ _).1 h
    simp only [bitU, decide_eq_true_iff] at e
    exact ⟨s, hs, by omega⟩
  · obtain ⟨s, hs, e⟩ := (anyTo_iff _ _).1 h
    simp only [bitD, decide_eq_true_iff] at e
    exact ⟨s, hs, by omega⟩
theorem act_set {ps : List ByteArray} (h5 : ps.length ≤ 5) {i k s v : Nat} (h : actB ps i k = false) (hi : i < ps.length) (hs : s < 2 ^ ps.length) (hv : v < 2) : bitN ps k (setN s i v) = bitN ps k s := by
  have hp := pow_32 h5
  have h0 := act_none h hs
  cases hb : s.testBit i with
  | true =>
    have e : setN s i 1 = s := setN_same (by omega) (by omega) (by decide) (by rw [hb]; rfl)
    rw [e] at h0
    rcases (show v = 0 ∨ v = 1 by omega) with rfl | rfl
    · exact h0
    · rw [e]
  | false =>
    have e : setN s i 0 = s := setN_same (by omega) (by omega) (by decide) (by rw [hb]; rfl)
    rw [e] at h0
    rcases (show v = 0 ∨ v = 1 by omega) with rfl | rfl
    · rw [e]
    · exact h0.symm
/-- The first j switches of one state, the others of another one. -/
def hyb (s t : Nat) : Nat → Nat
  | 0 => s
  | j + 1 => setN (hyb s t j) j (bN t j)
theorem hyb_inv {s t n : Nat} (h5 : n ≤ 5) (hs : s < 2 ^ n) : ∀ j, j ≤ n → hyb s t j < 2 ^ n ∧ ∀ i, i < 5 → (hyb s t j).testBit i = if i < j then t.testBit i else s.testBit i
  | 0, _ => ⟨hs, fun i _ => by simp [hyb]⟩
  | j + 1, hj => by
    obtain ⟨h1, h2⟩ := hyb_inv h5 hs j (by omega)
    have hp := pow_32 h5
    refine ⟨setN_pow h1 (by omega) (bN_lt t j), fun i hi => ?_⟩
    rw [hyb, setN_bit (by omega) (by omega) (bN_lt t j) hi]
    by_cases e : i = j
    · subst e
      rw [if_pos rfl, if_pos (Nat.lt_succ_self _)]
      have := bit_test t i
      rw [show t / 2 ^ i % 2 = bN t i from rfl] at this
      rw [this]
      cases t.testBit i <;> rfl
    · rw [if_neg e, h2 i hi]
      by_cases h3 : i < j
      · simp [h3, show i < j + 1 by omega]
      · simp [h3, show ¬ i < j + 1 by omega]
/-- A switch's rule has the same value at two states that agree on all that act on it. -/
theorem bit_indep {ps : List ByteArray} (h5 : ps.length ≤ 5) {k s t : Nat} (hs : s < 2 ^ ps.length) (ht : t < 2 ^ ps.length) (h : ∀ i, i < ps.length → actB ps i k = true → s.testBit i = t.testBit i) : bitN ps k s = bitN ps k t := by
  have hp := pow_32 h5
  have key : ∀ j, j ≤ ps.length → bitN ps k (hyb s t j) = bitN ps k s := by
    intro j
    induction j with
    | zero => intro _; rfl
    | succ j ih =>
      intro hj
      obtain ⟨h1, h2⟩ := hyb_inv (t := t) h5 hs j (by omega)
      rw [← ih (by omega)]
      show bitN ps k (setN (hyb s t j) j (bN t j)) = _
      cases ha : actB ps j k with
      | false => exact act_set h5 ha (by omega) h1 (bN_lt t j)
      | true =>
        have e := h j (by omega) ha
        rw [setN_same (by omega) (by omega) (bN_lt t j)]
        rw [h2 j (by omega), if_neg (Nat.lt_irrefl _), e]
        have := bit_test t j
        rw [show t / 2 ^ j % 2 = bN t j from rfl] at this
        rw [this]
        cases t.testBit j <;> rfl
  have h3 := key ps.length (Nat.le_refl _)
  obtain ⟨h1, h2⟩ := hyb_inv (t := t) h5 hs ps.length (Nat.le_refl _)
  have e : hyb s t ps.length = t := eq_32 (by omega) (by omega) fun i hi => by
    rw [h2 i hi]
    split
    · rfl
    · rename_i hx
      have h4 : (2 : Nat) ^ ps.length ≤ 2 ^ i := Nat.pow_le_pow_right (by decide) (by omega)
      rw [Nat.testBit_lt_two_pow (show s < 2 ^ i by omega), Nat.testBit_lt_two_pow (show t < 2 ^ i by omega)]
  rw [e] at h3
  exact h3.symm

/-- The bits of a step of some switches. -/
theorem stepTo_bit {ps : List ByteArray} (hn : netB ps = true) (h5 : ps.length ≤ 5) {s b j : Nat} (hs : s < 2 ^ ps.length) (hj : j < ps.length) : (stepTo ps s b ps.length).testBit j = if b.testBit j = true then decide (bitN ps j s = 1) else s.testBit j := by
  have hp := pow_32 h5
  rw [(stepTo_inv hn h5 b (by omega) ps.length (Nat.le_refl _)).2 j (by omega)]
  simp [hj]
theorem allTo_bit {ps : List ByteArray} (hn : netB ps = true) (h5 : ps.length ≤ 5) {s j : Nat} (hj : j < ps.length) : (allTo ps s ps.length).testBit j = decide (bitN ps j s = 1) := by
  rw [(allTo_inv hn h5 s ps.length (Nat.le_refl _)).2 j (by omega)]
  simp [hj]
theorem allTo_lt {ps : List ByteArray} (hn : netB ps = true) (h5 : ps.length ≤ 5) (s : Nat) : allTo ps s ps.length < 2 ^ ps.length := by
  obtain ⟨h1, h2⟩ := allTo_inv hn h5 s ps.length (Nat.le_refl _)
  refine Nat.lt_pow_two_of_testBit _ fun i hi => ?_
  by_cases h : i < 5
  · rw [h2 i h]; simp; omega
  · exact Nat.testBit_lt_two_pow (Nat.lt_of_lt_of_le h1 (show (2:Nat) ^ 5 ≤ 2 ^ i from Nat.pow_le_pow_right (by decide) (by omega)))
/-- Two states of n switches with the same bits. -/
theorem eq_pow {n a b : Nat} (ha : a < 2 ^ n) (hb : b < 2 ^ n) (h : ∀ i, i < n → a.testBit i = b.testBit i) : a = b := by
  apply Nat.eq_of_testBit_eq
  intro i
  by_cases hi : i < n
  · exact h i hi
  · have h4 : (2 : Nat) ^ n ≤ 2 ^ i := Nat.pow_le_pow_right (by decide) (by omega)
    rw [Nat.testBit_lt_two_pow (show a < 2 ^ i by omega), Nat.testBit_lt_two_pow (show b < 2 ^ i by omega)]
theorem bit_eq {ps : List ByteArray} (hn : netB ps = true) {j s t : Nat} (hj : j < ps.length) (h : decide (bitN ps j s = 1) = decide (bitN ps j t = 1)) : bitN ps j s = bitN ps j t := by
  have h1 := bitN_lt (netB_get hn j hj).1 s
  have h2 := bitN_lt (netB_get hn j hj).1 t
  have h3 : bitN ps j s = 1 ↔ bitN ps j t = 1 := by simpa using h
  omega
theorem step_all {ps : List ByteArray} (hn : netB ps = true) (h5 : ps.length ≤ 5) {s : Nat} (hs : s < 2 ^ ps.length) : stepTo ps s (2 ^ ps.length - 1) ps.length = allTo ps s ps.length :=
  eq_pow (stepTo_lt hn h5 _ hs) (allTo_lt hn h5 s) fun j hj => by
    rw [stepTo_bit hn h5 hs hj, allTo_bit hn h5 hj, Nat.testBit_two_pow_sub_one]
    simp [hj]
/-- Two blocks at once, if none of the first acts on the second. -/
theorem step_join {ps : List ByteArray} (hn : netB ps = true) (h5 : ps.length ≤ 5) {s a b : Nat} (hs : s < 2 ^ ps.length) (h : ∀ i j, i < ps.length → j < ps.length → a.testBit i = true → b.testBit j = true → actB ps i j = false) :
    stepTo ps (stepTo ps s a ps.length) b ps.length = stepTo ps s (a ||| b) ps.length := by
  have h1 := stepTo_lt hn h5 a hs
  refine eq_pow (stepTo_lt hn h5 b h1) (stepTo_lt hn h5 _ hs) fun j hj => ?_
  have e1 := stepTo_bit hn h5 (b := b) h1 hj
  have e2 := stepTo_bit hn h5 (b := a ||| b) hs hj
  have e3 := stepTo_bit hn h5 (b := a) hs hj
  rw [e1, e2, Nat.testBit_or]
  cases hb : b.testBit j with
  | true =>
    have e : bitN ps j (stepTo ps s a ps.length) = bitN ps j s := bit_indep h5 h1 hs fun i hi ha => by
      rw [stepTo_bit hn h5 hs hi]
      cases hai : a.testBit i with
      | false => rfl
      | true =>
        rw [h i j hi hj hai hb] at ha
        cases ha
    rw [e]
    simp
  | false =>
    rw [e3]
    simp
/-- The steps of a list of blocks. -/
def runL (ps : List ByteArray) (s : Nat) (zs : List Int) : Nat := zs.foldl (fun s z => stepTo ps s z.toNat ps.length) s
theorem runL_nil (ps : List ByteArray) (s : Nat) : runL ps s [] = s := rfl
theorem runL_cons (ps : List ByteArray) (s : Nat) (z : Int) (zs : List Int) : runL ps s (z :: zs) = runL ps (stepTo ps s z.toNat ps.length) zs := rfl
theorem runL_app (ps : List ByteArray) (s : Nat) (xs ys : List Int) : runL ps s (xs ++ ys) = runL ps (runL ps s xs) ys := by simp [runL]
theorem runTo_take (ps : List ByteArray) (zs : List Int) (s : Nat) : ∀ k, k ≤ zs.length → runTo ps zs s k = runL ps s (zs.take k)
  | 0, _ => by simp [runTo, runL]
  | k + 1, hk => by
    rw [runTo, runTo_take ps zs s k (by omega), take_succ_of zs k _ (gI_lt (by omega)), runL_app]
    rfl
theorem runTo_all (ps : List ByteArray) (zs : List Int) (s : Nat) : runTo ps zs s zs.length = runL ps s zs := by rw [runTo_take ps zs s _ (Nat.le_refl _), List.take_length]
theorem runL_lt {ps : List ByteArray} (hn : netB ps = true) (h5 : ps.length ≤ 5) : ∀ (zs : List Int) {s : Nat}, s < 2 ^ ps.length → runL ps s zs < 2 ^ ps.length
  | [], _, hs => hs
  | _ :: zs, _, hs => runL_lt hn h5 zs (stepTo_lt hn h5 _ hs)

end Go.Proofs.YtjkgcgbialiipaaDoor
/- Walks: the program's RuleOf and MattersIn. -/
namespace Go.Proofs.YtjkgcgbialiipaaDoor
open Go.RowKit

theorem OwnI.belowU {w w' : World} {B B' : Nat} {v : Value} {zs : List Int} (h : OwnI w B v zs) (hb : Below B' w w') (hB : w.heap.size ≤ B') : OwnI w' B v zs := by
  obtain ⟨h0, h1 | ⟨g, cap, cur, e, hg, hh, h2⟩⟩ := h
  · exact ⟨h0, .inl h1⟩
  · exact ⟨h0, .inr ⟨g, cap, cur, e, hg, by rw [hb.block g (by have := lt_of_block hh; omega)]; exact hh, h2⟩⟩
theorem OwnI.baseU {w : World} {B B' : Nat} {v : Value} {zs : List Int} (h : OwnI w B v zs) (hB : B' ≤ B) : OwnI w B' v zs := by
  obtain ⟨h0, h1 | ⟨g, cap, cur, e, hg, h2⟩⟩ := h
  · exact ⟨h0, .inl h1⟩
  · exact ⟨h0, .inr ⟨g, cap, cur, e, Nat.le_trans hB hg, h2⟩⟩

set_option maxHeartbeats 1000000 in
theorem switchOf_ok (t : ByteArray) (i : Nat) (w : World) (hs : t.size ≤ 1048576) (hm : MaxLenIs w) (hn : netB (cutsP 44 t) = true) (hi : i < (cutsP 44 t).length) :
    Calls Tryd.prog 103 #[.string t, .int .i64 i] w fun e w' => ∃ v, e = .returned (.tuple #[v, .bool true]) ∧ OwnN w' w.heap.size v (cutsP 44 t).length (bitsN (cutsP 44 t) (cutsP 44 t).length) ∧ Below w.heap.size w w' := by
  have HO := Lib.hid (readNetwork_ok t w hs hm)
  generalize cutsP 44 t = ps at HO hn hi ⊢
  have HN := Lib.hid (netN_yes hn)
  have hlen := bitsN_len ps ps.length
  rw [hn] at HO
  clear hn
  go_enter Tryd.func103, Tryd.ntmps103
  go_wp2_with fail
  refine HO.out.mono ?_
  rintro e w1 ⟨v, rfl, o1, b1⟩
  rw [HN.out] at o1
  have O1 := Lib.hid o1
  obtain ⟨a, c, rfl, r1⟩ := o1.row (bitsN_wide ps ps.length)
  rw [hlen] at O1 ⊢
  have hi' : (i : Int) < (ps.length : Int) := by omega
  clear o1 r1 hlen
  go_wp2_with fail
  go_ret2
  exact ⟨_, rfl, O1.out, b1⟩

set_option maxHeartbeats 2000000 in
theorem ruleOfI_ok (t : ByteArray) (i : Nat) (w : World) (hs : t.size ≤ 1048576) (hm : MaxLenIs w) (hn : netB (cutsP 44 t) = true) (hi : i < (cutsP 44 t).length) :
    Calls Tryd.prog 26 #[.string t, .int .i64 i] w fun e w' => e = .returned (.string (gT (cutsP 44 t) i)) ∧ Below w.heap.size w w' := by
  have HO := Lib.hid (switchOf_ok t i w hs hm hn hi)
  have hp0 := cutsP_pos 44 t
  generalize cutsP 44 t = ps at HO hn hi hp0 ⊢
  have h5 := net_le hn hp0
  have hp : (2 ^ ps.length : Nat) ≤ 32 := Nat.pow_le_pow_right (n := 2) (by decide) h5
  have hlen := bitsN_len ps ps.length
  have hd := (netB_get hn i hi).1
  have hz := net_size hn i hi
  have hbs : (bitsN ps ps.length)[i]? = some (eachL (byD (gT ps i)) (gT ps i).size) := by simp [bitsN, hi]
  have HT := Lib.hid (fun W => text_ok ps.length (eachL (byD (gT ps i)) (gT ps i).size) h5 (eachL_len _ _) (fun j hj => by rw [eachL_get _ _ _ (by omega) (by omega)]; exact byD_bit hd j) W)
  have HE : Hid (bitT (eachL (byD (gT ps i)) (gT ps i).size) (2 ^ ps.length) = gT ps i) := by
    unfold Hid
    have hf : ∀ s, byD (gT ps i) s = ((bitN ps i s : Nat) : Int) := fun s => bitN_eq hd s
    rw [hz, show eachL (byD (gT ps i)) (2 ^ ps.length) = eachL (fun s => ((bitN ps i s : Nat) : Int)) (2 ^ ps.length) by rw [show byD (gT ps i) = fun s => ((bitN ps i s : Nat) : Int) from funext hf], bitT_each _ _ hp (fun j => by omega), gT_net hn hi]
  rw [HE.out] at HT
  have HL := Lib.hid (eachL_len (byD (gT ps i)) (gT ps i).size)
  have hi' : (i : Int) < (ps.length : Int) := by omega
  clear hd hz hn HE
  generalize eachL (byD (gT ps i)) (gT ps i).size = bs at HT HL hbs
  generalize gT ps i = u at HT ⊢
  go_enter Tryd.func26, Tryd.ntmps26
  go_wp2_with fail
  refine HO.out.mono ?_
  rintro e w1 ⟨v, rfl, o1, b1⟩
  obtain ⟨a, c, rfl, r1⟩ := o1.row (bitsN_wide ps ps.length)
  rw [hlen] at r1 ⊢
  obtain ⟨q, o, rfl, hbo⟩ := r1.some (by omega)
  have HRg := Lib.hid (r1.range q o rfl i _ hbs)
  have B1 := Lib.hid b1
  clear o1 r1 hlen hbs b1
  go_wp2_with (refine wpList_tabLoadAt rfl _ rfl q (o + i * 33) (ps.length : Int) bs rfl HL.out HRg.out ?_)
  refine (HT.out _).mono ?_
  rintro e w2 ⟨rfl, b2⟩
  have C2 := Lib.hid (B1.out.trans (b2.mono B1.out.size))
  clear b2
  go_wp2_with fail
  go_ret
  exact ⟨rfl, C2.out⟩

/-- The inputs that matter, as a list. -/
def mtL (p : Nat → Bool) (k : Nat) : List Int := ((List.range k).filter p).map fun j : Nat => (j : Int)
theorem mtL_skip {p : Nat → Bool} {k : Nat} (h : p k = false) : mtL p (k + 1) = mtL p k := by simp [mtL, List.range_succ, List.filter_append, h]
theorem mtL_take {p : Nat → Bool} {k : Nat} (h : p k = true) : mtL p (k + 1) = mtL p k ++ [(k : Int)] := by simp [mtL, List.range_succ, List.filter_append, h]
theorem mtL_len (p : Nat → Bool) (k : Nat) : (mtL p k).length ≤ k := by
  rw [mtL, List.length_map]
  exact Nat.le_trans (List.length_filter_le _ _) (by simp)
theorem mtL_get {p : Nat → Bool} {k i : Nat} (h : i < (mtL p k).length) : ∃ j : Nat, gI (mtL p k) i = j ∧ j < k ∧ p j = true := by
  have := List.mem_of_getElem? (gI_lt h)
  simp only [mtL, List.mem_map, List.mem_filter, List.mem_range] at this
  obtain ⟨s, ⟨h1, h2⟩, h3⟩ := this
  exact ⟨s, h3.symm, h1, h2⟩
/-- The set of the first numbers of a list. -/
def orTo (zs : List Int) : Nat → Nat
  | 0 => 0
  | k + 1 => orTo zs k ||| 2 ^ (gI zs k).toNat
theorem orTo_bit (zs : List Int) (j : Nat) : ∀ k, (orTo zs k).testBit j = true ↔ ∃ i, i < k ∧ (gI zs i).toNat = j
  | 0 => by simp [orTo]
  | k + 1 => by
    rw [orTo, Nat.testBit_or, Bool.or_eq_true, orTo_bit zs j k, Nat.testBit_two_pow, decide_eq_true_iff]
    constructor
    · rintro (⟨i, h1, h2⟩ | h)
      · exact ⟨i, by omega, h2⟩
      · exact ⟨k, Nat.lt_succ_self _, h⟩
    · rintro ⟨i, h1, h2⟩
      by_cases e : i = k
      · subst e; exact .inr h2
      · exact .inl ⟨i, by omega, h2⟩
theorem mtL_or {p : Nat → Bool} {n : Nat} : orTo (mtL p n) (mtL p n).length = setTo p n := by
  apply Nat.eq_of_testBit_eq
  intro j
  rw [Bool.eq_iff_iff, orTo_bit, setTo_bit, Bool.and_eq_true, decide_eq_true_iff]
  constructor
  · rintro ⟨i, h1, h2⟩
    obtain ⟨x, hx, h3, h4⟩ := mtL_get h1
    rw [hx, Int.toNat_natCast] at h2
    subst h2
    exact ⟨h3, h4⟩
  · rintro ⟨h1, h2⟩
    have hm : ((j : Nat) : Int) ∈ mtL p n := by
      simp only [mtL, List.mem_map, List.mem_filter, List.mem_range]
      exact ⟨j, ⟨h1, h2⟩, rfl⟩
    obtain ⟨i, hi, e⟩ := List.getElem_of_mem hm
    refine ⟨i, hi, ?_⟩
    rw [← gI_eq hi, e, Int.toNat_natCast]
theorem orTo_lt {zs : List Int} {n : Nat} (h : ∀ i, i < zs.length → (gI zs i).toNat < n) : ∀ k, k ≤ zs.length → orTo zs k < 2 ^ n
  | 0, _ => Nat.two_pow_pos n
  | k + 1, hk => Nat.or_lt_two_pow (orTo_lt h k (by omega)) (Nat.pow_lt_pow_right (by decide) (h k (by omega)))

set_option maxRecDepth 100000 in
set_option maxHeartbeats 4000000 in
theorem mattersI_ok (f : ByteArray) (n : Nat) (F : Nat → Nat) (w : World) (hn : 1 ≤ n ∧ n ≤ 5) (hz : f.size = 2 ^ n) (hd : digB f = true) (hF : ∀ s, byD f s = ((F s : Nat) : Int) ∧ F s < 2) :
    Calls Tryd.prog 25 #[.string f] w fun e w' => ∃ v, e = .returned v ∧ OwnI w' w.heap.size v (mtL (fun j => upB F j n || dnB F j n) n) ∧ Below w.heap.size w w' := by
  have hp : (2 ^ n : Nat) ≤ 32 := Nat.pow_le_pow_right (n := 2) (by decide) hn.2
  have htv : tvB f = true := by rw [tvB, hd, hz, inpV_pow n hn]; simp; omega
  have HR := Lib.hid (readTable_ok f w (by omega))
  rw [htv, rtV_yes htv, hz, inpV_pow n hn] at HR
  have HTab : TabIs (eachL (byD f) (2 ^ n)) F n := ⟨eachL_len _ _, fun s hs => ⟨by rw [eachL_get _ _ _ (by omega) hs]; exact (hF s).1, (hF s).2⟩⟩
  have HSg := Lib.hid (fun j W (hj : j < n) => sign_ok n j _ F W hn.2 hj HTab)
  have HL := Lib.hid (eachL_len (byD f) (2 ^ n))
  clear htv HTab hF hd hz
  generalize eachL (byD f) (2 ^ n) = bs at HR HL HSg
  go_enter Tryd.func25, Tryd.ntmps25
  go_wp2_with fail
  refine HR.out.mono ?_
  rintro e w1 ⟨rfl, b1⟩
  have HBn := Lib.hid (Blk.new w1 100 (tabC 0 z32))
  have B1 := Lib.hid b1
  clear b1
  go_wp2_with (first | (refine wpList_tabAlloc rfl rfl ?_) | (refine wpList_tabStore rfl _ _ rfl _ (n : Int) bs rfl rfl HL.out _ _ HBn.out rfl ?_; intro w4 k4 g4 z4; have c4 := Lib.hid ((B1.out.alloc B1.out.size _).grown g4 (by have := B1.out.size; simp; omega) (fun j hj => by cases hj; exact B1.out.size)); have K4 := Lib.hid k4; have z4' := Lib.hid z4; clear k4 g4 z4))
  have hge : w.heap.size ≤ w4.heap.size := c4.out.size
  go_loopw [5, 6] (fun v q wr => ∃ k : Nat, k ≤ n ∧ q = .int .i64 k ∧ OwnI wr w4.heap.size v (mtL (fun j => upB F j n || dnB F j n) k) ∧ Below w4.heap.size w4 wr) (fun _ q _ => n - (intOf q).toNat)
  case atStart => exact ⟨0, Nat.zero_le _, rfl, OwnI.nil _ _, Below.refl _ _⟩
  case round =>
    obtain ⟨k, hk, rfl, ho, hb⟩ := hrel
    have HO := Lib.hid ho
    have HB := Lib.hid hb
    have Kr := K4.out.below hb K4.out.lt
    have hc0 := Kr.cell (i := 0) (v := .int .i64 n) rfl
    have KR := Lib.hid Kr
    have hml := mtL_len (fun j => upB F j n || dnB F j n) k
    clear ho hb Kr
    by_cases hkn : k < n
    · have hkw : (k : Int) < (n : Int) := by omega
      have HSk := Lib.hid (fun W => HSg.out k W hkn)
      cases hA : (upB F k n || dnB F k n) with
      | true =>
        have hne : ((sgT (upB F k n) (dnB F k n)).toList == [48]) = false := by rw [sgT_list, hA]; rfl
        have HN := Lib.hid (mtL_take (p := fun j => upB F j n || dnB F j n) (k := k) hA)
        clear hA
        generalize sgT (upB F k n) (dnB F k n) = sg at HSk hne
        go_wp2_with (refine wpList_tabLoad rfl _ rfl _ (n : Int) bs rfl HL.out _ KR.out ?_)
        refine (HSk.out _).mono ?_
        rintro e w5 ⟨rfl, b5⟩
        have C5 := Lib.hid (HB.out.trans (b5.mono HB.out.size))
        have O5 := Lib.hid (HO.out.belowU b5 (Nat.le_refl _))
        clear b5
        go_wp2_with (at_builtin; refine wpList_appI (OwnI.alloc O5.out _) (RowI.one _ _) rfl _ _ rfl rfl rfl (by omega) (by have := C5.out.size; simp; omega) ?_; intro v6 w6 o6 g6)
        go_roundw
        case rel => exact ⟨k + 1, by omega, by go_num, by rw [HN.out]; exact o6, (C5.out.alloc C5.out.size _).grown g6 (by have := C5.out.size; simp; omega) (fun j hj => (World.ownsRow.lt O5.out j hj).1)⟩
        case measure => simp [intOf] <;> omega
      | false =>
        have hne : ((sgT (upB F k n) (dnB F k n)).toList == [48]) = true := by rw [sgT_list, hA]; rfl
        have HN := Lib.hid (mtL_skip (p := fun j => upB F j n || dnB F j n) (k := k) hA)
        clear hA
        generalize sgT (upB F k n) (dnB F k n) = sg at HSk hne
        go_wp2_with (refine wpList_tabLoad rfl _ rfl _ (n : Int) bs rfl HL.out _ KR.out ?_)
        refine (HSk.out _).mono ?_
        rintro e w5 ⟨rfl, b5⟩
        have C5 := Lib.hid (HB.out.trans (b5.mono HB.out.size))
        have O5 := Lib.hid (HO.out.belowU b5 (Nat.le_refl _))
        clear b5
        go_wp2_with fail
        go_roundw
        case rel => exact ⟨k + 1, by omega, by go_num, by rw [HN.out]; exact O5.out, C5.out⟩
        case measure => simp [intOf] <;> omega
    · obtain rfl : k = n := by omega
      have hkw : ¬ (k : Int) < (k : Int) := by omega
      clear hml hn hp
      go_wp2_with fail
      go_ret
      exact ⟨_, rfl, OwnI.baseU HO.out hge, c4.out.trans (HB.out.mono hge)⟩

end Go.Proofs.YtjkgcgbialiipaaDoor
/- Walks: the size of a set. -/
namespace Go.Proofs.YtjkgcgbialiipaaDoor
open Go.RowKit

set_option maxHeartbeats 1000000 in
theorem l7Size_ok (s : Int) (w : World) (h0 : 0 ≤ s) (h1 : s < 64) :
    Calls Tryd.prog 148 #[.int .i64 s] w fun e w' => e = .returned (.int .i64 (popN s.toNat : Nat)) ∧ w = w' := by
  obtain ⟨m, rfl⟩ := Int.eq_ofNat_of_zero_le h0
  go_enter Tryd.func148, Tryd.ntmps148
  go_wp2
  go_loop [3, 4] (fun n i => ∃ k : Nat, k ≤ 5 ∧ i = .int .i64 k ∧ n = .int .i64 (popTo m k : Nat)) (fun _ i => 5 - (intOf i).toNat)
  case atStart => exact ⟨0, by omega, rfl, rfl⟩
  case round =>
    obtain ⟨k, hk, rfl, rfl⟩ := hrel
    by_cases hlt : k < 5
    · have hs := Lib.hid (popTo_succ m k)
      have hle := popTo_le m k
      have hb := bN_lt m k
      go_wp2_with (go_at_call 122; refine (l1Bit_ok _ _ _ (by omega) (by omega) (by omega) (by omega)).mono ?_; rintro e w' ⟨rfl, rfl⟩)
      go_round
      case rel => exact ⟨k + 1, by omega, by go_num, by rw [hs.out]; go_num⟩
      case measure => simp [intOf]; omega
    · obtain rfl : k = 5 := by omega
      go_wp2
      go_ret
      exact ⟨reti (by rw [popTo_five]), rfl⟩

set_option maxHeartbeats 1000000 in
theorem OnesCount_ok (x : Nat) (w : World) (hx : x < 32) :
    Calls Tryd.prog 109 #[.int .u64 x] w fun e w' => e = .returned (.int .i64 (popN x : Nat)) ∧ w = w' := by
  go_enter Tryd.func109, Tryd.ntmps109
  go_wp2
  go_ret
  refine ⟨reti ?_, rfl⟩
  revert x
  decide +kernel

end Go.Proofs.YtjkgcgbialiipaaDoor
/- Rows of steps that were seen: those that the call itself makes. -/
namespace Go.Proofs.YtjkgcgbialiipaaDoor
open Go.RowKit

theorem cellsS_app (xs ys : List (Int × Int)) : cellsS (xs ++ ys) = cellsS xs ++ cellsS ys := by simp [cellsS]
theorem cellsS_one (zs : List (Int × Int)) : ∀ u ∈ cellsS zs, u.oneCell' = true := fun u hu => by
  simp only [cellsS, List.mem_flatMap, List.mem_cons, List.not_mem_nil, or_false] at hu
  obtain ⟨p, _, rfl | rfl⟩ := hu <;> rfl
/-- A slice of steps that the call itself makes. -/
def OwnS (w : World) (B : Nat) (v : Value) (zs : List (Int × Int)) : Prop := w.ownsRow B 39 2 v zs.length (cellsS zs)
theorem OwnS.nil (w : World) (B : Nat) : OwnS w B (.slice none 0 0) [] := World.ownsRow_nil _ _ _ _
theorem OwnS.alloc {w : World} {B : Nat} {v : Value} {zs : List (Int × Int)} (h : OwnS w B v zs) (o : Obj) : OwnS (w.alloc o) B v zs := World.ownsRow.alloc h o
theorem OwnS.lit (w : World) (B : Nat) (zs : List (Int × Int)) (hB : B ≤ w.heap.size) (hm : zs.length ≤ maxLen) : OwnS (w.alloc (.cells (cellsS zs).toArray 39)) B (.slice (some ⟨w.heap.size, 0, none⟩) zs.length zs.length) zs :=
  ⟨by rw [cellsS_len]; omega, .inr ⟨w.heap.size, zs.length, _, rfl, hB, heap_alloc_new w _, Nat.le_refl _, hm, by simp [cellsS_len]; omega, by rw [List.take_of_length_le (by rw [cellsS_len]; omega)]⟩⟩
theorem OwnS.below {w w' : World} {B B' : Nat} {v : Value} {zs : List (Int × Int)} (h : OwnS w B v zs) (hb : Below B' w w') (hB : w.heap.size ≤ B') : OwnS w' B v zs := by
  obtain ⟨h0, h1 | ⟨g, cap, cur, e, hg, hh, h2⟩⟩ := h
  · exact ⟨h0, .inl h1⟩
  · exact ⟨h0, .inr ⟨g, cap, cur, e, hg, by rw [hb.block g (by have := lt_of_block hh; omega)]; exact hh, h2⟩⟩
theorem OwnS.base {w : World} {B B' : Nat} {v : Value} {zs : List (Int × Int)} (h : OwnS w B v zs) (hB : B' ≤ B) : OwnS w B' v zs := by
  obtain ⟨h0, h1 | ⟨g, cap, cur, e, hg, h2⟩⟩ := h
  · exact ⟨h0, .inl h1⟩
  · exact ⟨h0, .inr ⟨g, cap, cur, e, by omega, h2⟩⟩
/-- What the walk says of it. -/
theorem OwnS.out {w : World} {B : Nat} {v : Value} {zs : List (Int × Int)} (h : OwnS w B v zs) : ∃ ao c, v = .slice ao zs.length c ∧ RowS w ao zs.length c zs ∧ (∀ a, ao = some a → B ≤ a.block ∧ a.block < w.heap.size) := by
  obtain ⟨_, ⟨rfl, hn⟩ | ⟨g, cap, cur, rfl, hg, hh, hle, hm, hs, ht⟩⟩ := h
  · have hz : zs = [] := List.eq_nil_of_length_eq_zero hn
    subst hz
    exact ⟨none, 0, rfl, ⟨rfl, Nat.le_refl _, Nat.zero_le _, fun h => absurd h (by simp), fun b o e => (by cases e), fun b o e => by cases e⟩, fun a e => by cases e⟩
  · refine ⟨some ⟨g, 0, none⟩, cap, rfl, ⟨rfl, hle, hm, fun _ => ⟨g, 0, rfl, lt_of_block hh⟩, fun b o e i hi => ?_, fun b o e i hi => ?_⟩, fun a e => by cases e; exact ⟨hg, lt_of_block hh⟩⟩
    · cases e
      have h1 := (cellsS_get zs i hi).1
      rw [← ht, List.getElem?_take, if_pos (by omega)] at h1
      rw [Nat.zero_add, cell_of_row w g _ cur 39 (0, 0) hh]
      simpa using h1
    · cases e
      have h2 := (cellsS_get zs i hi).2
      rw [← ht, List.getElem?_take, if_pos (by omega)] at h2
      rw [Nat.zero_add, cell_of_row w g _ cur 39 (0, 0) hh]
      simpa using h2

/-- 'append(out, x)'. -/
theorem wpList_appS {w : World} {ops : Array Oper} {rest : List Oper} {o : Oper} {a : Act} {Q : Exit → Act → World → Prop} {B : Nat} {v : Value} {zs : List (Int × Int)} {p : Int × Int} {g : Nat} (hown : OwnS w B v zs) (hr : Blk w g 39 [.int .i64 p.1, .int .i64 p.2])
    (hgd : o.guard = none) (s x : Operand) (ho : o.op = .call { callee := .builtin .append, args := #[s, x], argTypes := #[35, 35] }) (hs : a.eval s = v) (hx : a.eval x = .slice (some ⟨g, 0, none⟩) 1 1)
    (hbytes : zs.length + 1 ≤ 1048576) (hB : B ≤ w.heap.size)
    (h : ∀ v' w', OwnS w' B v' (zs ++ [p]) → w.grownBy w' v.ownBlock → wpList Tryd.prog ops Q rest (a.put o.dst v') w') : wpList Tryd.prog ops Q (o :: rest) a w := by
  obtain ⟨i, hi, hz, hsz, hby⟩ := info_parts i47
  have e1 : zs.length + 1 = (zs ++ [p]).length := by simp
  have e2 : cellsS zs ++ cellsS [p] = cellsS (zs ++ [p]) := (cellsS_app _ _).symm
  refine wpList_append_own w hgd s x _ ho B 39 i (.agg #[.int .i64 0, .int .i64 0]) 2 16 Tryd.underlying35 hi hz hsz hby rfl (by decide) v _ _ hs hown ⟨g, 0, none⟩ 1 1 (cellsS [p]) hx rfl (fun j u hj => ?_) (cellsS_one _) (by unfold maxLen; omega) (by omega) hB ?_
  · have ha : (⟨g, 0, none⟩ : Addr).add j = ⟨g, 0 + j, none⟩ := Addr.add_mid g 0 j
    rw [ha, Nat.zero_add]
    exact hr.cell hj
  · intro v' w' r1 r2 _
    exact h v' w' (by unfold OwnS; rw [← e1, ← e2]; exact r1) r2

end Go.Proofs.YtjkgcgbialiipaaDoor
/- Walks: steps that were seen, by the reference. -/
namespace Go.Proofs.YtjkgcgbialiipaaDoor
open Go.RowKit

/-- What SeeSteps gives. -/
def seeB (ps : List ByteArray) (zs : List Int) : Bool := netB ps && (decide (zs.length ≤ 32) && zs.all (stB' ps))
def seeL (ps : List ByteArray) (zs : List Int) (k : Nat) : List (Int × Int) := (List.range k).map fun i => (gI zs i, saV ps (gI zs i))
theorem seeL_next (ps : List ByteArray) (zs : List Int) (k : Nat) : seeL ps zs (k + 1) = seeL ps zs k ++ [(gI zs k, saV ps (gI zs k))] := by simp [seeL, List.range_succ]
theorem seeL_len (ps : List ByteArray) (zs : List Int) (k : Nat) : (seeL ps zs k).length = k := by simp [seeL]
theorem seeB_net {ps : List ByteArray} {zs : List Int} (h : netB ps = false) : seeB ps zs = false := by simp [seeB, h]
theorem seeB_long {ps : List ByteArray} {zs : List Int} (h : 32 < zs.length) : seeB ps zs = false := by
  have : decide (zs.length ≤ 32) = false := by simp; omega
  simp [seeB, this]
theorem seeB_not {ps : List ByteArray} {zs : List Int} {k : Nat} (hk : k < zs.length) (h : stB' ps (gI zs k) = false) : seeB ps zs = false := by
  have : zs.all (stB' ps) = false := by
    rw [List.all_eq_false]
    exact ⟨gI zs k, List.mem_of_getElem? (gI_lt hk), by simp [h]⟩
  simp [seeB, this]
theorem seeB_yes {ps : List ByteArray} {zs : List Int} (h1 : netB ps = true) (h2 : zs.length ≤ 32) (h : ∀ k, k < zs.length → stB' ps (gI zs k) = true) : seeB ps zs = true := by
  have : zs.all (stB' ps) = true := by
    rw [List.all_eq_true]
    intro x hx
    obtain ⟨i, hi, rfl⟩ := List.getElem_of_mem hx
    rw [gI_eq hi]; exact h i hi
  simp [seeB, this, h1, h2]
def seeV (ps : List ByteArray) (zs : List Int) : List (Int × Int) := if seeB ps zs = true then seeL ps zs zs.length else []
theorem seeV_no {ps : List ByteArray} {zs : List Int} (h : seeB ps zs = false) : seeV ps zs = [] := by simp [seeV, h]
theorem seeV_yes {ps : List ByteArray} {zs : List Int} (h : seeB ps zs = true) : seeV ps zs = seeL ps zs zs.length := by simp [seeV, h]
theorem seeV_len (ps : List ByteArray) (zs : List Int) : (seeV ps zs).length ≤ 32 := by
  cases h : seeB ps zs with
  | false => rw [seeV_no h]; simp
  | true =>
    rw [seeV_yes h, seeL_len]
    rw [seeB] at h
    simp only [Bool.and_eq_true, decide_eq_true_iff] at h
    exact h.2.1

set_option maxHeartbeats 4000000 in
theorem seeS_ok (t : ByteArray) (ao : Option Addr) (n c : Nat) (zs : List Int) (w : World) (hs : t.size ≤ 1048576) (h : RowI w ao n c zs) (hn : n ≤ 1048576) :
    Calls Tryd.prog 24 #[.string t, .slice ao n c] w fun e w' => ∃ v, e = .returned (.tuple #[v, .bool (seeB (cutsP 44 t) zs)]) ∧ OwnS w' w.heap.size v (seeV (cutsP 44 t) zs) ∧ Below w.heap.size w w' := by
  have HNV := Lib.hid (fun W => netValidS_ok t W hs)
  have HSA := Lib.hid (fun s W => stepAllS_ok t s W hs)
  have hp0 := cutsP_pos 44 t
  generalize cutsP 44 t = ps at HNV HSA hp0
  obtain rfl := h.1
  have b0 : Below w.heap.size w (w.alloc (.cells #[] 39)) := (Below.refl _ _).alloc (Nat.le_refl _) _
  have O0 := Lib.hid (OwnS.lit w w.heap.size [] (Nat.le_refl _) (by decide))
  have B0 := Lib.hid b0
  clear b0
  cases hb : netB ps with
  | false =>
    have HV := Lib.hid (seeB_net (zs := zs) hb)
    rw [hb] at HNV
    clear hb h
    go_enter Tryd.func24, Tryd.ntmps24
    go_wp2_with fail
    refine (HNV.out _).mono ?_
    rintro e w1 ⟨rfl, b1⟩
    go_wp2_with fail
    go_ret2
    exact ⟨_, retv HV.out.symm, by rw [seeV_no HV.out]; exact O0.out.below b1 (Nat.le_refl _), B0.out.trans (b1.mono B0.out.size)⟩
  | true =>
    have HN := Lib.hid hb
    rw [hb] at HNV
    clear hb
    by_cases hl : 32 < zs.length
    · have hl' : (32 : Int) < (zs.length : Int) := by omega
      have HV := Lib.hid (seeB_long (ps := ps) hl)
      clear h
      go_enter Tryd.func24, Tryd.ntmps24
      go_wp2_with fail
      refine (HNV.out _).mono ?_
      rintro e w1 ⟨rfl, b1⟩
      go_wp2_with fail
      go_ret2
      exact ⟨_, retv HV.out.symm, by rw [seeV_no HV.out]; exact O0.out.below b1 (Nat.le_refl _), B0.out.trans (b1.mono B0.out.size)⟩
    · have hl' : ¬ (32 : Int) < (zs.length : Int) := by omega
      go_enter Tryd.func24, Tryd.ntmps24
      go_wp2_with fail
      refine (HNV.out _).mono ?_
      rintro e w1 ⟨rfl, b1⟩
      have B1 := Lib.hid (B0.out.trans (b1.mono B0.out.size))
      have O1 := Lib.hid (O0.out.below b1 (Nat.le_refl _))
      clear b1
      go_wp2_with fail
      go_loopw [6, 7] (fun v q wr => ∃ k : Nat, k ≤ zs.length ∧ q = .int .i64 k ∧ OwnS wr w.heap.size v (seeL ps zs k) ∧ (∀ j, j < k → stB' ps (gI zs j) = true) ∧ Below w.heap.size w wr) (fun _ q _ => zs.length - (intOf q).toNat)
      case atStart => exact ⟨0, Nat.zero_le _, rfl, O1.out, fun j hj => absurd hj (Nat.not_lt_zero _), B1.out⟩
      case round =>
        obtain ⟨k, hk, rfl, ho, hall, hbw⟩ := hrel
        have HO := Lib.hid ho
        have HA := Lib.hid hall
        have HB := Lib.hid hbw
        clear ho hall
        by_cases hlt : k < zs.length
        · obtain ⟨b, o, rfl, hbo⟩ := h.2.some (by omega)
          have hcx := (h.below hbw (Nat.le_refl _)).2.cell b o rfl k hlt
          have HW := Lib.hid (fun W (hW : Below wr.heap.size wr W) => (h.below (hbw.trans (hW.mono hbw.size)) (Nat.le_refl _)).2.cell b o rfl k hlt)
          have hlt' : (k : Int) < (zs.length : Int) := by omega
          have hlen := seeL_len ps zs k
          clear hbw h
          rcases saV_range ps (gI zs k) hp0 with ⟨h1, h2⟩ | ⟨h1, h2, h3⟩
          · have HV := Lib.hid (seeB_not hlt h1)
            have HSk := Lib.hid (fun W => HSA.out (gI zs k) W)
            rw [h2] at HSk
            clear h1 h2
            go_wp2_with fail
            refine (HSk.out _).mono ?_
            rintro e w2 ⟨rfl, b2⟩
            have C2 := Lib.hid (HB.out.trans (b2.mono HB.out.size))
            clear b2
            go_wp2_with fail
            go_ret2
            exact ⟨_, retv HV.out.symm, by rw [seeV_no HV.out]; exact OwnS.lit _ _ [] C2.out.size (by decide), C2.out.alloc C2.out.size _⟩
          · have H1 := Lib.hid h1
            have HN2 := Lib.hid (seeL_next ps zs k)
            have HSk := Lib.hid (fun W => HSA.out (gI zs k) W)
            have hneg : ¬ saV ps (gI zs k) < 0 := by omega
            clear h1 h2
            generalize saV ps (gI zs k) = r at hneg h3 HSk HN2
            go_wp2_with fail
            refine (HSk.out _).mono ?_
            rintro e w2 ⟨rfl, b2⟩
            have C2 := Lib.hid (HB.out.trans (b2.mono HB.out.size))
            have O2 := Lib.hid (HO.out.below b2 (Nat.le_refl _))
            have hc2 := HW.out _ b2
            clear b2
            go_wp2_with (at_builtin; refine wpList_appS (p := (gI zs k, r)) (OwnS.alloc O2.out _) (Blk.new _ _ _) rfl _ _ rfl rfl rfl (by omega) (by have := C2.out.size; simp; omega) ?_; intro v6 w6 o6 g6)
            go_roundw
            case rel => exact ⟨k + 1, by omega, by go_num, by rw [HN2.out]; exact o6, fun j hj => by
                by_cases e : j = k
                · rw [e]; exact H1.out
                · exact HA.out j (by omega), (C2.out.alloc C2.out.size _).grown g6 (by have := C2.out.size; simp; omega) (fun j hj => (World.ownsRow.lt O2.out j hj).1)⟩
            case measure => simp [intOf] <;> omega
        · obtain rfl : k = zs.length := by omega
          have HV := Lib.hid (seeB_yes HN.out (by omega) HA.out)
          clear hbw h
          go_wp2_with fail
          go_ret2
          exact ⟨_, retv HV.out.symm, by rw [seeV_yes HV.out]; exact HO.out, HB.out⟩

end Go.Proofs.YtjkgcgbialiipaaDoor
/- Walks: steps that were seen, by the program; marks in them. -/
namespace Go.Proofs.YtjkgcgbialiipaaDoor
open Go.RowKit

set_option maxHeartbeats 1000000 in
theorem ClipS_ok (ao : Option Addr) (n c : Nat) (w : World) (hn : n ≤ c) (hc : c ≤ maxLen) (ha : ao = none → c = 0) (hs : ∀ a, ao = some a → ∃ b o, a = ⟨b, o, none⟩) :
    Calls Tryd.prog 98 #[.slice ao n c] w fun e w' => e = .returned (.slice ao n n) ∧ w = w' := by
  unfold maxLen at hc
  cases ao with
  | none =>
    obtain rfl := ha rfl
    obtain rfl : n = 0 := by omega
    go_enter Tryd.func98, Tryd.ntmps98
    go_wp2
    go_ret
    exact ⟨rfl, rfl⟩
  | some a =>
    obtain ⟨b, o, rfl⟩ := hs a rfl
    go_enter Tryd.func98, Tryd.ntmps98
    go_wp2
    go_ret
    exact ⟨rfl, rfl⟩

/-- Steps that the call itself has made: a whole block, from its head on, of which the first n steps are told. -/
def OutS (w : World) (B : Nat) (ao : Option Addr) (n : Nat) (zs : List (Int × Int)) : Prop :=
  zs.length = n ∧ (ao = none ∧ n = 0 ∨ ∃ g cs, ao = some ⟨g, 0, none⟩ ∧ B ≤ g ∧ Blk w g 39 cs ∧ cs.take (2 * n) = cellsS zs ∧ 2 * n ≤ cs.length)
theorem OwnS.outS {w : World} {B : Nat} {v : Value} {zs : List (Int × Int)} (h : OwnS w B v zs) : ∃ ao c, v = .slice ao zs.length c ∧ OutS w B ao zs.length zs ∧ zs.length ≤ c ∧ c ≤ maxLen ∧ (ao = none → c = 0) ∧ (∀ a, ao = some a → ∃ b o, a = ⟨b, o, none⟩) := by
  obtain ⟨_, ⟨rfl, hn⟩ | ⟨g, cap, cur, rfl, hg, hh, hle, hm, hs, ht⟩⟩ := h
  · refine ⟨none, 0, by rw [hn], ⟨rfl, .inl ⟨rfl, hn⟩⟩, by omega, Nat.zero_le _, fun _ => rfl, fun a e => by cases e⟩
  · refine ⟨some ⟨g, 0, none⟩, cap, rfl, ⟨rfl, .inr ⟨g, cur.toList, rfl, hg, by simpa [Blk] using hh, ?_, ?_⟩⟩, hle, hm, fun e => (by cases e), fun a e => by cases e; exact ⟨_, _, rfl⟩⟩
    · rw [Nat.mul_comm]; exact ht
    · simp only [Array.length_toList]; omega
theorem OutS.row {w : World} {B : Nat} {ao : Option Addr} {n : Nat} {zs : List (Int × Int)} (h : OutS w B ao n zs) (hm : n ≤ maxLen) : RowS w ao n n zs := by
  obtain ⟨hl, ⟨rfl, rfl⟩ | ⟨g, cs, rfl, _, hb, ht, hc⟩⟩ := h
  · exact ⟨hl, Nat.le_refl _, hm, fun h => absurd h (Nat.lt_irrefl _), fun b o e => (by cases e), fun b o e => by cases e⟩
  · refine ⟨hl, Nat.le_refl _, hm, fun _ => ⟨g, 0, rfl, hb.lt⟩, fun b o e i hi => ?_, fun b o e i hi => ?_⟩
    · cases e
      have h1 := (cellsS_get zs i (by omega)).1
      rw [← ht, List.getElem?_take, if_pos (by omega)] at h1
      rw [Nat.zero_add]; exact hb.cell h1
    · cases e
      have h1 := (cellsS_get zs i (by omega)).2
      rw [← ht, List.getElem?_take, if_pos (by omega)] at h1
      rw [Nat.zero_add]; exact hb.cell h1
theorem OutS.below {w w' : World} {B B' : Nat} {ao : Option Addr} {n : Nat} {zs : List (Int × Int)} (h : OutS w B ao n zs) (hb : Below B' w w') (hB : w.heap.size ≤ B') : OutS w' B ao n zs := by
  obtain ⟨hl, h1 | ⟨g, cs, e, hg, hk, h2⟩⟩ := h
  · exact ⟨hl, .inl h1⟩
  · exact ⟨hl, .inr ⟨g, cs, e, hg, hk.below hb (Nat.lt_of_lt_of_le hk.lt hB), h2⟩⟩
theorem OutS.base {w : World} {B B' : Nat} {ao : Option Addr} {n : Nat} {zs : List (Int × Int)} (h : OutS w B ao n zs) (hB : B' ≤ B) : OutS w B' ao n zs := by
  obtain ⟨hl, h1 | ⟨g, cs, e, hg, h2⟩⟩ := h
  · exact ⟨hl, .inl h1⟩
  · exact ⟨hl, .inr ⟨g, cs, e, by omega, h2⟩⟩
theorem OutS.grown {w w' : World} {row : Option Nat} {B : Nat} {ao : Option Addr} {n : Nat} {zs : List (Int × Int)} (h : OutS w B ao n zs) (hg : w.grownBy w' row) (hne : ∀ a, ao = some a → some a.block ≠ row) : OutS w' B ao n zs := by
  obtain ⟨hl, h1 | ⟨g, cs, e, hg', hk, h2⟩⟩ := h
  · exact ⟨hl, .inl h1⟩
  · exact ⟨hl, .inr ⟨g, cs, e, hg', by unfold Blk; rw [hg.block g hk.lt (hne _ e)]; exact hk, h2⟩⟩

set_option maxHeartbeats 4000000 in
theorem seeI_ok (t : ByteArray) (ao : Option Addr) (n c : Nat) (zs : List Int) (w : World) (hs : t.size ≤ 1048576) (h : RowI w ao n c zs) (hn : n ≤ 1048576) (hm : MaxLenIs w) :
    Calls Tryd.prog 23 #[.string t, .slice ao n c] w fun e w' => ∃ a l, e = .returned (.tuple #[.slice a l l, .bool (seeB (cutsP 44 t) zs)]) ∧ OutS w' w.heap.size a l (seeV (cutsP 44 t) zs) ∧ Below w.heap.size w w' := by
  have HO := Lib.hid (readNetwork_ok t w hs hm)
  have hp0 := cutsP_pos 44 t
  generalize cutsP 44 t = ps at HO hp0
  obtain rfl := h.1
  cases hb : netB ps with
  | false =>
    have HV := Lib.hid (seeB_net (zs := zs) hb)
    rw [hb] at HO
    clear hb h hm
    go_enter Tryd.func23, Tryd.ntmps23
    go_wp2_with fail
    refine HO.out.mono ?_
    rintro e w1 ⟨v, rfl, o1, b1⟩
    clear o1
    go_wp2_with fail
    go_ret2
    exact ⟨none, 0, retv HV.out.symm, by rw [seeV_no HV.out]; exact ⟨rfl, .inl ⟨rfl, rfl⟩⟩, b1⟩
  | true =>
    have HN := Lib.hid hb
    have HE := Lib.hid (netN_yes hb)
    have hlen := bitsN_len ps ps.length
    have h5 := net_le hb hp0
    rw [hb] at HO
    by_cases hl : 32 < zs.length
    · have hl' : (32 : Int) < (zs.length : Int) := by omega
      have HV := Lib.hid (seeB_long (ps := ps) hl)
      clear h hb hm
      go_enter Tryd.func23, Tryd.ntmps23
      go_wp2_with fail
      refine HO.out.mono ?_
      rintro e w1 ⟨v, rfl, o1, b1⟩
      clear o1
      go_wp2_with fail
      go_ret2
      exact ⟨none, 0, retv HV.out.symm, by rw [seeV_no HV.out]; exact ⟨rfl, .inl ⟨rfl, rfl⟩⟩, b1⟩
    · have hl' : ¬ (32 : Int) < (zs.length : Int) := by omega
      have HSt := Lib.hid (fun ao c W => states_ok ao ps.length c W (by omega))
      have HStep := Lib.hid (fun ao c q W (h : RowN W ao ps.length c ps.length (bitsN ps ps.length)) (hq : q < 2 ^ ps.length) => step_ok ao c ps q W h hb h5 hq)
      have HAll := Lib.hid (fun q (hq : q < 2 ^ ps.length) => all_step hb h5 hq)
      clear hb hm
      go_enter Tryd.func23, Tryd.ntmps23
      go_wp2_with fail
      refine HO.out.mono ?_
      rintro e w1 ⟨v, rfl, o1, b1⟩
      rw [HE.out] at o1
      obtain ⟨a, cp, rfl, r1⟩ := o1.row (bitsN_wide ps ps.length)
      rw [hlen] at r1 ⊢
      have R1 := Lib.hid r1
      have B1 := Lib.hid b1
      clear o1 r1 hlen
      go_wp2_with fail
      go_loopw [8, 25] (fun v q wr => ∃ k : Nat, k ≤ zs.length ∧ q = .int .i64 k ∧ OwnS wr w1.heap.size v (seeL ps zs k) ∧ (∀ j, j < k → stB' ps (gI zs j) = true) ∧ Below w1.heap.size w1 wr) (fun _ q _ => zs.length - (intOf q).toNat)
      case atStart => exact ⟨0, Nat.zero_le _, rfl, OwnS.nil _ _, fun j hj => absurd hj (Nat.not_lt_zero _), Below.refl _ _⟩
      case round =>
        obtain ⟨k, hk, rfl, ho, hall, hbw⟩ := hrel
        have HOw := Lib.hid ho
        have HA := Lib.hid hall
        have HB := Lib.hid hbw
        have HBw := Lib.hid (B1.out.trans (hbw.mono B1.out.size))
        clear ho hall
        by_cases hlt : k < zs.length
        · obtain ⟨b, o, rfl, hbo⟩ := h.2.some (by omega)
          have hcx := (h.below HBw.out (Nat.le_refl _)).2.cell b o rfl k hlt
          have hlt' : (k : Int) < (zs.length : Int) := by omega
          have hlen := seeL_len ps zs k
          clear hbw h
          have HSk := Lib.hid (HSt.out a cp wr)
          cases h1 : stB' ps (gI zs k) with
          | false =>
            have HV := Lib.hid (seeB_not hlt h1)
            have hr := stOk_lt ((stB'_in HN.out).symm.trans h1)
            clear h1
            generalize ((2 ^ ps.length : Nat) : Int) = top at hr HSk
            by_cases h0 : gI zs k < 0
            · go_wp2_with fail
              go_ret2
              exact ⟨none, 0, retv HV.out.symm, by rw [seeV_no HV.out]; exact ⟨rfl, .inl ⟨rfl, rfl⟩⟩, HBw.out⟩
            · have hr' : top ≤ gI zs k := by omega
              clear hr
              go_wp2_with fail
              refine HSk.out.mono ?_
              rintro e w2 ⟨rfl, rfl⟩
              go_wp2_with fail
              go_ret2
              exact ⟨none, 0, retv HV.out.symm, by rw [seeV_no HV.out]; exact ⟨rfl, .inl ⟨rfl, rfl⟩⟩, HBw.out⟩
          | true =>
            have H1 := Lib.hid h1
            obtain ⟨_, h2, h3⟩ := stB'_get h1
            obtain ⟨q, hq⟩ := Int.eq_ofNat_of_zero_le h2
            have HN2 := Lib.hid (seeL_next ps zs k)
            have HSA := Lib.hid (saV_yes (show stB' ps q = true by rw [← hq]; exact h1))
            have hq2 : q < 2 ^ ps.length := by rw [hq] at h3; exact_mod_cast h3
            have HStk := Lib.hid (HStep.out a cp q wr (R1.out.below HB.out (Nat.le_refl _)) hq2)
            rw [HAll.out q hq2] at HStk
            rw [hq] at HN2 hcx h3
            rw [← HSA.out] at HStk
            have hneg : ¬ (q : Int) < 0 := by omega
            have hnt : ¬ ((2 ^ ps.length : Nat) : Int) ≤ (q : Int) := by omega
            clear h1 h2 hq h3 hq2
            generalize ((2 ^ ps.length : Nat) : Int) = top at hnt HSk
            generalize saV ps q = r at HStk HN2 HSA
            go_wp2_with fail
            refine HSk.out.mono ?_
            rintro e w2 ⟨rfl, rfl⟩
            go_wp2_with fail
            refine HStk.out.mono ?_
            rintro e w2 ⟨rfl, b2⟩
            have C2 := Lib.hid (HB.out.trans (b2.mono HB.out.size))
            have O2 := Lib.hid (HOw.out.below b2 (Nat.le_refl _))
            clear b2
            go_wp2_with (at_builtin; refine wpList_appS (p := ((q : Int), r)) (OwnS.alloc O2.out _) (Blk.new _ _ _) rfl _ _ rfl rfl rfl (by omega) (by have := C2.out.size; simp; omega) ?_; intro v6 w6 o6 g6)
            go_roundw
            case rel => exact ⟨k + 1, by omega, by go_num, by rw [HN2.out]; exact o6, fun j hj => by
                by_cases e : j = k
                · rw [e]; exact H1.out
                · exact HA.out j (by omega), ((C2.out.alloc C2.out.size _).grown g6 (by have := C2.out.size; simp; omega) (fun j hj => (World.ownsRow.lt O2.out j hj).1))⟩
            case measure => simp [intOf] <;> omega
        · obtain rfl : k = zs.length := by omega
          have HV := Lib.hid (seeB_yes HN.out (by omega) HA.out)
          obtain ⟨so, sc, rfl, hout, q1, q2, q3, q4⟩ := HOw.out.outS
          have hsl := seeL_len ps zs zs.length
          rw [hsl] at hout q1 ⊢
          have HOut := Lib.hid hout
          have HC := Lib.hid (fun W => ClipS_ok so zs.length sc W q1 q2 q3 q4)
          clear hbw h hout q1 q2 q3 q4 hsl
          go_wp2_with fail
          refine (HC.out _).mono ?_
          rintro e w2 ⟨rfl, rfl⟩
          go_wp2_with fail
          go_ret2
          exact ⟨so, _, retv HV.out.symm, by rw [seeV_yes HV.out]; exact HOut.out.base B1.out.size, HBw.out⟩


/-- The marks, pair by pair. -/
def mrkS (m : Int) (n : Nat) : List (Int × Int) := (List.range n).map fun i : Nat => (m + 2 * (i : Int), m + 2 * (i : Int) + 1)
theorem mrkS_len (m : Int) (n : Nat) : (mrkS m n).length = n := by simp [mrkS]
theorem mrkS_get (m : Int) (n i : Nat) (h : i < n) : gS (mrkS m n) i = (m + 2 * (i : Int), m + 2 * (i : Int) + 1) := by simp [gS, mrkS, List.getD, h]
theorem mrkS_next (m : Int) (n : Nat) : mrkS m (n + 1) = mrkS m n ++ [(m + 2 * (n : Int), m + 2 * (n : Int) + 1)] := by simp [mrkS, List.range_succ]

end Go.Proofs.YtjkgcgbialiipaaDoor
