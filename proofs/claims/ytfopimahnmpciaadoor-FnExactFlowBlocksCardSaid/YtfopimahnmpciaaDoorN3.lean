/- Walks: tables and networks as texts. -/
import Derived.Test.YtfopimahnmpciaaDoorN2
import Derived.Test.YtfopimahnmpciaaDoorA1
namespace Go.Proofs.YtfopimahnmpciaaDoor
open Go.RowKit

/-- Of how many inputs a table of so many values is; -1 if of none. -/
def inpV (k : Nat) : Int := if k = 2 then 1 else if k = 4 then 2 else if k = 8 then 3 else if k = 16 then 4 else if k = 32 then 5 else -1
theorem inpV_pow (n : Nat) (h : 1 ≤ n ∧ n ≤ 5) : inpV (2 ^ n) = n := by
  have : n = 1 ∨ n = 2 ∨ n = 3 ∨ n = 4 ∨ n = 5 := by omega
  rcases this with rfl | rfl | rfl | rfl | rfl <;> rfl
theorem inpV_none {k : Nat} (h : ∀ n : Nat, 1 ≤ n → n ≤ 5 → k ≠ 2 ^ n) : inpV k = -1 := by
  have h1 := h 1 (by omega) (by omega)
  have h2 := h 2 (by omega) (by omega)
  have h3 := h 3 (by omega) (by omega)
  have h4 := h 4 (by omega) (by omega)
  have h5 := h 5 (by omega) (by omega)
  simp only [inpV]
  rw [if_neg (by omega), if_neg (by omega), if_neg (by omega), if_neg (by omega), if_neg (by omega)]
theorem inpV_eq {k : Nat} {n : Nat} (hn : 1 ≤ n) (h : inpV k = n) : n ≤ 5 ∧ k = 2 ^ n := by
  simp only [inpV] at h
  split at h
  · have : n = 1 := by omega
    subst this; omega
  split at h
  · have : n = 2 := by omega
    subst this; omega
  split at h
  · have : n = 3 := by omega
    subst this; omega
  split at h
  · have : n = 4 := by omega
    subst this; omega
  split at h
  · have : n = 5 := by omega
    subst this; omega
  · omega

set_option maxHeartbeats 1000000 in
theorem l1Inputs_ok (k : Nat) (_ : k ≤ 1048576) (w : World) :
    Calls Tryd.prog 21 #[.int .i64 k] w fun e w' => e = .returned (.int .i64 (inpV k)) ∧ w = w' := by
  go_enter Tryd.func21, Tryd.ntmps21
  go_wp2
  go_loop [3] (fun i => ∃ q : Nat, 1 ≤ q ∧ q ≤ 6 ∧ i = .int .i64 q ∧ (∀ j : Nat, 1 ≤ j → j < q → k ≠ 2 ^ j)) (fun i => 6 - (intOf i).toNat)
  case atStart => exact ⟨1, by omega, by omega, rfl, fun j h1 h2 => by omega⟩
  case round =>
    obtain ⟨q, hq1, hq6, rfl, hno⟩ := hrel
    have HN := Lib.hid hno
    clear hno
    by_cases hlt : q < 6
    · have hq5 : (q : Int) ≤ 5 := by omega
      have hw : wrap64 (2 ^ q) = ((2 ^ q : Nat) : Int) := wrap_pow_nat q (by omega)
      by_cases he : k = 2 ^ q
      · have hb : ((k : Int) == wrap64 (2 ^ q)) = true := by rw [hw, he]; simp
        have HE := Lib.hid he
        clear he hw
        go_wp2
        go_ret
        exact ⟨reti (by rw [HE.out, inpV_pow q (by omega)]), rfl⟩
      · have hb : ((k : Int) == wrap64 (2 ^ q)) = false := by
          rw [hw, beq_eq_false_iff_ne]
          exact fun e => he (by exact_mod_cast e)
        have HE := Lib.hid he
        clear he hw
        go_wp2
        go_round
        case rel => exact ⟨q + 1, by omega, by omega, by go_num, fun j h1 h2 => by
            by_cases e : j = q
            · rw [e]; exact HE.out
            · exact HN.out j h1 (by omega)⟩
        case measure => simp [intOf]; omega
    · obtain rfl : q = 6 := by omega
      have HV := Lib.hid (inpV_none (k := k) fun n h1 h2 => HN.out n h1 (by omega))
      go_wp2
      go_ret
      exact ⟨reti HV.out.symm, rfl⟩

def isD (b : UInt8) : Bool := b == 48 || b == 49
theorem isD_int (b : UInt8) : isD b = true ↔ (b.toNat : Int) = 48 ∨ (b.toNat : Int) = 49 := by
  simp only [isD, Bool.or_eq_true, beq_iff_eq]
  constructor
  · rintro (rfl | rfl) <;> simp
  · rintro (h | h)
    · exact .inl (Lib.byte_eq_of_toNat (by rw [h]; rfl))
    · exact .inr (Lib.byte_eq_of_toNat (by rw [h]; rfl))
/-- Whether a text is of digits 0 and 1. -/
def digB (f : ByteArray) : Bool := f.data.toList.all isD
theorem digB_not {f : ByteArray} {k : Nat} (hk : k < f.size) (h : isD f[k] = false) : digB f = false := by
  rw [digB, List.all_eq_false]
  exact ⟨f[k], List.mem_of_getElem? (at_byte f k hk), by simp [h]⟩
theorem digB_yes {f : ByteArray} (h : ∀ k (hk : k < f.size), isD f[k] = true) : digB f = true := by
  rw [digB, List.all_eq_true]
  intro b hb
  obtain ⟨i, hi, rfl⟩ := List.getElem_of_mem hb
  have hi' : i < f.size := by simpa using hi
  have := at_byte f i hi'
  rw [List.getElem?_eq_getElem hi] at this
  rw [Option.some.inj this]
  exact h i hi'
def tvB (f : ByteArray) : Bool := digB f && decide (0 < inpV f.size)

set_option maxHeartbeats 1000000 in
theorem tblS_ok (f : ByteArray) (hs : f.size ≤ 1048576) (w : World) :
    Calls Tryd.prog 20 #[.string f] w fun e w' => e = .returned (.bool (tvB f)) ∧ w = w' := by
  go_enter Tryd.func20, Tryd.ntmps20
  go_wp2
  go_loop [3] (fun i => ∃ k : Nat, k ≤ f.size ∧ i = .int .i64 k ∧ (∀ j (_ : j < k) (h2 : j < f.size), isD f[j] = true)) (fun i => f.size - (intOf i).toNat)
  case atStart => exact ⟨0, Nat.zero_le _, rfl, fun j h => absurd h (Nat.not_lt_zero _)⟩
  case round =>
    obtain ⟨k, hk, rfl, hno⟩ := hrel
    have HN := Lib.hid hno
    clear hno
    by_cases hlt : k < f.size
    · by_cases h0 : ((f[k].toNat : Nat) : Int) = 48
      · have b0 : (((f[k].toNat : Nat) : Int) != 48) = false := by simp [h0]
        have HQ := Lib.hid ((isD_int f[k]).2 (.inl h0))
        clear h0
        go_wp2
        go_round
        case rel => exact ⟨k + 1, by omega, by go_num, fun j hj h2 => by
            by_cases e : j = k
            · subst e; exact HQ.out
            · exact HN.out j (by omega) h2⟩
        case measure => simp [intOf]; omega
      · have b0 : (((f[k].toNat : Nat) : Int) != 48) = true := by simp [h0]
        by_cases h1 : ((f[k].toNat : Nat) : Int) = 49
        · have b1 : (((f[k].toNat : Nat) : Int) != 49) = false := by simp [h1]
          have HQ := Lib.hid ((isD_int f[k]).2 (.inr h1))
          clear h0 h1
          go_wp2
          go_round
          case rel => exact ⟨k + 1, by omega, by go_num, fun j hj h2 => by
              by_cases e : j = k
              · subst e; exact HQ.out
              · exact HN.out j (by omega) h2⟩
          case measure => simp [intOf]; omega
        · have b1 : (((f[k].toNat : Nat) : Int) != 49) = true := by simp [h1]
          have hq : isD f[k] = false := by
            rw [Bool.eq_false_iff]
            intro e
            rcases (isD_int f[k]).1 e with e | e
            · exact h0 e
            · exact h1 e
          have HQ := Lib.hid (digB_not hlt hq)
          clear h0 h1 hq
          go_wp2
          go_ret
          exact ⟨retb (by rw [tvB, HQ.out]; rfl), rfl⟩
    · obtain rfl : k = f.size := by omega
      have HQ := Lib.hid (digB_yes (f := f) fun j hj => HN.out j hj hj)
      go_wp2_with (go_at_call 21; refine (l1Inputs_ok f.size hs _).mono ?_; rintro e w' ⟨rfl, rfl⟩)
      go_ret
      exact ⟨retb (by rw [tvB, HQ.out]; rfl), rfl⟩

end Go.Proofs.YtfopimahnmpciaaDoor
