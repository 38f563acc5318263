/- Walks: a network as a text, by the program. -/
import Derived.Test.YthgjmciiaikgoaaDoorS2
import Derived.Test.YthgjmciiaikgoaaDoorM5
import Derived.Test.YthgjmciiaikgoaaDoorJn
import Derived.Test.YthgjmciiaikgoaaDoorBt
import Derived.Test.YthgjmciiaikgoaaDoorShelf
namespace Go.Proofs.YthgjmciiaikgoaaDoor
open Go.RowKit

/-- The tables of n switches by their values. -/
def tabsL (F : Nat → Nat → Nat) (n k : Nat) : List (List Int) := (List.range k).map fun i => eachL (fun s => ((F i s : Nat) : Int)) (2 ^ n)
theorem tabsL_len (F : Nat → Nat → Nat) (n k : Nat) : (tabsL F n k).length = k := by simp [tabsL]
theorem tabsL_wide (F : Nat → Nat → Nat) (n k : Nat) : W32 (tabsL F n k) := fun bs hb => by
  simp only [tabsL, List.mem_map] at hb
  obtain ⟨i, _, rfl⟩ := hb
  exact eachL_len _ _
theorem tabsL_get (F : Nat → Nat → Nat) (n m k : Nat) (h : k < m) : (tabsL F n m)[k]? = some (eachL (fun s => ((F k s : Nat) : Int)) (2 ^ n)) := by simp [tabsL, h]
/-- The text of one of them. -/
def digF (F : Nat → Nat → Nat) (n k : Nat) : ByteArray := digT ((List.range (2 ^ n)).map fun s => ((F k s : Nat) : Int))
theorem digF_size (F : Nat → Nat → Nat) (n k : Nat) : (digF F n k).size = 2 ^ n := by simp [digF, digT_size]
/-- The text of all. -/
def netT (F : Nat → Nat → Nat) (n : Nat) : ByteArray := joinF (digF F n) ⟨#[44]⟩ n

set_option maxHeartbeats 4000000 in
theorem netText_ok (ao : Option Addr) (n c : Nat) (F : Nat → Nat → Nat) (w : World) (h : RowN w ao n c n (tabsL F n n)) (hn : 1 ≤ n ∧ n ≤ 5) (hF : ∀ k s, k < n → s < 2 ^ n → F k s < 2) :
    Calls Tryd.prog 72 #[.slice ao n c] w fun e w' => e = .returned (.string (netT F n)) ∧ Below w.heap.size w w' := by
  have hp : (2 ^ n : Nat) ≤ 32 := Nat.pow_le_pow_right (n := 2) (by decide) hn.2
  have HT := Lib.hid (fun k (hk : k < n) W => text_ok n (eachL (fun s => ((F k s : Nat) : Int)) (2 ^ n)) hn.2 (eachL_len _ _) (fun j hj => by rw [eachL_get _ _ _ (by omega) hj]; have := hF k j hk hj; omega) W)
  have HB := Lib.hid (fun k (hk : k < n) => bitT_each (fun s => ((F k s : Nat) : Int)) (2 ^ n) hp (fun j => by omega))
  have HEnd : Hid (netT F n = joinF (digF F n) ⟨#[44]⟩ n) := rfl
  have HDz := Lib.hid (fun k => digF_size F n k)
  have HDf : Hid (∀ k, digF F n k = digT ((List.range (2 ^ n)).map fun s => ((F k s : Nat) : Int))) := fun k => rfl
  have HLen := Lib.hid (fun k => eachL_len (fun s => ((F k s : Nat) : Int)) (2 ^ n))
  have HGet := Lib.hid (fun k (hk : k < n) => tabsL_get F n n k hk)
  clear hF
  go_enter Tryd.func72, Tryd.ntmps72
  go_wp2
  go_loopw [3, 8] (fun v q wr => ∃ k : Nat, k ≤ n ∧ q = .int .i64 k ∧ OwnT wr w.heap.size v (listF (digF F n) k) ∧ Below w.heap.size w wr) (fun _ q _ => n - (intOf q).toNat)
  case atStart => exact ⟨0, Nat.zero_le _, rfl, OwnT.nil _ _, Below.refl _ _⟩
  case round =>
    obtain ⟨k, hk, rfl, ho, hb⟩ := hrel
    have HO := Lib.hid ho
    have HBe := Lib.hid hb
    have hlen := listF_len (digF F n) k
    clear ho
    by_cases hlt : k < n
    · obtain ⟨q, o, rfl, hbo⟩ := h.some (by omega)
      have HRg := Lib.hid ((h.below hb (Nat.le_refl _)).range q o rfl k _ (HGet.out k hlt))
      have hlt' : (k : Int) < (n : Int) := by omega
      have HTk := Lib.hid (HT.out k hlt)
      have HTe := HB.out k hlt
      have HL := Lib.hid (HLen.out k)
      have HBn := Lib.hid (Blk.new wr 76 (tabC 0 z32))
      have HN := Lib.hid (listF_next (digF F n) k)
      have hsz := HDz.out k
      have hsz2 : (digF F n k).size ≤ 32 := by omega
      rw [HTe, ← HDf.out k] at HTk
      clear hb h HTe hsz
      generalize eachL (fun s => ((F k s : Nat) : Int)) (2 ^ n) = bs at HRg HTk HL
      generalize digF F n k = dt at HTk HN hsz2
      go_wp2_with (first | (refine wpList_tabLoadAt rfl _ rfl q (o + k * 33) (n : Int) bs rfl HL.out HRg.out ?_) | (refine wpList_tabAlloc rfl rfl ?_) | (refine wpList_tabStore rfl _ _ rfl _ (n : Int) bs rfl rfl HL.out _ _ HBn.out rfl ?_; intro w4 k4 g4 z4; have c4 := Lib.hid ((HBe.out.alloc HBe.out.size _).grown g4 (by have := HBe.out.size; simp; omega) (fun j hj => by cases hj; exact HBe.out.size)); have b4 := Lib.hid (((Below.refl wr.heap.size wr).alloc (Nat.le_refl _) (.cells (tabC 0 z32).toArray 76)).grown g4 (by simp) (fun j hj => by cases hj; exact Nat.le_refl _)); have K4 := Lib.hid k4; clear k4 g4) | (refine wpList_tabLoad rfl _ rfl _ (n : Int) bs rfl HL.out _ K4.out ?_))
      refine (HTk.out _).mono ?_
      rintro e w5 ⟨rfl, b5⟩
      have C5 := Lib.hid (c4.out.trans (b5.mono c4.out.size))
      have O5 := Lib.hid ((HO.out.below b4.out (Nat.le_refl _)).below b5 (Nat.le_refl _))
      have HCe := Lib.hid ((Blk.new w5 9 [.string dt]).cell (i := 0) rfl)
      clear b5
      go_wp2_with (at_builtin; go_must (refine wpList_appT (OwnT.alloc O5.out _) HCe.out rfl _ _ rfl rfl rfl (by omega) (by have := C5.out.size; simp; omega) ?_); intro v6 w6 o6 g6)
      go_roundw
      case rel => exact ⟨k + 1, by omega, by go_num, by rw [HN.out]; exact o6, (C5.out.alloc C5.out.size _).grown g6 (by have := C5.out.size; simp; omega) (fun j hj => (World.ownsRow.lt O5.out j hj).1)⟩
      case measure => simp [intOf] <;> omega
    · obtain rfl : k = n := by omega
      obtain ⟨a, cp, rfl, q⟩ := HO.out.row
      rw [hlen] at q ⊢
      obtain ⟨bk, off, rfl, hbk⟩ := q.2.some (by omega)
      have hz := joinF_size (digF F k) ⟨#[44]⟩ 32 (by decide) (fun i => by rw [HDz.out i]; exact hp) k
      have hz2 : k * (32 + 1) ≤ 5 * (32 + 1) := Nat.mul_le_mul_right _ hn.2
      have HJ := Lib.hid (Tryd.strings_Join bk off cp (listF (digF F k) k) ⟨#[44]⟩ wr (fun j x hj => by
        have hjl : j < (listF (digF F k) k).length := (List.getElem?_eq_some_iff.1 hj).1
        rw [q.2.cell bk off rfl j (by omega)]
        have := gT_lt hjl
        rw [hj] at this
        cases this
        rfl) hbk (by omega) (by rw [hlen]; exact q.2.le) (by rw [join_len _ _ _ (by omega)]; omega))
      rw [hlen, join_eq _ _ _ (by omega), ← HEnd.out] at HJ
      clear q hz hz2 hlen h
      go_wp2_with fail
      refine HJ.out.mono ?_
      rintro e w1 ⟨rfl, b1⟩
      go_wp2_with fail
      go_ret
      exact ⟨rfl, HBe.out.trans (b1.mono HBe.out.size)⟩

end Go.Proofs.YthgjmciiaikgoaaDoor
