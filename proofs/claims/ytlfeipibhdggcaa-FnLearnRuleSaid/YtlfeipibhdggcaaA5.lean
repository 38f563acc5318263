/- Walks: what explains a switch. -/
import Derived.Test.YtlfeipibhdggcaaA4
import Derived.Test.YtlfeipibhdggcaaMap
namespace Go.Proofs.Ytlfeipibhdggcaa
open Go.RowKit Go.Maps

/-- The values of the inputs before a step, and that of switch i behind it. -/
def keyN (inp : Nat) (p : Int × Int) : Nat := p.1.toNat &&& inp
def valN (i : Nat) (p : Int × Int) : Nat := p.2.toNat / 2 ^ i % 2

theorem keyN_lt (inp : Nat) (p : Int × Int) (h : inp < 32) : keyN inp p < 32 := Nat.lt_of_le_of_lt Nat.and_le_right h
theorem valN_lt (i : Nat) (p : Int × Int) : valN i p < 2 := Nat.mod_lt _ (by decide)

/-- What values knows after k steps. -/
def keyF (zs : List (Int × Int)) (i inp : Nat) : Nat → Int → Option Int
  | 0 => fun _ => none
  | k + 1 => putF (keyF zs i inp k) (keyN inp (gS zs k)) (valN i (gS zs k))

/-- Steps that are as told: of at most five switches. -/
def Small (zs : List (Int × Int)) : Prop := ∀ k, k < zs.length → 0 ≤ (gS zs k).1 ∧ (gS zs k).1 < 32 ∧ 0 ≤ (gS zs k).2 ∧ (gS zs k).2 < 32

/-- Whether no two of the first m steps contradict each other. -/
def Agree (zs : List (Int × Int)) (i inp m : Nat) : Prop := ∀ k, k < m → ∀ j, j < k → keyN inp (gS zs k) = keyN inp (gS zs j) → valN i (gS zs k) = valN i (gS zs j)

theorem keyF_mem (zs : List (Int × Int)) (i inp : Nat) : ∀ k x v, keyF zs i inp k x = some v → ∃ j, j < k ∧ x = keyN inp (gS zs j) ∧ v = valN i (gS zs j)
  | 0, _, _, h => by cases h
  | k + 1, x, v, h => by
    simp only [keyF, putF] at h
    split at h
    · rename_i hx
      cases h
      exact ⟨k, by omega, hx, rfl⟩
    · obtain ⟨j, hj, h1, h2⟩ := keyF_mem zs i inp k x v h
      exact ⟨j, by omega, h1, h2⟩
theorem keyF_has (zs : List (Int × Int)) (i inp : Nat) : ∀ k, Agree zs i inp k → ∀ j, j < k → keyF zs i inp k (keyN inp (gS zs j)) = some ((valN i (gS zs j) : Nat) : Int)
  | 0, _, j, hj => absurd hj (Nat.not_lt_zero _)
  | k + 1, ha, j, hj => by
    simp only [keyF, putF]
    split
    · rename_i hx
      have hx' : keyN inp (gS zs j) = keyN inp (gS zs k) := by exact_mod_cast hx
      by_cases e : j = k
      · rw [e]
      · rw [ha k (by omega) j (by omega) hx'.symm]
    · rename_i hx
      have e : j ≠ k := by rintro rfl; exact hx rfl
      exact keyF_has zs i inp k (fun a h1 b h2 => ha a (by omega) b h2) j (by omega)
/-- The next step agrees with what is known just if it agrees with all before it. -/
theorem agree_step {zs : List (Int × Int)} {i inp k : Nat} (ha : Agree zs i inp k) (h : ∀ v, keyF zs i inp k (keyN inp (gS zs k)) = some v → v = valN i (gS zs k)) : Agree zs i inp (k + 1) := by
  intro a h1 b h2 he
  by_cases e : a = k
  · subst e
    have h3 := keyF_has zs i inp a ha b h2
    rw [← he] at h3
    have := h _ h3
    omega
  · exact ha a (by omega) b h2 he
theorem agree_not {zs : List (Int × Int)} {i inp k : Nat} {v : Int} (h : keyF zs i inp k (keyN inp (gS zs k)) = some v) (hv : v ≠ valN i (gS zs k)) : ¬ Agree zs i inp (k + 1) := by
  intro ha
  obtain ⟨j, hj, h1, h2⟩ := keyF_mem zs i inp k _ v h
  have := ha k (by omega) j hj (by exact_mod_cast h1)
  exact hv (by rw [h2, this])

theorem agree_le {zs : List (Int × Int)} {i inp m m' : Nat} (h : Agree zs i inp m) (hm : m' ≤ m) : Agree zs i inp m' := fun a h1 b h2 => h a (by omega) b h2

set_option maxHeartbeats 1000000 in
theorem values_ok (ao : Option Addr) (n c : Nat) (zs : List (Int × Int)) (i inp : Nat) (hi : i < 5) (hinp : inp < 32) (hz : Small zs) (w : World) (h : RowS w ao n c zs) :
    Calls Try.prog 27 #[.slice ao n c, .int .i64 i, .int .i64 inp] w fun e w' => ((Agree zs i inp n ∧ e = .returned (.tuple #[.map (some w.heap.size), .bool true]) ∧ MapI w' w.heap.size n (keyF zs i inp n)) ∨ (¬ Agree zs i inp n ∧ e = .returned (.tuple #[.map none, .bool false]))) ∧ Below w.heap.size w w' := by
  obtain rfl := h.len
  have hml := h.cap
  have hml' := h.le
  unfold maxLen at hml
  have hmm := @run_makeMap Try.prog
  go_enter Try.func27, Try.ntmps27
  go_wp2
  go_loopw [18] (fun s wr => ∃ k : Nat, k ≤ zs.length ∧ s = .int .i64 k ∧ Agree zs i inp k ∧ MapI wr w.heap.size k (keyF zs i inp k) ∧ Below w.heap.size w wr) (fun i _ => zs.length - (intOf i).toNat)
  case atStart => exact ⟨0, Nat.zero_le _, rfl, fun a h => absurd h (Nat.not_lt_zero _), MapI.made _, (Below.refl _ _).alloc (Nat.le_refl _) _⟩
  case round =>
    obtain ⟨k, hk, rfl, hag, hmap, hb⟩ := hrel
    have HA := Lib.hid hag
    clear hag
    by_cases hlt : k < zs.length
    · obtain ⟨b, o, rfl, hbo⟩ := h.some (by omega)
      have hx0 : wr.cell? ⟨b, o + k * 2, none⟩ = some (.int .i64 (gS zs k).1) := (hb.cell (by exact hbo)).trans (h.before b o rfl k hlt)
      have hx1 : wr.cell? ⟨b, o + k * 2 + 1, none⟩ = some (.int .i64 (gS zs k).2) := (hb.cell (by exact hbo)).trans (h.after b o rfl k hlt)
      obtain ⟨z0, z1, z2, z3⟩ := hz k hlt
      have ek : bits .and .i64 (gS zs k).1 (inp : Int) = (keyN inp (gS zs k) : Nat) := and_int _ _ z0 (by omega) (by omega) (by omega)
      have ev : bits .and .i64 ((gS zs k).2 / 2 ^ i) 1 = (valN i (gS zs k) : Nat) := bit_int _ _ z2 (by omega)
      have hlt' : (k : Int) < (zs.length : Int) := by omega
      have hkl := keyN_lt inp (gS zs k) hinp
      have hvl := valN_lt i (gS zs k)
      have hlk : ∀ (q : Obj) (d : Nat), (Instr.lookup 49 (.map (some w.heap.size)) (.int .i64 (keyN inp (gS zs k) : Nat)) true).run Try.prog ((wr.alloc q).drewN d) = .ok (.tuple #[.int .i64 ((keyF zs i inp k (keyN inp (gS zs k) : Nat)).getD 0), .bool (keyF zs i inp k (keyN inp (gS zs k) : Nat)).isSome]) ((wr.alloc q).drewN d) :=
        fun q d => ((hmap.alloc q).drewN d).look_ok _ (by omega)
      clear h hz
      cases hF : keyF zs i inp k (keyN inp (gS zs k) : Nat) with
      | none =>
        have HF := Lib.hid hF
        have hlk' := fun q d => (hF ▸ hlk q d)
        clear hlk hF
        simp only [Option.getD_none, Option.isSome_none] at hlk'
        go_wp2
        go_quiet (fail)
        go_wp2_with (first | (at_mapUpdate; refine wpList_mapI ((hmap.alloc _).drewN _) rfl _ _ _ rfl rfl (by unfold maxLen; omega) _ _ rfl rfl (by omega) (by omega) ?_; intro w1 m1 b1 _))
        go_roundw
        case rel => exact ⟨k + 1, by omega, by go_num, agree_step HA.out (fun v hv => by rw [HF.out] at hv; cases hv), m1, ((below_drewN (hb.alloc (by have := hb.size; omega) _) _).trans (b1.mono (by simp)))⟩
        case measure => simp [intOf]; omega
      | some v =>
        have HF := Lib.hid hF
        have hlk' := fun q d => (hF ▸ hlk q d)
        clear hlk hF
        simp only [Option.getD_some, Option.isSome_some] at hlk'
        by_cases hv : v = (valN i (gS zs k) : Nat)
        · have hvb : (v != (valN i (gS zs k) : Nat)) = false := by simp [hv]
          have HV := Lib.hid hv
          clear hv
          go_wp2
          go_quiet (fail)
          go_wp2_with (first | (at_mapUpdate; refine wpList_mapI ((hmap.alloc _).drewN _) rfl _ _ _ rfl rfl (by unfold maxLen; omega) _ _ rfl rfl (by omega) (by omega) ?_; intro w1 m1 b1 _))
          go_roundw
          case rel => exact ⟨k + 1, by omega, by go_num, agree_step HA.out (fun u hu => by rw [HF.out] at hu; cases hu; exact HV.out), m1, ((below_drewN (hb.alloc (by have := hb.size; omega) _) _).trans (b1.mono (by simp)))⟩
          case measure => simp [intOf]; omega
        · have hvb : (v != (valN i (gS zs k) : Nat)) = true := by simp [hv]
          have HN := Lib.hid (fun h => agree_not HF.out hv (agree_le h hlt))
          clear hv
          go_wp2
          go_quiet (fail)
          go_wp2
          go_ret2
          exact ⟨.inr ⟨HN.out, rfl⟩, (below_drewN (hb.alloc (by have := hb.size; omega) _) _)⟩
    · obtain rfl : k = zs.length := by omega
      go_wp2
      go_ret2
      exact ⟨.inl ⟨HA.out, rfl, hmap⟩, hb⟩

end Go.Proofs.Ytlfeipibhdggcaa
