/- The words under which the program was cut, letter by letter: what the closed facts of a row ask of them. -/
import Derived.Test.YtcmjogojlijdgaaGreatDoorRows
import Derived.Test.YtcmjogojlijdgaaGreatDoorChecked
import Derived.JoinedOf
import Derived.WalkKit
namespace Go.Proofs.YtcmjogojlijdgaaGreatDoor
open Go
namespace Words
open Go

/-- The blank. -/
abbrev sp : Char := Char.ofNat 32
abbrev cs (l : List Nat) : List Char := l.map Char.ofNat

theorem word (w r : List Char) (h : w.all (· != sp) = true) : wordsSigns (w ++ sp :: r) = w :: wordsSigns r := by
  induction w with
  | nil => rfl
  | cons c w ih =>
    simp only [List.all_cons, Bool.and_eq_true] at h
    have hc : c ≠ sp := by simpa using h.1
    have e : wordsSigns (c :: (w ++ sp :: r)) = match wordsSigns (w ++ sp :: r) with | w :: ws => (c :: w) :: ws | [] => [[c]] := by
      rw [wordsSigns]
      all_goals first | rfl | exact hc
    rw [List.cons_append, e, ih h.2]

theorem behind (s X : List Char) (hs : s.all (· != sp) = true) (h : isSumSigns s = true) :
    behindMainWord (wordsSigns ("harness".toList ++ sp :: (s ++ sp :: ("cut".toList ++ sp :: X)))) = "cut".toList :: wordsSigns X := by
  rw [word _ _ (by decide), word _ _ hs, word _ _ (by decide)]
  show (if (("harness".toList == "harness".toList || "harness".toList == "ownmain".toList) && isSumSigns s) = true then _ else _) = _
  rw [h]
  rfl

theorem strip (ws : List (List Char)) : stripLifts liftWords ("cut".toList :: ws) = ([], "cut".toList :: ws) := by
  rfl

theorem mayEnter {P : Program} {s X : List Char} (h : P.initOrder.toList = "harness".toList ++ sp :: (s ++ sp :: ("cut".toList ++ sp :: X))) (hs : s.all (· != sp) = true) (hsum : isSumSigns s = true)
    (h1 : P.laysLater = false) (h2 : P.bearsReflect = false) (h3 : P.doorFits [] = true) : P.mayEnter = true := by
  unfold Program.mayEnter
  rw [h, behind s X hs hsum, ]
  dsimp only
  rw [strip, h1, h2, h3]
  simp

theorem liftsFinal {P : Program} {s X : List Char} (h : P.initOrder.toList = "harness".toList ++ sp :: (s ++ sp :: ("cut".toList ++ sp :: X))) (hs : s.all (· != sp) = true) (hsum : isSumSigns s = true) : P.liftsFinal = false := by
  unfold Program.liftsFinal Program.headLifts
  rw [h, behind s X hs hsum]
  dsimp only
  rw [strip]
  simp

theorem make {P : Program} {s X : List Char} (h : P.initOrder.toList = "harness".toList ++ sp :: (s ++ sp :: ("cut".toList ++ sp :: X))) (hs : s.all (· != sp) = true) (hsum : isSumSigns s = true) : P.make = some .cut := by
  unfold Program.make
  rw [h, behind s X hs hsum]
  dsimp only
  simp

theorem mainIs {P : Program} {s X : List Char} (h : P.initOrder.toList = "harness".toList ++ sp :: (s ++ sp :: ("cut".toList ++ sp :: X))) (hs : s.all (· != sp) = true) (hsum : isSumSigns s = true) : P.mainIs = some (true, s) := by
  unfold Program.mainIs
  rw [h, word _ _ (by decide), word _ _ hs]
  dsimp only
  rw [hsum]
  rfl

end Words
set_option maxRecDepth 100000
abbrev theSum : List Char := Words.cs [48, 48, 48, 101, 56, 51, 50, 49, 52, 48, 49, 100, 49, 52, 50, 53, 100, 97, 101, 98, 57, 51, 51, 101, 99, 97, 56, 52, 98, 48, 57, 57, 102, 100, 100, 52, 102, 99, 49, 97, 51, 98, 100, 49, 57, 97, 50, 102, 51, 51, 49, 97, 53, 52, 101, 97, 99, 48, 51, 50, 53, 98, 56, 100]
abbrev theRest : List Char := Words.cs [97, 116, 32, 108, 111, 111, 112, 46, 101, 120, 97, 109, 112, 108, 101, 47, 115, 119, 105, 116, 99, 104, 110, 101, 116, 119, 111, 114, 107, 115, 47, 108, 97, 119, 115, 46, 70, 110, 80, 111, 105, 110, 116, 115, 66, 121, 82, 101, 100, 117, 99, 105, 110, 103]
theorem initSigns : Tryz.prog.initOrder.toList = "harness".toList ++ Words.sp :: (theSum ++ Words.sp :: ("cut".toList ++ Words.sp :: theRest)) := by
  have e : Tryz.prog.initOrder = String.ofList ("harness".toList ++ Words.sp :: (theSum ++ Words.sp :: ("cut".toList ++ Words.sp :: theRest))) := by kernel_rfl
  rw [e, String.toList_ofList]
theorem lifts : Tryz.prog.liftsFinal = false := Words.liftsFinal initSigns (by decide +kernel) (by decide +kernel)
theorem enters : Tryz.prog.mayEnter = true := Words.mayEnter initSigns (by decide +kernel) (by decide +kernel) (by kernel_rfl) (by kernel_rfl) (by kernel_rfl)
theorem mains : Tryz.prog.mainIs = some (true, theSum) := Words.mainIs initSigns (by decide +kernel) (by decide +kernel)
theorem made : Tryz.prog.make = some .cut := Words.make initSigns (by decide +kernel) (by decide +kernel)
end Go.Proofs.YtcmjogojlijdgaaGreatDoor
