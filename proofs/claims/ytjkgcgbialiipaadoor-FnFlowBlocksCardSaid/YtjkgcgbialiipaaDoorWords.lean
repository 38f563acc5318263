/- The words under which the program was cut, letter by letter: what the closed facts of a row ask of them. -/
import Derived.Test.YtjkgcgbialiipaaDoorRows
import Derived.Test.YtjkgcgbialiipaaDoorChecked
import Derived.JoinedOf
import Derived.WalkKit
namespace Go.Proofs.YtjkgcgbialiipaaDoor
open Go
namespace Words
open Go

/-- The blank. -/
abbrev sp : Char := Char.ofNat 32
abbrev cs (l : List Nat) : List Char := l.map Char.ofNat

theorem word (w r : List Char) (h : w.all (· != sp) = true) : wordsSigns (w ++ sp :: r) = w :: wordsSigns r := by
  induction w with
  | nil => rfl
  | cons c w ih =>
    simp only [List.all_cons, Bool.and_eq_true] at h
    have hc : c ≠ sp := by simpa using h.1
    have e : wordsSigns (c :: (w ++ sp :: r)) = match wordsSigns (w ++ sp :: r) with | w :: ws => (c :: w) :: ws | [] => [[c]] := by
      rw [wordsSigns]
      all_goals first | rfl | exact hc
    rw [List.cons_append, e, ih h.2]

theorem behind (s X : List Char) (hs : s.all (· != sp) = true) (h : isSumSigns s = true) :
    behindMainWord (wordsSigns ("harness".toList ++ sp :: (s ++ sp :: ("cut".toList ++ sp :: X)))) = "cut".toList :: wordsSigns X := by
  rw [word _ _ (by decide), word _ _ hs, word _ _ (by decide)]
  show (if (("harness".toList == "harness".toList || "harness".toList == "ownmain".toList) && isSumSigns s) = true then _ else _) = _
  rw [h]
  rfl

theorem strip (ws : List (List Char)) : stripLifts liftWords ("cut".toList :: ws) = ([], "cut".toList :: ws) := by
  rfl

theorem mayEnter {P : Program} {s X : List Char} (h : P.initOrder.toList = "harness".toList ++ sp :: (s ++ sp :: ("cut".toList ++ sp :: X))) (hs : s.all (· != sp) = true) (hsum : isSumSigns s = true)
    (h1 : P.laysLater = false) (h2 : P.bearsReflect = false) (h3 : P.doorFits [] = true) : P.mayEnter = true := by
  unfold Program.mayEnter
  rw [h, behind s X hs hsum, ]
  dsimp only
  rw [strip, h1, h2, h3]
  simp

theorem liftsFinal {P : Program} {s X : List Char} (h : P.initOrder.toList = "harness".toList ++ sp :: (s ++ sp :: ("cut".toList ++ sp :: X))) (hs : s.all (· != sp) = true) (hsum : isSumSigns s = true) : P.liftsFinal = false := by
  unfold Program.liftsFinal Program.headLifts
  rw [h, behind s X hs hsum]
  dsimp only
  rw [strip]
  simp

theorem make {P : Program} {s X : List Char} (h : P.initOrder.toList = "harness".toList ++ sp :: (s ++ sp :: ("cut".toList ++ sp :: X))) (hs : s.all (· != sp) = true) (hsum : isSumSigns s = true) : P.make = some .cut := by
  unfold Program.make
  rw [h, behind s X hs hsum]
  dsimp only
  simp

theorem mainIs {P : Program} {s X : List Char} (h : P.initOrder.toList = "harness".toList ++ sp :: (s ++ sp :: ("cut".toList ++ sp :: X))) (hs : s.all (· != sp) = true) (hsum : isSumSigns s = true) : P.mainIs = some (true, s) := by
  unfold Program.mainIs
  rw [h, word _ _ (by decide), word _ _ hs]
  dsimp only
  rw [hsum]
  rfl

end Words
set_option maxRecDepth 100000
abbrev theSum : List Char := Words.cs [51, 101, 53, 55, 56, 50, 101, 51, 49, 98, 102, 57, 53, 51, 49, 97, 57, 49, 98, 98, 97, 53, 54, 56, 97, 98, 57, 100, 54, 54, 56, 57, 101, 56, 101, 53, 99, 98, 55, 57, 56, 57, 102, 50, 99, 53, 97, 97, 99, 50, 55, 102, 48, 57, 52, 54, 99, 102, 54, 100, 50, 55, 98, 54]
abbrev theRest : List Char := Words.cs [97, 116, 32, 108, 111, 111, 112, 46, 101, 120, 97, 109, 112, 108, 101, 47, 115, 119, 105, 116, 99, 104, 110, 101, 116, 119, 111, 114, 107, 115, 47, 108, 97, 119, 115, 46, 70, 110, 83, 116, 101, 112, 66, 108, 111, 99, 107, 115, 32, 108, 111, 111, 112, 46, 101, 120, 97, 109, 112, 108, 101, 47, 115, 119, 105, 116, 99, 104, 110, 101, 116, 119, 111, 114, 107, 115, 47, 108, 97, 119, 115, 46, 70, 110, 83, 101, 101, 83, 116, 101, 112, 115, 32, 108, 111, 111, 112, 46, 101, 120, 97, 109, 112, 108, 101, 47, 115, 119, 105, 116, 99, 104, 110, 101, 116, 119, 111, 114, 107, 115, 47, 108, 97, 119, 115, 46, 70, 110, 65, 108, 108, 83, 101, 101, 110, 32, 108, 111, 111, 112, 46, 101, 120, 97, 109, 112, 108, 101, 47, 115, 119, 105, 116, 99, 104, 110, 101, 116, 119, 111, 114, 107, 115, 47, 108, 97, 119, 115, 46, 70, 110, 83, 97, 109, 101, 83, 99, 104, 101, 100, 117, 108, 101, 32, 108, 111, 111, 112, 46, 101, 120, 97, 109, 112, 108, 101, 47, 115, 119, 105, 116, 99, 104, 110, 101, 116, 119, 111, 114, 107, 115, 47, 108, 97, 119, 115, 46, 70, 110, 66, 108, 111, 99, 107, 115, 80, 111, 105, 110, 116, 115, 32, 108, 111, 111, 112, 46, 101, 120, 97, 109, 112, 108, 101, 47, 115, 119, 105, 116, 99, 104, 110, 101, 116, 119, 111, 114, 107, 115, 47, 108, 97, 119, 115, 46, 70, 110, 74, 111, 105, 110, 66, 108, 111, 99, 107, 115, 32, 108, 111, 111, 112, 46, 101, 120, 97, 109, 112, 108, 101, 47, 115, 119, 105, 116, 99, 104, 110, 101, 116, 119, 111, 114, 107, 115, 47, 108, 97, 119, 115, 46, 70, 110, 70, 108, 111, 119, 66, 108, 111, 99, 107, 115, 32, 108, 111, 111, 112, 46, 101, 120, 97, 109, 112, 108, 101, 47, 115, 119, 105, 116, 99, 104, 110, 101, 116, 119, 111, 114, 107, 115, 47, 108, 97, 119, 115, 46, 70, 110, 76, 101, 97, 114, 110, 32, 108, 111, 111, 112, 46, 101, 120, 97, 109, 112, 108, 101, 47, 115, 119, 105, 116, 99, 104, 110, 101, 116, 119, 111, 114, 107, 115, 47, 108, 97, 119, 115, 46, 70, 110, 72, 101, 108, 100, 80, 111, 105, 110, 116, 115, 32, 108, 111, 111, 112, 46, 101, 120, 97, 109, 112, 108, 101, 47, 115, 119, 105, 116, 99, 104, 110, 101, 116, 119, 111, 114, 107, 115, 47, 108, 97, 119, 115, 46, 70, 110, 72, 111, 108, 100, 83, 119, 105, 116, 99, 104, 101, 115, 32, 108, 111, 111, 112, 46, 101, 120, 97, 109, 112, 108, 101, 47, 115, 119, 105, 116, 99, 104, 110, 101, 116, 119, 111, 114, 107, 115, 47, 108, 97, 119, 115, 46, 70, 110, 76, 101, 97, 115, 116, 72, 111, 108, 100, 32, 108, 111, 111, 112, 46, 101, 120, 97, 109, 112, 108, 101, 47, 115, 119, 105, 116, 99, 104, 110, 101, 116, 119, 111, 114, 107, 115, 47, 108, 97, 119, 115, 46, 70, 110, 69, 97, 115, 105, 101, 115, 116]
theorem initSigns : Tryd.prog.initOrder.toList = "harness".toList ++ Words.sp :: (theSum ++ Words.sp :: ("cut".toList ++ Words.sp :: theRest)) := by
  have e : Tryd.prog.initOrder = String.ofList ("harness".toList ++ Words.sp :: (theSum ++ Words.sp :: ("cut".toList ++ Words.sp :: theRest))) := by kernel_rfl
  rw [e, String.toList_ofList]
theorem lifts : Tryd.prog.liftsFinal = false := Words.liftsFinal initSigns (by decide +kernel) (by decide +kernel)
theorem enters : Tryd.prog.mayEnter = true := Words.mayEnter initSigns (by decide +kernel) (by decide +kernel) (by kernel_rfl) (by kernel_rfl) (by kernel_rfl)
theorem mains : Tryd.prog.mainIs = some (true, theSum) := Words.mainIs initSigns (by decide +kernel) (by decide +kernel)
theorem made : Tryd.prog.make = some .cut := Words.make initSigns (by decide +kernel) (by decide +kernel)
end Go.Proofs.YtjkgcgbialiipaaDoor
