/- The words under which the program was cut, letter by letter: what the closed facts of a row ask of them. -/
import Derived.Test.YtdjmammknlpplaaRows
import Derived.Test.YtdjmammknlpplaaChecked
import Derived.JoinedOf
import Derived.WalkKit
namespace Go.Proofs.Ytdjmammknlpplaa
open Go
namespace Words
open Go

theorem word (w r : List Char) (h : w.all (· != ' ') = true) : wordsSigns (w ++ ' ' :: r) = w :: wordsSigns r := by
  induction w with
  | nil => rfl
  | cons c w ih =>
    simp only [List.all_cons, Bool.and_eq_true] at h
    have hc : c ≠ ' ' := by simpa using h.1
    have e : wordsSigns (c :: (w ++ ' ' :: r)) = match wordsSigns (w ++ ' ' :: r) with | w :: ws => (c :: w) :: ws | [] => [[c]] := by
      rw [wordsSigns]
      all_goals first | rfl | exact hc
    rw [List.cons_append, e, ih h.2]

theorem behind (s X : List Char) (hs : s.all (· != ' ') = true) (h : isSumSigns s = true) :
    behindMainWord (wordsSigns ("harness".toList ++ ' ' :: (s ++ ' ' :: ("cut".toList ++ ' ' :: X)))) = "cut".toList :: wordsSigns X := by
  rw [word _ _ (by decide), word _ _ hs, word _ _ (by decide)]
  show (if (("harness".toList == "harness".toList || "harness".toList == "ownmain".toList) && isSumSigns s) = true then _ else _) = _
  rw [h]
  rfl

theorem strip (ws : List (List Char)) : stripLifts liftWords ("cut".toList :: ws) = ([], "cut".toList :: ws) := by
  rfl

theorem mayEnter {P : Program} {s X : List Char} (h : P.initOrder.toList = "harness".toList ++ ' ' :: (s ++ ' ' :: ("cut".toList ++ ' ' :: X))) (hs : s.all (· != ' ') = true) (hsum : isSumSigns s = true)
    (h1 : P.laysLater = false) (h2 : P.bearsReflect = false) (h3 : P.doorFits [] = true) : P.mayEnter = true := by
  unfold Program.mayEnter
  rw [h, behind s X hs hsum, ]
  dsimp only
  rw [strip, h1, h2, h3]
  simp

theorem liftsFinal {P : Program} {s X : List Char} (h : P.initOrder.toList = "harness".toList ++ ' ' :: (s ++ ' ' :: ("cut".toList ++ ' ' :: X))) (hs : s.all (· != ' ') = true) (hsum : isSumSigns s = true) : P.liftsFinal = false := by
  unfold Program.liftsFinal Program.headLifts
  rw [h, behind s X hs hsum]
  dsimp only
  rw [strip]
  simp

theorem make {P : Program} {s X : List Char} (h : P.initOrder.toList = "harness".toList ++ ' ' :: (s ++ ' ' :: ("cut".toList ++ ' ' :: X))) (hs : s.all (· != ' ') = true) (hsum : isSumSigns s = true) : P.make = some .cut := by
  unfold Program.make
  rw [h, behind s X hs hsum]
  dsimp only
  simp

end Words
set_option maxRecDepth 100000
theorem initSigns : Try.prog.initOrder.toList = "harness".toList ++ ' ' :: (['2', '9', 'e', 'e', 'a', '4', 'd', 'b', 'c', 'f', 'c', '0', '8', '9', 'a', 'e', '6', '7', 'e', '5', 'a', '8', '7', '0', '8', '1', '0', '8', '8', '2', 'b', '4', 'e', '7', '6', 'e', '1', '5', 'd', 'd', 'f', 'b', 'e', '2', '7', '2', '8', '5', '0', '8', '1', 'e', 'a', 'f', '9', 'f', 'b', '4', '6', '3', '7', 'f', '2', '3'] ++ ' ' :: ("cut".toList ++ ' ' :: ['a', 't', ' ', 'l', 'o', 'o', 'p', '.', 'e', 'x', 'a', 'm', 'p', 'l', 'e', '/', 's', 'w', 'i', 't', 'c', 'h', 'n', 'e', 't', 'w', 'o', 'r', 'k', 's', '/', 'l', 'a', 'w', 's', '.', 'F', 'n', 'E', 'x', 'a', 'c', 't', 'B', 'l', 'o', 'c', 'k', 's', 'V', 'a', 'l', 'i', 'd', ' ', 'l', 'o', 'o', 'p', '.', 'e', 'x', 'a', 'm', 'p', 'l', 'e', '/', 's', 'w', 'i', 't', 'c', 'h', 'n', 'e', 't', 'w', 'o', 'r', 'k', 's', '/', 'l', 'a', 'w', 's', '.', 'F', 'n', 'E', 'x', 'a', 'c', 't', 'H', 'e', 'l', 'd', 'I', 'n', ' ', 'l', 'o', 'o', 'p', '.', 'e', 'x', 'a', 'm', 'p', 'l', 'e', '/', 's', 'w', 'i', 't', 'c', 'h', 'n', 'e', 't', 'w', 'o', 'r', 'k', 's', '/', 'l', 'a', 'w', 's', '.', 'F', 'n', 'E', 'x', 'a', 'c', 't', 'S', 'e', 'e', 'n', 'V', 'a', 'l', 'i', 'd', ' ', 'l', 'o', 'o', 'p', '.', 'e', 'x', 'a', 'm', 'p', 'l', 'e', '/', 's', 'w', 'i', 't', 'c', 'h', 'n', 'e', 't', 'w', 'o', 'r', 'k', 's', '/', 'l', 'a', 'w', 's', '.', 'F', 'n', 'E', 'x', 'a', 'c', 't', 'J', 'o', 'i', 'n', 'B', 'l', 'o', 'c', 'k', 's', ' ', 'l', 'o', 'o', 'p', '.', 'e', 'x', 'a', 'm', 'p', 'l', 'e', '/', 's', 'w', 'i', 't', 'c', 'h', 'n', 'e', 't', 'w', 'o', 'r', 'k', 's', '/', 'l', 'a', 'w', 's', '.', 'F', 'n', 'E', 'x', 'a', 'c', 't', 'E', 'x', 'p', 'l', 'a', 'i', 'n', 's', ' ', 'l', 'o', 'o', 'p', '.', 'e', 'x', 'a', 'm', 'p', 'l', 'e', '/', 's', 'w', 'i', 't', 'c', 'h', 'n', 'e', 't', 'w', 'o', 'r', 'k', 's', '/', 'l', 'a', 'w', 's', '.', 'F', 'n', 'E', 'x', 'a', 'c', 't', 'I', 's', 'P', 'o', 's', 's', 'i', 'b', 'l', 'e', ' ', 'l', 'o', 'o', 'p', '.', 'e', 'x', 'a', 'm', 'p', 'l', 'e', '/', 's', 'w', 'i', 't', 'c', 'h', 'n', 'e', 't', 'w', 'o', 'r', 'k', 's', '/', 'l', 'a', 'w', 's', '.', 'F', 'n', 'E', 'x', 'a', 'c', 't', 'U', 'n', 's', 'e', 'e', 'n', 'O', 'f', ' ', 'l', 'o', 'o', 'p', '.', 'e', 'x', 'a', 'm', 'p', 'l', 'e', '/', 's', 'w', 'i', 't', 'c', 'h', 'n', 'e', 't', 'w', 'o', 'r', 'k', 's', '/', 'l', 'a', 'w', 's', '.', 'F', 'n', 'E', 'x', 'a', 'c', 't', 'A', 'l', 'l', 'R', 'u', 'l', 'e', 's', ' ', 'l', 'o', 'o', 'p', '.', 'e', 'x', 'a', 'm', 'p', 'l', 'e', '/', 's', 'w', 'i', 't', 'c', 'h', 'n', 'e', 't', 'w', 'o', 'r', 'k', 's', '/', 'l', 'a', 'w', 's', '.', 'F', 'n', 'E', 'x', 'a', 'c', 't', 'F', 'o', 'r', 'm', 'a', 't', 'S', 't', 'a', 't', 'e', 's', ' ', 'l', 'o', 'o', 'p', '.', 'e', 'x', 'a', 'm', 'p', 'l', 'e', '/', 's', 'w', 'i', 't', 'c', 'h', 'n', 'e', 't', 'w', 'o', 'r', 'k', 's', '/', 'l', 'a', 'w', 's', '.', 'F', 'n', 'E', 'x', 'a', 'c', 't', 'L', 'e', 'a', 's', 't', 'I', 'n', 'p', 'u', 't', 's', ' ', 'l', 'o', 'o', 'p', '.', 'e', 'x', 'a', 'm', 'p', 'l', 'e', '/', 's', 'w', 'i', 't', 'c', 'h', 'n', 'e', 't', 'w', 'o', 'r', 'k', 's', '/', 'l', 'a', 'w', 's', '.', 'F', 'n', 'E', 'x', 'a', 'c', 't', 'L', 'e', 'a', 'r', 'n', 'R', 'u', 'l', 'e', ' ', 'l', 'o', 'o', 'p', '.', 'e', 'x', 'a', 'm', 'p', 'l', 'e', '/', 's', 'w', 'i', 't', 'c', 'h', 'n', 'e', 't', 'w', 'o', 'r', 'k', 's', '/', 'l', 'a', 'w', 's', '.', 'F', 'n', 'E', 'x', 'a', 'c', 't', 'L', 'e', 'a', 'r', 'n', 'N', 'e', 't', 'w', 'o', 'r', 'k', ' ', 'l', 'o', 'o', 'p', '.', 'e', 'x', 'a', 'm', 'p', 'l', 'e', '/', 's', 'w', 'i', 't', 'c', 'h', 'n', 'e', 't', 'w', 'o', 'r', 'k', 's', '/', 'l', 'a', 'w', 's', '.', 'F', 'n', 'E', 'x', 'p', 'l', 'a', 'i', 'n', 's', ' ', 'l', 'o', 'o', 'p', '.', 'e', 'x', 'a', 'm', 'p', 'l', 'e', '/', 's', 'w', 'i', 't', 'c', 'h', 'n', 'e', 't', 'w', 'o', 'r', 'k', 's', '/', 'l', 'a', 'w', 's', '.', 'F', 'n', 'L', 'e', 'a', 's', 't', 'I', 'n', 'p', 'u', 't', 's', ' ', 'l', 'o', 'o', 'p', '.', 'e', 'x', 'a', 'm', 'p', 'l', 'e', '/', 's', 'w', 'i', 't', 'c', 'h', 'n', 'e', 't', 'w', 'o', 'r', 'k', 's', '/', 'l', 'a', 'w', 's', '.', 'F', 'n', 'L', 'e', 'a', 'r', 'n', 'R', 'u', 'l', 'e'])) := by
  have e : Try.prog.initOrder = String.ofList ['h', 'a', 'r', 'n', 'e', 's', 's', ' ', '2', '9', 'e', 'e', 'a', '4', 'd', 'b', 'c', 'f', 'c', '0', '8', '9', 'a', 'e', '6', '7', 'e', '5', 'a', '8', '7', '0', '8', '1', '0', '8', '8', '2', 'b', '4', 'e', '7', '6', 'e', '1', '5', 'd', 'd', 'f', 'b', 'e', '2', '7', '2', '8', '5', '0', '8', '1', 'e', 'a', 'f', '9', 'f', 'b', '4', '6', '3', '7', 'f', '2', '3', ' ', 'c', 'u', 't', ' ', 'a', 't', ' ', 'l', 'o', 'o', 'p', '.', 'e', 'x', 'a', 'm', 'p', 'l', 'e', '/', 's', 'w', 'i', 't', 'c', 'h', 'n', 'e', 't', 'w', 'o', 'r', 'k', 's', '/', 'l', 'a', 'w', 's', '.', 'F', 'n', 'E', 'x', 'a', 'c', 't', 'B', 'l', 'o', 'c', 'k', 's', 'V', 'a', 'l', 'i', 'd', ' ', 'l', 'o', 'o', 'p', '.', 'e', 'x', 'a', 'm', 'p', 'l', 'e', '/', 's', 'w', 'i', 't', 'c', 'h', 'n', 'e', 't', 'w', 'o', 'r', 'k', 's', '/', 'l', 'a', 'w', 's', '.', 'F', 'n', 'E', 'x', 'a', 'c', 't', 'H', 'e', 'l', 'd', 'I', 'n', ' ', 'l', 'o', 'o', 'p', '.', 'e', 'x', 'a', 'm', 'p', 'l', 'e', '/', 's', 'w', 'i', 't', 'c', 'h', 'n', 'e', 't', 'w', 'o', 'r', 'k', 's', '/', 'l', 'a', 'w', 's', '.', 'F', 'n', 'E', 'x', 'a', 'c', 't', 'S', 'e', 'e', 'n', 'V', 'a', 'l', 'i', 'd', ' ', 'l', 'o', 'o', 'p', '.', 'e', 'x', 'a', 'm', 'p', 'l', 'e', '/', 's', 'w', 'i', 't', 'c', 'h', 'n', 'e', 't', 'w', 'o', 'r', 'k', 's', '/', 'l', 'a', 'w', 's', '.', 'F', 'n', 'E', 'x', 'a', 'c', 't', 'J', 'o', 'i', 'n', 'B', 'l', 'o', 'c', 'k', 's', ' ', 'l', 'o', 'o', 'p', '.', 'e', 'x', 'a', 'm', 'p', 'l', 'e', '/', 's', 'w', 'i', 't', 'c', 'h', 'n', 'e', 't', 'w', 'o', 'r', 'k', 's', '/', 'l', 'a', 'w', 's', '.', 'F', 'n', 'E', 'x', 'a', 'c', 't', 'E', 'x', 'p', 'l', 'a', 'i', 'n', 's', ' ', 'l', 'o', 'o', 'p', '.', 'e', 'x', 'a', 'm', 'p', 'l', 'e', '/', 's', 'w', 'i', 't', 'c', 'h', 'n', 'e', 't', 'w', 'o', 'r', 'k', 's', '/', 'l', 'a', 'w', 's', '.', 'F', 'n', 'E', 'x', 'a', 'c', 't', 'I', 's', 'P', 'o', 's', 's', 'i', 'b', 'l', 'e', ' ', 'l', 'o', 'o', 'p', '.', 'e', 'x', 'a', 'm', 'p', 'l', 'e', '/', 's', 'w', 'i', 't', 'c', 'h', 'n', 'e', 't', 'w', 'o', 'r', 'k', 's', '/', 'l', 'a', 'w', 's', '.', 'F', 'n', 'E', 'x', 'a', 'c', 't', 'U', 'n', 's', 'e', 'e', 'n', 'O', 'f', ' ', 'l', 'o', 'o', 'p', '.', 'e', 'x', 'a', 'm', 'p', 'l', 'e', '/', 's', 'w', 'i', 't', 'c', 'h', 'n', 'e', 't', 'w', 'o', 'r', 'k', 's', '/', 'l', 'a', 'w', 's', '.', 'F', 'n', 'E', 'x', 'a', 'c', 't', 'A', 'l', 'l', 'R', 'u', 'l', 'e', 's', ' ', 'l', 'o', 'o', 'p', '.', 'e', 'x', 'a', 'm', 'p', 'l', 'e', '/', 's', 'w', 'i', 't', 'c', 'h', 'n', 'e', 't', 'w', 'o', 'r', 'k', 's', '/', 'l', 'a', 'w', 's', '.', 'F', 'n', 'E', 'x', 'a', 'c', 't', 'F', 'o', 'r', 'm', 'a', 't', 'S', 't', 'a', 't', 'e', 's', ' ', 'l', 'o', 'o', 'p', '.', 'e', 'x', 'a', 'm', 'p', 'l', 'e', '/', 's', 'w', 'i', 't', 'c', 'h', 'n', 'e', 't', 'w', 'o', 'r', 'k', 's', '/', 'l', 'a', 'w', 's', '.', 'F', 'n', 'E', 'x', 'a', 'c', 't', 'L', 'e', 'a', 's', 't', 'I', 'n', 'p', 'u', 't', 's', ' ', 'l', 'o', 'o', 'p', '.', 'e', 'x', 'a', 'm', 'p', 'l', 'e', '/', 's', 'w', 'i', 't', 'c', 'h', 'n', 'e', 't', 'w', 'o', 'r', 'k', 's', '/', 'l', 'a', 'w', 's', '.', 'F', 'n', 'E', 'x', 'a', 'c', 't', 'L', 'e', 'a', 'r', 'n', 'R', 'u', 'l', 'e', ' ', 'l', 'o', 'o', 'p', '.', 'e', 'x', 'a', 'm', 'p', 'l', 'e', '/', 's', 'w', 'i', 't', 'c', 'h', 'n', 'e', 't', 'w', 'o', 'r', 'k', 's', '/', 'l', 'a', 'w', 's', '.', 'F', 'n', 'E', 'x', 'a', 'c', 't', 'L', 'e', 'a', 'r', 'n', 'N', 'e', 't', 'w', 'o', 'r', 'k', ' ', 'l', 'o', 'o', 'p', '.', 'e', 'x', 'a', 'm', 'p', 'l', 'e', '/', 's', 'w', 'i', 't', 'c', 'h', 'n', 'e', 't', 'w', 'o', 'r', 'k', 's', '/', 'l', 'a', 'w', 's', '.', 'F', 'n', 'E', 'x', 'p', 'l', 'a', 'i', 'n', 's', ' ', 'l', 'o', 'o', 'p', '.', 'e', 'x', 'a', 'm', 'p', 'l', 'e', '/', 's', 'w', 'i', 't', 'c', 'h', 'n', 'e', 't', 'w', 'o', 'r', 'k', 's', '/', 'l', 'a', 'w', 's', '.', 'F', 'n', 'L', 'e', 'a', 's', 't', 'I', 'n', 'p', 'u', 't', 's', ' ', 'l', 'o', 'o', 'p', '.', 'e', 'x', 'a', 'm', 'p', 'l', 'e', '/', 's', 'w', 'i', 't', 'c', 'h', 'n', 'e', 't', 'w', 'o', 'r', 'k', 's', '/', 'l', 'a', 'w', 's', '.', 'F', 'n', 'L', 'e', 'a', 'r', 'n', 'R', 'u', 'l', 'e'] := by kernel_rfl
  rw [e, String.toList_ofList]
  rfl
theorem lifts : Try.prog.liftsFinal = false := Words.liftsFinal initSigns (by decide +kernel) (by decide +kernel)
theorem enters : Try.prog.mayEnter = true := Words.mayEnter initSigns (by decide +kernel) (by decide +kernel) (by kernel_rfl) (by kernel_rfl) (by kernel_rfl)
theorem made : Try.prog.make = some .cut := Words.make initSigns (by decide +kernel) (by decide +kernel)
end Go.Proofs.Ytdjmammknlpplaa
