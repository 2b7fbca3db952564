/-
  The program's own closed facts that every row of the door asks for: its start's words, its stops, its maps. Each alone: the kernel's store does not hold them together.
-/
import Derived.Test.YtefneilaongpbaaDoorFacts
import Derived.JoinedOf
set_option linter.unusedVariables false
set_option maxRecDepth 100000
namespace Go.Proofs.YtefneilaongpbaaDoor
open Go Go.Bd Go.RowKit Go.ChangeShapes Go.WideShapes

def startRest : List Char := ['a', 't', ' ', 'b', 'e', 'a', 'd', 'r', 'o', 'l', 'l', '/', 'b', 'e', 'a', 'd', 'r', 'o', 'l', 'l', 'l', 'a', 'w', '0', '5', '.', 'P', 'a', 'i', 'r', 's', 'R', 'o', 'o', 't', ' ', 'b', 'e', 'a', 'd', 'r', 'o', 'l', 'l', '/', 'b', 'e', 'a', 'd', 'r', 'o', 'l', 'l', 'l', 'a', 'w', '0', '8', '.', 'V', 'e', 'r', 'i', 'f', 'y', 'T', 'e', 'l', 'l', 's', ' ', 'b', 'e', 'a', 'd', 'r', 'o', 'l', 'l', '/', 'b', 'e', 'a', 'd', 'r', 'o', 'l', 'l', 'l', 'a', 'w', '0', '8', '.', 'V', 'e', 'r', 'i', 'f', 'y', 'N', 'a', 'm', 'e', 's', ' ', 'b', 'e', 'a', 'd', 'r', 'o', 'l', 'l', '/', 'b', 'e', 'a', 'd', 'r', 'o', 'l', 'l', 'l', 'a', 'w', '0', '6', '.', 'T', 'r', 'e', 'e', 'R', 'o', 'a', 'd', 's', ' ', 'b', 'e', 'a', 'd', 'r', 'o', 'l', 'l', '/', 'b', 'e', 'a', 'd', 'r', 'o', 'l', 'l', 'l', 'a', 'w', '0', '9', '.', 'C', 'l', 'a', 's', 'h', 'S', 'e', 'e', 'k', 's', ' ', 'b', 'e', 'a', 'd', 'r', 'o', 'l', 'l', '/', 'b', 'e', 'a', 'd', 'r', 'o', 'l', 'l', 'l', 'a', 'w', '0', '8', '.', 'V', 'e', 'r', 'i', 'f', 'y', 'C', 'h', 'a', 'i', 'n', ' ', 'b', 'e', 'a', 'd', 'r', 'o', 'l', 'l', '/', 'b', 'e', 'a', 'd', 'r', 'o', 'l', 'l', 'l', 'a', 'w', '0', '7', '.', 'P', 'r', 'o', 'o', 'f', 'M', 'a', 'k', 'e', 's', ' ', 'b', 'e', 'a', 'd', 'r', 'o', 'l', 'l', '/', 'b', 'e', 'a', 'd', 'r', 'o', 'l', 'l', 'l', 'a', 'w', '0', '5', '.', 'P', 'a', 'i', 'r', 's', 'W', 'a', 'y', 's', ' ', 'b', 'e', 'a', 'd', 'r', 'o', 'l', 'l', '/', 'b', 'e', 'a', 'd', 'r', 'o', 'l', 'l', 'l', 'a', 'w', '0', '7', '.', 'P', 'r', 'o', 'o', 'f', 'N', 'a', 'm', 'e', 's', ' ', 'b', 'e', 'a', 'd', 'r', 'o', 'l', 'l', '/', 'b', 'e', 'a', 'd', 'r', 'o', 'l', 'l', 'l', 'a', 'w', '0', '8', '.', 'V', 'e', 'r', 'i', 'f', 'y', 'M', 'a', 'd', 'e', ' ', 'b', 'e', 'a', 'd', 'r', 'o', 'l', 'l', '/', 'b', 'e', 'a', 'd', 'r', 'o', 'l', 'l', 'l', 'a', 'w', '0', '6', '.', 'T', 'r', 'e', 'e', 'T', 'e', 'l', 'l', 's', ' ', 'b', 'e', 'a', 'd', 'r', 'o', 'l', 'l', '/', 'b', 'e', 'a', 'd', 'r', 'o', 'l', 'l', 'l', 'a', 'w', '0', '5', '.', 'P', 'a', 'i', 'r', 's', 'N', 'a', 'm', 'e', 's', ' ', 'b', 'e', 'a', 'd', 'r', 'o', 'l', 'l', '/', 'b', 'e', 'a', 'd', 'r', 'o', 'l', 'l', 'l', 'a', 'w', '0', '7', '.', 'P', 'r', 'o', 'o', 'f', 'T', 'r', 'u', 'e', ' ', 'b', 'e', 'a', 'd', 'r', 'o', 'l', 'l', '/', 'b', 'e', 'a', 'd', 'r', 'o', 'l', 'l', 'l', 'a', 'w', '0', '6', '.', 'T', 'r', 'e', 'e', 'N', 'a', 'm', 'e', 's', ' ', 'b', 'e', 'a', 'd', 'r', 'o', 'l', 'l', '/', 'b', 'e', 'a', 'd', 'r', 'o', 'l', 'l', 'l', 'a', 'w', '0', '7', '.', 'P', 'r', 'o', 'o', 'f', 'O', 'n', 'e', ' ', 'b', 'e', 'a', 'd', 'r', 'o', 'l', 'l', '/', 'b', 'e', 'a', 'd', 'r', 'o', 'l', 'l', 'l', 'a', 'w', '0', '6', '.', 'T', 'r', 'e', 'e', 'S', 't', 'a', 'y', 's', ' ', 'b', 'e', 'a', 'd', 'r', 'o', 'l', 'l', '/', 'b', 'e', 'a', 'd', 'r', 'o', 'l', 'l', 'l', 'a', 'w', '0', '9', '.', 'C', 'l', 'a', 's', 'h', 'T', 'e', 'l', 'l', 's', ' ', 'b', 'e', 'a', 'd', 'r', 'o', 'l', 'l', '/', 'b', 'e', 'a', 'd', 'r', 'o', 'l', 'l', 'l', 'a', 'w', '0', '9', '.', 'C', 'l', 'a', 's', 'h', 'S', 'h', 'o', 'w', 's', ' ', 'b', 'e', 'a', 'd', 'r', 'o', 'l', 'l', '/', 'b', 'e', 'a', 'd', 'r', 'o', 'l', 'l', 'l', 'a', 'w', '0', '9', '.', 'C', 'l', 'a', 's', 'h', 'N', 'a', 'm', 'e', 's', ' ', 'b', 'e', 'a', 'd', 'r', 'o', 'l', 'l', '/', 'b', 'e', 'a', 'd', 'r', 'o', 'l', 'l', 'l', 'a', 'w', '0', '6', '.', 'T', 'r', 'e', 'e', 'M', 'a', 'p', 's']
def startSum : List Char := ['1', 'b', 'b', '7', '9', 'c', '6', '5', 'f', 'c', '6', '0', '2', '8', 'e', 'e', '2', 'f', '6', '0', 'c', 'f', '8', '3', 'e', '4', '1', 'a', '2', '9', '1', 'b', '7', 'd', '9', '0', 'd', 'b', '1', '5', '9', '4', '4', '5', '7', 'a', '2', '7', '5', '5', '6', '4', 'a', 'e', 'b', '7', '5', 'b', '0', 'c', '7', '8', 'e', 'f']
theorem start_is : Tryd.prog.initOrder = String.ofList ('h' :: 'a' :: 'r' :: 'n' :: 'e' :: 's' :: 's' :: ' ' :: (startSum ++ (' ' :: 'c' :: 'u' :: 't' :: ' ' :: startRest))) := by kernel_rfl
theorem signs_head (R : List Char) : wordsSigns ('h' :: 'a' :: 'r' :: 'n' :: 'e' :: 's' :: 's' :: ' ' :: R) = ['h', 'a', 'r', 'n', 'e', 's', 's'] :: wordsSigns R := by kernel_rfl
theorem signs_sum (R : List Char) : wordsSigns (startSum ++ (' ' :: R)) = startSum :: wordsSigns R := by kernel_rfl
theorem signs_cut (R : List Char) : wordsSigns ('c' :: 'u' :: 't' :: ' ' :: R) = ['c', 'u', 't'] :: wordsSigns R := by kernel_rfl
theorem start_words : wordsSigns Tryd.prog.initOrder.toList = ['h', 'a', 'r', 'n', 'e', 's', 's'] :: startSum :: ['c', 'u', 't'] :: wordsSigns startRest := by
  rw [start_is, String.toList_ofList, signs_head, signs_sum, signs_cut]
theorem behind_words (W : List (List Char)) : behindMainWord (['h', 'a', 'r', 'n', 'e', 's', 's'] :: startSum :: ['c', 'u', 't'] :: W) = ['c', 'u', 't'] :: W := by kernel_rfl
theorem start_behind : behindMainWord (wordsSigns Tryd.prog.initOrder.toList) = ['c', 'u', 't'] :: wordsSigns startRest := by rw [start_words, behind_words]
theorem strip_words (W : List (List Char)) : stripLifts liftWords (['c', 'u', 't'] :: W) = ([], ['c', 'u', 't'] :: W) := by kernel_rfl
theorem lifts_of {P : Program} {W : List (List Char)} (h : behindMainWord (wordsSigns P.initOrder.toList) = ['c', 'u', 't'] :: W) : P.headLifts = [] := by
  unfold Program.headLifts
  rw [h, strip_words]
  show (if ((['c', 'u', 't'] :: W).head? == some "cut".toList) then [] else []) = []
  split <;> rfl
theorem main_of {P : Program} {s : List Char} {W : List (List Char)} (h : wordsSigns P.initOrder.toList = ['h', 'a', 'r', 'n', 'e', 's', 's'] :: s :: W) (hs : isSumSigns s = true) : P.mainIs = some (true, s) := by
  unfold Program.mainIs
  rw [h]
  show (if (!isSumSigns s) = true then none else if (['h', 'a', 'r', 'n', 'e', 's', 's'] == "harness".toList) = true then some (true, s) else _) = _
  rw [hs, if_neg (by decide), if_pos (by decide)]
theorem make_of {P : Program} {W : List (List Char)} (h : behindMainWord (wordsSigns P.initOrder.toList) = ['c', 'u', 't'] :: W) : P.make = some .cut := by
  unfold Program.make
  rw [h]
  show (if (['c', 'u', 't'] == "gc".toList || ['c', 'u', 't'] == "spec".toList) = true then some Make.whole else if (['c', 'u', 't'] == "cut".toList || _) = true then some .cut else _) = _
  rw [if_neg (by decide), if_pos (by rw [show (['c', 'u', 't'] == "cut".toList) = true by decide]; rfl)]
theorem final_of {P : Program} {W : List (List Char)} (h : behindMainWord (wordsSigns P.initOrder.toList) = ['c', 'u', 't'] :: W) : P.liftsFinal = false := by
  unfold Program.liftsFinal
  rw [h, lifts_of h]
  show ((some ['c', 'u', 't'] == some "carried".toList && _) || _) = _
  rw [show (some ['c', 'u', 't'] == some "carried".toList) = false by decide]
  rfl
theorem enter_of {P : Program} {W : List (List Char)} (h : behindMainWord (wordsSigns P.initOrder.toList) = ['c', 'u', 't'] :: W) (h1 : P.laysLater = false) (h2 : P.bearsReflect = false) (h3 : P.doorFits [] = true) : P.mayEnter = true := by
  unfold Program.mayEnter
  rw [h]
  simp only [strip_words, h1, h2, h3, List.head?_cons, Bool.not_false, Bool.or_true, Bool.and_true]
  rw [show ((some ['c', 'u', 't'] : Option (List Char)) == some "cut".toList) = true by decide]
  rw [Bool.true_and]
  rw [show (!([] : List String).contains "leanrows") = true by decide, Bool.or_true, Bool.or_true]
theorem start_main : Tryd.prog.mainIs = some (true, startSum) := main_of start_words (by kernel_rfl)
theorem start_make : Tryd.prog.make = some .cut := make_of start_behind
theorem start_final : Tryd.prog.liftsFinal = false := final_of start_behind
theorem start_later : Tryd.prog.laysLater = false := by kernel_rfl
theorem start_reflect : Tryd.prog.bearsReflect = false := by kernel_rfl
theorem start_door : Tryd.prog.doorFits [] = true := by kernel_rfl
theorem start_enter : Tryd.prog.mayEnter = true := enter_of start_behind start_later start_reflect start_door
theorem prog_laidOut : laidOutB Tryd.prog = true := by kernel_rfl
theorem prog_maps : mapsRowed Tryd.prog = true := by kernel_rfl
theorem prog_stops : (Tryd.prog.stops == []) = true := by kernel_rfl
theorem prog_knobs : (Tryd.prog.stopKnobs == []) = true := by kernel_rfl
theorem prog_heard : Tryd.prog.stopsHeard = true := by kernel_rfl
theorem prog_plainKeys : Tryd.prog.plainKeys = true := by kernel_rfl
end Go.Proofs.YtefneilaongpbaaDoor
