/-
  The closed facts of the program that every row asks.
-/
import Derived.Test.YtnociodpfmlglaaGreatDoorWit
set_option linter.unusedVariables false
set_option maxRecDepth 100000
namespace Go.Proofs.YtnociodpfmlglaaGreatDoor
namespace Ve
open Go Go.RowKit Go.WideShapes Go.ChangeShapes

theorem and2 {a b : Bool} (h1 : a = true) (h2 : b = true) : (a && b) = true := by rw [h1, h2]; rfl
def isCut (ws : List (List Char)) : Bool := ws.head? == some "cut".toList
theorem cutHead : isCut (behindMainWord (wordsSigns Tryz.prog.initOrder.toList)) = true := by kernel_rfl
theorem cutForm : ∃ rest, behindMainWord (wordsSigns Tryz.prog.initOrder.toList) = "cut".toList :: rest := by
  have h := cutHead
  generalize behindMainWord (wordsSigns Tryz.prog.initOrder.toList) = X at h
  unfold isCut at h
  cases X with
  | nil => cases h
  | cons c rest =>
    have : c = "cut".toList := by
      have := eq_of_beq h
      simpa using this
    subst this
    exact ⟨rest, rfl⟩
theorem mainIs0 : Tryz.prog.mainIs = some (true, "b29cbbb5166a142ea552861ce5c0b29cad80b478005799ec302eb38c6a8d0293".toList) := by kernel_rfl
theorem strip0 (rest : List (List Char)) : stripLifts liftWords ("cut".toList :: rest) = ([], "cut".toList :: rest) := by kernel_rfl
theorem later0 : Tryz.prog.laysLater = false := by kernel_rfl
theorem reflect0 : Tryz.prog.bearsReflect = false := by kernel_rfl
theorem door0 : Tryz.prog.doorFits [] = true := by kernel_rfl
theorem mayEnter0 : Tryz.prog.mayEnter = true := by
  obtain ⟨rest, hX⟩ := cutForm
  unfold Program.mayEnter
  rw [hX]
  simp only [strip0, later0, reflect0, door0]
  simp
theorem headLifts0 : Tryz.prog.headLifts = [] := by
  obtain ⟨rest, hX⟩ := cutForm
  unfold Program.headLifts
  rw [hX, strip0]
  simp
theorem liftsFinal0 : Tryz.prog.liftsFinal = false := by
  obtain ⟨rest, hX⟩ := cutForm
  unfold Program.liftsFinal
  rw [hX, headLifts0]
  have h : (("cut".toList :: rest).head? == some "carried".toList) = false := by
    simp only [List.head?_cons]; decide
  simp only [h]
  rfl
theorem make0 : Tryz.prog.make = some .cut := by
  obtain ⟨rest, hX⟩ := cutForm
  unfold Program.make
  rw [hX]
  simp only []
  rw [if_neg (by decide), if_pos (by simp)]
theorem stopsHeard0 : Tryz.prog.stopsHeard = true := by kernel_rfl
theorem plainKeys0 : Tryz.prog.plainKeys = true := by kernel_rfl
theorem stops0 : (Tryz.prog.stops == []) = true := by kernel_rfl
theorem stopKnobs0 : (Tryz.prog.stopKnobs == []) = true := by kernel_rfl
end Ve
end Go.Proofs.YtnociodpfmlglaaGreatDoor
