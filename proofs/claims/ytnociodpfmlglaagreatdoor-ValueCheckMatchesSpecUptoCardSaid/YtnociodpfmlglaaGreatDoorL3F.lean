/-
  The closed facts of the row of ValueCheckMatchesSpec.
-/
import Derived.Test.YtnociodpfmlglaaGreatDoorFc
set_option linter.unusedVariables false
set_option maxRecDepth 100000
namespace Go.Proofs.YtnociodpfmlglaaGreatDoor
namespace Ve
open Go Go.RowKit Go.WideShapes Go.ChangeShapes

theorem laidOutB0 : laidOutB Tryz.prog = true := by kernel_rfl
theorem rowedB0 : mapsRowed Tryz.prog = true := by kernel_rfl
theorem inPlace3 : (Rows.valueCheckMatchesSpecUptoRow.inPlace == Tryz.prog.inPlace 3) = true := by kernel_rfl
theorem unfollowed3 : (Rows.valueCheckMatchesSpecUptoRow.unfollowed == Tryz.prog.unfollowed 3) = true := by kernel_rfl
theorem recurses3 : (Rows.valueCheckMatchesSpecUptoRow.recurses == Tryz.prog.recurses 3) = true := by kernel_rfl
theorem named3 : (Rows.valueCheckMatchesSpecUptoRow.named == Tryz.prog.varsNamed 3) = true := by kernel_rfl
theorem closed3 : joinedFacts Tryz.prog 3 Tryz.f3 (Rows.OpenSpec.upto Rows.valueCheckMatchesSpecSpec).bare Rows.valueCheckMatchesSpecUptoRow = true := by
  unfold joinedFacts
  repeat' (with_reducible apply and2)
  all_goals (first
    | with_reducible exact laidOutB0 | with_reducible exact rowedB0 | with_reducible exact inPlace3 | with_reducible exact unfollowed3 | with_reducible exact recurses3 | with_reducible exact named3
    | with_reducible exact mayEnter0 | with_reducible exact stopsHeard0 | with_reducible exact stops0 | with_reducible exact stopKnobs0
    | (rw [liftsFinal0]; kernel_rfl) | (rw [make0]; kernel_rfl) | (rw [plainKeys0]; kernel_rfl)
    | (as_aux_lemma => kernel_rfl))
theorem goes3 : false = Rows.valueCheckMatchesSpecUptoRow.goesBy Tryz.prog := by kernel_rfl
theorem wf3 : Rows.valueCheckMatchesSpecUptoRow.wfByText (Rows.OpenSpec.upto Rows.valueCheckMatchesSpecSpec) = true := by kernel_rfl
theorem wrap3 : Tryz.f3.isWrapper Tryz.prog Rows.valueCheckMatchesSpecUptoRow.wrapper Rows.valueCheckMatchesSpecUptoRow.mainSum := by
  unfold Func.isWrapper
  first | (rw [if_pos (by decide +kernel)]; kernel_rfl) | (rw [if_neg (by decide +kernel)]; exact ⟨rfl, rfl⟩)

end Ve
end Go.Proofs.YtnociodpfmlglaaGreatDoor
