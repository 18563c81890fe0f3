/-
  The closed facts of the row of ValueCompareMatchesSpec.
-/
import Derived.Test.YtnociodpfmlglaaGreatDoorFc
set_option linter.unusedVariables false
set_option maxRecDepth 100000
namespace Go.Proofs.YtnociodpfmlglaaGreatDoor
namespace Ve
open Go Go.RowKit Go.WideShapes Go.ChangeShapes

theorem laidOutB0 : laidOutB Tryz.prog = true := by kernel_rfl
theorem rowedB0 : mapsRowed Tryz.prog = true := by kernel_rfl
theorem inPlace6 : (Rows.valueCompareMatchesSpecUptoRow.inPlace == Tryz.prog.inPlace 6) = true := by kernel_rfl
theorem unfollowed6 : (Rows.valueCompareMatchesSpecUptoRow.unfollowed == Tryz.prog.unfollowed 6) = true := by kernel_rfl
theorem recurses6 : (Rows.valueCompareMatchesSpecUptoRow.recurses == Tryz.prog.recurses 6) = true := by kernel_rfl
theorem named6 : (Rows.valueCompareMatchesSpecUptoRow.named == Tryz.prog.varsNamed 6) = true := by kernel_rfl
theorem closed6 : joinedFacts Tryz.prog 6 Tryz.f6 (Rows.OpenSpec.upto Rows.valueCompareMatchesSpecSpec).bare Rows.valueCompareMatchesSpecUptoRow = true := by
  unfold joinedFacts
  repeat' (with_reducible apply and2)
  all_goals (first
    | with_reducible exact laidOutB0 | with_reducible exact rowedB0 | with_reducible exact inPlace6 | with_reducible exact unfollowed6 | with_reducible exact recurses6 | with_reducible exact named6
    | with_reducible exact mayEnter0 | with_reducible exact stopsHeard0 | with_reducible exact stops0 | with_reducible exact stopKnobs0
    | (rw [liftsFinal0]; kernel_rfl) | (rw [make0]; kernel_rfl) | (rw [plainKeys0]; kernel_rfl)
    | (as_aux_lemma => kernel_rfl))
theorem goes6 : false = Rows.valueCompareMatchesSpecUptoRow.goesBy Tryz.prog := by kernel_rfl
theorem wf6 : Rows.valueCompareMatchesSpecUptoRow.wfByText (Rows.OpenSpec.upto Rows.valueCompareMatchesSpecSpec) = true := by kernel_rfl
theorem wrap6 : Tryz.f6.isWrapper Tryz.prog Rows.valueCompareMatchesSpecUptoRow.wrapper Rows.valueCompareMatchesSpecUptoRow.mainSum := by
  unfold Func.isWrapper
  first | (rw [if_pos (by decide +kernel)]; kernel_rfl) | (rw [if_neg (by decide +kernel)]; exact ⟨rfl, rfl⟩)

end Ve
end Go.Proofs.YtnociodpfmlglaaGreatDoor
