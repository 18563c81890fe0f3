/-
  The closed call, computed by the kernel.
-/
import Derived.Test.YtnociodpfmlglaaGreatDoorIrT
set_option linter.unusedVariables false
set_option maxRecDepth 100000
namespace Go.Proofs.YtnociodpfmlglaaGreatDoor
namespace Ve
open Go
def isTrue : Option Out → Bool | some (.ret (.bool true) _) => true | _ => false
theorem isTrue_run {o : Option Out} (h : isTrue o = true) : ∃ H1, o = some (.ret (.bool true) H1) := by
  unfold isTrue at h
  split at h
  · rename_i H1; exact ⟨H1, rfl⟩
  · cases h
theorem reads_true : isTrue (run tabR 60 24 [] (blind 8)) = true := by kernel_rfl
theorem reads_run : ∃ H1, run tabR 60 24 [] (blind 8) = some (.ret (.bool true) H1) := isTrue_run reads_true

end Ve
end Go.Proofs.YtnociodpfmlglaaGreatDoor
