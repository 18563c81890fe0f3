/-
  The deferring function, the entries, and the closed call.
-/
import Derived.Test.YtnociodpfmlglaaGreatDoorIrF
import Derived.Test.YtnociodpfmlglaaGreatDoorIrR
import Derived.Test.YtnociodpfmlglaaGreatDoorVE
set_option linter.unusedVariables false
set_option maxRecDepth 100000
namespace Go.Proofs.YtnociodpfmlglaaGreatDoor
namespace Ve
open Go
noncomputable def body25 : Code := (Tryz.f25.body).getD .skip
theorem pre25 : ((takeSeq 3 body25).map fun a => (compC Tryz.prog a []).1) = d25.pre := by kernel_rfl
theorem caps25 : capsD Tryz.prog (partsD (dropSeq 3 body25)) = some (d25.t, d25.g, d25.caps, d25.rest) := by kernel_rfl
theorem clo25 : cloD Tryz.prog Tryz.f81 = some (d25.u, d25.v, d25.crest) := by kernel_rfl
theorem dtabOkR : DTabOk Tryz.prog tabR := by
  intro f d h
  change dfns f = some d at h
  unfold dfns at h
  split at h
  · cases h
    refine ⟨Tryz.f25, Tryz.f81, body25, Tryz.func25, by kernel_rfl, by kernel_rfl, by kernel_rfl, by kernel_rfl, ?_, Tryz.func81, isClo_of clo25, by kernel_rfl⟩
    rw [← pre25]
    exact isD_of 3 body25 (by kernel_rfl) caps25
  · cases h
theorem dtabOk : DTabOk Tryz.prog tab := dtabOkR
theorem x294 : XOk Tryz.prog 294 xIndexByte := xIndexByte_ok Tryz.func294 (by kernel_rfl) (by kernel_rfl) (by kernel_rfl) (by kernel_rfl)
theorem x307 : XOk Tryz.prog 307 xCompare := xCompare_ok Tryz.func307 (by kernel_rfl) (by kernel_rfl) (by kernel_rfl) (by kernel_rfl)
theorem x314 : XOk Tryz.prog 314 xSame := xSame_ok Tryz.func314 (by kernel_rfl) (by kernel_rfl) (by kernel_rfl) (by kernel_rfl)
theorem intrOkR : IntrOk Tryz.prog tabR := by
  intro f args H out hc hd h
  change intr f args H = some out at h
  unfold intr at h
  split at h
  · exact x294 args H out h
  · exact x307 args H out h
  · exact x314 args H out h
  · cases h
theorem nglobals : Tryz.prog.globals.size = 8 := by kernel_rfl
theorem x24 : XOk Tryz.prog 24 (xClosed (.bool true)) := by
  obtain ⟨H1, h⟩ := reads_run
  rw [← nglobals] at h
  exact xClosed_ok tabOkR dtabOkR intrOkR h rfl
theorem intrOk : IntrOk Tryz.prog tab := by
  intro f args H out hc hd h
  change (if f = 24 then xClosed (.bool true) args H else intr f args H) = some out at h
  split at h
  · rename_i e; subst e; exact x24 args H out h
  · rename_i e
    have hc2 : code f = none := by have : (if f = 24 then none else code f) = none := hc; rwa [if_neg e] at this
    exact intrOkR f args H out hc2 hd h

end Ve
end Go.Proofs.YtnociodpfmlglaaGreatDoor
