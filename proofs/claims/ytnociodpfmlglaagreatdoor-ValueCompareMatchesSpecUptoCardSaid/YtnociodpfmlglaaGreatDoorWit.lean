/-
  A world in which the listed variables lie as their initialisers lay them.
-/
import Derived.Test.YtnociodpfmlglaaGreatDoorVF
import Derived.Test.YtnociodpfmlglaaGreatDoorCards
import Derived.Test.YtnociodpfmlglaaGreatDoorTie
import Derived.Deep.DeepWitnessRowRef
set_option linter.unusedVariables false
namespace Go.Proofs.YtnociodpfmlglaaGreatDoor
namespace Ve
open Go Go.RowKit Go.WideShapes Go.ChangeShapes Go.ChangeAt

theorem own0 : ownKnob Tryz.prog.godebug = none := by kernel_rfl

mutual
def flatD : DataW Unit → List Value
  | .lit (.bool b) => [.bool b]
  | .lit (.int k n) => [.int k n]
  | .agg ps => flatDs ps
  | _ => []
def flatDs : List (DataW Unit) → List Value
  | [] => []
  | d :: r => flatD d ++ flatDs r
end

noncomputable def laidWorld (os : Os) : World :=
  let N := (World.settled Tryz.prog os).heap.size
  let w0 := World.holding Tryz.prog os ⟨#[
    .cells #[.string ⟨#[105, 110, 118, 97, 108, 105, 100, 32, 115, 121, 110, 116, 97, 120]⟩] 322,
    .cells #[.string ⟨#[118, 97, 108, 117, 101, 32, 111, 117, 116, 32, 111, 102, 32, 114, 97, 110, 103, 101]⟩] 322], #[], []⟩
  let put (h : Array Obj) (g : Nat) (cs : Array Value) : Array Obj := h.modify g fun
    | .cells _ t frozen => .cells cs t frozen
    | o => o
  let h1 := put (put w0.heap 1 #[.iface 320 (.pointer (some ⟨N, 0, none⟩))]) 2 #[.iface 320 (.pointer (some ⟨N + 1, 0, none⟩))]
  let h2 := put h1 3 ⟨flatD Rows.laid_unicode_utf8_first⟩
  let h3 := put h2 4 ⟨flatD Rows.laid_unicode_utf8_acceptRanges⟩
  let h4 := put h3 5 ⟨flatD Rows.laid_internal_strconv_uint64pow10⟩
  let h5 := put h4 6 ⟨flatD Rows.laid_math_bits_deBruijn32tab⟩
  let h6 := put h5 7 ⟨flatD Rows.laid_math_bits_deBruijn64tab⟩
  { w0 with heap := h6 }

def laid0 : List (String × DataW Unit) := [("math/bits.deBruijn32tab", Rows.laid_math_bits_deBruijn32tab), ("math/bits.deBruijn64tab", Rows.laid_math_bits_deBruijn64tab), ("internal/strconv.uint64pow10", Rows.laid_internal_strconv_uint64pow10), ("unicode/utf8.acceptRanges", Rows.laid_unicode_utf8_acceptRanges), ("strconv.ErrRange", Rows.laid_strconv_ErrRange), ("strconv.ErrSyntax", Rows.laid_strconv_ErrSyntax), ("unicode/utf8.first", Rows.laid_unicode_utf8_first)]
set_option maxRecDepth 1000000 in
theorem laid_met0 (os : Os) (args : Array Value) : laidMet Tryz.prog laid0 ((laidWorld os).forCall (fun _ _ => 0) ⟨#[], args, []⟩).memory :=
  laidMet_of_run' 8 (by kernel_rfl) (by kernel_rfl)
end Ve
end Go.Proofs.YtnociodpfmlglaaGreatDoor
