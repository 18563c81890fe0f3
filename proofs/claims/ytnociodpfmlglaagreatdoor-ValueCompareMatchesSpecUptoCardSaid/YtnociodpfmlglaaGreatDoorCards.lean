/-
  DERIVED. GIVEN WITH THE SEED: THE CARDS: each row of YtnociodpfmlglaaGreatDoorRows.lean that lists a variable, with what it lists TIED to the program's text (the seventh form; the later family's looks); each row that meets fmt, with fmt's text TOLD by the authors' own Lean function (tested against real Go, not proved from fmt's source: count such statements apart). THE CARD IS WHAT COUNTS. Prove the row's statement (the work); the ties are given (YtnociodpfmlglaaGreatDoorTie.lean); close each card by the builder's one call (the guide's Derived/Test/ToyasCard.lean, 'card_holds'). Laid BY PROGRAM, IN A SANDBOX (cutbox-door.mjs). By AI agents, Wed Nov 11 2026. No macro, syntax, notation, axiom, sorry.
-/
import Derived.Test.YtnociodpfmlglaaGreatDoorRows
import GoSem.ClaimSeven
namespace Go.Proofs.YtnociodpfmlglaaGreatDoor
namespace Rows

/-- THE TIED CARD OF 'dynamometerlaw1.ValueCheckMatchesSpec'. -/
def valueCheckMatchesSpecCard : Claim7 := { stood := { row := valueCheckMatchesSpecRow, standIns := [], harness := (true, "b29cbbb5166a142ea552861ce5c0b29cad80b478005799ec302eb38c6a8d0293"), looks := true }, kinds := [], alts := [], laidByText := true, laidKinds := [.data, .data, .data, .data, .sentinel, .sentinel, .pinned], laidTests := true, laidLooks := .later }
def ValueCheckMatchesSpecCardSaid : Prop := Claim7.holds Tryz.pinned (.plain (OpenSpec.ofChange valueCheckMatchesSpecSpec)) valueCheckMatchesSpecCard

/-- THE TIED CARD OF 'dynamometerlaw1.ValueParseMatchesSpec'. -/
def valueParseMatchesSpecCard : Claim7 := { stood := { row := valueParseMatchesSpecRow, standIns := [], harness := (true, "b29cbbb5166a142ea552861ce5c0b29cad80b478005799ec302eb38c6a8d0293"), looks := true }, kinds := [], alts := [], laidByText := true, laidKinds := [.data, .data, .data, .data, .sentinel, .sentinel, .pinned], laidTests := true, laidLooks := .later }
def ValueParseMatchesSpecCardSaid : Prop := Claim7.holds Tryz.pinned (.plain (OpenSpec.ofChange valueParseMatchesSpecSpec)) valueParseMatchesSpecCard

/-- THE TIED CARD OF 'dynamometerlaw1.ValuePrintMatchesSpec'. -/
def valuePrintMatchesSpecCard : Claim7 := { stood := { row := valuePrintMatchesSpecRow, standIns := [], harness := (true, "b29cbbb5166a142ea552861ce5c0b29cad80b478005799ec302eb38c6a8d0293"), looks := true }, kinds := [], alts := [], laidByText := true, laidKinds := [.data, .data, .data, .data, .sentinel, .sentinel, .pinned], laidTests := true, laidLooks := .later }
def ValuePrintMatchesSpecCardSaid : Prop := Claim7.holds Tryz.pinned (.plain (OpenSpec.ofChange valuePrintMatchesSpecSpec)) valuePrintMatchesSpecCard

/-- THE TIED CARD OF 'dynamometerlaw1.ValueCompareMatchesSpec'. -/
def valueCompareMatchesSpecCard : Claim7 := { stood := { row := valueCompareMatchesSpecRow, standIns := [], harness := (true, "b29cbbb5166a142ea552861ce5c0b29cad80b478005799ec302eb38c6a8d0293"), looks := true }, kinds := [], alts := [], laidByText := true, laidKinds := [.data, .data, .data, .data, .sentinel, .sentinel, .pinned], laidTests := true, laidLooks := .later }
def ValueCompareMatchesSpecCardSaid : Prop := Claim7.holds Tryz.pinned (.plain (OpenSpec.ofChange valueCompareMatchesSpecSpec)) valueCompareMatchesSpecCard

/-- THE TIED CARD OF 'dynamometerlaw1.ValueOrderIsTotal'. -/
def valueOrderIsTotalCard : Claim7 := { stood := { row := valueOrderIsTotalRow, standIns := [], harness := (true, "b29cbbb5166a142ea552861ce5c0b29cad80b478005799ec302eb38c6a8d0293"), looks := true }, kinds := [], alts := [], laidByText := true, laidKinds := [.data, .data, .data, .data, .sentinel, .sentinel, .pinned], laidTests := true, laidLooks := .later }
def ValueOrderIsTotalCardSaid : Prop := Claim7.holds Tryz.pinned (.plain (OpenSpec.ofChange valueOrderIsTotalSpec)) valueOrderIsTotalCard

/-- THE TIED CARD OF 'dynamometerlaw1.ValueAddIsExact'. -/
def valueAddIsExactCard : Claim7 := { stood := { row := valueAddIsExactRow, standIns := [], harness := (true, "b29cbbb5166a142ea552861ce5c0b29cad80b478005799ec302eb38c6a8d0293"), looks := true }, kinds := [], alts := [], laidByText := true, laidKinds := [.data, .data, .data, .data, .sentinel, .sentinel, .pinned], laidTests := true, laidLooks := .later }
def ValueAddIsExactCardSaid : Prop := Claim7.holds Tryz.pinned (.plain (OpenSpec.ofChange valueAddIsExactSpec)) valueAddIsExactCard

/-- THE TIED CARD OF 'dynamometerlaw1.ValueNumbersMatchSpec'. -/
def valueNumbersMatchSpecCard : Claim7 := { stood := { row := valueNumbersMatchSpecRow, standIns := [], harness := (true, "b29cbbb5166a142ea552861ce5c0b29cad80b478005799ec302eb38c6a8d0293"), looks := true }, kinds := [], alts := [], laidByText := true, laidKinds := [.data, .data, .data, .data, .sentinel, .sentinel, .pinned], laidTests := true, laidLooks := .later }
def ValueNumbersMatchSpecCardSaid : Prop := Claim7.holds Tryz.pinned (.plain (OpenSpec.ofChange valueNumbersMatchSpecSpec)) valueNumbersMatchSpecCard

/-- THE TIED CARD OF 'dynamometerlaw1.ValuePointersMatchSpec'. -/
def valuePointersMatchSpecCard : Claim7 := { stood := { row := valuePointersMatchSpecRow, standIns := [], harness := (true, "b29cbbb5166a142ea552861ce5c0b29cad80b478005799ec302eb38c6a8d0293"), looks := true }, kinds := [], alts := [], laidByText := true, laidKinds := [.data, .data, .data, .data, .sentinel, .sentinel, .pinned], laidTests := true, laidLooks := .later }
def ValuePointersMatchSpecCardSaid : Prop := Claim7.holds Tryz.pinned (.plain (OpenSpec.ofChange valuePointersMatchSpecSpec)) valuePointersMatchSpecCard

/-- THE TIED CARD OF 'dynamometerlaw1.ValueLeavesMatchSpec'. -/
def valueLeavesMatchSpecCard : Claim7 := { stood := { row := valueLeavesMatchSpecRow, standIns := [], harness := (true, "b29cbbb5166a142ea552861ce5c0b29cad80b478005799ec302eb38c6a8d0293"), looks := true }, kinds := [], alts := [], laidByText := true, laidKinds := [.data, .data, .data, .data, .sentinel, .sentinel, .pinned], laidTests := true, laidLooks := .later }
def ValueLeavesMatchSpecCardSaid : Prop := Claim7.holds Tryz.pinned (.plain (OpenSpec.ofChange valueLeavesMatchSpecSpec)) valueLeavesMatchSpecCard

/-- THE TIED CARD OF 'dynamometerlaw1.ValueApplyMatchesSpec'. -/
def valueApplyMatchesSpecCard : Claim7 := { stood := { row := valueApplyMatchesSpecRow, standIns := [], harness := (true, "b29cbbb5166a142ea552861ce5c0b29cad80b478005799ec302eb38c6a8d0293"), looks := true }, kinds := [], alts := [], laidByText := true, laidKinds := [.data, .data, .data, .data, .sentinel, .sentinel, .pinned], laidTests := true, laidLooks := .later }
def ValueApplyMatchesSpecCardSaid : Prop := Claim7.holds Tryz.pinned (.plain (OpenSpec.ofChange valueApplyMatchesSpecSpec)) valueApplyMatchesSpecCard

/-- THE TIED CARD OF 'dynamometerlaw1.ValueUndoRestores'. -/
def valueUndoRestoresCard : Claim7 := { stood := { row := valueUndoRestoresRow, standIns := [], harness := (true, "b29cbbb5166a142ea552861ce5c0b29cad80b478005799ec302eb38c6a8d0293"), looks := true }, kinds := [], alts := [], laidByText := true, laidKinds := [.data, .data, .data, .data, .sentinel, .sentinel, .pinned], laidTests := true, laidLooks := .later }
def ValueUndoRestoresCardSaid : Prop := Claim7.holds Tryz.pinned (.plain (OpenSpec.ofChange valueUndoRestoresSpec)) valueUndoRestoresCard

/-- THE TIED CARD OF 'dynamometerlaw1.ValueMergeMatchesSpec'. -/
def valueMergeMatchesSpecCard : Claim7 := { stood := { row := valueMergeMatchesSpecRow, standIns := [], harness := (true, "b29cbbb5166a142ea552861ce5c0b29cad80b478005799ec302eb38c6a8d0293"), looks := true }, kinds := [], alts := [], laidByText := true, laidKinds := [.data, .data, .data, .data, .sentinel, .sentinel, .pinned], laidTests := true, laidLooks := .later }
def ValueMergeMatchesSpecCardSaid : Prop := Claim7.holds Tryz.pinned (.plain (OpenSpec.ofChange valueMergeMatchesSpecSpec)) valueMergeMatchesSpecCard

/-- THE TIED CARD OF 'dynamometerlaw1.ValueDiffMatchesSpec'. -/
def valueDiffMatchesSpecCard : Claim7 := { stood := { row := valueDiffMatchesSpecRow, standIns := [], harness := (true, "b29cbbb5166a142ea552861ce5c0b29cad80b478005799ec302eb38c6a8d0293"), looks := true }, kinds := [], alts := [], laidByText := true, laidKinds := [.data, .data, .data, .data, .sentinel, .sentinel, .pinned], laidTests := true, laidLooks := .later }
def ValueDiffMatchesSpecCardSaid : Prop := Claim7.holds Tryz.pinned (.plain (OpenSpec.ofChange valueDiffMatchesSpecSpec)) valueDiffMatchesSpecCard

/-- THE SECOND FORM's CARD OF 'dynamometerlaw1.ValueCheckMatchesSpec'. -/
def valueCheckMatchesSpecUptoCard : Claim7 := { stood := { row := valueCheckMatchesSpecUptoRow, standIns := [], harness := (true, "b29cbbb5166a142ea552861ce5c0b29cad80b478005799ec302eb38c6a8d0293"), looks := true }, kinds := [], alts := [], laidByText := true, laidKinds := [.data, .data, .data, .data, .sentinel, .sentinel, .pinned], laidTests := true, laidLooks := .later }
def ValueCheckMatchesSpecUptoCardSaid : Prop := Claim7.holds Tryz.pinned (.plain (OpenSpec.upto valueCheckMatchesSpecSpec)) valueCheckMatchesSpecUptoCard

/-- THE SECOND FORM's CARD OF 'dynamometerlaw1.ValueParseMatchesSpec'. -/
def valueParseMatchesSpecUptoCard : Claim7 := { stood := { row := valueParseMatchesSpecUptoRow, standIns := [], harness := (true, "b29cbbb5166a142ea552861ce5c0b29cad80b478005799ec302eb38c6a8d0293"), looks := true }, kinds := [], alts := [], laidByText := true, laidKinds := [.data, .data, .data, .data, .sentinel, .sentinel, .pinned], laidTests := true, laidLooks := .later }
def ValueParseMatchesSpecUptoCardSaid : Prop := Claim7.holds Tryz.pinned (.plain (OpenSpec.upto valueParseMatchesSpecSpec)) valueParseMatchesSpecUptoCard

/-- THE SECOND FORM's CARD OF 'dynamometerlaw1.ValuePrintMatchesSpec'. -/
def valuePrintMatchesSpecUptoCard : Claim7 := { stood := { row := valuePrintMatchesSpecUptoRow, standIns := [], harness := (true, "b29cbbb5166a142ea552861ce5c0b29cad80b478005799ec302eb38c6a8d0293"), looks := true }, kinds := [], alts := [], laidByText := true, laidKinds := [.data, .data, .data, .data, .sentinel, .sentinel, .pinned], laidTests := true, laidLooks := .later }
def ValuePrintMatchesSpecUptoCardSaid : Prop := Claim7.holds Tryz.pinned (.plain (OpenSpec.upto valuePrintMatchesSpecSpec)) valuePrintMatchesSpecUptoCard

/-- THE SECOND FORM's CARD OF 'dynamometerlaw1.ValueCompareMatchesSpec'. -/
def valueCompareMatchesSpecUptoCard : Claim7 := { stood := { row := valueCompareMatchesSpecUptoRow, standIns := [], harness := (true, "b29cbbb5166a142ea552861ce5c0b29cad80b478005799ec302eb38c6a8d0293"), looks := true }, kinds := [], alts := [], laidByText := true, laidKinds := [.data, .data, .data, .data, .sentinel, .sentinel, .pinned], laidTests := true, laidLooks := .later }
def ValueCompareMatchesSpecUptoCardSaid : Prop := Claim7.holds Tryz.pinned (.plain (OpenSpec.upto valueCompareMatchesSpecSpec)) valueCompareMatchesSpecUptoCard

/-- THE SECOND FORM's CARD OF 'dynamometerlaw1.ValueOrderIsTotal'. -/
def valueOrderIsTotalUptoCard : Claim7 := { stood := { row := valueOrderIsTotalUptoRow, standIns := [], harness := (true, "b29cbbb5166a142ea552861ce5c0b29cad80b478005799ec302eb38c6a8d0293"), looks := true }, kinds := [], alts := [], laidByText := true, laidKinds := [.data, .data, .data, .data, .sentinel, .sentinel, .pinned], laidTests := true, laidLooks := .later }
def ValueOrderIsTotalUptoCardSaid : Prop := Claim7.holds Tryz.pinned (.plain (OpenSpec.upto valueOrderIsTotalSpec)) valueOrderIsTotalUptoCard

/-- THE SECOND FORM's CARD OF 'dynamometerlaw1.ValueAddIsExact'. -/
def valueAddIsExactUptoCard : Claim7 := { stood := { row := valueAddIsExactUptoRow, standIns := [], harness := (true, "b29cbbb5166a142ea552861ce5c0b29cad80b478005799ec302eb38c6a8d0293"), looks := true }, kinds := [], alts := [], laidByText := true, laidKinds := [.data, .data, .data, .data, .sentinel, .sentinel, .pinned], laidTests := true, laidLooks := .later }
def ValueAddIsExactUptoCardSaid : Prop := Claim7.holds Tryz.pinned (.plain (OpenSpec.upto valueAddIsExactSpec)) valueAddIsExactUptoCard

/-- THE SECOND FORM's CARD OF 'dynamometerlaw1.ValueNumbersMatchSpec'. -/
def valueNumbersMatchSpecUptoCard : Claim7 := { stood := { row := valueNumbersMatchSpecUptoRow, standIns := [], harness := (true, "b29cbbb5166a142ea552861ce5c0b29cad80b478005799ec302eb38c6a8d0293"), looks := true }, kinds := [], alts := [], laidByText := true, laidKinds := [.data, .data, .data, .data, .sentinel, .sentinel, .pinned], laidTests := true, laidLooks := .later }
def ValueNumbersMatchSpecUptoCardSaid : Prop := Claim7.holds Tryz.pinned (.plain (OpenSpec.upto valueNumbersMatchSpecSpec)) valueNumbersMatchSpecUptoCard

/-- THE SECOND FORM's CARD OF 'dynamometerlaw1.ValuePointersMatchSpec'. -/
def valuePointersMatchSpecUptoCard : Claim7 := { stood := { row := valuePointersMatchSpecUptoRow, standIns := [], harness := (true, "b29cbbb5166a142ea552861ce5c0b29cad80b478005799ec302eb38c6a8d0293"), looks := true }, kinds := [], alts := [], laidByText := true, laidKinds := [.data, .data, .data, .data, .sentinel, .sentinel, .pinned], laidTests := true, laidLooks := .later }
def ValuePointersMatchSpecUptoCardSaid : Prop := Claim7.holds Tryz.pinned (.plain (OpenSpec.upto valuePointersMatchSpecSpec)) valuePointersMatchSpecUptoCard

/-- THE SECOND FORM's CARD OF 'dynamometerlaw1.ValueLeavesMatchSpec'. -/
def valueLeavesMatchSpecUptoCard : Claim7 := { stood := { row := valueLeavesMatchSpecUptoRow, standIns := [], harness := (true, "b29cbbb5166a142ea552861ce5c0b29cad80b478005799ec302eb38c6a8d0293"), looks := true }, kinds := [], alts := [], laidByText := true, laidKinds := [.data, .data, .data, .data, .sentinel, .sentinel, .pinned], laidTests := true, laidLooks := .later }
def ValueLeavesMatchSpecUptoCardSaid : Prop := Claim7.holds Tryz.pinned (.plain (OpenSpec.upto valueLeavesMatchSpecSpec)) valueLeavesMatchSpecUptoCard

/-- THE SECOND FORM's CARD OF 'dynamometerlaw1.ValueApplyMatchesSpec'. -/
def valueApplyMatchesSpecUptoCard : Claim7 := { stood := { row := valueApplyMatchesSpecUptoRow, standIns := [], harness := (true, "b29cbbb5166a142ea552861ce5c0b29cad80b478005799ec302eb38c6a8d0293"), looks := true }, kinds := [], alts := [], laidByText := true, laidKinds := [.data, .data, .data, .data, .sentinel, .sentinel, .pinned], laidTests := true, laidLooks := .later }
def ValueApplyMatchesSpecUptoCardSaid : Prop := Claim7.holds Tryz.pinned (.plain (OpenSpec.upto valueApplyMatchesSpecSpec)) valueApplyMatchesSpecUptoCard

/-- THE SECOND FORM's CARD OF 'dynamometerlaw1.ValueUndoRestores'. -/
def valueUndoRestoresUptoCard : Claim7 := { stood := { row := valueUndoRestoresUptoRow, standIns := [], harness := (true, "b29cbbb5166a142ea552861ce5c0b29cad80b478005799ec302eb38c6a8d0293"), looks := true }, kinds := [], alts := [], laidByText := true, laidKinds := [.data, .data, .data, .data, .sentinel, .sentinel, .pinned], laidTests := true, laidLooks := .later }
def ValueUndoRestoresUptoCardSaid : Prop := Claim7.holds Tryz.pinned (.plain (OpenSpec.upto valueUndoRestoresSpec)) valueUndoRestoresUptoCard

/-- THE SECOND FORM's CARD OF 'dynamometerlaw1.ValueMergeMatchesSpec'. -/
def valueMergeMatchesSpecUptoCard : Claim7 := { stood := { row := valueMergeMatchesSpecUptoRow, standIns := [], harness := (true, "b29cbbb5166a142ea552861ce5c0b29cad80b478005799ec302eb38c6a8d0293"), looks := true }, kinds := [], alts := [], laidByText := true, laidKinds := [.data, .data, .data, .data, .sentinel, .sentinel, .pinned], laidTests := true, laidLooks := .later }
def ValueMergeMatchesSpecUptoCardSaid : Prop := Claim7.holds Tryz.pinned (.plain (OpenSpec.upto valueMergeMatchesSpecSpec)) valueMergeMatchesSpecUptoCard

/-- THE SECOND FORM's CARD OF 'dynamometerlaw1.ValueDiffMatchesSpec'. -/
def valueDiffMatchesSpecUptoCard : Claim7 := { stood := { row := valueDiffMatchesSpecUptoRow, standIns := [], harness := (true, "b29cbbb5166a142ea552861ce5c0b29cad80b478005799ec302eb38c6a8d0293"), looks := true }, kinds := [], alts := [], laidByText := true, laidKinds := [.data, .data, .data, .data, .sentinel, .sentinel, .pinned], laidTests := true, laidLooks := .later }
def ValueDiffMatchesSpecUptoCardSaid : Prop := Claim7.holds Tryz.pinned (.plain (OpenSpec.upto valueDiffMatchesSpecSpec)) valueDiffMatchesSpecUptoCard
end Rows
end Go.Proofs.YtnociodpfmlglaaGreatDoor
