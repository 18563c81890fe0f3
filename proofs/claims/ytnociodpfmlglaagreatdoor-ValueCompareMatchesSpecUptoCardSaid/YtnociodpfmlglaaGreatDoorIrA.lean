/-
  The functions, as the deterministic machine has them: part A.
-/
import Derived.Test.YtnociodpfmlglaaGreatDoorVE
set_option linter.unusedVariables false
set_option maxRecDepth 100000
namespace Go.Proofs.YtnociodpfmlglaaGreatDoor
namespace Ve
open Go
variable {T : Tab} {K : List Fr} {env : Env} {H : Heap} {Q : Po}
/-! 6 dynamometer/dynamometerlaw1.ValueCompareMatchesSpec -/
@[go_sem] def o6_1 : List IOper := [⟨(some 2), (.box 27 (.tmp 0)), none⟩, ⟨(some 3), (.box 27 (.tmp 1)), none⟩, ⟨(some 4), (.mov (.const (.bool false))), none⟩]
@[go_sem] def o6_3 : List IOper := [⟨(some 10), (.ld (some 8) (.tmp 2)), none⟩, ⟨(some 11), (.ld (some 8) (.tmp 3)), none⟩, ⟨(some 12), (.call (.func 32) [(.tmp 10), (.tmp 11)]), none⟩, ⟨(some 9), (.mov (.tmp 12)), none⟩, ⟨(some 13), (.ext 0 (.tmp 9)), none⟩, ⟨(some 14), (.ext 1 (.tmp 9)), none⟩, ⟨(some 5), (.mov (.tmp 13)), none⟩, ⟨(some 6), (.mov (.tmp 14)), none⟩]
@[go_sem] def o6_5 : List IOper := [⟨(some 16), (.ld (some 8) (.tmp 2)), none⟩, ⟨(some 17), (.ld (some 8) (.tmp 3)), none⟩, ⟨(some 18), (.call (.func 33) [(.tmp 16), (.tmp 17)]), none⟩, ⟨(some 15), (.mov (.tmp 18)), none⟩, ⟨(some 19), (.ext 0 (.tmp 15)), none⟩, ⟨(some 20), (.ext 1 (.tmp 15)), none⟩, ⟨(some 7), (.mov (.tmp 19)), none⟩, ⟨(some 8), (.mov (.tmp 20)), none⟩]
@[go_sem] def o6_7 : List IOper := [⟨(some 21), (.mov (.tmp 5)), none⟩, ⟨(some 22), (.mov (.tmp 7)), none⟩, ⟨(some 23), (.bin .eql (.tmp 21) (.tmp 22)), none⟩, ⟨(some 24), (.mov (.tmp 23)), none⟩, ⟨(some 25), (.mov (.tmp 6)), (some (24, true))⟩, ⟨(some 26), (.mov (.tmp 8)), (some (24, true))⟩, ⟨(some 27), (.bin .eql (.tmp 25) (.tmp 26)), (some (24, true))⟩, ⟨(some 28), (.pick (.tmp 24) (.tmp 27) (.const (.bool false))), none⟩, ⟨(some 29), (.mov (.tmp 28)), none⟩, ⟨(some 30), (.call (.func 24) []), (some (29, true))⟩, ⟨(some 31), (.pick (.tmp 29) (.tmp 30) (.const (.bool false))), none⟩, ⟨(some 4), (.mov (.tmp 31)), none⟩]
def b6_6 : C := (.seq (.ops o6_7) .ret)
@[go_sem] theorem r6_6 : EvK T b6_6 K env H Q = EvK T (.seq (.ops o6_7) .ret) K env H Q := rfl
def b6_4 : C := (.seq (.ops o6_5) b6_6)
@[go_sem] theorem r6_4 : EvK T b6_4 K env H Q = EvK T (.seq (.ops o6_5) b6_6) K env H Q := rfl
def b6_2 : C := (.seq (.ops o6_3) b6_4)
@[go_sem] theorem r6_2 : EvK T b6_2 K env H Q = EvK T (.seq (.ops o6_3) b6_4) K env H Q := rfl
def b6 : C := (.seq (.ops o6_1) b6_2)
@[go_sem] theorem r6 : EvK T b6 K env H Q = EvK T (.seq (.ops o6_1) b6_2) K env H Q := rfl
def c6 : IFun := ⟨32, b6, [(.tmp 4)]⟩
/-! 16 dynamometer/value.CheckNum -/
@[go_sem] def o16_1 : List IOper := [⟨(some 1), (.box 23 (.tmp 0)), none⟩, ⟨(some 2), (.mov (.const (.int .i64 0))), none⟩]
@[go_sem] def o16_3 : List IOper := [⟨(some 4), (.faddr 1 (.tmp 1)), none⟩, ⟨(some 5), (.ld none (.tmp 4)), none⟩, ⟨(some 3), (.mov (.tmp 5)), none⟩]
@[go_sem] def o16_6 : List IOper := [⟨(some 7), (.mov (.tmp 3)), none⟩, ⟨(some 8), (.bin .eql (.tmp 7) (.const (.string ⟨⟨[]⟩⟩))), none⟩, ⟨(some 9), (.mov (.tmp 8)), none⟩, ⟨(some 10), (.mov (.tmp 3)), (some (9, false))⟩, ⟨(some 11), (.call (.func 73) [(.tmp 10), (.const (.string ⟨⟨[48, 49, 50, 51, 52, 53, 54, 55, 56, 57]⟩⟩))]), (some (9, false))⟩, ⟨(some 12), (.bin .neq (.tmp 11) (.const (.string ⟨⟨[]⟩⟩))), (some (9, false))⟩, ⟨(some 13), (.pick (.tmp 9) (.const (.bool true)) (.tmp 12)), none⟩, ⟨(some 6), (.mov (.tmp 13)), none⟩]
@[go_sem] def o16_9 : List IOper := [⟨(some 2), (.mov (.const (.int .i64 2))), none⟩]
def b16_8 : C := (.seq (.ops o16_9) .ret)
@[go_sem] theorem r16_8 : EvK T b16_8 K env H Q = EvK T (.seq (.ops o16_9) .ret) K env H Q := rfl
@[go_sem] def o16_11 : List IOper := [⟨(some 15), (.mov (.tmp 3)), none⟩, ⟨(some 16), (.bin .neq (.tmp 15) (.const (.string ⟨⟨[48]⟩⟩))), none⟩, ⟨(some 17), (.mov (.tmp 16)), none⟩, ⟨(some 18), (.mov (.tmp 3)), (some (17, true))⟩, ⟨(some 19), (.ixstr (.tmp 18) (.const (.int .i64 0))), (some (17, true))⟩, ⟨(some 20), (.bin .eql (.tmp 19) (.const (.int .u8 48))), (some (17, true))⟩, ⟨(some 21), (.mov (.tmp 20)), (some (17, true))⟩, ⟨(some 22), (.mov (.tmp 3)), (some (21, false))⟩, ⟨(some 23), (.mov (.tmp 3)), (some (21, false))⟩, ⟨(some 24), (.len true (.tmp 23)), (some (21, false))⟩, ⟨(some 25), (.bin .sub (.tmp 24) (.const (.int .i64 1))), (some (21, false))⟩, ⟨(some 26), (.ixstr (.tmp 22) (.tmp 25)), (some (21, false))⟩, ⟨(some 27), (.bin .eql (.tmp 26) (.const (.int .u8 48))), (some (21, false))⟩, ⟨(some 28), (.pick (.tmp 21) (.const (.bool true)) (.tmp 27)), (some (17, true))⟩, ⟨(some 29), (.pick (.tmp 17) (.tmp 28) (.const (.bool false))), none⟩, ⟨(some 14), (.mov (.tmp 29)), none⟩]
@[go_sem] def o16_14 : List IOper := [⟨(some 2), (.mov (.const (.int .i64 2))), none⟩]
def b16_13 : C := (.seq (.ops o16_14) .ret)
@[go_sem] theorem r16_13 : EvK T b16_13 K env H Q = EvK T (.seq (.ops o16_14) .ret) K env H Q := rfl
@[go_sem] def o16_16 : List IOper := [⟨(some 31), (.mov (.tmp 3)), none⟩, ⟨(some 32), (.bin .eql (.tmp 31) (.const (.string ⟨⟨[48]⟩⟩))), none⟩, ⟨(some 33), (.mov (.tmp 32)), none⟩, ⟨(some 34), (.faddr 0 (.tmp 1)), (some (33, true))⟩, ⟨(some 35), (.ld none (.tmp 34)), (some (33, true))⟩, ⟨(some 36), (.mov (.tmp 35)), (some (33, true))⟩, ⟨(some 37), (.faddr 2 (.tmp 1)), (some (36, false))⟩, ⟨(some 38), (.ld none (.tmp 37)), (some (36, false))⟩, ⟨(some 39), (.bin .neq (.tmp 38) (.const (.int .i64 0))), (some (36, false))⟩, ⟨(some 40), (.pick (.tmp 36) (.const (.bool true)) (.tmp 39)), (some (33, true))⟩, ⟨(some 41), (.pick (.tmp 33) (.tmp 40) (.const (.bool false))), none⟩, ⟨(some 30), (.mov (.tmp 41)), none⟩]
@[go_sem] def o16_19 : List IOper := [⟨(some 2), (.mov (.const (.int .i64 2))), none⟩]
def b16_18 : C := (.seq (.ops o16_19) .ret)
@[go_sem] theorem r16_18 : EvK T b16_18 K env H Q = EvK T (.seq (.ops o16_19) .ret) K env H Q := rfl
@[go_sem] def o16_21 : List IOper := [⟨(some 43), (.mov (.tmp 3)), none⟩, ⟨(some 44), (.len true (.tmp 43)), none⟩, ⟨(some 45), (.bin .gtr (.tmp 44) (.const (.int .i64 30))), none⟩, ⟨(some 46), (.mov (.tmp 45)), none⟩, ⟨(some 47), (.faddr 2 (.tmp 1)), (some (46, false))⟩, ⟨(some 48), (.ld none (.tmp 47)), (some (46, false))⟩, ⟨(some 49), (.bin .lss (.tmp 48) (.const (.int .i64 (-30)))), (some (46, false))⟩, ⟨(some 50), (.pick (.tmp 46) (.const (.bool true)) (.tmp 49)), none⟩, ⟨(some 51), (.mov (.tmp 50)), none⟩, ⟨(some 52), (.faddr 2 (.tmp 1)), (some (51, false))⟩, ⟨(some 53), (.ld none (.tmp 52)), (some (51, false))⟩, ⟨(some 54), (.bin .gtr (.tmp 53) (.const (.int .i64 30))), (some (51, false))⟩, ⟨(some 55), (.pick (.tmp 51) (.const (.bool true)) (.tmp 54)), none⟩, ⟨(some 42), (.mov (.tmp 55)), none⟩]
@[go_sem] def o16_24 : List IOper := [⟨(some 2), (.mov (.const (.int .i64 3))), none⟩]
def b16_23 : C := (.seq (.ops o16_24) .ret)
@[go_sem] theorem r16_23 : EvK T b16_23 K env H Q = EvK T (.seq (.ops o16_24) .ret) K env H Q := rfl
def b16_22 : C := (.cond (.tmp 42) b16_23 .skip)
@[go_sem] theorem r16_22 : EvK T b16_22 K env H Q = EvK T (.cond (.tmp 42) b16_23 .skip) K env H Q := rfl
def b16_20 : C := (.seq (.ops o16_21) b16_22)
@[go_sem] theorem r16_20 : EvK T b16_20 K env H Q = EvK T (.seq (.ops o16_21) b16_22) K env H Q := rfl
def b16_17 : C := (.cond (.tmp 30) b16_18 b16_20)
@[go_sem] theorem r16_17 : EvK T b16_17 K env H Q = EvK T (.cond (.tmp 30) b16_18 b16_20) K env H Q := rfl
def b16_15 : C := (.seq (.ops o16_16) b16_17)
@[go_sem] theorem r16_15 : EvK T b16_15 K env H Q = EvK T (.seq (.ops o16_16) b16_17) K env H Q := rfl
def b16_12 : C := (.cond (.tmp 14) b16_13 b16_15)
@[go_sem] theorem r16_12 : EvK T b16_12 K env H Q = EvK T (.cond (.tmp 14) b16_13 b16_15) K env H Q := rfl
def b16_10 : C := (.seq (.ops o16_11) b16_12)
@[go_sem] theorem r16_10 : EvK T b16_10 K env H Q = EvK T (.seq (.ops o16_11) b16_12) K env H Q := rfl
def b16_7 : C := (.cond (.tmp 6) b16_8 b16_10)
@[go_sem] theorem r16_7 : EvK T b16_7 K env H Q = EvK T (.cond (.tmp 6) b16_8 b16_10) K env H Q := rfl
def b16_5 : C := (.seq (.ops o16_6) b16_7)
@[go_sem] theorem r16_5 : EvK T b16_5 K env H Q = EvK T (.seq (.ops o16_6) b16_7) K env H Q := rfl
@[go_sem] def o16_26 : List IOper := [⟨(some 2), (.mov (.const (.int .i64 0))), none⟩]
def b16_25 : C := (.seq (.ops o16_26) .ret)
@[go_sem] theorem r16_25 : EvK T b16_25 K env H Q = EvK T (.seq (.ops o16_26) .ret) K env H Q := rfl
def b16_4 : C := (.seq (.block 0 b16_5) b16_25)
@[go_sem] theorem r16_4 : EvK T b16_4 K env H Q = EvK T (.seq (.block 0 b16_5) b16_25) K env H Q := rfl
def b16_2 : C := (.seq (.ops o16_3) b16_4)
@[go_sem] theorem r16_2 : EvK T b16_2 K env H Q = EvK T (.seq (.ops o16_3) b16_4) K env H Q := rfl
def b16 : C := (.seq (.ops o16_1) b16_2)
@[go_sem] theorem r16 : EvK T b16 K env H Q = EvK T (.seq (.ops o16_1) b16_2) K env H Q := rfl
def c16 : IFun := ⟨56, b16, [(.tmp 2)]⟩
/-! 17 dynamometer/dynamometerref1.CheckNum -/
@[go_sem] def o17_1 : List IOper := [⟨(some 1), (.box 23 (.tmp 0)), none⟩, ⟨(some 2), (.mov (.const (.int .i64 0))), none⟩]
@[go_sem] def o17_3 : List IOper := [⟨(some 5), (.faddr 1 (.tmp 1)), none⟩, ⟨(some 6), (.ld none (.tmp 5)), none⟩, ⟨(some 3), (.mov (.tmp 6)), none⟩]
@[go_sem] def o17_5 : List IOper := [⟨(some 7), (.mov (.tmp 3)), none⟩, ⟨(some 8), (.bin .eql (.tmp 7) (.const (.string ⟨⟨[]⟩⟩))), none⟩]
@[go_sem] def o17_8 : List IOper := [⟨(some 2), (.mov (.const (.int .i64 2))), none⟩]
def b17_7 : C := (.seq (.ops o17_8) .ret)
@[go_sem] theorem r17_7 : EvK T b17_7 K env H Q = EvK T (.seq (.ops o17_8) .ret) K env H Q := rfl
def b17_6 : C := (.cond (.tmp 8) b17_7 .skip)
@[go_sem] theorem r17_6 : EvK T b17_6 K env H Q = EvK T (.cond (.tmp 8) b17_7 .skip) K env H Q := rfl
@[go_sem] def o17_10 : List IOper := [⟨(some 4), (.mov (.const (.int .i64 0))), none⟩]
@[go_sem] def o17_14 : List IOper := [⟨(some 9), (.mov (.tmp 4)), none⟩, ⟨(some 10), (.mov (.tmp 3)), none⟩, ⟨(some 11), (.len true (.tmp 10)), none⟩, ⟨(some 12), (.bin .lss (.tmp 9) (.tmp 11)), none⟩]
def b17_15 : C := (.cond (.tmp 12) .skip (.exit 0))
@[go_sem] theorem r17_15 : EvK T b17_15 K env H Q = EvK T (.cond (.tmp 12) .skip (.exit 0)) K env H Q := rfl
@[go_sem] def o17_18 : List IOper := [⟨(some 15), (.mov (.tmp 3)), none⟩, ⟨(some 16), (.mov (.tmp 4)), none⟩, ⟨(some 17), (.ixstr (.tmp 15) (.tmp 16)), none⟩, ⟨(some 18), (.call (.func 74) [(.tmp 17)]), none⟩, ⟨(some 19), (.un .not (.tmp 18)), none⟩]
@[go_sem] def o17_21 : List IOper := [⟨(some 2), (.mov (.const (.int .i64 2))), none⟩]
def b17_20 : C := (.seq (.ops o17_21) .ret)
@[go_sem] theorem r17_20 : EvK T b17_20 K env H Q = EvK T (.seq (.ops o17_21) .ret) K env H Q := rfl
def b17_19 : C := (.cond (.tmp 19) b17_20 .skip)
@[go_sem] theorem r17_19 : EvK T b17_19 K env H Q = EvK T (.cond (.tmp 19) b17_20 .skip) K env H Q := rfl
def b17_17 : C := (.seq (.ops o17_18) b17_19)
@[go_sem] theorem r17_17 : EvK T b17_17 K env H Q = EvK T (.seq (.ops o17_18) b17_19) K env H Q := rfl
@[go_sem] def o17_23 : List IOper := [⟨(some 13), (.mov (.tmp 4)), none⟩, ⟨(some 14), (.bin .add (.tmp 13) (.const (.int .i64 1))), none⟩, ⟨(some 4), (.mov (.tmp 14)), none⟩]
def b17_22 : C := (.ops o17_23)
@[go_sem] theorem r17_22 : EvK T b17_22 K env H Q = EvK T (.ops o17_23) K env H Q := rfl
def b17_16 : C := (.seq (.block 1 b17_17) b17_22)
@[go_sem] theorem r17_16 : EvK T b17_16 K env H Q = EvK T (.seq (.block 1 b17_17) b17_22) K env H Q := rfl
def b17_13 : C := (.seq (.seq (.ops o17_14) b17_15) b17_16)
@[go_sem] theorem r17_13 : EvK T b17_13 K env H Q = EvK T (.seq (.seq (.ops o17_14) b17_15) b17_16) K env H Q := rfl
def l17_12 : C := .loop [] b17_13
theorem w17_12 {ι : Type} (i0 : ι) (Inv : ι → Env → Heap → Prop) (m : ι → Nat) (h0 : Inv i0 env H) (hs : ∀ i e h, Inv i e h → (∀ j e' h', m j < m i → Inv j e' h' → EvK T l17_12 K e' h' Q) → EvK T b17_13 (.loop [] b17_13 :: K) (forget [] e) h Q) : EvK T l17_12 K env H Q := EvK_while i0 Inv m h0 hs
def b17_11 : C := (.block 0 l17_12)
@[go_sem] theorem r17_11 : EvK T b17_11 K env H Q = EvK T (.block 0 l17_12) K env H Q := rfl
@[go_sem] def o17_25 : List IOper := [⟨(some 20), (.mov (.tmp 3)), none⟩, ⟨(some 21), (.bin .eql (.tmp 20) (.const (.string ⟨⟨[48]⟩⟩))), none⟩]
@[go_sem] def o17_28 : List IOper := [⟨(some 22), (.faddr 0 (.tmp 1)), none⟩, ⟨(some 23), (.ld none (.tmp 22)), none⟩, ⟨(some 24), (.mov (.tmp 23)), none⟩, ⟨(some 25), (.faddr 2 (.tmp 1)), (some (24, false))⟩, ⟨(some 26), (.ld none (.tmp 25)), (some (24, false))⟩, ⟨(some 27), (.bin .neq (.tmp 26) (.const (.int .i64 0))), (some (24, false))⟩, ⟨(some 28), (.pick (.tmp 24) (.const (.bool true)) (.tmp 27)), none⟩]
@[go_sem] def o17_31 : List IOper := [⟨(some 2), (.mov (.const (.int .i64 2))), none⟩]
def b17_30 : C := (.seq (.ops o17_31) .ret)
@[go_sem] theorem r17_30 : EvK T b17_30 K env H Q = EvK T (.seq (.ops o17_31) .ret) K env H Q := rfl
def b17_29 : C := (.cond (.tmp 28) b17_30 .skip)
@[go_sem] theorem r17_29 : EvK T b17_29 K env H Q = EvK T (.cond (.tmp 28) b17_30 .skip) K env H Q := rfl
@[go_sem] def o17_33 : List IOper := [⟨(some 2), (.mov (.const (.int .i64 0))), none⟩]
def b17_32 : C := (.seq (.ops o17_33) .ret)
@[go_sem] theorem r17_32 : EvK T b17_32 K env H Q = EvK T (.seq (.ops o17_33) .ret) K env H Q := rfl
def b17_27 : C := (.seq (.seq (.ops o17_28) b17_29) b17_32)
@[go_sem] theorem r17_27 : EvK T b17_27 K env H Q = EvK T (.seq (.seq (.ops o17_28) b17_29) b17_32) K env H Q := rfl
def b17_26 : C := (.cond (.tmp 21) b17_27 .skip)
@[go_sem] theorem r17_26 : EvK T b17_26 K env H Q = EvK T (.cond (.tmp 21) b17_27 .skip) K env H Q := rfl
@[go_sem] def o17_35 : List IOper := [⟨(some 29), (.mov (.tmp 3)), none⟩, ⟨(some 30), (.ixstr (.tmp 29) (.const (.int .i64 0))), none⟩, ⟨(some 31), (.bin .eql (.tmp 30) (.const (.int .u8 48))), none⟩, ⟨(some 32), (.mov (.tmp 31)), none⟩, ⟨(some 33), (.mov (.tmp 3)), (some (32, false))⟩, ⟨(some 34), (.mov (.tmp 3)), (some (32, false))⟩, ⟨(some 35), (.len true (.tmp 34)), (some (32, false))⟩, ⟨(some 36), (.bin .sub (.tmp 35) (.const (.int .i64 1))), (some (32, false))⟩, ⟨(some 37), (.ixstr (.tmp 33) (.tmp 36)), (some (32, false))⟩, ⟨(some 38), (.bin .eql (.tmp 37) (.const (.int .u8 48))), (some (32, false))⟩, ⟨(some 39), (.pick (.tmp 32) (.const (.bool true)) (.tmp 38)), none⟩]
@[go_sem] def o17_38 : List IOper := [⟨(some 2), (.mov (.const (.int .i64 2))), none⟩]
def b17_37 : C := (.seq (.ops o17_38) .ret)
@[go_sem] theorem r17_37 : EvK T b17_37 K env H Q = EvK T (.seq (.ops o17_38) .ret) K env H Q := rfl
def b17_36 : C := (.cond (.tmp 39) b17_37 .skip)
@[go_sem] theorem r17_36 : EvK T b17_36 K env H Q = EvK T (.cond (.tmp 39) b17_37 .skip) K env H Q := rfl
@[go_sem] def o17_40 : List IOper := [⟨(some 40), (.mov (.tmp 3)), none⟩, ⟨(some 41), (.len true (.tmp 40)), none⟩, ⟨(some 42), (.bin .gtr (.tmp 41) (.const (.int .i64 30))), none⟩, ⟨(some 43), (.mov (.tmp 42)), none⟩, ⟨(some 44), (.faddr 2 (.tmp 1)), (some (43, false))⟩, ⟨(some 45), (.ld none (.tmp 44)), (some (43, false))⟩, ⟨(some 46), (.bin .lss (.tmp 45) (.const (.int .i64 (-30)))), (some (43, false))⟩, ⟨(some 47), (.pick (.tmp 43) (.const (.bool true)) (.tmp 46)), none⟩, ⟨(some 48), (.mov (.tmp 47)), none⟩, ⟨(some 49), (.faddr 2 (.tmp 1)), (some (48, false))⟩, ⟨(some 50), (.ld none (.tmp 49)), (some (48, false))⟩, ⟨(some 51), (.bin .gtr (.tmp 50) (.const (.int .i64 30))), (some (48, false))⟩, ⟨(some 52), (.pick (.tmp 48) (.const (.bool true)) (.tmp 51)), none⟩]
@[go_sem] def o17_43 : List IOper := [⟨(some 2), (.mov (.const (.int .i64 3))), none⟩]
def b17_42 : C := (.seq (.ops o17_43) .ret)
@[go_sem] theorem r17_42 : EvK T b17_42 K env H Q = EvK T (.seq (.ops o17_43) .ret) K env H Q := rfl
def b17_41 : C := (.cond (.tmp 52) b17_42 .skip)
@[go_sem] theorem r17_41 : EvK T b17_41 K env H Q = EvK T (.cond (.tmp 52) b17_42 .skip) K env H Q := rfl
@[go_sem] def o17_45 : List IOper := [⟨(some 2), (.mov (.const (.int .i64 0))), none⟩]
def b17_44 : C := (.seq (.ops o17_45) .ret)
@[go_sem] theorem r17_44 : EvK T b17_44 K env H Q = EvK T (.seq (.ops o17_45) .ret) K env H Q := rfl
def b17_39 : C := (.seq (.seq (.ops o17_40) b17_41) b17_44)
@[go_sem] theorem r17_39 : EvK T b17_39 K env H Q = EvK T (.seq (.seq (.ops o17_40) b17_41) b17_44) K env H Q := rfl
def b17_34 : C := (.seq (.seq (.ops o17_35) b17_36) b17_39)
@[go_sem] theorem r17_34 : EvK T b17_34 K env H Q = EvK T (.seq (.seq (.ops o17_35) b17_36) b17_39) K env H Q := rfl
def b17_24 : C := (.seq (.seq (.ops o17_25) b17_26) b17_34)
@[go_sem] theorem r17_24 : EvK T b17_24 K env H Q = EvK T (.seq (.seq (.ops o17_25) b17_26) b17_34) K env H Q := rfl
def b17_9 : C := (.seq (.seq (.ops o17_10) b17_11) b17_24)
@[go_sem] theorem r17_9 : EvK T b17_9 K env H Q = EvK T (.seq (.seq (.ops o17_10) b17_11) b17_24) K env H Q := rfl
def b17_4 : C := (.seq (.seq (.ops o17_5) b17_6) b17_9)
@[go_sem] theorem r17_4 : EvK T b17_4 K env H Q = EvK T (.seq (.seq (.ops o17_5) b17_6) b17_9) K env H Q := rfl
def b17_2 : C := (.seq (.ops o17_3) b17_4)
@[go_sem] theorem r17_2 : EvK T b17_2 K env H Q = EvK T (.seq (.ops o17_3) b17_4) K env H Q := rfl
def b17 : C := (.seq (.ops o17_1) b17_2)
@[go_sem] theorem r17 : EvK T b17 K env H Q = EvK T (.seq (.ops o17_1) b17_2) K env H Q := rfl
def c17 : IFun := ⟨53, b17, [(.tmp 2)]⟩
/-! 18 dynamometer/value.CheckText -/
@[go_sem] def o18_1 : List IOper := [⟨(some 2), (.mov (.const (.int .i64 0))), none⟩]
@[go_sem] def o18_3 : List IOper := [⟨(some 3), (.mov (.tmp 0)), none⟩, ⟨(some 4), (.len true (.tmp 3)), none⟩, ⟨(some 5), (.bin .gtr (.tmp 4) (.const (.int .i64 10000))), none⟩]
@[go_sem] def o18_6 : List IOper := [⟨(some 2), (.mov (.const (.int .i64 3))), none⟩]
def b18_5 : C := (.seq (.ops o18_6) .ret)
@[go_sem] theorem r18_5 : EvK T b18_5 K env H Q = EvK T (.seq (.ops o18_6) .ret) K env H Q := rfl
def b18_4 : C := (.cond (.tmp 5) b18_5 .skip)
@[go_sem] theorem r18_4 : EvK T b18_4 K env H Q = EvK T (.cond (.tmp 5) b18_5 .skip) K env H Q := rfl
@[go_sem] def o18_8 : List IOper := [⟨(some 2), (.mov (.const (.int .i64 0))), none⟩]
def b18_7 : C := (.seq (.ops o18_8) .ret)
@[go_sem] theorem r18_7 : EvK T b18_7 K env H Q = EvK T (.seq (.ops o18_8) .ret) K env H Q := rfl
def b18_2 : C := (.seq (.seq (.ops o18_3) b18_4) b18_7)
@[go_sem] theorem r18_2 : EvK T b18_2 K env H Q = EvK T (.seq (.seq (.ops o18_3) b18_4) b18_7) K env H Q := rfl
def b18 : C := (.seq (.ops o18_1) b18_2)
@[go_sem] theorem r18 : EvK T b18 K env H Q = EvK T (.seq (.ops o18_1) b18_2) K env H Q := rfl
def c18 : IFun := ⟨6, b18, [(.tmp 2)]⟩
/-! 19 dynamometer/dynamometerref1.CheckText -/
@[go_sem] def o19_1 : List IOper := [⟨(some 2), (.mov (.const (.int .i64 0))), none⟩]
@[go_sem] def o19_3 : List IOper := [⟨(some 3), (.mov (.tmp 0)), none⟩, ⟨(some 4), (.len true (.tmp 3)), none⟩, ⟨(some 5), (.bin .gtr (.tmp 4) (.const (.int .i64 10000))), none⟩]
@[go_sem] def o19_6 : List IOper := [⟨(some 2), (.mov (.const (.int .i64 3))), none⟩]
def b19_5 : C := (.seq (.ops o19_6) .ret)
@[go_sem] theorem r19_5 : EvK T b19_5 K env H Q = EvK T (.seq (.ops o19_6) .ret) K env H Q := rfl
def b19_4 : C := (.cond (.tmp 5) b19_5 .skip)
@[go_sem] theorem r19_4 : EvK T b19_4 K env H Q = EvK T (.cond (.tmp 5) b19_5 .skip) K env H Q := rfl
@[go_sem] def o19_8 : List IOper := [⟨(some 2), (.mov (.const (.int .i64 0))), none⟩]
def b19_7 : C := (.seq (.ops o19_8) .ret)
@[go_sem] theorem r19_7 : EvK T b19_7 K env H Q = EvK T (.seq (.ops o19_8) .ret) K env H Q := rfl
def b19_2 : C := (.seq (.seq (.ops o19_3) b19_4) b19_7)
@[go_sem] theorem r19_2 : EvK T b19_2 K env H Q = EvK T (.seq (.seq (.ops o19_3) b19_4) b19_7) K env H Q := rfl
def b19 : C := (.seq (.ops o19_1) b19_2)
@[go_sem] theorem r19 : EvK T b19 K env H Q = EvK T (.seq (.ops o19_1) b19_2) K env H Q := rfl
def c19 : IFun := ⟨6, b19, [(.tmp 2)]⟩
/-! 20 dynamometer/value.Check -/
@[go_sem] def o20_1 : List IOper := [⟨(some 1), (.box 27 (.tmp 0)), none⟩, ⟨(some 2), (.mov (.const (.int .i64 0))), none⟩]
@[go_sem] def o20_3 : List IOper := [⟨(some 4), (.ld (some 8) (.tmp 1)), none⟩, ⟨(some 5), (.call (.func 75) [(.tmp 4)]), none⟩, ⟨(some 3), (.mov (.tmp 5)), none⟩]
@[go_sem] def o20_5 : List IOper := [⟨(some 6), (.mov (.tmp 3)), none⟩, ⟨(some 7), (.bin .neq (.tmp 6) (.const (.int .i64 0))), none⟩]
@[go_sem] def o20_8 : List IOper := [⟨(some 8), (.mov (.tmp 3)), none⟩, ⟨(some 2), (.mov (.tmp 8)), none⟩]
def b20_7 : C := (.seq (.ops o20_8) .ret)
@[go_sem] theorem r20_7 : EvK T b20_7 K env H Q = EvK T (.seq (.ops o20_8) .ret) K env H Q := rfl
def b20_6 : C := (.cond (.tmp 7) b20_7 .skip)
@[go_sem] theorem r20_6 : EvK T b20_6 K env H Q = EvK T (.cond (.tmp 7) b20_7 .skip) K env H Q := rfl
def b20_4 : C := (.seq (.ops o20_5) b20_6)
@[go_sem] theorem r20_4 : EvK T b20_4 K env H Q = EvK T (.seq (.ops o20_5) b20_6) K env H Q := rfl
@[go_sem] def o20_10 : List IOper := [⟨(some 9), (.ld (some 8) (.tmp 1)), none⟩, ⟨(some 10), (.call (.func 76) [(.tmp 9)]), none⟩, ⟨(some 2), (.mov (.tmp 10)), none⟩]
def b20_9 : C := (.seq (.ops o20_10) .ret)
@[go_sem] theorem r20_9 : EvK T b20_9 K env H Q = EvK T (.seq (.ops o20_10) .ret) K env H Q := rfl
def b20_2 : C := (.seq (.seq (.ops o20_3) b20_4) b20_9)
@[go_sem] theorem r20_2 : EvK T b20_2 K env H Q = EvK T (.seq (.seq (.ops o20_3) b20_4) b20_9) K env H Q := rfl
def b20 : C := (.seq (.ops o20_1) b20_2)
@[go_sem] theorem r20 : EvK T b20 K env H Q = EvK T (.seq (.ops o20_1) b20_2) K env H Q := rfl
def c20 : IFun := ⟨11, b20, [(.tmp 2)]⟩
/-! 21 dynamometer/dynamometerref1.Check -/
@[go_sem] def o21_1 : List IOper := [⟨(some 1), (.box 27 (.tmp 0)), none⟩, ⟨(some 2), (.mov (.const (.int .i64 0))), none⟩]
@[go_sem] def o21_3 : List IOper := [⟨(some 3), (.ld (some 8) (.tmp 1)), none⟩, ⟨(some 4), (.call (.func 77) [(.tmp 3), (.const (.int .i64 60))]), none⟩, ⟨(some 5), (.mov (.tmp 4)), none⟩, ⟨(some 6), (.ld (some 8) (.tmp 1)), (some (5, false))⟩, ⟨(some 7), (.call (.func 78) [(.tmp 6), (.const (.int .i64 20000))]), (some (5, false))⟩, ⟨(some 8), (.bin .gtr (.tmp 7) (.const (.int .i64 20000))), (some (5, false))⟩, ⟨(some 9), (.pick (.tmp 5) (.const (.bool true)) (.tmp 8)), none⟩]
@[go_sem] def o21_6 : List IOper := [⟨(some 2), (.mov (.const (.int .i64 3))), none⟩]
def b21_5 : C := (.seq (.ops o21_6) .ret)
@[go_sem] theorem r21_5 : EvK T b21_5 K env H Q = EvK T (.seq (.ops o21_6) .ret) K env H Q := rfl
def b21_4 : C := (.cond (.tmp 9) b21_5 .skip)
@[go_sem] theorem r21_4 : EvK T b21_4 K env H Q = EvK T (.cond (.tmp 9) b21_5 .skip) K env H Q := rfl
@[go_sem] def o21_8 : List IOper := [⟨(some 10), (.ld (some 8) (.tmp 1)), none⟩, ⟨(some 11), (.call (.func 79) [(.tmp 10)]), none⟩, ⟨(some 2), (.mov (.tmp 11)), none⟩]
def b21_7 : C := (.seq (.ops o21_8) .ret)
@[go_sem] theorem r21_7 : EvK T b21_7 K env H Q = EvK T (.seq (.ops o21_8) .ret) K env H Q := rfl
def b21_2 : C := (.seq (.seq (.ops o21_3) b21_4) b21_7)
@[go_sem] theorem r21_2 : EvK T b21_2 K env H Q = EvK T (.seq (.seq (.ops o21_3) b21_4) b21_7) K env H Q := rfl
def b21 : C := (.seq (.ops o21_1) b21_2)
@[go_sem] theorem r21 : EvK T b21 K env H Q = EvK T (.seq (.ops o21_1) b21_2) K env H Q := rfl
def c21 : IFun := ⟨12, b21, [(.tmp 2)]⟩
/-! 24 dynamometer/dynamometerlaw1.reads -/
def c24 : IFun := ⟨26, (.seq (.ops [⟨(some 0), (.mov (.const (.bool false))), none⟩]) (.seq (.ops [⟨(some 7), (.call (.func 25) [(.const (.string ⟨⟨[123, 34, 98, 34, 58, 91, 49, 46, 53, 48, 44, 110, 117, 108, 108, 93, 44, 34, 97, 34, 58, 34, 120, 34, 125]⟩⟩))]), none⟩, ⟨(some 6), (.mov (.tmp 7)), none⟩, ⟨(some 8), (.ext 0 (.tmp 6)), none⟩, ⟨(some 9), (.ext 1 (.tmp 6)), none⟩, ⟨(some 10), (.ext 2 (.tmp 6)), none⟩, ⟨(some 1), (.new 27 [(.int .i64 0), (.bool false), (.bool false), (.string ⟨⟨[]⟩⟩), (.int .i64 0), (.string ⟨⟨[]⟩⟩), (.slice none 0 0), (.slice none 0 0)]), none⟩, ⟨none, (.st 8 (.tmp 1) (.tmp 8)), none⟩, ⟨(some 2), (.mov (.tmp 9)), none⟩, ⟨(some 3), (.mov (.tmp 10)), none⟩]) (.seq (.ops [⟨(some 12), (.ld (some 8) (.tmp 1)), none⟩, ⟨(some 13), (.call (.func 28) [(.tmp 12)]), none⟩, ⟨(some 11), (.mov (.tmp 13)), none⟩, ⟨(some 14), (.ext 0 (.tmp 11)), none⟩, ⟨(some 15), (.ext 1 (.tmp 11)), none⟩, ⟨(some 4), (.mov (.tmp 14)), none⟩, ⟨(some 5), (.mov (.tmp 15)), none⟩]) (.seq (.ops [⟨(some 16), (.mov (.tmp 3)), none⟩, ⟨(some 17), (.bin .eql (.tmp 16) (.const (.int .i64 0))), none⟩, ⟨(some 18), (.mov (.tmp 17)), none⟩, ⟨(some 19), (.mov (.tmp 5)), (some (18, true))⟩, ⟨(some 20), (.bin .eql (.tmp 19) (.const (.int .i64 0))), (some (18, true))⟩, ⟨(some 21), (.pick (.tmp 18) (.tmp 20) (.const (.bool false))), none⟩, ⟨(some 22), (.mov (.tmp 21)), none⟩, ⟨(some 23), (.mov (.tmp 4)), (some (22, true))⟩, ⟨(some 24), (.bin .eql (.tmp 23) (.const (.string ⟨⟨[123, 34, 97, 34, 58, 34, 120, 34, 44, 34, 98, 34, 58, 91, 49, 46, 53, 44, 110, 117, 108, 108, 93, 125]⟩⟩))), (some (22, true))⟩, ⟨(some 25), (.pick (.tmp 22) (.tmp 24) (.const (.bool false))), none⟩, ⟨(some 0), (.mov (.tmp 25)), none⟩]) .ret)))), [(.tmp 0)]⟩
/-! 28 dynamometer/value.Print -/
def c28 : IFun := ⟨8, (.seq (.ops [⟨(some 1), (.box 27 (.tmp 0)), none⟩, ⟨(some 2), (.mov (.const (.string ⟨⟨[]⟩⟩))), none⟩, ⟨(some 3), (.mov (.const (.int .i64 0))), none⟩]) (.seq (.ops [⟨(some 4), (.ld (some 8) (.tmp 1)), none⟩, ⟨(some 5), (.call (.func 92) [(.tmp 4), (.const (.bool false))]), none⟩, ⟨(some 6), (.ext 0 (.tmp 5)), none⟩, ⟨(some 7), (.ext 1 (.tmp 5)), none⟩, ⟨(some 2), (.mov (.tmp 6)), none⟩, ⟨(some 3), (.mov (.tmp 7)), none⟩]) .ret)), [(.tmp 2), (.tmp 3)]⟩
/-! 32 dynamometer/value.Compare -/
@[go_sem] def o32_1 : List IOper := [⟨(some 2), (.box 27 (.tmp 0)), none⟩, ⟨(some 3), (.box 27 (.tmp 1)), none⟩, ⟨(some 4), (.mov (.const (.int .i64 0))), none⟩, ⟨(some 5), (.mov (.const (.int .i64 0))), none⟩]
@[go_sem] def o32_3 : List IOper := [⟨(some 7), (.ld (some 8) (.tmp 2)), none⟩, ⟨(some 8), (.ld (some 8) (.tmp 3)), none⟩, ⟨(some 9), (.call (.func 94) [(.tmp 7), (.tmp 8)]), none⟩, ⟨(some 6), (.mov (.tmp 9)), none⟩]
@[go_sem] def o32_5 : List IOper := [⟨(some 10), (.mov (.tmp 6)), none⟩, ⟨(some 11), (.bin .neq (.tmp 10) (.const (.int .i64 0))), none⟩]
@[go_sem] def o32_8 : List IOper := [⟨(some 12), (.mov (.tmp 6)), none⟩, ⟨(some 4), (.mov (.const (.int .i64 0))), none⟩, ⟨(some 5), (.mov (.tmp 12)), none⟩]
def b32_7 : C := (.seq (.ops o32_8) .ret)
@[go_sem] theorem r32_7 : EvK T b32_7 K env H Q = EvK T (.seq (.ops o32_8) .ret) K env H Q := rfl
def b32_6 : C := (.cond (.tmp 11) b32_7 .skip)
@[go_sem] theorem r32_6 : EvK T b32_6 K env H Q = EvK T (.cond (.tmp 11) b32_7 .skip) K env H Q := rfl
def b32_4 : C := (.seq (.ops o32_5) b32_6)
@[go_sem] theorem r32_4 : EvK T b32_4 K env H Q = EvK T (.seq (.ops o32_5) b32_6) K env H Q := rfl
@[go_sem] def o32_10 : List IOper := [⟨(some 13), (.ld (some 8) (.tmp 2)), none⟩, ⟨(some 14), (.ld (some 8) (.tmp 3)), none⟩, ⟨(some 15), (.call (.func 95) [(.tmp 13), (.tmp 14)]), none⟩, ⟨(some 4), (.mov (.tmp 15)), none⟩, ⟨(some 5), (.mov (.const (.int .i64 0))), none⟩]
def b32_9 : C := (.seq (.ops o32_10) .ret)
@[go_sem] theorem r32_9 : EvK T b32_9 K env H Q = EvK T (.seq (.ops o32_10) .ret) K env H Q := rfl
def b32_2 : C := (.seq (.seq (.ops o32_3) b32_4) b32_9)
@[go_sem] theorem r32_2 : EvK T b32_2 K env H Q = EvK T (.seq (.seq (.ops o32_3) b32_4) b32_9) K env H Q := rfl
def b32 : C := (.seq (.ops o32_1) b32_2)
@[go_sem] theorem r32 : EvK T b32 K env H Q = EvK T (.seq (.ops o32_1) b32_2) K env H Q := rfl
def c32 : IFun := ⟨16, b32, [(.tmp 4), (.tmp 5)]⟩
/-! 33 dynamometer/dynamometerref1.Compare -/
@[go_sem] def o33_1 : List IOper := [⟨(some 2), (.box 27 (.tmp 0)), none⟩, ⟨(some 3), (.box 27 (.tmp 1)), none⟩, ⟨(some 4), (.mov (.const (.int .i64 0))), none⟩, ⟨(some 5), (.mov (.const (.int .i64 0))), none⟩]
@[go_sem] def o33_3 : List IOper := [⟨(some 7), (.ld (some 8) (.tmp 2)), none⟩, ⟨(some 8), (.ld (some 8) (.tmp 3)), none⟩, ⟨(some 9), (.call (.func 96) [(.tmp 7), (.tmp 8)]), none⟩, ⟨(some 6), (.mov (.tmp 9)), none⟩]
@[go_sem] def o33_5 : List IOper := [⟨(some 10), (.mov (.tmp 6)), none⟩, ⟨(some 11), (.bin .neq (.tmp 10) (.const (.int .i64 0))), none⟩]
@[go_sem] def o33_8 : List IOper := [⟨(some 12), (.mov (.tmp 6)), none⟩, ⟨(some 4), (.mov (.const (.int .i64 0))), none⟩, ⟨(some 5), (.mov (.tmp 12)), none⟩]
def b33_7 : C := (.seq (.ops o33_8) .ret)
@[go_sem] theorem r33_7 : EvK T b33_7 K env H Q = EvK T (.seq (.ops o33_8) .ret) K env H Q := rfl
def b33_6 : C := (.cond (.tmp 11) b33_7 .skip)
@[go_sem] theorem r33_6 : EvK T b33_6 K env H Q = EvK T (.cond (.tmp 11) b33_7 .skip) K env H Q := rfl
def b33_4 : C := (.seq (.ops o33_5) b33_6)
@[go_sem] theorem r33_4 : EvK T b33_4 K env H Q = EvK T (.seq (.ops o33_5) b33_6) K env H Q := rfl
@[go_sem] def o33_10 : List IOper := [⟨(some 13), (.ld (some 8) (.tmp 2)), none⟩, ⟨(some 14), (.ld (some 8) (.tmp 3)), none⟩, ⟨(some 15), (.call (.func 97) [(.tmp 13), (.tmp 14)]), none⟩, ⟨(some 4), (.mov (.tmp 15)), none⟩, ⟨(some 5), (.mov (.const (.int .i64 0))), none⟩]
def b33_9 : C := (.seq (.ops o33_10) .ret)
@[go_sem] theorem r33_9 : EvK T b33_9 K env H Q = EvK T (.seq (.ops o33_10) .ret) K env H Q := rfl
def b33_2 : C := (.seq (.seq (.ops o33_3) b33_4) b33_9)
@[go_sem] theorem r33_2 : EvK T b33_2 K env H Q = EvK T (.seq (.seq (.ops o33_3) b33_4) b33_9) K env H Q := rfl
def b33 : C := (.seq (.ops o33_1) b33_2)
@[go_sem] theorem r33 : EvK T b33 K env H Q = EvK T (.seq (.ops o33_1) b33_2) K env H Q := rfl
def c33 : IFun := ⟨16, b33, [(.tmp 4), (.tmp 5)]⟩
/-! 73 strings.Trim -/
@[go_sem] def o73_1 : List IOper := [⟨(some 4), (.mov (.const (.string ⟨⟨[]⟩⟩))), none⟩]
@[go_sem] def o73_3 : List IOper := [⟨(some 7), (.mov (.tmp 0)), none⟩, ⟨(some 8), (.bin .eql (.tmp 7) (.const (.string ⟨⟨[]⟩⟩))), none⟩, ⟨(some 9), (.mov (.tmp 8)), none⟩, ⟨(some 10), (.mov (.tmp 1)), (some (9, false))⟩, ⟨(some 11), (.bin .eql (.tmp 10) (.const (.string ⟨⟨[]⟩⟩))), (some (9, false))⟩, ⟨(some 12), (.pick (.tmp 9) (.const (.bool true)) (.tmp 11)), none⟩]
@[go_sem] def o73_6 : List IOper := [⟨(some 13), (.mov (.tmp 0)), none⟩, ⟨(some 4), (.mov (.tmp 13)), none⟩]
def b73_5 : C := (.seq (.ops o73_6) .ret)
@[go_sem] theorem r73_5 : EvK T b73_5 K env H Q = EvK T (.seq (.ops o73_6) .ret) K env H Q := rfl
def b73_4 : C := (.cond (.tmp 12) b73_5 .skip)
@[go_sem] theorem r73_4 : EvK T b73_4 K env H Q = EvK T (.cond (.tmp 12) b73_5 .skip) K env H Q := rfl
@[go_sem] def o73_8 : List IOper := [⟨(some 14), (.mov (.tmp 1)), none⟩, ⟨(some 15), (.len true (.tmp 14)), none⟩, ⟨(some 16), (.bin .eql (.tmp 15) (.const (.int .i64 1))), none⟩, ⟨(some 17), (.mov (.tmp 16)), none⟩, ⟨(some 18), (.mov (.tmp 1)), (some (17, true))⟩, ⟨(some 19), (.ixstr (.tmp 18) (.const (.int .i64 0))), (some (17, true))⟩, ⟨(some 20), (.bin .lss (.tmp 19) (.const (.int .u8 128))), (some (17, true))⟩, ⟨(some 21), (.pick (.tmp 17) (.tmp 20) (.const (.bool false))), none⟩]
@[go_sem] def o73_11 : List DOper := [⟨⟨(some 22), (.mov (.tmp 0)), none⟩, false, []⟩, ⟨⟨(some 23), (.mov (.tmp 1)), none⟩, false, []⟩, ⟨⟨(some 24), (.ixstr (.tmp 23) (.const (.int .i64 0))), none⟩, false, []⟩, ⟨⟨(some 25), (.call (.func 154) [(.tmp 22), (.tmp 24)]), none⟩, true, []⟩, ⟨⟨(some 26), (.mov (.tmp 1)), none⟩, false, []⟩, ⟨⟨(some 27), (.ixstr (.tmp 26) (.const (.int .i64 0))), none⟩, false, []⟩, ⟨⟨(some 28), (.call (.func 153) [(.tmp 25), (.tmp 27)]), none⟩, true, []⟩, ⟨⟨(some 4), (.mov (.tmp 28)), none⟩, false, []⟩]
def b73_10 : C := (.seq (.dops o73_11) .ret)
@[go_sem] theorem r73_10 : EvK T b73_10 K env H Q = EvK T (.seq (.dops o73_11) .ret) K env H Q := rfl
def b73_9 : C := (.cond (.tmp 21) b73_10 .skip)
@[go_sem] theorem r73_9 : EvK T b73_9 K env H Q = EvK T (.cond (.tmp 21) b73_10 .skip) K env H Q := rfl
@[go_sem] def o73_13 : List IOper := [⟨(some 30), (.mov (.tmp 1)), none⟩, ⟨(some 31), (.call (.func 155) [(.tmp 30)]), none⟩, ⟨(some 29), (.mov (.tmp 31)), none⟩, ⟨(some 32), (.ext 0 (.tmp 29)), none⟩, ⟨(some 33), (.ext 1 (.tmp 29)), none⟩, ⟨(some 5), (.new 179 [(.bool false), (.bool false), (.bool false), (.bool false), (.bool false), (.bool false), (.bool false), (.bool false), (.bool false), (.bool false), (.bool false), (.bool false), (.bool false), (.bool false), (.bool false), (.bool false), (.bool false), (.bool false), (.bool false), (.bool false), (.bool false), (.bool false), (.bool false), (.bool false), (.bool false), (.bool false), (.bool false), (.bool false), (.bool false), (.bool false), (.bool false), (.bool false), (.bool false), (.bool false), (.bool false), (.bool false), (.bool false), (.bool false), (.bool false), (.bool false), (.bool false), (.bool false), (.bool false), (.bool false), (.bool false), (.bool false), (.bool false), (.bool false), (.bool false), (.bool false), (.bool false), (.bool false), (.bool false), (.bool false), (.bool false), (.bool false), (.bool false), (.bool false), (.bool false), (.bool false), (.bool false), (.bool false), (.bool false), (.bool false), (.bool false), (.bool false), (.bool false), (.bool false), (.bool false), (.bool false), (.bool false), (.bool false), (.bool false), (.bool false), (.bool false), (.bool false), (.bool false), (.bool false), (.bool false), (.bool false), (.bool false), (.bool false), (.bool false), (.bool false), (.bool false), (.bool false), (.bool false), (.bool false), (.bool false), (.bool false), (.bool false), (.bool false), (.bool false), (.bool false), (.bool false), (.bool false), (.bool false), (.bool false), (.bool false), (.bool false), (.bool false), (.bool false), (.bool false), (.bool false), (.bool false), (.bool false), (.bool false), (.bool false), (.bool false), (.bool false), (.bool false), (.bool false), (.bool false), (.bool false), (.bool false), (.bool false), (.bool false), (.bool false), (.bool false), (.bool false), (.bool false), (.bool false), (.bool false), (.bool false), (.bool false), (.bool false), (.bool false), (.bool false), (.bool false), (.bool false), (.bool false), (.bool false), (.bool false), (.bool false), (.bool false), (.bool false), (.bool false), (.bool false), (.bool false), (.bool false), (.bool false), (.bool false), (.bool false), (.bool false), (.bool false), (.bool false), (.bool false), (.bool false), (.bool false), (.bool false), (.bool false), (.bool false), (.bool false), (.bool false), (.bool false), (.bool false), (.bool false), (.bool false), (.bool false), (.bool false), (.bool false), (.bool false), (.bool false), (.bool false), (.bool false), (.bool false), (.bool false), (.bool false), (.bool false), (.bool false), (.bool false), (.bool false), (.bool false), (.bool false), (.bool false), (.bool false), (.bool false), (.bool false), (.bool false), (.bool false), (.bool false), (.bool false), (.bool false), (.bool false), (.bool false), (.bool false), (.bool false), (.bool false), (.bool false), (.bool false), (.bool false), (.bool false), (.bool false), (.bool false), (.bool false), (.bool false), (.bool false), (.bool false), (.bool false), (.bool false), (.bool false), (.bool false), (.bool false), (.bool false), (.bool false), (.bool false), (.bool false), (.bool false), (.bool false), (.bool false), (.bool false), (.bool false), (.bool false), (.bool false), (.bool false), (.bool false), (.bool false), (.bool false), (.bool false), (.bool false), (.bool false), (.bool false), (.bool false), (.bool false), (.bool false), (.bool false), (.bool false), (.bool false), (.bool false), (.bool false), (.bool false), (.bool false), (.bool false), (.bool false), (.bool false), (.bool false), (.bool false), (.bool false), (.bool false), (.bool false), (.bool false), (.bool false), (.bool false), (.bool false), (.bool false), (.bool false), (.bool false), (.bool false), (.bool false), (.bool false), (.bool false), (.bool false), (.bool false), (.bool false), (.bool false), (.bool false)]), none⟩, ⟨none, (.st 256 (.tmp 5) (.tmp 32)), none⟩, ⟨(some 6), (.mov (.tmp 33)), none⟩]
@[go_sem] def o73_15 : List IOper := [⟨(some 34), (.mov (.tmp 6)), none⟩]
@[go_sem] def o73_18 : List IOper := [⟨(some 35), (.mov (.tmp 0)), none⟩, ⟨(some 36), (.call (.func 157) [(.tmp 35), (.tmp 5)]), none⟩, ⟨(some 37), (.call (.func 156) [(.tmp 36), (.tmp 5)]), none⟩, ⟨(some 4), (.mov (.tmp 37)), none⟩]
def b73_17 : C := (.seq (.ops o73_18) .ret)
@[go_sem] theorem r73_17 : EvK T b73_17 K env H Q = EvK T (.seq (.ops o73_18) .ret) K env H Q := rfl
def b73_16 : C := (.cond (.tmp 34) b73_17 .skip)
@[go_sem] theorem r73_16 : EvK T b73_16 K env H Q = EvK T (.cond (.tmp 34) b73_17 .skip) K env H Q := rfl
def b73_14 : C := (.seq (.ops o73_15) b73_16)
@[go_sem] theorem r73_14 : EvK T b73_14 K env H Q = EvK T (.seq (.ops o73_15) b73_16) K env H Q := rfl
@[go_sem] def o73_20 : List IOper := [⟨(some 38), (.mov (.tmp 0)), none⟩, ⟨(some 39), (.mov (.tmp 1)), none⟩, ⟨(some 40), (.call (.func 159) [(.tmp 38), (.tmp 39)]), none⟩, ⟨(some 41), (.mov (.tmp 1)), none⟩, ⟨(some 42), (.call (.func 158) [(.tmp 40), (.tmp 41)]), none⟩, ⟨(some 4), (.mov (.tmp 42)), none⟩]
def b73_19 : C := (.seq (.ops o73_20) .ret)
@[go_sem] theorem r73_19 : EvK T b73_19 K env H Q = EvK T (.seq (.ops o73_20) .ret) K env H Q := rfl
def b73_12 : C := (.seq (.seq (.ops o73_13) b73_14) b73_19)
@[go_sem] theorem r73_12 : EvK T b73_12 K env H Q = EvK T (.seq (.seq (.ops o73_13) b73_14) b73_19) K env H Q := rfl
def b73_7 : C := (.seq (.seq (.ops o73_8) b73_9) b73_12)
@[go_sem] theorem r73_7 : EvK T b73_7 K env H Q = EvK T (.seq (.seq (.ops o73_8) b73_9) b73_12) K env H Q := rfl
def b73_2 : C := (.seq (.seq (.ops o73_3) b73_4) b73_7)
@[go_sem] theorem r73_2 : EvK T b73_2 K env H Q = EvK T (.seq (.seq (.ops o73_3) b73_4) b73_7) K env H Q := rfl
def b73 : C := (.seq (.ops o73_1) b73_2)
@[go_sem] theorem r73 : EvK T b73 K env H Q = EvK T (.seq (.ops o73_1) b73_2) K env H Q := rfl
def c73 : IFun := ⟨43, b73, [(.tmp 4)]⟩
/-! 74 dynamometer/dynamometerref1.digit -/
@[go_sem] def o74_1 : List IOper := [⟨(some 2), (.mov (.const (.bool false))), none⟩]
@[go_sem] def o74_3 : List IOper := [⟨(some 3), (.mov (.tmp 0)), none⟩, ⟨(some 4), (.bin .geq (.tmp 3) (.const (.int .u8 48))), none⟩, ⟨(some 5), (.mov (.tmp 4)), none⟩, ⟨(some 6), (.mov (.tmp 0)), (some (5, true))⟩, ⟨(some 7), (.bin .leq (.tmp 6) (.const (.int .u8 57))), (some (5, true))⟩, ⟨(some 8), (.pick (.tmp 5) (.tmp 7) (.const (.bool false))), none⟩, ⟨(some 2), (.mov (.tmp 8)), none⟩]
def b74_2 : C := (.seq (.ops o74_3) .ret)
@[go_sem] theorem r74_2 : EvK T b74_2 K env H Q = EvK T (.seq (.ops o74_3) .ret) K env H Q := rfl
def b74 : C := (.seq (.ops o74_1) b74_2)
@[go_sem] theorem r74 : EvK T b74 K env H Q = EvK T (.seq (.ops o74_1) b74_2) K env H Q := rfl
def c74 : IFun := ⟨9, b74, [(.tmp 2)]⟩
/-! 75 dynamometer/value.checkSize -/
@[go_sem] def o75_1 : List IOper := [⟨(some 1), (.box 27 (.tmp 0)), none⟩, ⟨(some 2), (.mov (.const (.int .i64 0))), none⟩]
@[go_sem] def o75_3 : List IOper := [⟨(some 6), (.ld (some 8) (.tmp 1)), none⟩, ⟨(some 7), (.call (.func 80) [(.tmp 6)]), none⟩, ⟨(some 5), (.mov (.tmp 7)), none⟩, ⟨(some 8), (.ext 0 (.tmp 5)), none⟩, ⟨(some 9), (.ext 1 (.tmp 5)), none⟩, ⟨(some 3), (.mov (.tmp 8)), none⟩, ⟨(some 4), (.mov (.tmp 9)), none⟩]
@[go_sem] def o75_5 : List IOper := [⟨(some 10), (.mov (.tmp 3)), none⟩, ⟨(some 11), (.bin .gtr (.tmp 10) (.const (.int .i64 20000))), none⟩, ⟨(some 12), (.mov (.tmp 11)), none⟩, ⟨(some 13), (.mov (.tmp 4)), (some (12, false))⟩, ⟨(some 14), (.bin .gtr (.tmp 13) (.const (.int .i64 60))), (some (12, false))⟩, ⟨(some 15), (.pick (.tmp 12) (.const (.bool true)) (.tmp 14)), none⟩]
@[go_sem] def o75_8 : List IOper := [⟨(some 2), (.mov (.const (.int .i64 3))), none⟩]
def b75_7 : C := (.seq (.ops o75_8) .ret)
@[go_sem] theorem r75_7 : EvK T b75_7 K env H Q = EvK T (.seq (.ops o75_8) .ret) K env H Q := rfl
def b75_6 : C := (.cond (.tmp 15) b75_7 .skip)
@[go_sem] theorem r75_6 : EvK T b75_6 K env H Q = EvK T (.cond (.tmp 15) b75_7 .skip) K env H Q := rfl
def b75_4 : C := (.seq (.ops o75_5) b75_6)
@[go_sem] theorem r75_4 : EvK T b75_4 K env H Q = EvK T (.seq (.ops o75_5) b75_6) K env H Q := rfl
@[go_sem] def o75_10 : List IOper := [⟨(some 2), (.mov (.const (.int .i64 0))), none⟩]
def b75_9 : C := (.seq (.ops o75_10) .ret)
@[go_sem] theorem r75_9 : EvK T b75_9 K env H Q = EvK T (.seq (.ops o75_10) .ret) K env H Q := rfl
def b75_2 : C := (.seq (.seq (.ops o75_3) b75_4) b75_9)
@[go_sem] theorem r75_2 : EvK T b75_2 K env H Q = EvK T (.seq (.seq (.ops o75_3) b75_4) b75_9) K env H Q := rfl
def b75 : C := (.seq (.ops o75_1) b75_2)
@[go_sem] theorem r75 : EvK T b75 K env H Q = EvK T (.seq (.ops o75_1) b75_2) K env H Q := rfl
def c75 : IFun := ⟨16, b75, [(.tmp 2)]⟩
/-! 76 dynamometer/value.checkNodes -/
@[go_sem] def o76_1 : List IOper := [⟨(some 1), (.box 27 (.tmp 0)), none⟩, ⟨(some 2), (.mov (.const (.int .i64 0))), none⟩]
@[go_sem] def o76_3 : List IOper := [⟨(some 7), (.ld (some 8) (.tmp 1)), none⟩, ⟨(some 8), (.call (.func 160) [(.tmp 7)]), none⟩, ⟨(some 3), (.mov (.tmp 8)), none⟩]
@[go_sem] def o76_5 : List IOper := [⟨(some 9), (.mov (.tmp 3)), none⟩, ⟨(some 10), (.bin .neq (.tmp 9) (.const (.int .i64 0))), none⟩]
@[go_sem] def o76_8 : List IOper := [⟨(some 11), (.mov (.tmp 3)), none⟩, ⟨(some 2), (.mov (.tmp 11)), none⟩]
def b76_7 : C := (.seq (.ops o76_8) .ret)
@[go_sem] theorem r76_7 : EvK T b76_7 K env H Q = EvK T (.seq (.ops o76_8) .ret) K env H Q := rfl
def b76_6 : C := (.cond (.tmp 10) b76_7 .skip)
@[go_sem] theorem r76_6 : EvK T b76_6 K env H Q = EvK T (.cond (.tmp 10) b76_7 .skip) K env H Q := rfl
def b76_4 : C := (.seq (.ops o76_5) b76_6)
@[go_sem] theorem r76_4 : EvK T b76_4 K env H Q = EvK T (.seq (.ops o76_5) b76_6) K env H Q := rfl
@[go_sem] def o76_10 : List IOper := [⟨(some 12), (.faddr 6 (.tmp 1)), none⟩, ⟨(some 13), (.ld none (.tmp 12)), none⟩, ⟨(some 14), (.len false (.tmp 13)), none⟩, ⟨(some 15), (.mov (.const (.int .i64 0))), none⟩]
@[go_sem] def o76_14 : List IOper := [⟨(some 16), (.bin .lss (.tmp 15) (.tmp 14)), none⟩]
@[go_sem] def o76_18 : List IOper := [⟨(some 17), (.iaddr 8 (.tmp 13) (.tmp 15)), none⟩, ⟨(some 18), (.ld (some 8) (.tmp 17)), none⟩, ⟨(some 5), (.new 27 [(.int .i64 0), (.bool false), (.bool false), (.string ⟨⟨[]⟩⟩), (.int .i64 0), (.string ⟨⟨[]⟩⟩), (.slice none 0 0), (.slice none 0 0)]), none⟩, ⟨none, (.st 8 (.tmp 5) (.tmp 18)), none⟩]
@[go_sem] def o76_20 : List IOper := [⟨(some 19), (.ld (some 8) (.tmp 5)), none⟩, ⟨(some 20), (.call (.func 76) [(.tmp 19)]), none⟩, ⟨(some 6), (.mov (.tmp 20)), none⟩]
@[go_sem] def o76_22 : List IOper := [⟨(some 21), (.mov (.tmp 6)), none⟩, ⟨(some 22), (.bin .neq (.tmp 21) (.const (.int .i64 0))), none⟩]
@[go_sem] def o76_25 : List IOper := [⟨(some 23), (.mov (.tmp 6)), none⟩, ⟨(some 2), (.mov (.tmp 23)), none⟩]
def b76_24 : C := (.seq (.ops o76_25) .ret)
@[go_sem] theorem r76_24 : EvK T b76_24 K env H Q = EvK T (.seq (.ops o76_25) .ret) K env H Q := rfl
def b76_23 : C := (.cond (.tmp 22) b76_24 .skip)
@[go_sem] theorem r76_23 : EvK T b76_23 K env H Q = EvK T (.cond (.tmp 22) b76_24 .skip) K env H Q := rfl
def b76_21 : C := (.seq (.ops o76_22) b76_23)
@[go_sem] theorem r76_21 : EvK T b76_21 K env H Q = EvK T (.seq (.ops o76_22) b76_23) K env H Q := rfl
def b76_19 : C := (.seq (.ops o76_20) b76_21)
@[go_sem] theorem r76_19 : EvK T b76_19 K env H Q = EvK T (.seq (.ops o76_20) b76_21) K env H Q := rfl
def b76_17 : C := (.seq (.ops o76_18) b76_19)
@[go_sem] theorem r76_17 : EvK T b76_17 K env H Q = EvK T (.seq (.ops o76_18) b76_19) K env H Q := rfl
@[go_sem] def o76_27 : List IOper := [⟨(some 24), (.bin .add (.tmp 15) (.const (.int .i64 1))), none⟩, ⟨(some 15), (.mov (.tmp 24)), none⟩]
def b76_26 : C := (.ops o76_27)
@[go_sem] theorem r76_26 : EvK T b76_26 K env H Q = EvK T (.ops o76_27) K env H Q := rfl
def b76_16 : C := (.seq (.block 1 b76_17) b76_26)
@[go_sem] theorem r76_16 : EvK T b76_16 K env H Q = EvK T (.seq (.block 1 b76_17) b76_26) K env H Q := rfl
def b76_15 : C := (.seq (.cond (.tmp 16) .skip (.exit 0)) b76_16)
@[go_sem] theorem r76_15 : EvK T b76_15 K env H Q = EvK T (.seq (.cond (.tmp 16) .skip (.exit 0)) b76_16) K env H Q := rfl
def b76_13 : C := (.seq (.ops o76_14) b76_15)
@[go_sem] theorem r76_13 : EvK T b76_13 K env H Q = EvK T (.seq (.ops o76_14) b76_15) K env H Q := rfl
def l76_12 : C := .loop [] b76_13
theorem w76_12 {ι : Type} (i0 : ι) (Inv : ι → Env → Heap → Prop) (m : ι → Nat) (h0 : Inv i0 env H) (hs : ∀ i e h, Inv i e h → (∀ j e' h', m j < m i → Inv j e' h' → EvK T l76_12 K e' h' Q) → EvK T b76_13 (.loop [] b76_13 :: K) (forget [] e) h Q) : EvK T l76_12 K env H Q := EvK_while i0 Inv m h0 hs
def b76_11 : C := (.block 0 l76_12)
@[go_sem] theorem r76_11 : EvK T b76_11 K env H Q = EvK T (.block 0 l76_12) K env H Q := rfl
@[go_sem] def o76_29 : List IOper := [⟨(some 2), (.mov (.const (.int .i64 0))), none⟩]
def b76_28 : C := (.seq (.ops o76_29) .ret)
@[go_sem] theorem r76_28 : EvK T b76_28 K env H Q = EvK T (.seq (.ops o76_29) .ret) K env H Q := rfl
def b76_9 : C := (.seq (.seq (.ops o76_10) b76_11) b76_28)
@[go_sem] theorem r76_9 : EvK T b76_9 K env H Q = EvK T (.seq (.seq (.ops o76_10) b76_11) b76_28) K env H Q := rfl
def b76_2 : C := (.seq (.seq (.ops o76_3) b76_4) b76_9)
@[go_sem] theorem r76_2 : EvK T b76_2 K env H Q = EvK T (.seq (.seq (.ops o76_3) b76_4) b76_9) K env H Q := rfl
def b76 : C := (.seq (.ops o76_1) b76_2)
@[go_sem] theorem r76 : EvK T b76 K env H Q = EvK T (.seq (.ops o76_1) b76_2) K env H Q := rfl
def c76 : IFun := ⟨25, b76, [(.tmp 2)]⟩
/-! 77 dynamometer/dynamometerref1.deep -/
@[go_sem] def o77_1 : List IOper := [⟨(some 2), (.box 27 (.tmp 0)), none⟩, ⟨(some 4), (.mov (.const (.bool false))), none⟩]
@[go_sem] def o77_3 : List IOper := [⟨(some 6), (.mov (.tmp 1)), none⟩, ⟨(some 7), (.bin .eql (.tmp 6) (.const (.int .i64 0))), none⟩]
@[go_sem] def o77_6 : List IOper := [⟨(some 4), (.mov (.const (.bool true))), none⟩]
def b77_5 : C := (.seq (.ops o77_6) .ret)
@[go_sem] theorem r77_5 : EvK T b77_5 K env H Q = EvK T (.seq (.ops o77_6) .ret) K env H Q := rfl
def b77_4 : C := (.cond (.tmp 7) b77_5 .skip)
@[go_sem] theorem r77_4 : EvK T b77_4 K env H Q = EvK T (.cond (.tmp 7) b77_5 .skip) K env H Q := rfl
@[go_sem] def o77_8 : List IOper := [⟨(some 5), (.mov (.const (.int .i64 0))), none⟩]
@[go_sem] def o77_12 : List IOper := [⟨(some 8), (.mov (.tmp 5)), none⟩, ⟨(some 9), (.faddr 6 (.tmp 2)), none⟩, ⟨(some 10), (.ld none (.tmp 9)), none⟩, ⟨(some 11), (.len false (.tmp 10)), none⟩, ⟨(some 12), (.bin .lss (.tmp 8) (.tmp 11)), none⟩]
def b77_13 : C := (.cond (.tmp 12) .skip (.exit 0))
@[go_sem] theorem r77_13 : EvK T b77_13 K env H Q = EvK T (.cond (.tmp 12) .skip (.exit 0)) K env H Q := rfl
@[go_sem] def o77_16 : List IOper := [⟨(some 15), (.faddr 6 (.tmp 2)), none⟩, ⟨(some 16), (.ld none (.tmp 15)), none⟩, ⟨(some 17), (.mov (.tmp 5)), none⟩, ⟨(some 18), (.iaddr 8 (.tmp 16) (.tmp 17)), none⟩, ⟨(some 19), (.ld (some 8) (.tmp 18)), none⟩, ⟨(some 20), (.mov (.tmp 1)), none⟩, ⟨(some 21), (.bin .sub (.tmp 20) (.const (.int .i64 1))), none⟩, ⟨(some 22), (.call (.func 77) [(.tmp 19), (.tmp 21)]), none⟩]
@[go_sem] def o77_19 : List IOper := [⟨(some 4), (.mov (.const (.bool true))), none⟩]
def b77_18 : C := (.seq (.ops o77_19) .ret)
@[go_sem] theorem r77_18 : EvK T b77_18 K env H Q = EvK T (.seq (.ops o77_19) .ret) K env H Q := rfl
def b77_17 : C := (.cond (.tmp 22) b77_18 .skip)
@[go_sem] theorem r77_17 : EvK T b77_17 K env H Q = EvK T (.cond (.tmp 22) b77_18 .skip) K env H Q := rfl
def b77_15 : C := (.seq (.ops o77_16) b77_17)
@[go_sem] theorem r77_15 : EvK T b77_15 K env H Q = EvK T (.seq (.ops o77_16) b77_17) K env H Q := rfl
@[go_sem] def o77_21 : List IOper := [⟨(some 13), (.mov (.tmp 5)), none⟩, ⟨(some 14), (.bin .add (.tmp 13) (.const (.int .i64 1))), none⟩, ⟨(some 5), (.mov (.tmp 14)), none⟩]
def b77_20 : C := (.ops o77_21)
@[go_sem] theorem r77_20 : EvK T b77_20 K env H Q = EvK T (.ops o77_21) K env H Q := rfl
def b77_14 : C := (.seq (.block 1 b77_15) b77_20)
@[go_sem] theorem r77_14 : EvK T b77_14 K env H Q = EvK T (.seq (.block 1 b77_15) b77_20) K env H Q := rfl
def b77_11 : C := (.seq (.seq (.ops o77_12) b77_13) b77_14)
@[go_sem] theorem r77_11 : EvK T b77_11 K env H Q = EvK T (.seq (.seq (.ops o77_12) b77_13) b77_14) K env H Q := rfl
def l77_10 : C := .loop [] b77_11
theorem w77_10 {ι : Type} (i0 : ι) (Inv : ι → Env → Heap → Prop) (m : ι → Nat) (h0 : Inv i0 env H) (hs : ∀ i e h, Inv i e h → (∀ j e' h', m j < m i → Inv j e' h' → EvK T l77_10 K e' h' Q) → EvK T b77_11 (.loop [] b77_11 :: K) (forget [] e) h Q) : EvK T l77_10 K env H Q := EvK_while i0 Inv m h0 hs
def b77_9 : C := (.block 0 l77_10)
@[go_sem] theorem r77_9 : EvK T b77_9 K env H Q = EvK T (.block 0 l77_10) K env H Q := rfl
@[go_sem] def o77_23 : List IOper := [⟨(some 4), (.mov (.const (.bool false))), none⟩]
def b77_22 : C := (.seq (.ops o77_23) .ret)
@[go_sem] theorem r77_22 : EvK T b77_22 K env H Q = EvK T (.seq (.ops o77_23) .ret) K env H Q := rfl
def b77_7 : C := (.seq (.seq (.ops o77_8) b77_9) b77_22)
@[go_sem] theorem r77_7 : EvK T b77_7 K env H Q = EvK T (.seq (.seq (.ops o77_8) b77_9) b77_22) K env H Q := rfl
def b77_2 : C := (.seq (.seq (.ops o77_3) b77_4) b77_7)
@[go_sem] theorem r77_2 : EvK T b77_2 K env H Q = EvK T (.seq (.seq (.ops o77_3) b77_4) b77_7) K env H Q := rfl
def b77 : C := (.seq (.ops o77_1) b77_2)
@[go_sem] theorem r77 : EvK T b77 K env H Q = EvK T (.seq (.ops o77_1) b77_2) K env H Q := rfl
def c77 : IFun := ⟨23, b77, [(.tmp 4)]⟩
/-! 78 dynamometer/dynamometerref1.count -/
@[go_sem] def o78_1 : List IOper := [⟨(some 2), (.box 27 (.tmp 0)), none⟩, ⟨(some 4), (.mov (.const (.int .i64 0))), none⟩]
@[go_sem] def o78_3 : List IOper := [⟨(some 5), (.mov (.const (.int .i64 1))), none⟩]
@[go_sem] def o78_5 : List IOper := [⟨(some 6), (.mov (.const (.int .i64 0))), none⟩]
@[go_sem] def o78_9 : List IOper := [⟨(some 7), (.mov (.tmp 6)), none⟩, ⟨(some 8), (.faddr 6 (.tmp 2)), none⟩, ⟨(some 9), (.ld none (.tmp 8)), none⟩, ⟨(some 10), (.len false (.tmp 9)), none⟩, ⟨(some 11), (.bin .lss (.tmp 7) (.tmp 10)), none⟩, ⟨(some 12), (.mov (.tmp 11)), none⟩, ⟨(some 13), (.mov (.tmp 5)), (some (12, true))⟩, ⟨(some 14), (.mov (.tmp 1)), (some (12, true))⟩, ⟨(some 15), (.bin .leq (.tmp 13) (.tmp 14)), (some (12, true))⟩, ⟨(some 16), (.pick (.tmp 12) (.tmp 15) (.const (.bool false))), none⟩]
def b78_10 : C := (.cond (.tmp 16) .skip (.exit 0))
@[go_sem] theorem r78_10 : EvK T b78_10 K env H Q = EvK T (.cond (.tmp 16) .skip (.exit 0)) K env H Q := rfl
@[go_sem] def o78_13 : List IOper := [⟨(some 19), (.mov (.tmp 5)), none⟩, ⟨(some 20), (.faddr 6 (.tmp 2)), none⟩, ⟨(some 21), (.ld none (.tmp 20)), none⟩, ⟨(some 22), (.mov (.tmp 6)), none⟩, ⟨(some 23), (.iaddr 8 (.tmp 21) (.tmp 22)), none⟩, ⟨(some 24), (.ld (some 8) (.tmp 23)), none⟩, ⟨(some 25), (.mov (.tmp 1)), none⟩, ⟨(some 26), (.mov (.tmp 5)), none⟩, ⟨(some 27), (.bin .sub (.tmp 25) (.tmp 26)), none⟩, ⟨(some 28), (.call (.func 78) [(.tmp 24), (.tmp 27)]), none⟩, ⟨(some 29), (.bin .add (.tmp 19) (.tmp 28)), none⟩, ⟨(some 5), (.mov (.tmp 29)), none⟩]
def b78_12 : C := (.ops o78_13)
@[go_sem] theorem r78_12 : EvK T b78_12 K env H Q = EvK T (.ops o78_13) K env H Q := rfl
@[go_sem] def o78_15 : List IOper := [⟨(some 17), (.mov (.tmp 6)), none⟩, ⟨(some 18), (.bin .add (.tmp 17) (.const (.int .i64 1))), none⟩, ⟨(some 6), (.mov (.tmp 18)), none⟩]
def b78_14 : C := (.ops o78_15)
@[go_sem] theorem r78_14 : EvK T b78_14 K env H Q = EvK T (.ops o78_15) K env H Q := rfl
def b78_11 : C := (.seq (.block 1 b78_12) b78_14)
@[go_sem] theorem r78_11 : EvK T b78_11 K env H Q = EvK T (.seq (.block 1 b78_12) b78_14) K env H Q := rfl
def b78_8 : C := (.seq (.seq (.ops o78_9) b78_10) b78_11)
@[go_sem] theorem r78_8 : EvK T b78_8 K env H Q = EvK T (.seq (.seq (.ops o78_9) b78_10) b78_11) K env H Q := rfl
def l78_7 : C := .loop [] b78_8
theorem w78_7 {ι : Type} (i0 : ι) (Inv : ι → Env → Heap → Prop) (m : ι → Nat) (h0 : Inv i0 env H) (hs : ∀ i e h, Inv i e h → (∀ j e' h', m j < m i → Inv j e' h' → EvK T l78_7 K e' h' Q) → EvK T b78_8 (.loop [] b78_8 :: K) (forget [] e) h Q) : EvK T l78_7 K env H Q := EvK_while i0 Inv m h0 hs
def b78_6 : C := (.block 0 l78_7)
@[go_sem] theorem r78_6 : EvK T b78_6 K env H Q = EvK T (.block 0 l78_7) K env H Q := rfl
@[go_sem] def o78_17 : List IOper := [⟨(some 30), (.mov (.tmp 5)), none⟩, ⟨(some 4), (.mov (.tmp 30)), none⟩]
def b78_16 : C := (.seq (.ops o78_17) .ret)
@[go_sem] theorem r78_16 : EvK T b78_16 K env H Q = EvK T (.seq (.ops o78_17) .ret) K env H Q := rfl
def b78_4 : C := (.seq (.seq (.ops o78_5) b78_6) b78_16)
@[go_sem] theorem r78_4 : EvK T b78_4 K env H Q = EvK T (.seq (.seq (.ops o78_5) b78_6) b78_16) K env H Q := rfl
def b78_2 : C := (.seq (.ops o78_3) b78_4)
@[go_sem] theorem r78_2 : EvK T b78_2 K env H Q = EvK T (.seq (.ops o78_3) b78_4) K env H Q := rfl
def b78 : C := (.seq (.ops o78_1) b78_2)
@[go_sem] theorem r78 : EvK T b78 K env H Q = EvK T (.seq (.ops o78_1) b78_2) K env H Q := rfl
def c78 : IFun := ⟨31, b78, [(.tmp 4)]⟩
/-! 79 dynamometer/dynamometerref1.nodesFault -/
@[go_sem] def o79_1 : List IOper := [⟨(some 1), (.box 27 (.tmp 0)), none⟩, ⟨(some 2), (.mov (.const (.int .i64 0))), none⟩]
@[go_sem] def o79_3 : List IOper := [⟨(some 5), (.ld (some 8) (.tmp 1)), none⟩, ⟨(some 6), (.call (.func 161) [(.tmp 5)]), none⟩, ⟨(some 3), (.mov (.tmp 6)), none⟩]
@[go_sem] def o79_5 : List IOper := [⟨(some 4), (.mov (.const (.int .i64 0))), none⟩]
@[go_sem] def o79_9 : List IOper := [⟨(some 7), (.mov (.tmp 4)), none⟩, ⟨(some 8), (.faddr 6 (.tmp 1)), none⟩, ⟨(some 9), (.ld none (.tmp 8)), none⟩, ⟨(some 10), (.len false (.tmp 9)), none⟩, ⟨(some 11), (.bin .lss (.tmp 7) (.tmp 10)), none⟩, ⟨(some 12), (.mov (.tmp 11)), none⟩, ⟨(some 13), (.mov (.tmp 3)), (some (12, true))⟩, ⟨(some 14), (.bin .eql (.tmp 13) (.const (.int .i64 0))), (some (12, true))⟩, ⟨(some 15), (.pick (.tmp 12) (.tmp 14) (.const (.bool false))), none⟩]
def b79_10 : C := (.cond (.tmp 15) .skip (.exit 0))
@[go_sem] theorem r79_10 : EvK T b79_10 K env H Q = EvK T (.cond (.tmp 15) .skip (.exit 0)) K env H Q := rfl
@[go_sem] def o79_13 : List IOper := [⟨(some 18), (.faddr 6 (.tmp 1)), none⟩, ⟨(some 19), (.ld none (.tmp 18)), none⟩, ⟨(some 20), (.mov (.tmp 4)), none⟩, ⟨(some 21), (.iaddr 8 (.tmp 19) (.tmp 20)), none⟩, ⟨(some 22), (.ld (some 8) (.tmp 21)), none⟩, ⟨(some 23), (.call (.func 79) [(.tmp 22)]), none⟩, ⟨(some 3), (.mov (.tmp 23)), none⟩]
def b79_12 : C := (.ops o79_13)
@[go_sem] theorem r79_12 : EvK T b79_12 K env H Q = EvK T (.ops o79_13) K env H Q := rfl
@[go_sem] def o79_15 : List IOper := [⟨(some 16), (.mov (.tmp 4)), none⟩, ⟨(some 17), (.bin .add (.tmp 16) (.const (.int .i64 1))), none⟩, ⟨(some 4), (.mov (.tmp 17)), none⟩]
def b79_14 : C := (.ops o79_15)
@[go_sem] theorem r79_14 : EvK T b79_14 K env H Q = EvK T (.ops o79_15) K env H Q := rfl
def b79_11 : C := (.seq (.block 1 b79_12) b79_14)
@[go_sem] theorem r79_11 : EvK T b79_11 K env H Q = EvK T (.seq (.block 1 b79_12) b79_14) K env H Q := rfl
def b79_8 : C := (.seq (.seq (.ops o79_9) b79_10) b79_11)
@[go_sem] theorem r79_8 : EvK T b79_8 K env H Q = EvK T (.seq (.seq (.ops o79_9) b79_10) b79_11) K env H Q := rfl
def l79_7 : C := .loop [] b79_8
theorem w79_7 {ι : Type} (i0 : ι) (Inv : ι → Env → Heap → Prop) (m : ι → Nat) (h0 : Inv i0 env H) (hs : ∀ i e h, Inv i e h → (∀ j e' h', m j < m i → Inv j e' h' → EvK T l79_7 K e' h' Q) → EvK T b79_8 (.loop [] b79_8 :: K) (forget [] e) h Q) : EvK T l79_7 K env H Q := EvK_while i0 Inv m h0 hs
def b79_6 : C := (.block 0 l79_7)
@[go_sem] theorem r79_6 : EvK T b79_6 K env H Q = EvK T (.block 0 l79_7) K env H Q := rfl
@[go_sem] def o79_17 : List IOper := [⟨(some 24), (.mov (.tmp 3)), none⟩, ⟨(some 2), (.mov (.tmp 24)), none⟩]
def b79_16 : C := (.seq (.ops o79_17) .ret)
@[go_sem] theorem r79_16 : EvK T b79_16 K env H Q = EvK T (.seq (.ops o79_17) .ret) K env H Q := rfl
def b79_4 : C := (.seq (.seq (.ops o79_5) b79_6) b79_16)
@[go_sem] theorem r79_4 : EvK T b79_4 K env H Q = EvK T (.seq (.seq (.ops o79_5) b79_6) b79_16) K env H Q := rfl
def b79_2 : C := (.seq (.ops o79_3) b79_4)
@[go_sem] theorem r79_2 : EvK T b79_2 K env H Q = EvK T (.seq (.ops o79_3) b79_4) K env H Q := rfl
def b79 : C := (.seq (.ops o79_1) b79_2)
@[go_sem] theorem r79 : EvK T b79 K env H Q = EvK T (.seq (.ops o79_1) b79_2) K env H Q := rfl
def c79 : IFun := ⟨25, b79, [(.tmp 2)]⟩
/-! 80 dynamometer/value.measure -/
@[go_sem] def o80_1 : List IOper := [⟨(some 1), (.box 27 (.tmp 0)), none⟩, ⟨(some 2), (.mov (.const (.int .i64 0))), none⟩, ⟨(some 3), (.mov (.const (.int .i64 0))), none⟩]
@[go_sem] def o80_3 : List IOper := [⟨(some 2), (.mov (.const (.int .i64 1))), none⟩]
@[go_sem] def o80_5 : List IOper := [⟨(some 8), (.faddr 6 (.tmp 1)), none⟩, ⟨(some 9), (.ld none (.tmp 8)), none⟩, ⟨(some 10), (.len false (.tmp 9)), none⟩, ⟨(some 11), (.mov (.const (.int .i64 0))), none⟩]
@[go_sem] def o80_9 : List IOper := [⟨(some 12), (.bin .lss (.tmp 11) (.tmp 10)), none⟩]
@[go_sem] def o80_13 : List IOper := [⟨(some 13), (.iaddr 8 (.tmp 9) (.tmp 11)), none⟩, ⟨(some 14), (.ld (some 8) (.tmp 13)), none⟩, ⟨(some 5), (.new 27 [(.int .i64 0), (.bool false), (.bool false), (.string ⟨⟨[]⟩⟩), (.int .i64 0), (.string ⟨⟨[]⟩⟩), (.slice none 0 0), (.slice none 0 0)]), none⟩, ⟨none, (.st 8 (.tmp 5) (.tmp 14)), none⟩]
@[go_sem] def o80_15 : List IOper := [⟨(some 16), (.ld (some 8) (.tmp 5)), none⟩, ⟨(some 17), (.call (.func 80) [(.tmp 16)]), none⟩, ⟨(some 15), (.mov (.tmp 17)), none⟩, ⟨(some 18), (.ext 0 (.tmp 15)), none⟩, ⟨(some 19), (.ext 1 (.tmp 15)), none⟩, ⟨(some 6), (.mov (.tmp 18)), none⟩, ⟨(some 7), (.mov (.tmp 19)), none⟩]
@[go_sem] def o80_17 : List IOper := [⟨(some 20), (.mov (.tmp 2)), none⟩, ⟨(some 21), (.mov (.tmp 6)), none⟩, ⟨(some 22), (.bin .add (.tmp 20) (.tmp 21)), none⟩, ⟨(some 2), (.mov (.tmp 22)), none⟩]
@[go_sem] def o80_19 : List IOper := [⟨(some 23), (.mov (.tmp 3)), none⟩, ⟨(some 24), (.mov (.tmp 7)), none⟩, ⟨(some 25), (.minmax true [(.tmp 23), (.tmp 24)]), none⟩, ⟨(some 3), (.mov (.tmp 25)), none⟩]
def b80_18 : C := (.ops o80_19)
@[go_sem] theorem r80_18 : EvK T b80_18 K env H Q = EvK T (.ops o80_19) K env H Q := rfl
def b80_16 : C := (.seq (.ops o80_17) b80_18)
@[go_sem] theorem r80_16 : EvK T b80_16 K env H Q = EvK T (.seq (.ops o80_17) b80_18) K env H Q := rfl
def b80_14 : C := (.seq (.ops o80_15) b80_16)
@[go_sem] theorem r80_14 : EvK T b80_14 K env H Q = EvK T (.seq (.ops o80_15) b80_16) K env H Q := rfl
def b80_12 : C := (.seq (.ops o80_13) b80_14)
@[go_sem] theorem r80_12 : EvK T b80_12 K env H Q = EvK T (.seq (.ops o80_13) b80_14) K env H Q := rfl
@[go_sem] def o80_21 : List IOper := [⟨(some 26), (.bin .add (.tmp 11) (.const (.int .i64 1))), none⟩, ⟨(some 11), (.mov (.tmp 26)), none⟩]
def b80_20 : C := (.ops o80_21)
@[go_sem] theorem r80_20 : EvK T b80_20 K env H Q = EvK T (.ops o80_21) K env H Q := rfl
def b80_11 : C := (.seq (.block 1 b80_12) b80_20)
@[go_sem] theorem r80_11 : EvK T b80_11 K env H Q = EvK T (.seq (.block 1 b80_12) b80_20) K env H Q := rfl
def b80_10 : C := (.seq (.cond (.tmp 12) .skip (.exit 0)) b80_11)
@[go_sem] theorem r80_10 : EvK T b80_10 K env H Q = EvK T (.seq (.cond (.tmp 12) .skip (.exit 0)) b80_11) K env H Q := rfl
def b80_8 : C := (.seq (.ops o80_9) b80_10)
@[go_sem] theorem r80_8 : EvK T b80_8 K env H Q = EvK T (.seq (.ops o80_9) b80_10) K env H Q := rfl
def l80_7 : C := .loop [] b80_8
theorem w80_7 {ι : Type} (i0 : ι) (Inv : ι → Env → Heap → Prop) (m : ι → Nat) (h0 : Inv i0 env H) (hs : ∀ i e h, Inv i e h → (∀ j e' h', m j < m i → Inv j e' h' → EvK T l80_7 K e' h' Q) → EvK T b80_8 (.loop [] b80_8 :: K) (forget [] e) h Q) : EvK T l80_7 K env H Q := EvK_while i0 Inv m h0 hs
def b80_6 : C := (.block 0 l80_7)
@[go_sem] theorem r80_6 : EvK T b80_6 K env H Q = EvK T (.block 0 l80_7) K env H Q := rfl
@[go_sem] def o80_23 : List IOper := [⟨(some 27), (.mov (.tmp 2)), none⟩, ⟨(some 28), (.mov (.tmp 3)), none⟩, ⟨(some 29), (.bin .add (.tmp 28) (.const (.int .i64 1))), none⟩, ⟨(some 2), (.mov (.tmp 27)), none⟩, ⟨(some 3), (.mov (.tmp 29)), none⟩]
def b80_22 : C := (.seq (.ops o80_23) .ret)
@[go_sem] theorem r80_22 : EvK T b80_22 K env H Q = EvK T (.seq (.ops o80_23) .ret) K env H Q := rfl
def b80_4 : C := (.seq (.seq (.ops o80_5) b80_6) b80_22)
@[go_sem] theorem r80_4 : EvK T b80_4 K env H Q = EvK T (.seq (.seq (.ops o80_5) b80_6) b80_22) K env H Q := rfl
def b80_2 : C := (.seq (.ops o80_3) b80_4)
@[go_sem] theorem r80_2 : EvK T b80_2 K env H Q = EvK T (.seq (.ops o80_3) b80_4) K env H Q := rfl
def b80 : C := (.seq (.ops o80_1) b80_2)
@[go_sem] theorem r80 : EvK T b80 K env H Q = EvK T (.seq (.ops o80_1) b80_2) K env H Q := rfl
def c80 : IFun := ⟨30, b80, [(.tmp 2), (.tmp 3)]⟩
/-! 82 (*dynamometer/value.reader).document -/
def c82 : IFun := ⟨78, (.seq (.ops [⟨(some 4), (.new 27 [(.int .i64 0), (.bool false), (.bool false), (.string ⟨⟨[]⟩⟩), (.int .i64 0), (.string ⟨⟨[]⟩⟩), (.slice none 0 0), (.slice none 0 0)]), none⟩]) (.seq (.ops [⟨(some 6), (.mov (.tmp 0)), none⟩, ⟨(some 7), (.call (.func 83) [(.tmp 6)]), none⟩]) (.seq (.ops [⟨(some 8), (.mov (.tmp 0)), none⟩, ⟨(some 9), (.call (.func 162) [(.tmp 8)]), none⟩, ⟨(some 5), (.mov (.tmp 9)), none⟩]) (.seq (.seq (.ops [⟨(some 10), (.mov (.tmp 5)), none⟩, ⟨(some 11), (.bin .eql (.tmp 10) (.const (.int .u8 0))), none⟩, ⟨(some 12), (.mov (.tmp 11)), none⟩, ⟨(some 13), (.mov (.tmp 5)), (some (12, false))⟩, ⟨(some 14), (.call (.func 163) [(.const (.string ⟨⟨[110, 116, 102, 34, 91, 123, 45, 48, 49, 50, 51, 52, 53, 54, 55, 56, 57]⟩⟩)), (.tmp 13)]), (some (12, false))⟩, ⟨(some 15), (.bin .lss (.tmp 14) (.const (.int .i64 0))), (some (12, false))⟩, ⟨(some 16), (.pick (.tmp 12) (.const (.bool true)) (.tmp 15)), none⟩]) (.cond (.tmp 16) (.ops [⟨(some 17), (.mov (.tmp 0)), none⟩, ⟨(some 18), (.mov (.tmp 0)), none⟩, ⟨(some 19), (.nilck (.tmp 18)), none⟩, ⟨(some 20), (.faddr 1 (.tmp 19)), none⟩, ⟨(some 21), (.ld none (.tmp 20)), none⟩, ⟨(some 22), (.call (.func 84) [(.tmp 17), (.tmp 21), (.const (.int .i64 6))]), none⟩]) .skip)) (.seq (.seq (.ops [⟨(some 23), (.mov (.tmp 1)), none⟩, ⟨(some 24), (.bin .geq (.tmp 23) (.const (.int .i64 60))), none⟩, ⟨(some 25), (.mov (.tmp 24)), none⟩, ⟨(some 26), (.mov (.tmp 0)), (some (25, false))⟩, ⟨(some 27), (.nilck (.tmp 26)), (some (25, false))⟩, ⟨(some 28), (.faddr 2 (.tmp 27)), (some (25, false))⟩, ⟨(some 29), (.ld none (.tmp 28)), (some (25, false))⟩, ⟨(some 30), (.bin .geq (.tmp 29) (.const (.int .i64 20000))), (some (25, false))⟩, ⟨(some 31), (.pick (.tmp 25) (.const (.bool true)) (.tmp 30)), none⟩]) (.cond (.tmp 31) (.ops [⟨(some 32), (.mov (.tmp 0)), none⟩, ⟨(some 33), (.mov (.tmp 0)), none⟩, ⟨(some 34), (.nilck (.tmp 33)), none⟩, ⟨(some 35), (.faddr 1 (.tmp 34)), none⟩, ⟨(some 36), (.ld none (.tmp 35)), none⟩, ⟨(some 37), (.call (.func 84) [(.tmp 32), (.tmp 36), (.const (.int .i64 3))]), none⟩]) .skip)) (.seq (.ops [⟨(some 38), (.mov (.tmp 0)), none⟩, ⟨(some 39), (.nilck (.tmp 38)), none⟩, ⟨(some 40), (.faddr 2 (.tmp 39)), none⟩, ⟨(some 41), (.ld none (.tmp 40)), none⟩, ⟨(some 42), (.bin .add (.tmp 41) (.const (.int .i64 1))), none⟩, ⟨(some 43), (.nilck (.tmp 38)), none⟩, ⟨(some 44), (.faddr 2 (.tmp 43)), none⟩, ⟨none, (.st 1 (.tmp 44) (.tmp 42)), none⟩]) (.seq (.seq (.ops [⟨(some 45), (.mov (.tmp 5)), none⟩]) (.block 0 (.seq (.ops [⟨(some 47), (.bin .eql (.tmp 45) (.const (.int .u8 110))), none⟩, ⟨(some 46), (.mov (.tmp 47)), none⟩]) (.cond (.tmp 46) (.seq (.ops [⟨(some 48), (.mov (.tmp 0)), none⟩, ⟨(some 49), (.build [(.int .i64 0), (.bool false), (.bool false), (.string ⟨⟨[]⟩⟩), (.int .i64 0), (.string ⟨⟨[]⟩⟩), (.slice none 0 0), (.slice none 0 0)] [(0, (1, (.const (.int .i64 1))))]), none⟩, ⟨(some 50), (.call (.func 164) [(.tmp 48), (.const (.string ⟨⟨[110, 117, 108, 108]⟩⟩)), (.tmp 49)]), none⟩, ⟨none, (.st 8 (.tmp 4) (.tmp 50)), none⟩]) .ret) (.seq (.ops [⟨(some 52), (.bin .eql (.tmp 45) (.const (.int .u8 116))), none⟩, ⟨(some 51), (.mov (.tmp 52)), none⟩]) (.cond (.tmp 51) (.seq (.ops [⟨(some 53), (.mov (.tmp 0)), none⟩, ⟨(some 54), (.build [(.int .i64 0), (.bool false), (.bool false), (.string ⟨⟨[]⟩⟩), (.int .i64 0), (.string ⟨⟨[]⟩⟩), (.slice none 0 0), (.slice none 0 0)] [(0, (1, (.const (.int .i64 2)))), (1, (1, (.const (.bool true))))]), none⟩, ⟨(some 55), (.call (.func 164) [(.tmp 53), (.const (.string ⟨⟨[116, 114, 117, 101]⟩⟩)), (.tmp 54)]), none⟩, ⟨none, (.st 8 (.tmp 4) (.tmp 55)), none⟩]) .ret) (.seq (.ops [⟨(some 57), (.bin .eql (.tmp 45) (.const (.int .u8 102))), none⟩, ⟨(some 56), (.mov (.tmp 57)), none⟩]) (.cond (.tmp 56) (.seq (.ops [⟨(some 58), (.mov (.tmp 0)), none⟩, ⟨(some 59), (.build [(.int .i64 0), (.bool false), (.bool false), (.string ⟨⟨[]⟩⟩), (.int .i64 0), (.string ⟨⟨[]⟩⟩), (.slice none 0 0), (.slice none 0 0)] [(0, (1, (.const (.int .i64 2))))]), none⟩, ⟨(some 60), (.call (.func 164) [(.tmp 58), (.const (.string ⟨⟨[102, 97, 108, 115, 101]⟩⟩)), (.tmp 59)]), none⟩, ⟨none, (.st 8 (.tmp 4) (.tmp 60)), none⟩]) .ret) (.seq (.ops [⟨(some 62), (.bin .eql (.tmp 45) (.const (.int .u8 34))), none⟩, ⟨(some 61), (.mov (.tmp 62)), none⟩]) (.cond (.tmp 61) (.seq (.ops [⟨(some 63), (.mov (.tmp 0)), none⟩, ⟨(some 64), (.call (.func 165) [(.tmp 63)]), none⟩, ⟨(some 65), (.build [(.int .i64 0), (.bool false), (.bool false), (.string ⟨⟨[]⟩⟩), (.int .i64 0), (.string ⟨⟨[]⟩⟩), (.slice none 0 0), (.slice none 0 0)] [(0, (1, (.const (.int .i64 4)))), (5, (1, (.tmp 64)))]), none⟩, ⟨none, (.st 8 (.tmp 4) (.tmp 65)), none⟩]) .ret) (.seq (.ops [⟨(some 67), (.bin .eql (.tmp 45) (.const (.int .u8 91))), none⟩, ⟨(some 66), (.mov (.tmp 67)), none⟩]) (.cond (.tmp 66) (.seq (.ops [⟨(some 68), (.mov (.tmp 0)), none⟩, ⟨(some 69), (.mov (.tmp 1)), none⟩, ⟨(some 70), (.call (.func 166) [(.tmp 68), (.tmp 69)]), none⟩, ⟨none, (.st 8 (.tmp 4) (.tmp 70)), none⟩]) .ret) (.seq (.ops [⟨(some 72), (.bin .eql (.tmp 45) (.const (.int .u8 123))), none⟩, ⟨(some 71), (.mov (.tmp 72)), none⟩]) (.cond (.tmp 71) (.seq (.ops [⟨(some 73), (.mov (.tmp 0)), none⟩, ⟨(some 74), (.mov (.tmp 1)), none⟩, ⟨(some 75), (.call (.func 167) [(.tmp 73), (.tmp 74)]), none⟩, ⟨none, (.st 8 (.tmp 4) (.tmp 75)), none⟩]) .ret) .skip)))))))))))))) (.seq (.ops [⟨(some 76), (.mov (.tmp 0)), none⟩, ⟨(some 77), (.call (.func 168) [(.tmp 76)]), none⟩, ⟨none, (.st 8 (.tmp 4) (.tmp 77)), none⟩]) .ret)))))))), [(.cell 4 (some 8))]⟩
/-! 83 (*dynamometer/value.reader).blanks -/
def c83 : IFun := ⟨32, (.block 0 (.loop [] (.seq (.seq (.dops [⟨⟨(some 2), (.mov (.tmp 0)), none⟩, false, []⟩, ⟨⟨(some 3), (.nilck (.tmp 2)), none⟩, false, []⟩, ⟨⟨(some 4), (.faddr 1 (.tmp 3)), none⟩, false, []⟩, ⟨⟨(some 5), (.ld none (.tmp 4)), none⟩, false, []⟩, ⟨⟨(some 6), (.mov (.tmp 0)), none⟩, false, []⟩, ⟨⟨(some 7), (.nilck (.tmp 6)), none⟩, false, []⟩, ⟨⟨(some 8), (.faddr 0 (.tmp 7)), none⟩, false, []⟩, ⟨⟨(some 9), (.ld none (.tmp 8)), none⟩, false, []⟩, ⟨⟨(some 10), (.len true (.tmp 9)), none⟩, false, []⟩, ⟨⟨(some 11), (.bin .lss (.tmp 5) (.tmp 10)), none⟩, false, []⟩, ⟨⟨(some 12), (.mov (.tmp 11)), none⟩, false, []⟩, ⟨⟨(some 13), (.mov (.tmp 0)), (some (12, true))⟩, false, []⟩, ⟨⟨(some 14), (.nilck (.tmp 13)), (some (12, true))⟩, false, []⟩, ⟨⟨(some 15), (.faddr 0 (.tmp 14)), (some (12, true))⟩, false, []⟩, ⟨⟨(some 16), (.ld none (.tmp 15)), (some (12, true))⟩, false, []⟩, ⟨⟨(some 17), (.mov (.tmp 0)), (some (12, true))⟩, false, []⟩, ⟨⟨(some 18), (.nilck (.tmp 17)), (some (12, true))⟩, false, []⟩, ⟨⟨(some 19), (.faddr 1 (.tmp 18)), (some (12, true))⟩, false, []⟩, ⟨⟨(some 20), (.ld none (.tmp 19)), (some (12, true))⟩, false, []⟩, ⟨⟨(some 21), (.ixstr (.tmp 16) (.tmp 20)), (some (12, true))⟩, false, []⟩, ⟨⟨(some 22), (.call (.func 163) [(.const (.string ⟨⟨[9, 10, 13, 32]⟩⟩)), (.tmp 21)]), (some (12, true))⟩, true, []⟩, ⟨⟨(some 23), (.bin .geq (.tmp 22) (.const (.int .i64 0))), (some (12, true))⟩, false, []⟩, ⟨⟨(some 24), (.pick (.tmp 12) (.tmp 23) (.const (.bool false))), none⟩, false, []⟩]) (.cond (.tmp 24) .skip (.exit 0))) (.block 1 (.ops [⟨(some 25), (.mov (.tmp 0)), none⟩, ⟨(some 26), (.nilck (.tmp 25)), none⟩, ⟨(some 27), (.faddr 1 (.tmp 26)), none⟩, ⟨(some 28), (.ld none (.tmp 27)), none⟩, ⟨(some 29), (.bin .add (.tmp 28) (.const (.int .i64 1))), none⟩, ⟨(some 30), (.nilck (.tmp 25)), none⟩, ⟨(some 31), (.faddr 1 (.tmp 30)), none⟩, ⟨none, (.st 1 (.tmp 31) (.tmp 29)), none⟩]))))), []⟩
/-! 84 (*dynamometer/value.reader).fail -/
def c84 : IFun := ⟨10, (.ops [⟨(some 6), (.mov (.tmp 1)), none⟩, ⟨(some 7), (.mov (.tmp 2)), none⟩, ⟨(some 8), (.build [(.int .i64 0), (.int .i64 0)] [(0, (1, (.tmp 6))), (1, (1, (.tmp 7)))]), none⟩, ⟨(some 9), (.mkif 98 (.tmp 8)), none⟩, ⟨none, (.pan (.tmp 9)), none⟩]), []⟩
/-! 85 dynamometer/value.Copy -/
def c85 : IFun := ⟨46, (.seq (.ops [⟨(some 1), (.box 27 (.tmp 0)), none⟩, ⟨(some 2), (.new 27 [(.int .i64 0), (.bool false), (.bool false), (.string ⟨⟨[]⟩⟩), (.int .i64 0), (.string ⟨⟨[]⟩⟩), (.slice none 0 0), (.slice none 0 0)]), none⟩]) (.seq (.ops [⟨(some 6), (.ld (some 8) (.tmp 1)), none⟩, ⟨(some 3), (.new 27 [(.int .i64 0), (.bool false), (.bool false), (.string ⟨⟨[]⟩⟩), (.int .i64 0), (.string ⟨⟨[]⟩⟩), (.slice none 0 0), (.slice none 0 0)]), none⟩, ⟨none, (.st 8 (.tmp 3) (.tmp 6)), none⟩]) (.seq (.ops [⟨(some 7), (.faddr 6 (.tmp 3)), none⟩, ⟨none, (.st 1 (.tmp 7) (.const (.slice none 0 0))), none⟩, ⟨(some 8), (.faddr 7 (.tmp 3)), none⟩, ⟨none, (.st 1 (.tmp 8) (.const (.slice none 0 0))), none⟩]) (.seq (.seq (.ops [⟨(some 9), (.faddr 6 (.tmp 1)), none⟩, ⟨(some 10), (.ld none (.tmp 9)), none⟩, ⟨(some 11), (.len false (.tmp 10)), none⟩, ⟨(some 12), (.bin .gtr (.tmp 11) (.const (.int .i64 0))), none⟩]) (.cond (.tmp 12) (.seq (.ops [⟨(some 13), (.faddr 6 (.tmp 1)), none⟩, ⟨(some 14), (.ld none (.tmp 13)), none⟩, ⟨(some 15), (.len false (.tmp 14)), none⟩, ⟨(some 16), (.mksl [(.int .i64 0), (.bool false), (.bool false), (.string ⟨⟨[]⟩⟩), (.int .i64 0), (.string ⟨⟨[]⟩⟩), (.slice none 0 0), (.slice none 0 0)] 112 (.const (.int .i64 0)) (.tmp 15)), none⟩, ⟨(some 17), (.faddr 6 (.tmp 3)), none⟩, ⟨none, (.st 1 (.tmp 17) (.tmp 16)), none⟩]) (.seq (.ops [⟨(some 18), (.faddr 6 (.tmp 1)), none⟩, ⟨(some 19), (.ld none (.tmp 18)), none⟩, ⟨(some 20), (.len false (.tmp 19)), none⟩, ⟨(some 21), (.mov (.const (.int .i64 0))), none⟩]) (.block 0 (.loop [] (.seq (.ops [⟨(some 22), (.bin .lss (.tmp 21) (.tmp 20)), none⟩]) (.seq (.cond (.tmp 22) .skip (.exit 0)) (.seq (.block 1 (.seq (.ops [⟨(some 23), (.iaddr 8 (.tmp 19) (.tmp 21)), none⟩, ⟨(some 24), (.ld (some 8) (.tmp 23)), none⟩, ⟨(some 5), (.new 27 [(.int .i64 0), (.bool false), (.bool false), (.string ⟨⟨[]⟩⟩), (.int .i64 0), (.string ⟨⟨[]⟩⟩), (.slice none 0 0), (.slice none 0 0)]), none⟩, ⟨none, (.st 8 (.tmp 5) (.tmp 24)), none⟩]) (.dops [⟨⟨(some 25), (.faddr 6 (.tmp 3)), none⟩, false, []⟩, ⟨⟨(some 26), (.ld none (.tmp 25)), none⟩, false, [5]⟩, ⟨⟨(some 27), (.ld (some 8) (.tmp 5)), none⟩, false, []⟩, ⟨⟨(some 28), (.call (.func 85) [(.tmp 27)]), none⟩, true, []⟩, ⟨⟨(some 29), (.gsl 1 [(.int .i64 0), (.bool false), (.bool false), (.string ⟨⟨[]⟩⟩), (.int .i64 0), (.string ⟨⟨[]⟩⟩), (.slice none 0 0), (.slice none 0 0)] [(0, (8, (.tmp 28)))]), none⟩, false, []⟩, ⟨⟨(some 30), (.append 27 8 112 (.tmp 26) (.tmp 29)), none⟩, true, []⟩, ⟨⟨(some 31), (.faddr 6 (.tmp 3)), none⟩, false, []⟩, ⟨⟨none, (.st 1 (.tmp 31) (.tmp 30)), none⟩, true, []⟩]))) (.ops [⟨(some 32), (.bin .add (.tmp 21) (.const (.int .i64 1))), none⟩, ⟨(some 21), (.mov (.tmp 32)), none⟩])))))))) .skip)) (.seq (.seq (.ops [⟨(some 33), (.faddr 7 (.tmp 1)), none⟩, ⟨(some 34), (.ld none (.tmp 33)), none⟩, ⟨(some 35), (.len false (.tmp 34)), none⟩, ⟨(some 36), (.bin .gtr (.tmp 35) (.const (.int .i64 0))), none⟩]) (.cond (.tmp 36) (.dops [⟨⟨(some 37), (.faddr 7 (.tmp 1)), none⟩, false, []⟩, ⟨⟨(some 38), (.ld none (.tmp 37)), none⟩, false, []⟩, ⟨⟨(some 39), (.len false (.tmp 38)), none⟩, false, []⟩, ⟨⟨(some 40), (.mksl [(.string ⟨⟨[]⟩⟩)] 16 (.const (.int .i64 0)) (.tmp 39)), none⟩, true, []⟩, ⟨⟨(some 41), (.faddr 7 (.tmp 1)), none⟩, false, []⟩, ⟨⟨(some 42), (.ld none (.tmp 41)), none⟩, false, [3]⟩, ⟨⟨(some 43), (.append 9 1 16 (.tmp 40) (.tmp 42)), none⟩, true, []⟩, ⟨⟨(some 44), (.faddr 7 (.tmp 3)), none⟩, false, []⟩, ⟨⟨none, (.st 1 (.tmp 44) (.tmp 43)), none⟩, true, []⟩]) .skip)) (.seq (.ops [⟨(some 45), (.ld (some 8) (.tmp 3)), none⟩, ⟨none, (.st 8 (.tmp 2) (.tmp 45)), none⟩]) .ret)))))), [(.cell 2 (some 8))]⟩
/-! 92 dynamometer/value.printed -/
def c92 : IFun := ⟨28, (.seq (.ops [⟨(some 2), (.box 27 (.tmp 0)), none⟩, ⟨(some 4), (.mov (.const (.string ⟨⟨[]⟩⟩))), none⟩, ⟨(some 5), (.mov (.const (.int .i64 0))), none⟩]) (.seq (.seq (.ops [⟨(some 8), (.ld (some 8) (.tmp 2)), none⟩, ⟨(some 9), (.call (.func 20) [(.tmp 8)]), none⟩, ⟨(some 6), (.mov (.tmp 9)), none⟩]) (.seq (.ops [⟨(some 10), (.mov (.tmp 6)), none⟩, ⟨(some 11), (.bin .neq (.tmp 10) (.const (.int .i64 0))), none⟩]) (.cond (.tmp 11) (.seq (.ops [⟨(some 12), (.mov (.tmp 6)), none⟩, ⟨(some 4), (.mov (.const (.string ⟨⟨[]⟩⟩))), none⟩, ⟨(some 5), (.mov (.tmp 12)), none⟩]) .ret) .skip))) (.seq (.ops [⟨(some 13), (.mov (.tmp 1)), none⟩, ⟨(some 14), (.build [(.pointer none), (.slice none 0 0), (.bool false)] [(2, (1, (.tmp 13)))]), none⟩, ⟨(some 15), (.box 195 (.tmp 14)), none⟩, ⟨(some 7), (.mov (.tmp 15)), none⟩]) (.seq (.ops [⟨(some 16), (.mov (.tmp 7)), none⟩, ⟨(some 17), (.ld (some 8) (.tmp 2)), none⟩, ⟨(some 18), (.call (.func 177) [(.tmp 16), (.tmp 17), (.const (.int .i64 0))]), none⟩]) (.seq (.seq (.ops [⟨(some 19), (.mov (.tmp 7)), none⟩, ⟨(some 20), (.nilck (.tmp 19)), none⟩, ⟨(some 21), (.faddr 0 (.tmp 20)), none⟩, ⟨(some 22), (.call (.func 178) [(.tmp 21)]), none⟩, ⟨(some 23), (.bin .gtr (.tmp 22) (.const (.int .i64 1000000))), none⟩]) (.cond (.tmp 23) (.seq (.ops [⟨(some 4), (.mov (.const (.string ⟨⟨[]⟩⟩))), none⟩, ⟨(some 5), (.mov (.const (.int .i64 3))), none⟩]) .ret) .skip)) (.seq (.ops [⟨(some 24), (.mov (.tmp 7)), none⟩, ⟨(some 25), (.nilck (.tmp 24)), none⟩, ⟨(some 26), (.faddr 0 (.tmp 25)), none⟩, ⟨(some 27), (.call (.func 179) [(.tmp 26)]), none⟩, ⟨(some 4), (.mov (.tmp 27)), none⟩, ⟨(some 5), (.mov (.const (.int .i64 0))), none⟩]) .ret)))))), [(.tmp 4), (.tmp 5)]⟩
/-! 94 dynamometer/value.checkBoth -/
@[go_sem] def o94_1 : List IOper := [⟨(some 2), (.box 27 (.tmp 0)), none⟩, ⟨(some 3), (.box 27 (.tmp 1)), none⟩, ⟨(some 4), (.mov (.const (.int .i64 0))), none⟩]
@[go_sem] def o94_3 : List IOper := [⟨(some 6), (.ld (some 8) (.tmp 2)), none⟩, ⟨(some 7), (.call (.func 20) [(.tmp 6)]), none⟩, ⟨(some 5), (.mov (.tmp 7)), none⟩]
@[go_sem] def o94_5 : List IOper := [⟨(some 8), (.mov (.tmp 5)), none⟩, ⟨(some 9), (.bin .neq (.tmp 8) (.const (.int .i64 0))), none⟩]
@[go_sem] def o94_8 : List IOper := [⟨(some 10), (.mov (.tmp 5)), none⟩, ⟨(some 4), (.mov (.tmp 10)), none⟩]
def b94_7 : C := (.seq (.ops o94_8) .ret)
@[go_sem] theorem r94_7 : EvK T b94_7 K env H Q = EvK T (.seq (.ops o94_8) .ret) K env H Q := rfl
def b94_6 : C := (.cond (.tmp 9) b94_7 .skip)
@[go_sem] theorem r94_6 : EvK T b94_6 K env H Q = EvK T (.cond (.tmp 9) b94_7 .skip) K env H Q := rfl
def b94_4 : C := (.seq (.ops o94_5) b94_6)
@[go_sem] theorem r94_4 : EvK T b94_4 K env H Q = EvK T (.seq (.ops o94_5) b94_6) K env H Q := rfl
@[go_sem] def o94_10 : List IOper := [⟨(some 11), (.ld (some 8) (.tmp 3)), none⟩, ⟨(some 12), (.call (.func 20) [(.tmp 11)]), none⟩, ⟨(some 4), (.mov (.tmp 12)), none⟩]
def b94_9 : C := (.seq (.ops o94_10) .ret)
@[go_sem] theorem r94_9 : EvK T b94_9 K env H Q = EvK T (.seq (.ops o94_10) .ret) K env H Q := rfl
def b94_2 : C := (.seq (.seq (.ops o94_3) b94_4) b94_9)
@[go_sem] theorem r94_2 : EvK T b94_2 K env H Q = EvK T (.seq (.seq (.ops o94_3) b94_4) b94_9) K env H Q := rfl
def b94 : C := (.seq (.ops o94_1) b94_2)
@[go_sem] theorem r94 : EvK T b94 K env H Q = EvK T (.seq (.ops o94_1) b94_2) K env H Q := rfl
def c94 : IFun := ⟨13, b94, [(.tmp 4)]⟩
/-! 95 dynamometer/value.Order -/
@[go_sem] def o95_1 : List IOper := [⟨(some 2), (.box 27 (.tmp 0)), none⟩, ⟨(some 3), (.box 27 (.tmp 1)), none⟩, ⟨(some 4), (.mov (.const (.int .i64 0))), none⟩]
@[go_sem] def o95_3 : List IOper := [⟨(some 5), (.faddr 0 (.tmp 2)), none⟩, ⟨(some 6), (.ld none (.tmp 5)), none⟩, ⟨(some 7), (.faddr 0 (.tmp 3)), none⟩, ⟨(some 8), (.ld none (.tmp 7)), none⟩, ⟨(some 9), (.bin .neq (.tmp 6) (.tmp 8)), none⟩]
@[go_sem] def o95_6 : List IOper := [⟨(some 10), (.faddr 0 (.tmp 2)), none⟩, ⟨(some 11), (.ld none (.tmp 10)), none⟩, ⟨(some 12), (.faddr 0 (.tmp 3)), none⟩, ⟨(some 13), (.ld none (.tmp 12)), none⟩, ⟨(some 14), (.bin .sub (.tmp 11) (.tmp 13)), none⟩, ⟨(some 15), (.call (.func 181) [(.tmp 14)]), none⟩, ⟨(some 4), (.mov (.tmp 15)), none⟩]
def b95_5 : C := (.seq (.ops o95_6) .ret)
@[go_sem] theorem r95_5 : EvK T b95_5 K env H Q = EvK T (.seq (.ops o95_6) .ret) K env H Q := rfl
def b95_4 : C := (.cond (.tmp 9) b95_5 .skip)
@[go_sem] theorem r95_4 : EvK T b95_4 K env H Q = EvK T (.cond (.tmp 9) b95_5 .skip) K env H Q := rfl
@[go_sem] def o95_8 : List IOper := [⟨(some 16), (.faddr 0 (.tmp 2)), none⟩, ⟨(some 17), (.ld none (.tmp 16)), none⟩]
@[go_sem] def o95_11 : List IOper := [⟨(some 19), (.bin .eql (.tmp 17) (.const (.int .i64 2))), none⟩, ⟨(some 18), (.mov (.tmp 19)), none⟩]
@[go_sem] def o95_14 : List IOper := [⟨(some 20), (.faddr 1 (.tmp 2)), none⟩, ⟨(some 21), (.ld none (.tmp 20)), none⟩, ⟨(some 22), (.faddr 1 (.tmp 3)), none⟩, ⟨(some 23), (.ld none (.tmp 22)), none⟩, ⟨(some 24), (.call (.func 182) [(.tmp 21), (.tmp 23)]), none⟩, ⟨(some 4), (.mov (.tmp 24)), none⟩]
def b95_13 : C := (.seq (.ops o95_14) .ret)
@[go_sem] theorem r95_13 : EvK T b95_13 K env H Q = EvK T (.seq (.ops o95_14) .ret) K env H Q := rfl
@[go_sem] def o95_16 : List IOper := [⟨(some 26), (.bin .eql (.tmp 17) (.const (.int .i64 3))), none⟩, ⟨(some 25), (.mov (.tmp 26)), none⟩]
@[go_sem] def o95_19 : List IOper := [⟨(some 27), (.faddr 2 (.tmp 2)), none⟩, ⟨(some 28), (.ld (some 3) (.tmp 27)), none⟩, ⟨(some 29), (.faddr 2 (.tmp 3)), none⟩, ⟨(some 30), (.ld (some 3) (.tmp 29)), none⟩, ⟨(some 31), (.call (.func 103) [(.tmp 28), (.tmp 30)]), none⟩, ⟨(some 4), (.mov (.tmp 31)), none⟩]
def b95_18 : C := (.seq (.ops o95_19) .ret)
@[go_sem] theorem r95_18 : EvK T b95_18 K env H Q = EvK T (.seq (.ops o95_19) .ret) K env H Q := rfl
@[go_sem] def o95_21 : List IOper := [⟨(some 33), (.bin .eql (.tmp 17) (.const (.int .i64 4))), none⟩, ⟨(some 32), (.mov (.tmp 33)), none⟩]
@[go_sem] def o95_24 : List IOper := [⟨(some 34), (.faddr 5 (.tmp 2)), none⟩, ⟨(some 35), (.ld none (.tmp 34)), none⟩, ⟨(some 36), (.faddr 5 (.tmp 3)), none⟩, ⟨(some 37), (.ld none (.tmp 36)), none⟩, ⟨(some 38), (.call (.func 183) [(.tmp 35), (.tmp 37)]), none⟩, ⟨(some 4), (.mov (.tmp 38)), none⟩]
def b95_23 : C := (.seq (.ops o95_24) .ret)
@[go_sem] theorem r95_23 : EvK T b95_23 K env H Q = EvK T (.seq (.ops o95_24) .ret) K env H Q := rfl
@[go_sem] def o95_26 : List IOper := [⟨(some 40), (.bin .eql (.tmp 17) (.const (.int .i64 5))), none⟩, ⟨(some 39), (.mov (.tmp 40)), none⟩]
@[go_sem] def o95_29 : List IOper := [⟨(some 41), (.bin .eql (.tmp 17) (.const (.int .i64 6))), none⟩, ⟨(some 39), (.mov (.tmp 41)), none⟩]
def b95_28 : C := (.ops o95_29)
@[go_sem] theorem r95_28 : EvK T b95_28 K env H Q = EvK T (.ops o95_29) K env H Q := rfl
def b95_27 : C := (.cond (.tmp 39) .skip b95_28)
@[go_sem] theorem r95_27 : EvK T b95_27 K env H Q = EvK T (.cond (.tmp 39) .skip b95_28) K env H Q := rfl
@[go_sem] def o95_32 : List IOper := [⟨(some 42), (.ld (some 8) (.tmp 2)), none⟩, ⟨(some 43), (.ld (some 8) (.tmp 3)), none⟩, ⟨(some 44), (.call (.func 184) [(.tmp 42), (.tmp 43)]), none⟩, ⟨(some 4), (.mov (.tmp 44)), none⟩]
def b95_31 : C := (.seq (.ops o95_32) .ret)
@[go_sem] theorem r95_31 : EvK T b95_31 K env H Q = EvK T (.seq (.ops o95_32) .ret) K env H Q := rfl
def b95_30 : C := (.cond (.tmp 39) b95_31 .skip)
@[go_sem] theorem r95_30 : EvK T b95_30 K env H Q = EvK T (.cond (.tmp 39) b95_31 .skip) K env H Q := rfl
def b95_25 : C := (.seq (.seq (.ops o95_26) b95_27) b95_30)
@[go_sem] theorem r95_25 : EvK T b95_25 K env H Q = EvK T (.seq (.seq (.ops o95_26) b95_27) b95_30) K env H Q := rfl
def b95_22 : C := (.cond (.tmp 32) b95_23 b95_25)
@[go_sem] theorem r95_22 : EvK T b95_22 K env H Q = EvK T (.cond (.tmp 32) b95_23 b95_25) K env H Q := rfl
def b95_20 : C := (.seq (.ops o95_21) b95_22)
@[go_sem] theorem r95_20 : EvK T b95_20 K env H Q = EvK T (.seq (.ops o95_21) b95_22) K env H Q := rfl
def b95_17 : C := (.cond (.tmp 25) b95_18 b95_20)
@[go_sem] theorem r95_17 : EvK T b95_17 K env H Q = EvK T (.cond (.tmp 25) b95_18 b95_20) K env H Q := rfl
def b95_15 : C := (.seq (.ops o95_16) b95_17)
@[go_sem] theorem r95_15 : EvK T b95_15 K env H Q = EvK T (.seq (.ops o95_16) b95_17) K env H Q := rfl
def b95_12 : C := (.cond (.tmp 18) b95_13 b95_15)
@[go_sem] theorem r95_12 : EvK T b95_12 K env H Q = EvK T (.cond (.tmp 18) b95_13 b95_15) K env H Q := rfl
def b95_10 : C := (.seq (.ops o95_11) b95_12)
@[go_sem] theorem r95_10 : EvK T b95_10 K env H Q = EvK T (.seq (.ops o95_11) b95_12) K env H Q := rfl
def b95_9 : C := (.block 0 b95_10)
@[go_sem] theorem r95_9 : EvK T b95_9 K env H Q = EvK T (.block 0 b95_10) K env H Q := rfl
@[go_sem] def o95_34 : List IOper := [⟨(some 4), (.mov (.const (.int .i64 0))), none⟩]
def b95_33 : C := (.seq (.ops o95_34) .ret)
@[go_sem] theorem r95_33 : EvK T b95_33 K env H Q = EvK T (.seq (.ops o95_34) .ret) K env H Q := rfl
def b95_7 : C := (.seq (.seq (.ops o95_8) b95_9) b95_33)
@[go_sem] theorem r95_7 : EvK T b95_7 K env H Q = EvK T (.seq (.seq (.ops o95_8) b95_9) b95_33) K env H Q := rfl
def b95_2 : C := (.seq (.seq (.ops o95_3) b95_4) b95_7)
@[go_sem] theorem r95_2 : EvK T b95_2 K env H Q = EvK T (.seq (.seq (.ops o95_3) b95_4) b95_7) K env H Q := rfl
def b95 : C := (.seq (.ops o95_1) b95_2)
@[go_sem] theorem r95 : EvK T b95 K env H Q = EvK T (.seq (.ops o95_1) b95_2) K env H Q := rfl
def c95 : IFun := ⟨45, b95, [(.tmp 4)]⟩
/-! 96 dynamometer/dynamometerref1.pair -/
@[go_sem] def o96_1 : List IOper := [⟨(some 2), (.box 27 (.tmp 0)), none⟩, ⟨(some 3), (.box 27 (.tmp 1)), none⟩, ⟨(some 4), (.mov (.const (.int .i64 0))), none⟩]
@[go_sem] def o96_3 : List IOper := [⟨(some 6), (.ld (some 8) (.tmp 2)), none⟩, ⟨(some 7), (.call (.func 21) [(.tmp 6)]), none⟩, ⟨(some 5), (.mov (.tmp 7)), none⟩]
@[go_sem] def o96_5 : List IOper := [⟨(some 8), (.mov (.tmp 5)), none⟩, ⟨(some 9), (.bin .neq (.tmp 8) (.const (.int .i64 0))), none⟩]
@[go_sem] def o96_8 : List IOper := [⟨(some 10), (.mov (.tmp 5)), none⟩, ⟨(some 4), (.mov (.tmp 10)), none⟩]
def b96_7 : C := (.seq (.ops o96_8) .ret)
@[go_sem] theorem r96_7 : EvK T b96_7 K env H Q = EvK T (.seq (.ops o96_8) .ret) K env H Q := rfl
def b96_6 : C := (.cond (.tmp 9) b96_7 .skip)
@[go_sem] theorem r96_6 : EvK T b96_6 K env H Q = EvK T (.cond (.tmp 9) b96_7 .skip) K env H Q := rfl
def b96_4 : C := (.seq (.ops o96_5) b96_6)
@[go_sem] theorem r96_4 : EvK T b96_4 K env H Q = EvK T (.seq (.ops o96_5) b96_6) K env H Q := rfl
@[go_sem] def o96_10 : List IOper := [⟨(some 11), (.ld (some 8) (.tmp 3)), none⟩, ⟨(some 12), (.call (.func 21) [(.tmp 11)]), none⟩, ⟨(some 4), (.mov (.tmp 12)), none⟩]
def b96_9 : C := (.seq (.ops o96_10) .ret)
@[go_sem] theorem r96_9 : EvK T b96_9 K env H Q = EvK T (.seq (.ops o96_10) .ret) K env H Q := rfl
def b96_2 : C := (.seq (.seq (.ops o96_3) b96_4) b96_9)
@[go_sem] theorem r96_2 : EvK T b96_2 K env H Q = EvK T (.seq (.seq (.ops o96_3) b96_4) b96_9) K env H Q := rfl
def b96 : C := (.seq (.ops o96_1) b96_2)
@[go_sem] theorem r96 : EvK T b96 K env H Q = EvK T (.seq (.ops o96_1) b96_2) K env H Q := rfl
def c96 : IFun := ⟨13, b96, [(.tmp 4)]⟩
/-! 97 dynamometer/dynamometerref1.Order -/
@[go_sem] def o97_1 : List IOper := [⟨(some 2), (.box 27 (.tmp 0)), none⟩, ⟨(some 3), (.box 27 (.tmp 1)), none⟩, ⟨(some 4), (.mov (.const (.int .i64 0))), none⟩]
@[go_sem] def o97_3 : List DOper := [⟨⟨(some 7), (.ld (some 8) (.tmp 2)), none⟩, false, []⟩, ⟨⟨(some 8), (.call (.func 185) [(.tmp 7)]), none⟩, true, []⟩, ⟨⟨(some 9), (.ld (some 8) (.tmp 3)), none⟩, false, [1]⟩, ⟨⟨(some 10), (.call (.func 185) [(.tmp 9)]), none⟩, true, []⟩, ⟨⟨(some 11), (.bin .neq (.tmp 8) (.tmp 10)), none⟩, false, []⟩]
@[go_sem] def o97_6 : List DOper := [⟨⟨(some 12), (.ld (some 8) (.tmp 2)), none⟩, false, []⟩, ⟨⟨(some 13), (.call (.func 185) [(.tmp 12)]), none⟩, true, []⟩, ⟨⟨(some 14), (.ld (some 8) (.tmp 3)), none⟩, false, [1]⟩, ⟨⟨(some 15), (.call (.func 185) [(.tmp 14)]), none⟩, true, []⟩, ⟨⟨(some 16), (.bin .lss (.tmp 13) (.tmp 15)), none⟩, false, []⟩]
@[go_sem] def o97_9 : List IOper := [⟨(some 4), (.mov (.const (.int .i64 (-1)))), none⟩]
def b97_8 : C := (.seq (.ops o97_9) .ret)
@[go_sem] theorem r97_8 : EvK T b97_8 K env H Q = EvK T (.seq (.ops o97_9) .ret) K env H Q := rfl
def b97_7 : C := (.cond (.tmp 16) b97_8 .skip)
@[go_sem] theorem r97_7 : EvK T b97_7 K env H Q = EvK T (.cond (.tmp 16) b97_8 .skip) K env H Q := rfl
@[go_sem] def o97_11 : List IOper := [⟨(some 4), (.mov (.const (.int .i64 1))), none⟩]
def b97_10 : C := (.seq (.ops o97_11) .ret)
@[go_sem] theorem r97_10 : EvK T b97_10 K env H Q = EvK T (.seq (.ops o97_11) .ret) K env H Q := rfl
def b97_5 : C := (.seq (.seq (.dops o97_6) b97_7) b97_10)
@[go_sem] theorem r97_5 : EvK T b97_5 K env H Q = EvK T (.seq (.seq (.dops o97_6) b97_7) b97_10) K env H Q := rfl
def b97_4 : C := (.cond (.tmp 11) b97_5 .skip)
@[go_sem] theorem r97_4 : EvK T b97_4 K env H Q = EvK T (.cond (.tmp 11) b97_5 .skip) K env H Q := rfl
@[go_sem] def o97_13 : List IOper := [⟨(some 17), (.faddr 0 (.tmp 2)), none⟩, ⟨(some 18), (.ld none (.tmp 17)), none⟩]
@[go_sem] def o97_16 : List IOper := [⟨(some 20), (.bin .eql (.tmp 18) (.const (.int .i64 3))), none⟩, ⟨(some 19), (.mov (.tmp 20)), none⟩]
@[go_sem] def o97_19 : List IOper := [⟨(some 21), (.faddr 2 (.tmp 2)), none⟩, ⟨(some 22), (.ld (some 3) (.tmp 21)), none⟩, ⟨(some 23), (.faddr 2 (.tmp 3)), none⟩, ⟨(some 24), (.ld (some 3) (.tmp 23)), none⟩, ⟨(some 25), (.call (.func 115) [(.tmp 22), (.tmp 24)]), none⟩, ⟨(some 4), (.mov (.tmp 25)), none⟩]
def b97_18 : C := (.seq (.ops o97_19) .ret)
@[go_sem] theorem r97_18 : EvK T b97_18 K env H Q = EvK T (.seq (.ops o97_19) .ret) K env H Q := rfl
@[go_sem] def o97_21 : List IOper := [⟨(some 27), (.bin .eql (.tmp 18) (.const (.int .i64 4))), none⟩, ⟨(some 26), (.mov (.tmp 27)), none⟩]
@[go_sem] def o97_24 : List IOper := [⟨(some 28), (.faddr 5 (.tmp 2)), none⟩, ⟨(some 29), (.ld none (.tmp 28)), none⟩, ⟨(some 30), (.faddr 5 (.tmp 3)), none⟩, ⟨(some 31), (.ld none (.tmp 30)), none⟩, ⟨(some 32), (.call (.func 186) [(.tmp 29), (.tmp 31)]), none⟩, ⟨(some 4), (.mov (.tmp 32)), none⟩]
def b97_23 : C := (.seq (.ops o97_24) .ret)
@[go_sem] theorem r97_23 : EvK T b97_23 K env H Q = EvK T (.seq (.ops o97_24) .ret) K env H Q := rfl
def b97_22 : C := (.cond (.tmp 26) b97_23 .skip)
@[go_sem] theorem r97_22 : EvK T b97_22 K env H Q = EvK T (.cond (.tmp 26) b97_23 .skip) K env H Q := rfl
def b97_20 : C := (.seq (.ops o97_21) b97_22)
@[go_sem] theorem r97_20 : EvK T b97_20 K env H Q = EvK T (.seq (.ops o97_21) b97_22) K env H Q := rfl
def b97_17 : C := (.cond (.tmp 19) b97_18 b97_20)
@[go_sem] theorem r97_17 : EvK T b97_17 K env H Q = EvK T (.cond (.tmp 19) b97_18 b97_20) K env H Q := rfl
def b97_15 : C := (.seq (.ops o97_16) b97_17)
@[go_sem] theorem r97_15 : EvK T b97_15 K env H Q = EvK T (.seq (.ops o97_16) b97_17) K env H Q := rfl
def b97_14 : C := (.block 0 b97_15)
@[go_sem] theorem r97_14 : EvK T b97_14 K env H Q = EvK T (.block 0 b97_15) K env H Q := rfl
@[go_sem] def o97_26 : List IOper := [⟨(some 5), (.mov (.const (.int .i64 0))), none⟩]
@[go_sem] def o97_30 : List IOper := [⟨(some 33), (.mov (.tmp 5)), none⟩, ⟨(some 34), (.faddr 6 (.tmp 2)), none⟩, ⟨(some 35), (.ld none (.tmp 34)), none⟩, ⟨(some 36), (.len false (.tmp 35)), none⟩, ⟨(some 37), (.bin .lss (.tmp 33) (.tmp 36)), none⟩, ⟨(some 38), (.mov (.tmp 37)), none⟩, ⟨(some 39), (.mov (.tmp 5)), (some (38, true))⟩, ⟨(some 40), (.faddr 6 (.tmp 3)), (some (38, true))⟩, ⟨(some 41), (.ld none (.tmp 40)), (some (38, true))⟩, ⟨(some 42), (.len false (.tmp 41)), (some (38, true))⟩, ⟨(some 43), (.bin .lss (.tmp 39) (.tmp 42)), (some (38, true))⟩, ⟨(some 44), (.pick (.tmp 38) (.tmp 43) (.const (.bool false))), none⟩]
def b97_31 : C := (.cond (.tmp 44) .skip (.exit 1))
@[go_sem] theorem r97_31 : EvK T b97_31 K env H Q = EvK T (.cond (.tmp 44) .skip (.exit 1)) K env H Q := rfl
@[go_sem] def o97_34 : List IOper := [⟨(some 6), (.mov (.const (.int .i64 0))), none⟩]
@[go_sem] def o97_36 : List IOper := [⟨(some 47), (.faddr 0 (.tmp 2)), none⟩, ⟨(some 48), (.ld none (.tmp 47)), none⟩, ⟨(some 49), (.bin .eql (.tmp 48) (.const (.int .i64 6))), none⟩]
@[go_sem] def o97_39 : List DOper := [⟨⟨(some 50), (.faddr 7 (.tmp 2)), none⟩, false, []⟩, ⟨⟨(some 51), (.ld none (.tmp 50)), none⟩, false, []⟩, ⟨⟨(some 52), (.mov (.tmp 5)), none⟩, false, []⟩, ⟨⟨(some 53), (.iaddr 1 (.tmp 51) (.tmp 52)), none⟩, false, []⟩, ⟨⟨(some 54), (.ld none (.tmp 53)), none⟩, false, []⟩, ⟨⟨(some 55), (.faddr 7 (.tmp 3)), none⟩, false, []⟩, ⟨⟨(some 56), (.ld none (.tmp 55)), none⟩, false, []⟩, ⟨⟨(some 57), (.mov (.tmp 5)), none⟩, false, []⟩, ⟨⟨(some 58), (.iaddr 1 (.tmp 56) (.tmp 57)), none⟩, false, []⟩, ⟨⟨(some 59), (.ld none (.tmp 58)), none⟩, false, []⟩, ⟨⟨(some 60), (.call (.func 186) [(.tmp 54), (.tmp 59)]), none⟩, true, []⟩, ⟨⟨(some 6), (.mov (.tmp 60)), none⟩, false, []⟩]
def b97_38 : C := (.dops o97_39)
@[go_sem] theorem r97_38 : EvK T b97_38 K env H Q = EvK T (.dops o97_39) K env H Q := rfl
def b97_37 : C := (.cond (.tmp 49) b97_38 .skip)
@[go_sem] theorem r97_37 : EvK T b97_37 K env H Q = EvK T (.cond (.tmp 49) b97_38 .skip) K env H Q := rfl
@[go_sem] def o97_41 : List IOper := [⟨(some 61), (.mov (.tmp 6)), none⟩, ⟨(some 62), (.bin .eql (.tmp 61) (.const (.int .i64 0))), none⟩]
@[go_sem] def o97_44 : List DOper := [⟨⟨(some 63), (.faddr 6 (.tmp 2)), none⟩, false, []⟩, ⟨⟨(some 64), (.ld none (.tmp 63)), none⟩, false, []⟩, ⟨⟨(some 65), (.mov (.tmp 5)), none⟩, false, []⟩, ⟨⟨(some 66), (.iaddr 8 (.tmp 64) (.tmp 65)), none⟩, false, []⟩, ⟨⟨(some 67), (.ld (some 8) (.tmp 66)), none⟩, false, []⟩, ⟨⟨(some 68), (.faddr 6 (.tmp 3)), none⟩, false, []⟩, ⟨⟨(some 69), (.ld none (.tmp 68)), none⟩, false, []⟩, ⟨⟨(some 70), (.mov (.tmp 5)), none⟩, false, []⟩, ⟨⟨(some 71), (.iaddr 8 (.tmp 69) (.tmp 70)), none⟩, false, []⟩, ⟨⟨(some 72), (.ld (some 8) (.tmp 71)), none⟩, false, []⟩, ⟨⟨(some 73), (.call (.func 97) [(.tmp 67), (.tmp 72)]), none⟩, true, []⟩, ⟨⟨(some 6), (.mov (.tmp 73)), none⟩, false, []⟩]
def b97_43 : C := (.dops o97_44)
@[go_sem] theorem r97_43 : EvK T b97_43 K env H Q = EvK T (.dops o97_44) K env H Q := rfl
def b97_42 : C := (.cond (.tmp 62) b97_43 .skip)
@[go_sem] theorem r97_42 : EvK T b97_42 K env H Q = EvK T (.cond (.tmp 62) b97_43 .skip) K env H Q := rfl
@[go_sem] def o97_46 : List IOper := [⟨(some 74), (.mov (.tmp 6)), none⟩, ⟨(some 75), (.bin .neq (.tmp 74) (.const (.int .i64 0))), none⟩]
@[go_sem] def o97_49 : List IOper := [⟨(some 76), (.mov (.tmp 6)), none⟩, ⟨(some 4), (.mov (.tmp 76)), none⟩]
def b97_48 : C := (.seq (.ops o97_49) .ret)
@[go_sem] theorem r97_48 : EvK T b97_48 K env H Q = EvK T (.seq (.ops o97_49) .ret) K env H Q := rfl
def b97_47 : C := (.cond (.tmp 75) b97_48 .skip)
@[go_sem] theorem r97_47 : EvK T b97_47 K env H Q = EvK T (.cond (.tmp 75) b97_48 .skip) K env H Q := rfl
def b97_45 : C := (.seq (.ops o97_46) b97_47)
@[go_sem] theorem r97_45 : EvK T b97_45 K env H Q = EvK T (.seq (.ops o97_46) b97_47) K env H Q := rfl
def b97_40 : C := (.seq (.seq (.ops o97_41) b97_42) b97_45)
@[go_sem] theorem r97_40 : EvK T b97_40 K env H Q = EvK T (.seq (.seq (.ops o97_41) b97_42) b97_45) K env H Q := rfl
def b97_35 : C := (.seq (.seq (.ops o97_36) b97_37) b97_40)
@[go_sem] theorem r97_35 : EvK T b97_35 K env H Q = EvK T (.seq (.seq (.ops o97_36) b97_37) b97_40) K env H Q := rfl
def b97_33 : C := (.seq (.ops o97_34) b97_35)
@[go_sem] theorem r97_33 : EvK T b97_33 K env H Q = EvK T (.seq (.ops o97_34) b97_35) K env H Q := rfl
@[go_sem] def o97_51 : List IOper := [⟨(some 45), (.mov (.tmp 5)), none⟩, ⟨(some 46), (.bin .add (.tmp 45) (.const (.int .i64 1))), none⟩, ⟨(some 5), (.mov (.tmp 46)), none⟩]
def b97_50 : C := (.ops o97_51)
@[go_sem] theorem r97_50 : EvK T b97_50 K env H Q = EvK T (.ops o97_51) K env H Q := rfl
def b97_32 : C := (.seq (.block 2 b97_33) b97_50)
@[go_sem] theorem r97_32 : EvK T b97_32 K env H Q = EvK T (.seq (.block 2 b97_33) b97_50) K env H Q := rfl
def b97_29 : C := (.seq (.seq (.ops o97_30) b97_31) b97_32)
@[go_sem] theorem r97_29 : EvK T b97_29 K env H Q = EvK T (.seq (.seq (.ops o97_30) b97_31) b97_32) K env H Q := rfl
def l97_28 : C := .loop [] b97_29
theorem w97_28 {ι : Type} (i0 : ι) (Inv : ι → Env → Heap → Prop) (m : ι → Nat) (h0 : Inv i0 env H) (hs : ∀ i e h, Inv i e h → (∀ j e' h', m j < m i → Inv j e' h' → EvK T l97_28 K e' h' Q) → EvK T b97_29 (.loop [] b97_29 :: K) (forget [] e) h Q) : EvK T l97_28 K env H Q := EvK_while i0 Inv m h0 hs
def b97_27 : C := (.block 1 l97_28)
@[go_sem] theorem r97_27 : EvK T b97_27 K env H Q = EvK T (.block 1 l97_28) K env H Q := rfl
@[go_sem] def o97_53 : List IOper := [⟨(some 77), (.faddr 6 (.tmp 2)), none⟩, ⟨(some 78), (.ld none (.tmp 77)), none⟩, ⟨(some 79), (.len false (.tmp 78)), none⟩, ⟨(some 80), (.faddr 6 (.tmp 3)), none⟩, ⟨(some 81), (.ld none (.tmp 80)), none⟩, ⟨(some 82), (.len false (.tmp 81)), none⟩, ⟨(some 83), (.bin .neq (.tmp 79) (.tmp 82)), none⟩]
@[go_sem] def o97_56 : List IOper := [⟨(some 84), (.faddr 6 (.tmp 2)), none⟩, ⟨(some 85), (.ld none (.tmp 84)), none⟩, ⟨(some 86), (.len false (.tmp 85)), none⟩, ⟨(some 87), (.faddr 6 (.tmp 3)), none⟩, ⟨(some 88), (.ld none (.tmp 87)), none⟩, ⟨(some 89), (.len false (.tmp 88)), none⟩, ⟨(some 90), (.bin .lss (.tmp 86) (.tmp 89)), none⟩]
@[go_sem] def o97_59 : List IOper := [⟨(some 4), (.mov (.const (.int .i64 (-1)))), none⟩]
def b97_58 : C := (.seq (.ops o97_59) .ret)
@[go_sem] theorem r97_58 : EvK T b97_58 K env H Q = EvK T (.seq (.ops o97_59) .ret) K env H Q := rfl
def b97_57 : C := (.cond (.tmp 90) b97_58 .skip)
@[go_sem] theorem r97_57 : EvK T b97_57 K env H Q = EvK T (.cond (.tmp 90) b97_58 .skip) K env H Q := rfl
@[go_sem] def o97_61 : List IOper := [⟨(some 4), (.mov (.const (.int .i64 1))), none⟩]
def b97_60 : C := (.seq (.ops o97_61) .ret)
@[go_sem] theorem r97_60 : EvK T b97_60 K env H Q = EvK T (.seq (.ops o97_61) .ret) K env H Q := rfl
def b97_55 : C := (.seq (.seq (.ops o97_56) b97_57) b97_60)
@[go_sem] theorem r97_55 : EvK T b97_55 K env H Q = EvK T (.seq (.seq (.ops o97_56) b97_57) b97_60) K env H Q := rfl
def b97_54 : C := (.cond (.tmp 83) b97_55 .skip)
@[go_sem] theorem r97_54 : EvK T b97_54 K env H Q = EvK T (.cond (.tmp 83) b97_55 .skip) K env H Q := rfl
@[go_sem] def o97_63 : List IOper := [⟨(some 4), (.mov (.const (.int .i64 0))), none⟩]
def b97_62 : C := (.seq (.ops o97_63) .ret)
@[go_sem] theorem r97_62 : EvK T b97_62 K env H Q = EvK T (.seq (.ops o97_63) .ret) K env H Q := rfl
def b97_52 : C := (.seq (.seq (.ops o97_53) b97_54) b97_62)
@[go_sem] theorem r97_52 : EvK T b97_52 K env H Q = EvK T (.seq (.seq (.ops o97_53) b97_54) b97_62) K env H Q := rfl
def b97_25 : C := (.seq (.seq (.ops o97_26) b97_27) b97_52)
@[go_sem] theorem r97_25 : EvK T b97_25 K env H Q = EvK T (.seq (.seq (.ops o97_26) b97_27) b97_52) K env H Q := rfl
def b97_12 : C := (.seq (.seq (.ops o97_13) b97_14) b97_25)
@[go_sem] theorem r97_12 : EvK T b97_12 K env H Q = EvK T (.seq (.seq (.ops o97_13) b97_14) b97_25) K env H Q := rfl
def b97_2 : C := (.seq (.seq (.dops o97_3) b97_4) b97_12)
@[go_sem] theorem r97_2 : EvK T b97_2 K env H Q = EvK T (.seq (.seq (.dops o97_3) b97_4) b97_12) K env H Q := rfl
def b97 : C := (.seq (.ops o97_1) b97_2)
@[go_sem] theorem r97 : EvK T b97 K env H Q = EvK T (.seq (.ops o97_1) b97_2) K env H Q := rfl
def c97 : IFun := ⟨91, b97, [(.tmp 4)]⟩
/-! 103 dynamometer/value.orderNum -/
@[go_sem] def o103_1 : List IOper := [⟨(some 2), (.box 23 (.tmp 0)), none⟩, ⟨(some 3), (.box 23 (.tmp 1)), none⟩, ⟨(some 4), (.mov (.const (.int .i64 0))), none⟩]
@[go_sem] def o103_3 : List DOper := [⟨⟨(some 7), (.ld (some 3) (.tmp 2)), none⟩, false, []⟩, ⟨⟨(some 8), (.call (.func 190) [(.tmp 7)]), none⟩, true, []⟩, ⟨⟨(some 9), (.ld (some 3) (.tmp 3)), none⟩, false, [1]⟩, ⟨⟨(some 10), (.call (.func 190) [(.tmp 9)]), none⟩, true, []⟩, ⟨⟨(some 5), (.mov (.tmp 8)), none⟩, false, []⟩, ⟨⟨(some 6), (.mov (.tmp 10)), none⟩, false, []⟩]
@[go_sem] def o103_5 : List IOper := [⟨(some 11), (.mov (.tmp 5)), none⟩, ⟨(some 12), (.mov (.tmp 6)), none⟩, ⟨(some 13), (.bin .neq (.tmp 11) (.tmp 12)), none⟩, ⟨(some 14), (.mov (.tmp 13)), none⟩, ⟨(some 15), (.mov (.tmp 5)), (some (14, false))⟩, ⟨(some 16), (.bin .eql (.tmp 15) (.const (.int .i64 0))), (some (14, false))⟩, ⟨(some 17), (.pick (.tmp 14) (.const (.bool true)) (.tmp 16)), none⟩]
@[go_sem] def o103_8 : List IOper := [⟨(some 18), (.mov (.tmp 5)), none⟩, ⟨(some 19), (.mov (.tmp 6)), none⟩, ⟨(some 20), (.bin .sub (.tmp 18) (.tmp 19)), none⟩, ⟨(some 21), (.call (.func 181) [(.tmp 20)]), none⟩, ⟨(some 4), (.mov (.tmp 21)), none⟩]
def b103_7 : C := (.seq (.ops o103_8) .ret)
@[go_sem] theorem r103_7 : EvK T b103_7 K env H Q = EvK T (.seq (.ops o103_8) .ret) K env H Q := rfl
def b103_6 : C := (.cond (.tmp 17) b103_7 .skip)
@[go_sem] theorem r103_6 : EvK T b103_6 K env H Q = EvK T (.cond (.tmp 17) b103_7 .skip) K env H Q := rfl
@[go_sem] def o103_10 : List IOper := [⟨(some 22), (.mov (.tmp 5)), none⟩, ⟨(some 23), (.ld (some 3) (.tmp 2)), none⟩, ⟨(some 24), (.ld (some 3) (.tmp 3)), none⟩, ⟨(some 25), (.call (.func 191) [(.tmp 23), (.tmp 24)]), none⟩, ⟨(some 26), (.bin .mul (.tmp 22) (.tmp 25)), none⟩, ⟨(some 4), (.mov (.tmp 26)), none⟩]
def b103_9 : C := (.seq (.ops o103_10) .ret)
@[go_sem] theorem r103_9 : EvK T b103_9 K env H Q = EvK T (.seq (.ops o103_10) .ret) K env H Q := rfl
def b103_4 : C := (.seq (.seq (.ops o103_5) b103_6) b103_9)
@[go_sem] theorem r103_4 : EvK T b103_4 K env H Q = EvK T (.seq (.seq (.ops o103_5) b103_6) b103_9) K env H Q := rfl
def b103_2 : C := (.seq (.dops o103_3) b103_4)
@[go_sem] theorem r103_2 : EvK T b103_2 K env H Q = EvK T (.seq (.dops o103_3) b103_4) K env H Q := rfl
def b103 : C := (.seq (.ops o103_1) b103_2)
@[go_sem] theorem r103 : EvK T b103 K env H Q = EvK T (.seq (.ops o103_1) b103_2) K env H Q := rfl
def c103 : IFun := ⟨27, b103, [(.tmp 4)]⟩
/-! 104 strconv.Itoa -/
def c104 : IFun := ⟨5, (.seq (.ops [⟨(some 2), (.mov (.const (.string ⟨⟨[]⟩⟩))), none⟩]) (.seq (.ops [⟨(some 3), (.mov (.tmp 0)), none⟩, ⟨(some 4), (.call (.func 192) [(.tmp 3)]), none⟩, ⟨(some 2), (.mov (.tmp 4)), none⟩]) .ret)), [(.tmp 2)]⟩
/-! 106 dynamometer/value.formed -/
def c106 : IFun := ⟨25, (.seq (.ops [⟨(some 6), (.new 23 [(.bool false), (.string ⟨⟨[]⟩⟩), (.int .i64 0)]), none⟩]) (.seq (.ops [⟨(some 8), (.mov (.tmp 1)), none⟩, ⟨(some 9), (.call (.func 194) [(.tmp 8), (.const (.string ⟨⟨[48]⟩⟩))]), none⟩, ⟨(some 1), (.mov (.tmp 9)), none⟩]) (.seq (.ops [⟨(some 10), (.mov (.tmp 1)), none⟩, ⟨(some 11), (.call (.func 195) [(.tmp 10), (.const (.string ⟨⟨[48]⟩⟩))]), none⟩, ⟨(some 7), (.mov (.tmp 11)), none⟩]) (.seq (.seq (.ops [⟨(some 12), (.mov (.tmp 7)), none⟩, ⟨(some 13), (.bin .eql (.tmp 12) (.const (.string ⟨⟨[]⟩⟩))), none⟩]) (.cond (.tmp 13) (.seq (.ops [⟨(some 14), (.build [(.bool false), (.string ⟨⟨[]⟩⟩), (.int .i64 0)] [(1, (1, (.const (.string ⟨⟨[48]⟩⟩))))]), none⟩, ⟨none, (.st 3 (.tmp 6) (.tmp 14)), none⟩]) .ret) .skip)) (.seq (.ops [⟨(some 15), (.mov (.tmp 0)), none⟩, ⟨(some 16), (.mov (.tmp 7)), none⟩, ⟨(some 17), (.mov (.tmp 2)), none⟩, ⟨(some 18), (.mov (.tmp 1)), none⟩, ⟨(some 19), (.len true (.tmp 18)), none⟩, ⟨(some 20), (.bin .add (.tmp 17) (.tmp 19)), none⟩, ⟨(some 21), (.mov (.tmp 7)), none⟩, ⟨(some 22), (.len true (.tmp 21)), none⟩, ⟨(some 23), (.bin .sub (.tmp 20) (.tmp 22)), none⟩, ⟨(some 24), (.build [(.bool false), (.string ⟨⟨[]⟩⟩), (.int .i64 0)] [(0, (1, (.tmp 15))), (1, (1, (.tmp 16))), (2, (1, (.tmp 23)))]), none⟩, ⟨none, (.st 3 (.tmp 6) (.tmp 24)), none⟩]) .ret))))), [(.cell 6 (some 3))]⟩
/-! 109 dynamometer/dynamometerref0.Digits -/
@[go_sem] def o109_1 : List IOper := [⟨(some 2), (.mov (.const (.slice none 0 0))), none⟩]
@[go_sem] def o109_3 : List IOper := [⟨(some 3), (.mov (.const (.slice none 0 0))), none⟩]
@[go_sem] def o109_5 : List IOper := [⟨(some 7), (.mov (.tmp 0)), none⟩, ⟨(some 8), (.len true (.tmp 7)), none⟩, ⟨(some 4), (.mov (.tmp 8)), none⟩]
@[go_sem] def o109_9 : List IOper := [⟨(some 9), (.mov (.tmp 4)), none⟩, ⟨(some 10), (.bin .gtr (.tmp 9) (.const (.int .i64 0))), none⟩]
def b109_10 : C := (.cond (.tmp 10) .skip (.exit 0))
@[go_sem] theorem r109_10 : EvK T b109_10 K env H Q = EvK T (.cond (.tmp 10) .skip (.exit 0)) K env H Q := rfl
@[go_sem] def o109_13 : List IOper := [⟨(some 5), (.mov (.const (.int .i64 0))), none⟩]
@[go_sem] def o109_15 : List IOper := [⟨(some 13), (.mov (.tmp 4)), none⟩, ⟨(some 14), (.bin .sub (.tmp 13) (.const (.int .i64 4))), none⟩, ⟨(some 15), (.minmax true [(.const (.int .i64 0)), (.tmp 14)]), none⟩, ⟨(some 6), (.mov (.tmp 15)), none⟩]
@[go_sem] def o109_19 : List IOper := [⟨(some 16), (.mov (.tmp 6)), none⟩, ⟨(some 17), (.mov (.tmp 4)), none⟩, ⟨(some 18), (.bin .lss (.tmp 16) (.tmp 17)), none⟩]
def b109_20 : C := (.cond (.tmp 18) .skip (.exit 2))
@[go_sem] theorem r109_20 : EvK T b109_20 K env H Q = EvK T (.cond (.tmp 18) .skip (.exit 2)) K env H Q := rfl
@[go_sem] def o109_23 : List IOper := [⟨(some 21), (.mov (.tmp 5)), none⟩, ⟨(some 22), (.bin .mul (.const (.int .i64 10)) (.tmp 21)), none⟩, ⟨(some 23), (.mov (.tmp 0)), none⟩, ⟨(some 24), (.mov (.tmp 6)), none⟩, ⟨(some 25), (.ixstr (.tmp 23) (.tmp 24)), none⟩, ⟨(some 26), (.bin .sub (.tmp 25) (.const (.int .u8 48))), none⟩, ⟨(some 27), (.toint .i64 (.tmp 26)), none⟩, ⟨(some 28), (.bin .add (.tmp 22) (.tmp 27)), none⟩, ⟨(some 5), (.mov (.tmp 28)), none⟩]
def b109_22 : C := (.ops o109_23)
@[go_sem] theorem r109_22 : EvK T b109_22 K env H Q = EvK T (.ops o109_23) K env H Q := rfl
@[go_sem] def o109_25 : List IOper := [⟨(some 19), (.mov (.tmp 6)), none⟩, ⟨(some 20), (.bin .add (.tmp 19) (.const (.int .i64 1))), none⟩, ⟨(some 6), (.mov (.tmp 20)), none⟩]
def b109_24 : C := (.ops o109_25)
@[go_sem] theorem r109_24 : EvK T b109_24 K env H Q = EvK T (.ops o109_25) K env H Q := rfl
def b109_21 : C := (.seq (.block 3 b109_22) b109_24)
@[go_sem] theorem r109_21 : EvK T b109_21 K env H Q = EvK T (.seq (.block 3 b109_22) b109_24) K env H Q := rfl
def b109_18 : C := (.seq (.seq (.ops o109_19) b109_20) b109_21)
@[go_sem] theorem r109_18 : EvK T b109_18 K env H Q = EvK T (.seq (.seq (.ops o109_19) b109_20) b109_21) K env H Q := rfl
def l109_17 : C := .loop [] b109_18
theorem w109_17 {ι : Type} (i0 : ι) (Inv : ι → Env → Heap → Prop) (m : ι → Nat) (h0 : Inv i0 env H) (hs : ∀ i e h, Inv i e h → (∀ j e' h', m j < m i → Inv j e' h' → EvK T l109_17 K e' h' Q) → EvK T b109_18 (.loop [] b109_18 :: K) (forget [] e) h Q) : EvK T l109_17 K env H Q := EvK_while i0 Inv m h0 hs
def b109_16 : C := (.block 2 l109_17)
@[go_sem] theorem r109_16 : EvK T b109_16 K env H Q = EvK T (.block 2 l109_17) K env H Q := rfl
@[go_sem] def o109_27 : List IOper := [⟨(some 29), (.mov (.tmp 3)), none⟩, ⟨(some 30), (.mov (.tmp 5)), none⟩, ⟨(some 31), (.gsl 1 [(.int .i64 0)] [(0, (1, (.tmp 30)))]), none⟩, ⟨(some 32), (.append 3 1 8 (.tmp 29) (.tmp 31)), none⟩, ⟨(some 3), (.mov (.tmp 32)), none⟩]
def b109_26 : C := (.ops o109_27)
@[go_sem] theorem r109_26 : EvK T b109_26 K env H Q = EvK T (.ops o109_27) K env H Q := rfl
def b109_14 : C := (.seq (.seq (.ops o109_15) b109_16) b109_26)
@[go_sem] theorem r109_14 : EvK T b109_14 K env H Q = EvK T (.seq (.seq (.ops o109_15) b109_16) b109_26) K env H Q := rfl
def b109_12 : C := (.seq (.ops o109_13) b109_14)
@[go_sem] theorem r109_12 : EvK T b109_12 K env H Q = EvK T (.seq (.ops o109_13) b109_14) K env H Q := rfl
@[go_sem] def o109_29 : List IOper := [⟨(some 11), (.mov (.tmp 4)), none⟩, ⟨(some 12), (.bin .sub (.tmp 11) (.const (.int .i64 4))), none⟩, ⟨(some 4), (.mov (.tmp 12)), none⟩]
def b109_28 : C := (.ops o109_29)
@[go_sem] theorem r109_28 : EvK T b109_28 K env H Q = EvK T (.ops o109_29) K env H Q := rfl
def b109_11 : C := (.seq (.block 1 b109_12) b109_28)
@[go_sem] theorem r109_11 : EvK T b109_11 K env H Q = EvK T (.seq (.block 1 b109_12) b109_28) K env H Q := rfl
def b109_8 : C := (.seq (.seq (.ops o109_9) b109_10) b109_11)
@[go_sem] theorem r109_8 : EvK T b109_8 K env H Q = EvK T (.seq (.seq (.ops o109_9) b109_10) b109_11) K env H Q := rfl
def l109_7 : C := .loop [] b109_8
theorem w109_7 {ι : Type} (i0 : ι) (Inv : ι → Env → Heap → Prop) (m : ι → Nat) (h0 : Inv i0 env H) (hs : ∀ i e h, Inv i e h → (∀ j e' h', m j < m i → Inv j e' h' → EvK T l109_7 K e' h' Q) → EvK T b109_8 (.loop [] b109_8 :: K) (forget [] e) h Q) : EvK T l109_7 K env H Q := EvK_while i0 Inv m h0 hs
def b109_6 : C := (.block 0 l109_7)
@[go_sem] theorem r109_6 : EvK T b109_6 K env H Q = EvK T (.block 0 l109_7) K env H Q := rfl
@[go_sem] def o109_31 : List IOper := [⟨(some 33), (.mov (.tmp 3)), none⟩, ⟨(some 34), (.call (.func 197) [(.tmp 33)]), none⟩, ⟨(some 2), (.mov (.tmp 34)), none⟩]
def b109_30 : C := (.seq (.ops o109_31) .ret)
@[go_sem] theorem r109_30 : EvK T b109_30 K env H Q = EvK T (.seq (.ops o109_31) .ret) K env H Q := rfl
def b109_4 : C := (.seq (.seq (.ops o109_5) b109_6) b109_30)
@[go_sem] theorem r109_4 : EvK T b109_4 K env H Q = EvK T (.seq (.seq (.ops o109_5) b109_6) b109_30) K env H Q := rfl
def b109_2 : C := (.seq (.ops o109_3) b109_4)
@[go_sem] theorem r109_2 : EvK T b109_2 K env H Q = EvK T (.seq (.ops o109_3) b109_4) K env H Q := rfl
def b109 : C := (.seq (.ops o109_1) b109_2)
@[go_sem] theorem r109 : EvK T b109 K env H Q = EvK T (.seq (.ops o109_1) b109_2) K env H Q := rfl
def c109 : IFun := ⟨35, b109, [(.tmp 2)]⟩
/-! 111 strings.Repeat -/
def c111 : IFun := ⟨125, (.seq (.ops [⟨(some 4), (.mov (.const (.string ⟨⟨[]⟩⟩))), none⟩]) (.seq (.seq (.ops [⟨(some 11), (.mov (.tmp 1)), none⟩]) (.block 0 (.seq (.ops [⟨(some 13), (.bin .eql (.tmp 11) (.const (.int .i64 0))), none⟩, ⟨(some 12), (.mov (.tmp 13)), none⟩]) (.cond (.tmp 12) (.seq (.ops [⟨(some 4), (.mov (.const (.string ⟨⟨[]⟩⟩))), none⟩]) .ret) (.seq (.ops [⟨(some 15), (.bin .eql (.tmp 11) (.const (.int .i64 1))), none⟩, ⟨(some 14), (.mov (.tmp 15)), none⟩]) (.cond (.tmp 14) (.seq (.ops [⟨(some 16), (.mov (.tmp 0)), none⟩, ⟨(some 4), (.mov (.tmp 16)), none⟩]) .ret) .skip)))))) (.seq (.seq (.ops [⟨(some 17), (.mov (.tmp 1)), none⟩, ⟨(some 18), (.bin .lss (.tmp 17) (.const (.int .i64 0))), none⟩]) (.cond (.tmp 18) (.ops [⟨(some 19), (.mkif 9 (.const (.string ⟨⟨[115, 116, 114, 105, 110, 103, 115, 58, 32, 110, 101, 103, 97, 116, 105, 118, 101, 32, 82, 101, 112, 101, 97, 116, 32, 99, 111, 117, 110, 116]⟩⟩))), none⟩, ⟨none, (.pan (.tmp 19)), none⟩]) .skip)) (.seq (.ops [⟨(some 21), (.mov (.tmp 0)), none⟩, ⟨(some 22), (.len true (.tmp 21)), none⟩, ⟨(some 23), (.toint .u64 (.tmp 22)), none⟩, ⟨(some 24), (.mov (.tmp 1)), none⟩, ⟨(some 25), (.toint .u64 (.tmp 24)), none⟩, ⟨(some 26), (.call (.func 200) [(.tmp 23), (.tmp 25)]), none⟩, ⟨(some 20), (.mov (.tmp 26)), none⟩, ⟨(some 27), (.ext 0 (.tmp 20)), none⟩, ⟨(some 28), (.ext 1 (.tmp 20)), none⟩, ⟨(some 5), (.mov (.tmp 27)), none⟩, ⟨(some 6), (.mov (.tmp 28)), none⟩]) (.seq (.seq (.ops [⟨(some 29), (.mov (.tmp 5)), none⟩, ⟨(some 30), (.bin .gtr (.tmp 29) (.const (.int .u64 0))), none⟩, ⟨(some 31), (.mov (.tmp 30)), none⟩, ⟨(some 32), (.mov (.tmp 6)), (some (31, false))⟩, ⟨(some 33), (.bin .gtr (.tmp 32) (.const (.int .u64 9223372036854775807))), (some (31, false))⟩, ⟨(some 34), (.pick (.tmp 31) (.const (.bool true)) (.tmp 33)), none⟩]) (.cond (.tmp 34) (.ops [⟨(some 35), (.mkif 9 (.const (.string ⟨⟨[115, 116, 114, 105, 110, 103, 115, 58, 32, 82, 101, 112, 101, 97, 116, 32, 111, 117, 116, 112, 117, 116, 32, 108, 101, 110, 103, 116, 104, 32, 111, 118, 101, 114, 102, 108, 111, 119]⟩⟩))), none⟩, ⟨none, (.pan (.tmp 35)), none⟩]) .skip)) (.seq (.ops [⟨(some 36), (.mov (.tmp 6)), none⟩, ⟨(some 37), (.toint .i64 (.tmp 36)), none⟩, ⟨(some 7), (.mov (.tmp 37)), none⟩]) (.seq (.seq (.ops [⟨(some 38), (.mov (.tmp 0)), none⟩, ⟨(some 39), (.len true (.tmp 38)), none⟩, ⟨(some 40), (.bin .eql (.tmp 39) (.const (.int .i64 0))), none⟩]) (.cond (.tmp 40) (.seq (.ops [⟨(some 4), (.mov (.const (.string ⟨⟨[]⟩⟩))), none⟩]) .ret) .skip)) (.seq (.seq (.ops [⟨(some 41), (.mov (.tmp 0)), none⟩, ⟨(some 42), (.ixstr (.tmp 41) (.const (.int .i64 0))), none⟩]) (.block 1 (.seq (.seq (.ops [⟨(some 44), (.bin .eql (.tmp 42) (.const (.int .u8 32))), none⟩, ⟨(some 43), (.mov (.tmp 44)), none⟩]) (.cond (.tmp 43) .skip (.seq (.ops [⟨(some 45), (.bin .eql (.tmp 42) (.const (.int .u8 45))), none⟩, ⟨(some 43), (.mov (.tmp 45)), none⟩]) (.cond (.tmp 43) .skip (.seq (.ops [⟨(some 46), (.bin .eql (.tmp 42) (.const (.int .u8 48))), none⟩, ⟨(some 43), (.mov (.tmp 46)), none⟩]) (.cond (.tmp 43) .skip (.seq (.ops [⟨(some 47), (.bin .eql (.tmp 42) (.const (.int .u8 61))), none⟩, ⟨(some 43), (.mov (.tmp 47)), none⟩]) (.cond (.tmp 43) .skip (.ops [⟨(some 48), (.bin .eql (.tmp 42) (.const (.int .u8 9))), none⟩, ⟨(some 43), (.mov (.tmp 48)), none⟩]))))))))) (.cond (.tmp 43) (.block 2 (.seq (.ops [⟨(some 50), (.mov (.tmp 7)), none⟩, ⟨(some 51), (.bin .leq (.tmp 50) (.const (.int .i64 128))), none⟩, ⟨(some 52), (.mov (.tmp 51)), none⟩, ⟨(some 53), (.mov (.tmp 0)), (some (52, true))⟩, ⟨(some 54), (.call (.func 201) [(.const (.string ⟨⟨[32, 32, 32, 32, 32, 32, 32, 32, 32, 32, 32, 32, 32, 32, 32, 32, 32, 32, 32, 32, 32, 32, 32, 32, 32, 32, 32, 32, 32, 32, 32, 32, 32, 32, 32, 32, 32, 32, 32, 32, 32, 32, 32, 32, 32, 32, 32, 32, 32, 32, 32, 32, 32, 32, 32, 32, 32, 32, 32, 32, 32, 32, 32, 32, 32, 32, 32, 32, 32, 32, 32, 32, 32, 32, 32, 32, 32, 32, 32, 32, 32, 32, 32, 32, 32, 32, 32, 32, 32, 32, 32, 32, 32, 32, 32, 32, 32, 32, 32, 32, 32, 32, 32, 32, 32, 32, 32, 32, 32, 32, 32, 32, 32, 32, 32, 32, 32, 32, 32, 32, 32, 32, 32, 32, 32, 32, 32, 32]⟩⟩)), (.tmp 53)]), (some (52, true))⟩, ⟨(some 55), (.pick (.tmp 52) (.tmp 54) (.const (.bool false))), none⟩, ⟨(some 49), (.mov (.tmp 55)), none⟩]) (.cond (.tmp 49) (.seq (.ops [⟨(some 56), (.mov (.tmp 7)), none⟩, ⟨(some 57), (.slstr (.const (.string ⟨⟨[32, 32, 32, 32, 32, 32, 32, 32, 32, 32, 32, 32, 32, 32, 32, 32, 32, 32, 32, 32, 32, 32, 32, 32, 32, 32, 32, 32, 32, 32, 32, 32, 32, 32, 32, 32, 32, 32, 32, 32, 32, 32, 32, 32, 32, 32, 32, 32, 32, 32, 32, 32, 32, 32, 32, 32, 32, 32, 32, 32, 32, 32, 32, 32, 32, 32, 32, 32, 32, 32, 32, 32, 32, 32, 32, 32, 32, 32, 32, 32, 32, 32, 32, 32, 32, 32, 32, 32, 32, 32, 32, 32, 32, 32, 32, 32, 32, 32, 32, 32, 32, 32, 32, 32, 32, 32, 32, 32, 32, 32, 32, 32, 32, 32, 32, 32, 32, 32, 32, 32, 32, 32, 32, 32, 32, 32, 32, 32]⟩⟩)) none (some (.tmp 56))), none⟩, ⟨(some 4), (.mov (.tmp 57)), none⟩]) .ret) (.seq (.ops [⟨(some 59), (.mov (.tmp 7)), none⟩, ⟨(some 60), (.bin .leq (.tmp 59) (.const (.int .i64 128))), none⟩, ⟨(some 61), (.mov (.tmp 60)), none⟩, ⟨(some 62), (.mov (.tmp 0)), (some (61, true))⟩, ⟨(some 63), (.call (.func 201) [(.const (.string ⟨⟨[45, 45, 45, 45, 45, 45, 45, 45, 45, 45, 45, 45, 45, 45, 45, 45, 45, 45, 45, 45, 45, 45, 45, 45, 45, 45, 45, 45, 45, 45, 45, 45, 45, 45, 45, 45, 45, 45, 45, 45, 45, 45, 45, 45, 45, 45, 45, 45, 45, 45, 45, 45, 45, 45, 45, 45, 45, 45, 45, 45, 45, 45, 45, 45, 45, 45, 45, 45, 45, 45, 45, 45, 45, 45, 45, 45, 45, 45, 45, 45, 45, 45, 45, 45, 45, 45, 45, 45, 45, 45, 45, 45, 45, 45, 45, 45, 45, 45, 45, 45, 45, 45, 45, 45, 45, 45, 45, 45, 45, 45, 45, 45, 45, 45, 45, 45, 45, 45, 45, 45, 45, 45, 45, 45, 45, 45, 45, 45]⟩⟩)), (.tmp 62)]), (some (61, true))⟩, ⟨(some 64), (.pick (.tmp 61) (.tmp 63) (.const (.bool false))), none⟩, ⟨(some 58), (.mov (.tmp 64)), none⟩]) (.cond (.tmp 58) (.seq (.ops [⟨(some 65), (.mov (.tmp 7)), none⟩, ⟨(some 66), (.slstr (.const (.string ⟨⟨[45, 45, 45, 45, 45, 45, 45, 45, 45, 45, 45, 45, 45, 45, 45, 45, 45, 45, 45, 45, 45, 45, 45, 45, 45, 45, 45, 45, 45, 45, 45, 45, 45, 45, 45, 45, 45, 45, 45, 45, 45, 45, 45, 45, 45, 45, 45, 45, 45, 45, 45, 45, 45, 45, 45, 45, 45, 45, 45, 45, 45, 45, 45, 45, 45, 45, 45, 45, 45, 45, 45, 45, 45, 45, 45, 45, 45, 45, 45, 45, 45, 45, 45, 45, 45, 45, 45, 45, 45, 45, 45, 45, 45, 45, 45, 45, 45, 45, 45, 45, 45, 45, 45, 45, 45, 45, 45, 45, 45, 45, 45, 45, 45, 45, 45, 45, 45, 45, 45, 45, 45, 45, 45, 45, 45, 45, 45, 45]⟩⟩)) none (some (.tmp 65))), none⟩, ⟨(some 4), (.mov (.tmp 66)), none⟩]) .ret) (.seq (.ops [⟨(some 68), (.mov (.tmp 7)), none⟩, ⟨(some 69), (.bin .leq (.tmp 68) (.const (.int .i64 64))), none⟩, ⟨(some 70), (.mov (.tmp 69)), none⟩, ⟨(some 71), (.mov (.tmp 0)), (some (70, true))⟩, ⟨(some 72), (.call (.func 201) [(.const (.string ⟨⟨[48, 48, 48, 48, 48, 48, 48, 48, 48, 48, 48, 48, 48, 48, 48, 48, 48, 48, 48, 48, 48, 48, 48, 48, 48, 48, 48, 48, 48, 48, 48, 48, 48, 48, 48, 48, 48, 48, 48, 48, 48, 48, 48, 48, 48, 48, 48, 48, 48, 48, 48, 48, 48, 48, 48, 48, 48, 48, 48, 48, 48, 48, 48, 48]⟩⟩)), (.tmp 71)]), (some (70, true))⟩, ⟨(some 73), (.pick (.tmp 70) (.tmp 72) (.const (.bool false))), none⟩, ⟨(some 67), (.mov (.tmp 73)), none⟩]) (.cond (.tmp 67) (.seq (.ops [⟨(some 74), (.mov (.tmp 7)), none⟩, ⟨(some 75), (.slstr (.const (.string ⟨⟨[48, 48, 48, 48, 48, 48, 48, 48, 48, 48, 48, 48, 48, 48, 48, 48, 48, 48, 48, 48, 48, 48, 48, 48, 48, 48, 48, 48, 48, 48, 48, 48, 48, 48, 48, 48, 48, 48, 48, 48, 48, 48, 48, 48, 48, 48, 48, 48, 48, 48, 48, 48, 48, 48, 48, 48, 48, 48, 48, 48, 48, 48, 48, 48]⟩⟩)) none (some (.tmp 74))), none⟩, ⟨(some 4), (.mov (.tmp 75)), none⟩]) .ret) (.seq (.ops [⟨(some 77), (.mov (.tmp 7)), none⟩, ⟨(some 78), (.bin .leq (.tmp 77) (.const (.int .i64 128))), none⟩, ⟨(some 79), (.mov (.tmp 78)), none⟩, ⟨(some 80), (.mov (.tmp 0)), (some (79, true))⟩, ⟨(some 81), (.call (.func 201) [(.const (.string ⟨⟨[61, 61, 61, 61, 61, 61, 61, 61, 61, 61, 61, 61, 61, 61, 61, 61, 61, 61, 61, 61, 61, 61, 61, 61, 61, 61, 61, 61, 61, 61, 61, 61, 61, 61, 61, 61, 61, 61, 61, 61, 61, 61, 61, 61, 61, 61, 61, 61, 61, 61, 61, 61, 61, 61, 61, 61, 61, 61, 61, 61, 61, 61, 61, 61, 61, 61, 61, 61, 61, 61, 61, 61, 61, 61, 61, 61, 61, 61, 61, 61, 61, 61, 61, 61, 61, 61, 61, 61, 61, 61, 61, 61, 61, 61, 61, 61, 61, 61, 61, 61, 61, 61, 61, 61, 61, 61, 61, 61, 61, 61, 61, 61, 61, 61, 61, 61, 61, 61, 61, 61, 61, 61, 61, 61, 61, 61, 61, 61]⟩⟩)), (.tmp 80)]), (some (79, true))⟩, ⟨(some 82), (.pick (.tmp 79) (.tmp 81) (.const (.bool false))), none⟩, ⟨(some 76), (.mov (.tmp 82)), none⟩]) (.cond (.tmp 76) (.seq (.ops [⟨(some 83), (.mov (.tmp 7)), none⟩, ⟨(some 84), (.slstr (.const (.string ⟨⟨[61, 61, 61, 61, 61, 61, 61, 61, 61, 61, 61, 61, 61, 61, 61, 61, 61, 61, 61, 61, 61, 61, 61, 61, 61, 61, 61, 61, 61, 61, 61, 61, 61, 61, 61, 61, 61, 61, 61, 61, 61, 61, 61, 61, 61, 61, 61, 61, 61, 61, 61, 61, 61, 61, 61, 61, 61, 61, 61, 61, 61, 61, 61, 61, 61, 61, 61, 61, 61, 61, 61, 61, 61, 61, 61, 61, 61, 61, 61, 61, 61, 61, 61, 61, 61, 61, 61, 61, 61, 61, 61, 61, 61, 61, 61, 61, 61, 61, 61, 61, 61, 61, 61, 61, 61, 61, 61, 61, 61, 61, 61, 61, 61, 61, 61, 61, 61, 61, 61, 61, 61, 61, 61, 61, 61, 61, 61, 61]⟩⟩)) none (some (.tmp 83))), none⟩, ⟨(some 4), (.mov (.tmp 84)), none⟩]) .ret) (.seq (.ops [⟨(some 86), (.mov (.tmp 7)), none⟩, ⟨(some 87), (.bin .leq (.tmp 86) (.const (.int .i64 64))), none⟩, ⟨(some 88), (.mov (.tmp 87)), none⟩, ⟨(some 89), (.mov (.tmp 0)), (some (88, true))⟩, ⟨(some 90), (.call (.func 201) [(.const (.string ⟨⟨[9, 9, 9, 9, 9, 9, 9, 9, 9, 9, 9, 9, 9, 9, 9, 9, 9, 9, 9, 9, 9, 9, 9, 9, 9, 9, 9, 9, 9, 9, 9, 9, 9, 9, 9, 9, 9, 9, 9, 9, 9, 9, 9, 9, 9, 9, 9, 9, 9, 9, 9, 9, 9, 9, 9, 9, 9, 9, 9, 9, 9, 9, 9, 9]⟩⟩)), (.tmp 89)]), (some (88, true))⟩, ⟨(some 91), (.pick (.tmp 88) (.tmp 90) (.const (.bool false))), none⟩, ⟨(some 85), (.mov (.tmp 91)), none⟩]) (.cond (.tmp 85) (.seq (.ops [⟨(some 92), (.mov (.tmp 7)), none⟩, ⟨(some 93), (.slstr (.const (.string ⟨⟨[9, 9, 9, 9, 9, 9, 9, 9, 9, 9, 9, 9, 9, 9, 9, 9, 9, 9, 9, 9, 9, 9, 9, 9, 9, 9, 9, 9, 9, 9, 9, 9, 9, 9, 9, 9, 9, 9, 9, 9, 9, 9, 9, 9, 9, 9, 9, 9, 9, 9, 9, 9, 9, 9, 9, 9, 9, 9, 9, 9, 9, 9, 9, 9]⟩⟩)) none (some (.tmp 92))), none⟩, ⟨(some 4), (.mov (.tmp 93)), none⟩]) .ret) .skip))))))))))) .skip)))) (.seq (.ops [⟨(some 94), (.mov (.tmp 7)), none⟩, ⟨(some 8), (.mov (.tmp 94)), none⟩]) (.seq (.seq (.ops [⟨(some 95), (.mov (.tmp 7)), none⟩, ⟨(some 96), (.bin .gtr (.tmp 95) (.const (.int .i64 8192))), none⟩]) (.cond (.tmp 96) (.seq (.ops [⟨(some 97), (.mov (.tmp 0)), none⟩, ⟨(some 98), (.len true (.tmp 97)), none⟩, ⟨(some 99), (.bin .quo (.const (.int .i64 8192)) (.tmp 98)), none⟩, ⟨(some 100), (.mov (.tmp 0)), none⟩, ⟨(some 101), (.len true (.tmp 100)), none⟩, ⟨(some 102), (.bin .mul (.tmp 99) (.tmp 101)), none⟩, ⟨(some 8), (.mov (.tmp 102)), none⟩]) (.seq (.ops [⟨(some 103), (.mov (.tmp 8)), none⟩, ⟨(some 104), (.bin .eql (.tmp 103) (.const (.int .i64 0))), none⟩]) (.cond (.tmp 104) (.ops [⟨(some 105), (.mov (.tmp 0)), none⟩, ⟨(some 106), (.len true (.tmp 105)), none⟩, ⟨(some 8), (.mov (.tmp 106)), none⟩]) .skip))) .skip)) (.seq (.ops [⟨(some 9), (.new 193 [(.pointer none), (.slice none 0 0)]), none⟩]) (.seq (.ops [⟨(some 107), (.mov (.tmp 7)), none⟩, ⟨(some 108), (.call (.func 202) [(.tmp 9), (.tmp 107)]), none⟩]) (.seq (.ops [⟨(some 109), (.mov (.tmp 0)), none⟩, ⟨(some 110), (.call (.func 203) [(.tmp 9), (.tmp 109)]), none⟩]) (.seq (.block 3 (.loop [] (.seq (.seq (.ops [⟨(some 111), (.call (.func 178) [(.tmp 9)]), none⟩, ⟨(some 112), (.mov (.tmp 7)), none⟩, ⟨(some 113), (.bin .lss (.tmp 111) (.tmp 112)), none⟩]) (.cond (.tmp 113) .skip (.exit 3))) (.block 4 (.seq (.ops [⟨(some 114), (.mov (.tmp 7)), none⟩, ⟨(some 115), (.call (.func 178) [(.tmp 9)]), none⟩, ⟨(some 116), (.bin .sub (.tmp 114) (.tmp 115)), none⟩, ⟨(some 117), (.call (.func 178) [(.tmp 9)]), none⟩, ⟨(some 118), (.mov (.tmp 8)), none⟩, ⟨(some 119), (.minmax false [(.tmp 116), (.tmp 117), (.tmp 118)]), none⟩, ⟨(some 10), (.mov (.tmp 119)), none⟩]) (.ops [⟨(some 120), (.call (.func 179) [(.tmp 9)]), none⟩, ⟨(some 121), (.mov (.tmp 10)), none⟩, ⟨(some 122), (.slstr (.tmp 120) none (some (.tmp 121))), none⟩, ⟨(some 123), (.call (.func 203) [(.tmp 9), (.tmp 122)]), none⟩])))))) (.seq (.ops [⟨(some 124), (.call (.func 179) [(.tmp 9)]), none⟩, ⟨(some 4), (.mov (.tmp 124)), none⟩]) .ret))))))))))))))), [(.tmp 4)]⟩
/-! 113 dynamometer/dynamometerref1.scaled -/
@[go_sem] def o113_1 : List IOper := [⟨(some 2), (.box 23 (.tmp 0)), none⟩, ⟨(some 4), (.mov (.const (.slice none 0 0))), none⟩]
@[go_sem] def o113_3 : List DOper := [⟨⟨(some 5), (.faddr 1 (.tmp 2)), none⟩, false, []⟩, ⟨⟨(some 6), (.ld none (.tmp 5)), none⟩, false, []⟩, ⟨⟨(some 7), (.call (.func 109) [(.tmp 6)]), none⟩, true, []⟩, ⟨⟨(some 8), (.call (.func 123) [(.const (.int .i64 10))]), none⟩, true, []⟩, ⟨⟨(some 9), (.faddr 2 (.tmp 2)), none⟩, false, []⟩, ⟨⟨(some 10), (.ld none (.tmp 9)), none⟩, false, [2, 3]⟩, ⟨⟨(some 11), (.mov (.tmp 1)), none⟩, false, []⟩, ⟨⟨(some 12), (.bin .add (.tmp 10) (.tmp 11)), none⟩, false, []⟩, ⟨⟨(some 13), (.call (.func 122) [(.tmp 8), (.tmp 12)]), none⟩, true, []⟩, ⟨⟨(some 14), (.call (.func 119) [(.tmp 7), (.tmp 13)]), none⟩, true, []⟩, ⟨⟨(some 4), (.mov (.tmp 14)), none⟩, false, []⟩]
def b113_2 : C := (.seq (.dops o113_3) .ret)
@[go_sem] theorem r113_2 : EvK T b113_2 K env H Q = EvK T (.seq (.dops o113_3) .ret) K env H Q := rfl
def b113 : C := (.seq (.ops o113_1) b113_2)
@[go_sem] theorem r113 : EvK T b113 K env H Q = EvK T (.seq (.ops o113_1) b113_2) K env H Q := rfl
def c113 : IFun := ⟨15, b113, [(.tmp 4)]⟩
/-! 115 dynamometer/dynamometerref1.order -/
@[go_sem] def o115_1 : List IOper := [⟨(some 2), (.box 23 (.tmp 0)), none⟩, ⟨(some 3), (.box 23 (.tmp 1)), none⟩, ⟨(some 4), (.mov (.const (.int .i64 0))), none⟩]
@[go_sem] def o115_3 : List IOper := [⟨(some 6), (.faddr 0 (.tmp 2)), none⟩, ⟨(some 7), (.ld none (.tmp 6)), none⟩, ⟨(some 8), (.faddr 0 (.tmp 3)), none⟩, ⟨(some 9), (.ld none (.tmp 8)), none⟩, ⟨(some 10), (.eqb true (.tmp 7) (.tmp 9)), none⟩]
@[go_sem] def o115_6 : List IOper := [⟨(some 11), (.faddr 0 (.tmp 2)), none⟩, ⟨(some 12), (.ld none (.tmp 11)), none⟩]
@[go_sem] def o115_9 : List IOper := [⟨(some 4), (.mov (.const (.int .i64 (-1)))), none⟩]
def b115_8 : C := (.seq (.ops o115_9) .ret)
@[go_sem] theorem r115_8 : EvK T b115_8 K env H Q = EvK T (.seq (.ops o115_9) .ret) K env H Q := rfl
def b115_7 : C := (.cond (.tmp 12) b115_8 .skip)
@[go_sem] theorem r115_7 : EvK T b115_7 K env H Q = EvK T (.cond (.tmp 12) b115_8 .skip) K env H Q := rfl
@[go_sem] def o115_11 : List IOper := [⟨(some 4), (.mov (.const (.int .i64 1))), none⟩]
def b115_10 : C := (.seq (.ops o115_11) .ret)
@[go_sem] theorem r115_10 : EvK T b115_10 K env H Q = EvK T (.seq (.ops o115_11) .ret) K env H Q := rfl
def b115_5 : C := (.seq (.seq (.ops o115_6) b115_7) b115_10)
@[go_sem] theorem r115_5 : EvK T b115_5 K env H Q = EvK T (.seq (.seq (.ops o115_6) b115_7) b115_10) K env H Q := rfl
def b115_4 : C := (.cond (.tmp 10) b115_5 .skip)
@[go_sem] theorem r115_4 : EvK T b115_4 K env H Q = EvK T (.cond (.tmp 10) b115_5 .skip) K env H Q := rfl
@[go_sem] def o115_13 : List DOper := [⟨⟨(some 13), (.ld (some 3) (.tmp 2)), none⟩, false, []⟩, ⟨⟨(some 14), (.call (.func 113) [(.tmp 13), (.const (.int .i64 30))]), none⟩, true, []⟩, ⟨⟨(some 15), (.ld (some 3) (.tmp 3)), none⟩, false, [1]⟩, ⟨⟨(some 16), (.call (.func 113) [(.tmp 15), (.const (.int .i64 30))]), none⟩, true, []⟩, ⟨⟨(some 17), (.call (.func 117) [(.tmp 14), (.tmp 16)]), none⟩, true, []⟩, ⟨⟨(some 5), (.mov (.tmp 17)), none⟩, false, []⟩]
@[go_sem] def o115_15 : List IOper := [⟨(some 18), (.faddr 0 (.tmp 2)), none⟩, ⟨(some 19), (.ld none (.tmp 18)), none⟩]
@[go_sem] def o115_18 : List IOper := [⟨(some 20), (.mov (.tmp 5)), none⟩, ⟨(some 21), (.un .neg (.tmp 20)), none⟩, ⟨(some 4), (.mov (.tmp 21)), none⟩]
def b115_17 : C := (.seq (.ops o115_18) .ret)
@[go_sem] theorem r115_17 : EvK T b115_17 K env H Q = EvK T (.seq (.ops o115_18) .ret) K env H Q := rfl
def b115_16 : C := (.cond (.tmp 19) b115_17 .skip)
@[go_sem] theorem r115_16 : EvK T b115_16 K env H Q = EvK T (.cond (.tmp 19) b115_17 .skip) K env H Q := rfl
@[go_sem] def o115_20 : List IOper := [⟨(some 22), (.mov (.tmp 5)), none⟩, ⟨(some 4), (.mov (.tmp 22)), none⟩]
def b115_19 : C := (.seq (.ops o115_20) .ret)
@[go_sem] theorem r115_19 : EvK T b115_19 K env H Q = EvK T (.seq (.ops o115_20) .ret) K env H Q := rfl
def b115_14 : C := (.seq (.seq (.ops o115_15) b115_16) b115_19)
@[go_sem] theorem r115_14 : EvK T b115_14 K env H Q = EvK T (.seq (.seq (.ops o115_15) b115_16) b115_19) K env H Q := rfl
def b115_12 : C := (.seq (.dops o115_13) b115_14)
@[go_sem] theorem r115_12 : EvK T b115_12 K env H Q = EvK T (.seq (.dops o115_13) b115_14) K env H Q := rfl
def b115_2 : C := (.seq (.seq (.ops o115_3) b115_4) b115_12)
@[go_sem] theorem r115_2 : EvK T b115_2 K env H Q = EvK T (.seq (.seq (.ops o115_3) b115_4) b115_12) K env H Q := rfl
def b115 : C := (.seq (.ops o115_1) b115_2)
@[go_sem] theorem r115 : EvK T b115 K env H Q = EvK T (.seq (.ops o115_1) b115_2) K env H Q := rfl
def c115 : IFun := ⟨23, b115, [(.tmp 4)]⟩
/-! 117 dynamometer/dynamometerref0.Cmp -/
@[go_sem] def o117_1 : List IOper := [⟨(some 4), (.mov (.const (.int .i64 0))), none⟩]
@[go_sem] def o117_3 : List IOper := [⟨(some 6), (.mov (.tmp 0)), none⟩, ⟨(some 7), (.len false (.tmp 6)), none⟩, ⟨(some 8), (.mov (.tmp 1)), none⟩, ⟨(some 9), (.len false (.tmp 8)), none⟩, ⟨(some 10), (.bin .neq (.tmp 7) (.tmp 9)), none⟩]
@[go_sem] def o117_6 : List IOper := [⟨(some 11), (.mov (.tmp 0)), none⟩, ⟨(some 12), (.len false (.tmp 11)), none⟩, ⟨(some 13), (.mov (.tmp 1)), none⟩, ⟨(some 14), (.len false (.tmp 13)), none⟩, ⟨(some 15), (.bin .lss (.tmp 12) (.tmp 14)), none⟩]
@[go_sem] def o117_9 : List IOper := [⟨(some 4), (.mov (.const (.int .i64 (-1)))), none⟩]
def b117_8 : C := (.seq (.ops o117_9) .ret)
@[go_sem] theorem r117_8 : EvK T b117_8 K env H Q = EvK T (.seq (.ops o117_9) .ret) K env H Q := rfl
def b117_7 : C := (.cond (.tmp 15) b117_8 .skip)
@[go_sem] theorem r117_7 : EvK T b117_7 K env H Q = EvK T (.cond (.tmp 15) b117_8 .skip) K env H Q := rfl
@[go_sem] def o117_11 : List IOper := [⟨(some 4), (.mov (.const (.int .i64 1))), none⟩]
def b117_10 : C := (.seq (.ops o117_11) .ret)
@[go_sem] theorem r117_10 : EvK T b117_10 K env H Q = EvK T (.seq (.ops o117_11) .ret) K env H Q := rfl
def b117_5 : C := (.seq (.seq (.ops o117_6) b117_7) b117_10)
@[go_sem] theorem r117_5 : EvK T b117_5 K env H Q = EvK T (.seq (.seq (.ops o117_6) b117_7) b117_10) K env H Q := rfl
def b117_4 : C := (.cond (.tmp 10) b117_5 .skip)
@[go_sem] theorem r117_4 : EvK T b117_4 K env H Q = EvK T (.cond (.tmp 10) b117_5 .skip) K env H Q := rfl
@[go_sem] def o117_13 : List IOper := [⟨(some 16), (.mov (.tmp 0)), none⟩, ⟨(some 17), (.len false (.tmp 16)), none⟩, ⟨(some 18), (.bin .sub (.tmp 17) (.const (.int .i64 1))), none⟩, ⟨(some 5), (.mov (.tmp 18)), none⟩]
@[go_sem] def o117_17 : List IOper := [⟨(some 19), (.mov (.tmp 5)), none⟩, ⟨(some 20), (.bin .geq (.tmp 19) (.const (.int .i64 0))), none⟩]
def b117_18 : C := (.cond (.tmp 20) .skip (.exit 0))
@[go_sem] theorem r117_18 : EvK T b117_18 K env H Q = EvK T (.cond (.tmp 20) .skip (.exit 0)) K env H Q := rfl
@[go_sem] def o117_21 : List DOper := [⟨⟨(some 23), (.mov (.tmp 0)), none⟩, false, []⟩, ⟨⟨(some 24), (.mov (.tmp 5)), none⟩, false, []⟩, ⟨⟨(some 25), (.iaddr 1 (.tmp 23) (.tmp 24)), none⟩, false, []⟩, ⟨⟨(some 26), (.ld none (.tmp 25)), none⟩, false, []⟩, ⟨⟨(some 27), (.mov (.tmp 1)), none⟩, false, []⟩, ⟨⟨(some 28), (.mov (.tmp 5)), none⟩, false, []⟩, ⟨⟨(some 29), (.iaddr 1 (.tmp 27) (.tmp 28)), none⟩, false, []⟩, ⟨⟨(some 30), (.ld none (.tmp 29)), none⟩, false, []⟩, ⟨⟨(some 31), (.bin .lss (.tmp 26) (.tmp 30)), none⟩, false, []⟩]
@[go_sem] def o117_24 : List IOper := [⟨(some 4), (.mov (.const (.int .i64 (-1)))), none⟩]
def b117_23 : C := (.seq (.ops o117_24) .ret)
@[go_sem] theorem r117_23 : EvK T b117_23 K env H Q = EvK T (.seq (.ops o117_24) .ret) K env H Q := rfl
def b117_22 : C := (.cond (.tmp 31) b117_23 .skip)
@[go_sem] theorem r117_22 : EvK T b117_22 K env H Q = EvK T (.cond (.tmp 31) b117_23 .skip) K env H Q := rfl
@[go_sem] def o117_26 : List DOper := [⟨⟨(some 32), (.mov (.tmp 0)), none⟩, false, []⟩, ⟨⟨(some 33), (.mov (.tmp 5)), none⟩, false, []⟩, ⟨⟨(some 34), (.iaddr 1 (.tmp 32) (.tmp 33)), none⟩, false, []⟩, ⟨⟨(some 35), (.ld none (.tmp 34)), none⟩, false, []⟩, ⟨⟨(some 36), (.mov (.tmp 1)), none⟩, false, []⟩, ⟨⟨(some 37), (.mov (.tmp 5)), none⟩, false, []⟩, ⟨⟨(some 38), (.iaddr 1 (.tmp 36) (.tmp 37)), none⟩, false, []⟩, ⟨⟨(some 39), (.ld none (.tmp 38)), none⟩, false, []⟩, ⟨⟨(some 40), (.bin .gtr (.tmp 35) (.tmp 39)), none⟩, false, []⟩]
@[go_sem] def o117_29 : List IOper := [⟨(some 4), (.mov (.const (.int .i64 1))), none⟩]
def b117_28 : C := (.seq (.ops o117_29) .ret)
@[go_sem] theorem r117_28 : EvK T b117_28 K env H Q = EvK T (.seq (.ops o117_29) .ret) K env H Q := rfl
def b117_27 : C := (.cond (.tmp 40) b117_28 .skip)
@[go_sem] theorem r117_27 : EvK T b117_27 K env H Q = EvK T (.cond (.tmp 40) b117_28 .skip) K env H Q := rfl
def b117_25 : C := (.seq (.dops o117_26) b117_27)
@[go_sem] theorem r117_25 : EvK T b117_25 K env H Q = EvK T (.seq (.dops o117_26) b117_27) K env H Q := rfl
def b117_20 : C := (.seq (.seq (.dops o117_21) b117_22) b117_25)
@[go_sem] theorem r117_20 : EvK T b117_20 K env H Q = EvK T (.seq (.seq (.dops o117_21) b117_22) b117_25) K env H Q := rfl
@[go_sem] def o117_31 : List IOper := [⟨(some 21), (.mov (.tmp 5)), none⟩, ⟨(some 22), (.bin .sub (.tmp 21) (.const (.int .i64 1))), none⟩, ⟨(some 5), (.mov (.tmp 22)), none⟩]
def b117_30 : C := (.ops o117_31)
@[go_sem] theorem r117_30 : EvK T b117_30 K env H Q = EvK T (.ops o117_31) K env H Q := rfl
def b117_19 : C := (.seq (.block 1 b117_20) b117_30)
@[go_sem] theorem r117_19 : EvK T b117_19 K env H Q = EvK T (.seq (.block 1 b117_20) b117_30) K env H Q := rfl
def b117_16 : C := (.seq (.seq (.ops o117_17) b117_18) b117_19)
@[go_sem] theorem r117_16 : EvK T b117_16 K env H Q = EvK T (.seq (.seq (.ops o117_17) b117_18) b117_19) K env H Q := rfl
def l117_15 : C := .loop [] b117_16
theorem w117_15 {ι : Type} (i0 : ι) (Inv : ι → Env → Heap → Prop) (m : ι → Nat) (h0 : Inv i0 env H) (hs : ∀ i e h, Inv i e h → (∀ j e' h', m j < m i → Inv j e' h' → EvK T l117_15 K e' h' Q) → EvK T b117_16 (.loop [] b117_16 :: K) (forget [] e) h Q) : EvK T l117_15 K env H Q := EvK_while i0 Inv m h0 hs
def b117_14 : C := (.block 0 l117_15)
@[go_sem] theorem r117_14 : EvK T b117_14 K env H Q = EvK T (.block 0 l117_15) K env H Q := rfl
@[go_sem] def o117_33 : List IOper := [⟨(some 4), (.mov (.const (.int .i64 0))), none⟩]
def b117_32 : C := (.seq (.ops o117_33) .ret)
@[go_sem] theorem r117_32 : EvK T b117_32 K env H Q = EvK T (.seq (.ops o117_33) .ret) K env H Q := rfl
def b117_12 : C := (.seq (.seq (.ops o117_13) b117_14) b117_32)
@[go_sem] theorem r117_12 : EvK T b117_12 K env H Q = EvK T (.seq (.seq (.ops o117_13) b117_14) b117_32) K env H Q := rfl
def b117_2 : C := (.seq (.seq (.ops o117_3) b117_4) b117_12)
@[go_sem] theorem r117_2 : EvK T b117_2 K env H Q = EvK T (.seq (.seq (.ops o117_3) b117_4) b117_12) K env H Q := rfl
def b117 : C := (.seq (.ops o117_1) b117_2)
@[go_sem] theorem r117 : EvK T b117 K env H Q = EvK T (.seq (.ops o117_1) b117_2) K env H Q := rfl
def c117 : IFun := ⟨41, b117, [(.tmp 4)]⟩
/-! 119 dynamometer/dynamometerref0.Mul -/
@[go_sem] def o119_1 : List IOper := [⟨(some 4), (.mov (.const (.slice none 0 0))), none⟩]
@[go_sem] def o119_3 : List IOper := [⟨(some 10), (.mov (.tmp 0)), none⟩, ⟨(some 11), (.len false (.tmp 10)), none⟩, ⟨(some 12), (.mov (.tmp 1)), none⟩, ⟨(some 13), (.len false (.tmp 12)), none⟩, ⟨(some 14), (.bin .add (.tmp 11) (.tmp 13)), none⟩, ⟨(some 15), (.mksl [(.int .i64 0)] 8 (.tmp 14) (.tmp 14)), none⟩, ⟨(some 5), (.mov (.tmp 15)), none⟩]
@[go_sem] def o119_5 : List IOper := [⟨(some 6), (.mov (.const (.int .i64 0))), none⟩]
@[go_sem] def o119_9 : List IOper := [⟨(some 16), (.mov (.tmp 6)), none⟩, ⟨(some 17), (.mov (.tmp 0)), none⟩, ⟨(some 18), (.len false (.tmp 17)), none⟩, ⟨(some 19), (.bin .lss (.tmp 16) (.tmp 18)), none⟩]
def b119_10 : C := (.cond (.tmp 19) .skip (.exit 0))
@[go_sem] theorem r119_10 : EvK T b119_10 K env H Q = EvK T (.cond (.tmp 19) .skip (.exit 0)) K env H Q := rfl
@[go_sem] def o119_13 : List IOper := [⟨(some 7), (.mov (.const (.int .i64 0))), none⟩]
@[go_sem] def o119_15 : List IOper := [⟨(some 8), (.mov (.const (.int .i64 0))), none⟩]
@[go_sem] def o119_19 : List IOper := [⟨(some 22), (.mov (.tmp 8)), none⟩, ⟨(some 23), (.mov (.tmp 1)), none⟩, ⟨(some 24), (.len false (.tmp 23)), none⟩, ⟨(some 25), (.bin .lss (.tmp 22) (.tmp 24)), none⟩, ⟨(some 26), (.mov (.tmp 25)), none⟩, ⟨(some 27), (.mov (.tmp 7)), (some (26, false))⟩, ⟨(some 28), (.bin .gtr (.tmp 27) (.const (.int .i64 0))), (some (26, false))⟩, ⟨(some 29), (.pick (.tmp 26) (.const (.bool true)) (.tmp 28)), none⟩]
def b119_20 : C := (.cond (.tmp 29) .skip (.exit 2))
@[go_sem] theorem r119_20 : EvK T b119_20 K env H Q = EvK T (.cond (.tmp 29) .skip (.exit 2)) K env H Q := rfl
@[go_sem] def o119_23 : List IOper := [⟨(some 32), (.mov (.tmp 5)), none⟩, ⟨(some 33), (.mov (.tmp 6)), none⟩, ⟨(some 34), (.mov (.tmp 8)), none⟩, ⟨(some 35), (.bin .add (.tmp 33) (.tmp 34)), none⟩, ⟨(some 36), (.iaddr 1 (.tmp 32) (.tmp 35)), none⟩, ⟨(some 37), (.ld none (.tmp 36)), none⟩, ⟨(some 38), (.mov (.tmp 7)), none⟩, ⟨(some 39), (.bin .add (.tmp 37) (.tmp 38)), none⟩, ⟨(some 9), (.mov (.tmp 39)), none⟩]
@[go_sem] def o119_25 : List IOper := [⟨(some 40), (.mov (.tmp 8)), none⟩, ⟨(some 41), (.mov (.tmp 1)), none⟩, ⟨(some 42), (.len false (.tmp 41)), none⟩, ⟨(some 43), (.bin .lss (.tmp 40) (.tmp 42)), none⟩]
@[go_sem] def o119_28 : List DOper := [⟨⟨(some 44), (.mov (.tmp 9)), none⟩, false, []⟩, ⟨⟨(some 45), (.mov (.tmp 0)), none⟩, false, []⟩, ⟨⟨(some 46), (.mov (.tmp 6)), none⟩, false, []⟩, ⟨⟨(some 47), (.iaddr 1 (.tmp 45) (.tmp 46)), none⟩, false, []⟩, ⟨⟨(some 48), (.ld none (.tmp 47)), none⟩, false, []⟩, ⟨⟨(some 49), (.mov (.tmp 1)), none⟩, false, []⟩, ⟨⟨(some 50), (.mov (.tmp 8)), none⟩, false, []⟩, ⟨⟨(some 51), (.iaddr 1 (.tmp 49) (.tmp 50)), none⟩, false, []⟩, ⟨⟨(some 52), (.ld none (.tmp 51)), none⟩, false, []⟩, ⟨⟨(some 53), (.bin .mul (.tmp 48) (.tmp 52)), none⟩, false, []⟩, ⟨⟨(some 54), (.bin .add (.tmp 44) (.tmp 53)), none⟩, false, []⟩, ⟨⟨(some 9), (.mov (.tmp 54)), none⟩, false, []⟩]
def b119_27 : C := (.dops o119_28)
@[go_sem] theorem r119_27 : EvK T b119_27 K env H Q = EvK T (.dops o119_28) K env H Q := rfl
def b119_26 : C := (.cond (.tmp 43) b119_27 .skip)
@[go_sem] theorem r119_26 : EvK T b119_26 K env H Q = EvK T (.cond (.tmp 43) b119_27 .skip) K env H Q := rfl
@[go_sem] def o119_30 : List IOper := [⟨(some 55), (.mov (.tmp 5)), none⟩, ⟨(some 56), (.mov (.tmp 6)), none⟩, ⟨(some 57), (.mov (.tmp 8)), none⟩, ⟨(some 58), (.bin .add (.tmp 56) (.tmp 57)), none⟩, ⟨(some 59), (.mov (.tmp 9)), none⟩, ⟨(some 60), (.bin .rem (.tmp 59) (.const (.int .i64 10000))), none⟩, ⟨(some 61), (.iaddr 1 (.tmp 55) (.tmp 58)), none⟩, ⟨none, (.st 1 (.tmp 61) (.tmp 60)), none⟩]
@[go_sem] def o119_32 : List IOper := [⟨(some 62), (.mov (.tmp 9)), none⟩, ⟨(some 63), (.bin .quo (.tmp 62) (.const (.int .i64 10000))), none⟩, ⟨(some 7), (.mov (.tmp 63)), none⟩]
def b119_31 : C := (.ops o119_32)
@[go_sem] theorem r119_31 : EvK T b119_31 K env H Q = EvK T (.ops o119_32) K env H Q := rfl
def b119_29 : C := (.seq (.ops o119_30) b119_31)
@[go_sem] theorem r119_29 : EvK T b119_29 K env H Q = EvK T (.seq (.ops o119_30) b119_31) K env H Q := rfl
def b119_24 : C := (.seq (.seq (.ops o119_25) b119_26) b119_29)
@[go_sem] theorem r119_24 : EvK T b119_24 K env H Q = EvK T (.seq (.seq (.ops o119_25) b119_26) b119_29) K env H Q := rfl
def b119_22 : C := (.seq (.ops o119_23) b119_24)
@[go_sem] theorem r119_22 : EvK T b119_22 K env H Q = EvK T (.seq (.ops o119_23) b119_24) K env H Q := rfl
@[go_sem] def o119_34 : List IOper := [⟨(some 30), (.mov (.tmp 8)), none⟩, ⟨(some 31), (.bin .add (.tmp 30) (.const (.int .i64 1))), none⟩, ⟨(some 8), (.mov (.tmp 31)), none⟩]
def b119_33 : C := (.ops o119_34)
@[go_sem] theorem r119_33 : EvK T b119_33 K env H Q = EvK T (.ops o119_34) K env H Q := rfl
def b119_21 : C := (.seq (.block 3 b119_22) b119_33)
@[go_sem] theorem r119_21 : EvK T b119_21 K env H Q = EvK T (.seq (.block 3 b119_22) b119_33) K env H Q := rfl
def b119_18 : C := (.seq (.seq (.ops o119_19) b119_20) b119_21)
@[go_sem] theorem r119_18 : EvK T b119_18 K env H Q = EvK T (.seq (.seq (.ops o119_19) b119_20) b119_21) K env H Q := rfl
def l119_17 : C := .loop [] b119_18
theorem w119_17 {ι : Type} (i0 : ι) (Inv : ι → Env → Heap → Prop) (m : ι → Nat) (h0 : Inv i0 env H) (hs : ∀ i e h, Inv i e h → (∀ j e' h', m j < m i → Inv j e' h' → EvK T l119_17 K e' h' Q) → EvK T b119_18 (.loop [] b119_18 :: K) (forget [] e) h Q) : EvK T l119_17 K env H Q := EvK_while i0 Inv m h0 hs
def b119_16 : C := (.block 2 l119_17)
@[go_sem] theorem r119_16 : EvK T b119_16 K env H Q = EvK T (.block 2 l119_17) K env H Q := rfl
def b119_14 : C := (.seq (.ops o119_15) b119_16)
@[go_sem] theorem r119_14 : EvK T b119_14 K env H Q = EvK T (.seq (.ops o119_15) b119_16) K env H Q := rfl
def b119_12 : C := (.seq (.ops o119_13) b119_14)
@[go_sem] theorem r119_12 : EvK T b119_12 K env H Q = EvK T (.seq (.ops o119_13) b119_14) K env H Q := rfl
@[go_sem] def o119_36 : List IOper := [⟨(some 20), (.mov (.tmp 6)), none⟩, ⟨(some 21), (.bin .add (.tmp 20) (.const (.int .i64 1))), none⟩, ⟨(some 6), (.mov (.tmp 21)), none⟩]
def b119_35 : C := (.ops o119_36)
@[go_sem] theorem r119_35 : EvK T b119_35 K env H Q = EvK T (.ops o119_36) K env H Q := rfl
def b119_11 : C := (.seq (.block 1 b119_12) b119_35)
@[go_sem] theorem r119_11 : EvK T b119_11 K env H Q = EvK T (.seq (.block 1 b119_12) b119_35) K env H Q := rfl
def b119_8 : C := (.seq (.seq (.ops o119_9) b119_10) b119_11)
@[go_sem] theorem r119_8 : EvK T b119_8 K env H Q = EvK T (.seq (.seq (.ops o119_9) b119_10) b119_11) K env H Q := rfl
def l119_7 : C := .loop [] b119_8
theorem w119_7 {ι : Type} (i0 : ι) (Inv : ι → Env → Heap → Prop) (m : ι → Nat) (h0 : Inv i0 env H) (hs : ∀ i e h, Inv i e h → (∀ j e' h', m j < m i → Inv j e' h' → EvK T l119_7 K e' h' Q) → EvK T b119_8 (.loop [] b119_8 :: K) (forget [] e) h Q) : EvK T l119_7 K env H Q := EvK_while i0 Inv m h0 hs
def b119_6 : C := (.block 0 l119_7)
@[go_sem] theorem r119_6 : EvK T b119_6 K env H Q = EvK T (.block 0 l119_7) K env H Q := rfl
@[go_sem] def o119_38 : List IOper := [⟨(some 64), (.mov (.tmp 5)), none⟩, ⟨(some 65), (.call (.func 197) [(.tmp 64)]), none⟩, ⟨(some 4), (.mov (.tmp 65)), none⟩]
def b119_37 : C := (.seq (.ops o119_38) .ret)
@[go_sem] theorem r119_37 : EvK T b119_37 K env H Q = EvK T (.seq (.ops o119_38) .ret) K env H Q := rfl
def b119_4 : C := (.seq (.seq (.ops o119_5) b119_6) b119_37)
@[go_sem] theorem r119_4 : EvK T b119_4 K env H Q = EvK T (.seq (.seq (.ops o119_5) b119_6) b119_37) K env H Q := rfl
def b119_2 : C := (.seq (.ops o119_3) b119_4)
@[go_sem] theorem r119_2 : EvK T b119_2 K env H Q = EvK T (.seq (.ops o119_3) b119_4) K env H Q := rfl
def b119 : C := (.seq (.ops o119_1) b119_2)
@[go_sem] theorem r119 : EvK T b119 K env H Q = EvK T (.seq (.ops o119_1) b119_2) K env H Q := rfl
def c119 : IFun := ⟨66, b119, [(.tmp 4)]⟩
/-! 122 dynamometer/dynamometerref0.Pow -/
@[go_sem] def o122_1 : List IOper := [⟨(some 4), (.mov (.const (.slice none 0 0))), none⟩]
@[go_sem] def o122_3 : List IOper := [⟨(some 6), (.call (.func 123) [(.const (.int .i64 1))]), none⟩, ⟨(some 5), (.mov (.tmp 6)), none⟩]
@[go_sem] def o122_7 : List IOper := [⟨(some 7), (.mov (.tmp 1)), none⟩, ⟨(some 8), (.bin .gtr (.tmp 7) (.const (.int .i64 0))), none⟩]
def b122_8 : C := (.cond (.tmp 8) .skip (.exit 0))
@[go_sem] theorem r122_8 : EvK T b122_8 K env H Q = EvK T (.cond (.tmp 8) .skip (.exit 0)) K env H Q := rfl
@[go_sem] def o122_11 : List IOper := [⟨(some 9), (.mov (.tmp 1)), none⟩, ⟨(some 10), (.bin .rem (.tmp 9) (.const (.int .i64 2))), none⟩, ⟨(some 11), (.bin .eql (.tmp 10) (.const (.int .i64 1))), none⟩]
@[go_sem] def o122_14 : List IOper := [⟨(some 12), (.mov (.tmp 5)), none⟩, ⟨(some 13), (.mov (.tmp 0)), none⟩, ⟨(some 14), (.call (.func 119) [(.tmp 12), (.tmp 13)]), none⟩, ⟨(some 5), (.mov (.tmp 14)), none⟩]
def b122_13 : C := (.ops o122_14)
@[go_sem] theorem r122_13 : EvK T b122_13 K env H Q = EvK T (.ops o122_14) K env H Q := rfl
def b122_12 : C := (.cond (.tmp 11) b122_13 .skip)
@[go_sem] theorem r122_12 : EvK T b122_12 K env H Q = EvK T (.cond (.tmp 11) b122_13 .skip) K env H Q := rfl
@[go_sem] def o122_16 : List IOper := [⟨(some 15), (.mov (.tmp 0)), none⟩, ⟨(some 16), (.mov (.tmp 0)), none⟩, ⟨(some 17), (.call (.func 119) [(.tmp 15), (.tmp 16)]), none⟩, ⟨(some 0), (.mov (.tmp 17)), none⟩]
@[go_sem] def o122_18 : List IOper := [⟨(some 18), (.mov (.tmp 1)), none⟩, ⟨(some 19), (.bin .quo (.tmp 18) (.const (.int .i64 2))), none⟩, ⟨(some 1), (.mov (.tmp 19)), none⟩]
def b122_17 : C := (.ops o122_18)
@[go_sem] theorem r122_17 : EvK T b122_17 K env H Q = EvK T (.ops o122_18) K env H Q := rfl
def b122_15 : C := (.seq (.ops o122_16) b122_17)
@[go_sem] theorem r122_15 : EvK T b122_15 K env H Q = EvK T (.seq (.ops o122_16) b122_17) K env H Q := rfl
def b122_10 : C := (.seq (.seq (.ops o122_11) b122_12) b122_15)
@[go_sem] theorem r122_10 : EvK T b122_10 K env H Q = EvK T (.seq (.seq (.ops o122_11) b122_12) b122_15) K env H Q := rfl
def b122_9 : C := (.block 1 b122_10)
@[go_sem] theorem r122_9 : EvK T b122_9 K env H Q = EvK T (.block 1 b122_10) K env H Q := rfl
def b122_6 : C := (.seq (.seq (.ops o122_7) b122_8) b122_9)
@[go_sem] theorem r122_6 : EvK T b122_6 K env H Q = EvK T (.seq (.seq (.ops o122_7) b122_8) b122_9) K env H Q := rfl
def l122_5 : C := .loop [] b122_6
theorem w122_5 {ι : Type} (i0 : ι) (Inv : ι → Env → Heap → Prop) (m : ι → Nat) (h0 : Inv i0 env H) (hs : ∀ i e h, Inv i e h → (∀ j e' h', m j < m i → Inv j e' h' → EvK T l122_5 K e' h' Q) → EvK T b122_6 (.loop [] b122_6 :: K) (forget [] e) h Q) : EvK T l122_5 K env H Q := EvK_while i0 Inv m h0 hs
@[go_sem] def o122_20 : List IOper := [⟨(some 20), (.mov (.tmp 5)), none⟩, ⟨(some 4), (.mov (.tmp 20)), none⟩]
def b122_19 : C := (.seq (.ops o122_20) .ret)
@[go_sem] theorem r122_19 : EvK T b122_19 K env H Q = EvK T (.seq (.ops o122_20) .ret) K env H Q := rfl
def b122_4 : C := (.seq (.block 0 l122_5) b122_19)
@[go_sem] theorem r122_4 : EvK T b122_4 K env H Q = EvK T (.seq (.block 0 l122_5) b122_19) K env H Q := rfl
def b122_2 : C := (.seq (.ops o122_3) b122_4)
@[go_sem] theorem r122_2 : EvK T b122_2 K env H Q = EvK T (.seq (.ops o122_3) b122_4) K env H Q := rfl
def b122 : C := (.seq (.ops o122_1) b122_2)
@[go_sem] theorem r122 : EvK T b122 K env H Q = EvK T (.seq (.ops o122_1) b122_2) K env H Q := rfl
def c122 : IFun := ⟨21, b122, [(.tmp 4)]⟩
/-! 123 dynamometer/dynamometerref0.Of -/
@[go_sem] def o123_1 : List IOper := [⟨(some 2), (.mov (.const (.slice none 0 0))), none⟩]
@[go_sem] def o123_3 : List IOper := [⟨(some 3), (.mov (.const (.slice none 0 0))), none⟩]
@[go_sem] def o123_7 : List IOper := [⟨(some 4), (.mov (.tmp 0)), none⟩, ⟨(some 5), (.bin .gtr (.tmp 4) (.const (.int .i64 0))), none⟩]
def b123_8 : C := (.cond (.tmp 5) .skip (.exit 0))
@[go_sem] theorem r123_8 : EvK T b123_8 K env H Q = EvK T (.cond (.tmp 5) .skip (.exit 0)) K env H Q := rfl
@[go_sem] def o123_11 : List IOper := [⟨(some 6), (.mov (.tmp 3)), none⟩, ⟨(some 7), (.mov (.tmp 0)), none⟩, ⟨(some 8), (.bin .rem (.tmp 7) (.const (.int .i64 10000))), none⟩, ⟨(some 9), (.gsl 1 [(.int .i64 0)] [(0, (1, (.tmp 8)))]), none⟩, ⟨(some 10), (.append 3 1 8 (.tmp 6) (.tmp 9)), none⟩, ⟨(some 3), (.mov (.tmp 10)), none⟩]
@[go_sem] def o123_13 : List IOper := [⟨(some 11), (.mov (.tmp 0)), none⟩, ⟨(some 12), (.bin .quo (.tmp 11) (.const (.int .i64 10000))), none⟩, ⟨(some 0), (.mov (.tmp 12)), none⟩]
def b123_12 : C := (.ops o123_13)
@[go_sem] theorem r123_12 : EvK T b123_12 K env H Q = EvK T (.ops o123_13) K env H Q := rfl
def b123_10 : C := (.seq (.ops o123_11) b123_12)
@[go_sem] theorem r123_10 : EvK T b123_10 K env H Q = EvK T (.seq (.ops o123_11) b123_12) K env H Q := rfl
def b123_9 : C := (.block 1 b123_10)
@[go_sem] theorem r123_9 : EvK T b123_9 K env H Q = EvK T (.block 1 b123_10) K env H Q := rfl
def b123_6 : C := (.seq (.seq (.ops o123_7) b123_8) b123_9)
@[go_sem] theorem r123_6 : EvK T b123_6 K env H Q = EvK T (.seq (.seq (.ops o123_7) b123_8) b123_9) K env H Q := rfl
def l123_5 : C := .loop [] b123_6
theorem w123_5 {ι : Type} (i0 : ι) (Inv : ι → Env → Heap → Prop) (m : ι → Nat) (h0 : Inv i0 env H) (hs : ∀ i e h, Inv i e h → (∀ j e' h', m j < m i → Inv j e' h' → EvK T l123_5 K e' h' Q) → EvK T b123_6 (.loop [] b123_6 :: K) (forget [] e) h Q) : EvK T l123_5 K env H Q := EvK_while i0 Inv m h0 hs
@[go_sem] def o123_15 : List IOper := [⟨(some 13), (.mov (.tmp 3)), none⟩, ⟨(some 2), (.mov (.tmp 13)), none⟩]
def b123_14 : C := (.seq (.ops o123_15) .ret)
@[go_sem] theorem r123_14 : EvK T b123_14 K env H Q = EvK T (.seq (.ops o123_15) .ret) K env H Q := rfl
def b123_4 : C := (.seq (.block 0 l123_5) b123_14)
@[go_sem] theorem r123_4 : EvK T b123_4 K env H Q = EvK T (.seq (.block 0 l123_5) b123_14) K env H Q := rfl
def b123_2 : C := (.seq (.ops o123_3) b123_4)
@[go_sem] theorem r123_2 : EvK T b123_2 K env H Q = EvK T (.seq (.ops o123_3) b123_4) K env H Q := rfl
def b123 : C := (.seq (.ops o123_1) b123_2)
@[go_sem] theorem r123 : EvK T b123 K env H Q = EvK T (.seq (.ops o123_1) b123_2) K env H Q := rfl
def c123 : IFun := ⟨14, b123, [(.tmp 2)]⟩
/-! 153 strings.trimLeftByte -/
@[go_sem] def o153_1 : List IOper := [⟨(some 4), (.mov (.const (.string ⟨⟨[]⟩⟩))), none⟩]
@[go_sem] def o153_5 : List IOper := [⟨(some 5), (.mov (.tmp 0)), none⟩, ⟨(some 6), (.len true (.tmp 5)), none⟩, ⟨(some 7), (.bin .gtr (.tmp 6) (.const (.int .i64 0))), none⟩, ⟨(some 8), (.mov (.tmp 7)), none⟩, ⟨(some 9), (.mov (.tmp 0)), (some (8, true))⟩, ⟨(some 10), (.ixstr (.tmp 9) (.const (.int .i64 0))), (some (8, true))⟩, ⟨(some 11), (.mov (.tmp 1)), (some (8, true))⟩, ⟨(some 12), (.bin .eql (.tmp 10) (.tmp 11)), (some (8, true))⟩, ⟨(some 13), (.pick (.tmp 8) (.tmp 12) (.const (.bool false))), none⟩]
def b153_6 : C := (.cond (.tmp 13) .skip (.exit 0))
@[go_sem] theorem r153_6 : EvK T b153_6 K env H Q = EvK T (.cond (.tmp 13) .skip (.exit 0)) K env H Q := rfl
@[go_sem] def o153_9 : List IOper := [⟨(some 14), (.mov (.tmp 0)), none⟩, ⟨(some 15), (.slstr (.tmp 14) (some (.const (.int .i64 1))) none), none⟩, ⟨(some 0), (.mov (.tmp 15)), none⟩]
def b153_8 : C := (.ops o153_9)
@[go_sem] theorem r153_8 : EvK T b153_8 K env H Q = EvK T (.ops o153_9) K env H Q := rfl
def b153_7 : C := (.block 1 b153_8)
@[go_sem] theorem r153_7 : EvK T b153_7 K env H Q = EvK T (.block 1 b153_8) K env H Q := rfl
def b153_4 : C := (.seq (.seq (.ops o153_5) b153_6) b153_7)
@[go_sem] theorem r153_4 : EvK T b153_4 K env H Q = EvK T (.seq (.seq (.ops o153_5) b153_6) b153_7) K env H Q := rfl
def l153_3 : C := .loop [] b153_4
theorem w153_3 {ι : Type} (i0 : ι) (Inv : ι → Env → Heap → Prop) (m : ι → Nat) (h0 : Inv i0 env H) (hs : ∀ i e h, Inv i e h → (∀ j e' h', m j < m i → Inv j e' h' → EvK T l153_3 K e' h' Q) → EvK T b153_4 (.loop [] b153_4 :: K) (forget [] e) h Q) : EvK T l153_3 K env H Q := EvK_while i0 Inv m h0 hs
@[go_sem] def o153_11 : List IOper := [⟨(some 16), (.mov (.tmp 0)), none⟩, ⟨(some 4), (.mov (.tmp 16)), none⟩]
def b153_10 : C := (.seq (.ops o153_11) .ret)
@[go_sem] theorem r153_10 : EvK T b153_10 K env H Q = EvK T (.seq (.ops o153_11) .ret) K env H Q := rfl
def b153_2 : C := (.seq (.block 0 l153_3) b153_10)
@[go_sem] theorem r153_2 : EvK T b153_2 K env H Q = EvK T (.seq (.block 0 l153_3) b153_10) K env H Q := rfl
def b153 : C := (.seq (.ops o153_1) b153_2)
@[go_sem] theorem r153 : EvK T b153 K env H Q = EvK T (.seq (.ops o153_1) b153_2) K env H Q := rfl
def c153 : IFun := ⟨17, b153, [(.tmp 4)]⟩
/-! 154 strings.trimRightByte -/
@[go_sem] def o154_1 : List IOper := [⟨(some 4), (.mov (.const (.string ⟨⟨[]⟩⟩))), none⟩]
@[go_sem] def o154_5 : List IOper := [⟨(some 5), (.mov (.tmp 0)), none⟩, ⟨(some 6), (.len true (.tmp 5)), none⟩, ⟨(some 7), (.bin .gtr (.tmp 6) (.const (.int .i64 0))), none⟩, ⟨(some 8), (.mov (.tmp 7)), none⟩, ⟨(some 9), (.mov (.tmp 0)), (some (8, true))⟩, ⟨(some 10), (.mov (.tmp 0)), (some (8, true))⟩, ⟨(some 11), (.len true (.tmp 10)), (some (8, true))⟩, ⟨(some 12), (.bin .sub (.tmp 11) (.const (.int .i64 1))), (some (8, true))⟩, ⟨(some 13), (.ixstr (.tmp 9) (.tmp 12)), (some (8, true))⟩, ⟨(some 14), (.mov (.tmp 1)), (some (8, true))⟩, ⟨(some 15), (.bin .eql (.tmp 13) (.tmp 14)), (some (8, true))⟩, ⟨(some 16), (.pick (.tmp 8) (.tmp 15) (.const (.bool false))), none⟩]
def b154_6 : C := (.cond (.tmp 16) .skip (.exit 0))
@[go_sem] theorem r154_6 : EvK T b154_6 K env H Q = EvK T (.cond (.tmp 16) .skip (.exit 0)) K env H Q := rfl
@[go_sem] def o154_9 : List IOper := [⟨(some 17), (.mov (.tmp 0)), none⟩, ⟨(some 18), (.mov (.tmp 0)), none⟩, ⟨(some 19), (.len true (.tmp 18)), none⟩, ⟨(some 20), (.bin .sub (.tmp 19) (.const (.int .i64 1))), none⟩, ⟨(some 21), (.slstr (.tmp 17) none (some (.tmp 20))), none⟩, ⟨(some 0), (.mov (.tmp 21)), none⟩]
def b154_8 : C := (.ops o154_9)
@[go_sem] theorem r154_8 : EvK T b154_8 K env H Q = EvK T (.ops o154_9) K env H Q := rfl
def b154_7 : C := (.block 1 b154_8)
@[go_sem] theorem r154_7 : EvK T b154_7 K env H Q = EvK T (.block 1 b154_8) K env H Q := rfl
def b154_4 : C := (.seq (.seq (.ops o154_5) b154_6) b154_7)
@[go_sem] theorem r154_4 : EvK T b154_4 K env H Q = EvK T (.seq (.seq (.ops o154_5) b154_6) b154_7) K env H Q := rfl
def l154_3 : C := .loop [] b154_4
theorem w154_3 {ι : Type} (i0 : ι) (Inv : ι → Env → Heap → Prop) (m : ι → Nat) (h0 : Inv i0 env H) (hs : ∀ i e h, Inv i e h → (∀ j e' h', m j < m i → Inv j e' h' → EvK T l154_3 K e' h' Q) → EvK T b154_4 (.loop [] b154_4 :: K) (forget [] e) h Q) : EvK T l154_3 K env H Q := EvK_while i0 Inv m h0 hs
@[go_sem] def o154_11 : List IOper := [⟨(some 22), (.mov (.tmp 0)), none⟩, ⟨(some 4), (.mov (.tmp 22)), none⟩]
def b154_10 : C := (.seq (.ops o154_11) .ret)
@[go_sem] theorem r154_10 : EvK T b154_10 K env H Q = EvK T (.seq (.ops o154_11) .ret) K env H Q := rfl
def b154_2 : C := (.seq (.block 0 l154_3) b154_10)
@[go_sem] theorem r154_2 : EvK T b154_2 K env H Q = EvK T (.seq (.block 0 l154_3) b154_10) K env H Q := rfl
def b154 : C := (.seq (.ops o154_1) b154_2)
@[go_sem] theorem r154 : EvK T b154 K env H Q = EvK T (.seq (.ops o154_1) b154_2) K env H Q := rfl
def c154 : IFun := ⟨23, b154, [(.tmp 4)]⟩
/-! 155 strings.makeASCIISet -/
@[go_sem] def o155_1 : List IOper := [⟨(some 2), (.new 179 [(.bool false), (.bool false), (.bool false), (.bool false), (.bool false), (.bool false), (.bool false), (.bool false), (.bool false), (.bool false), (.bool false), (.bool false), (.bool false), (.bool false), (.bool false), (.bool false), (.bool false), (.bool false), (.bool false), (.bool false), (.bool false), (.bool false), (.bool false), (.bool false), (.bool false), (.bool false), (.bool false), (.bool false), (.bool false), (.bool false), (.bool false), (.bool false), (.bool false), (.bool false), (.bool false), (.bool false), (.bool false), (.bool false), (.bool false), (.bool false), (.bool false), (.bool false), (.bool false), (.bool false), (.bool false), (.bool false), (.bool false), (.bool false), (.bool false), (.bool false), (.bool false), (.bool false), (.bool false), (.bool false), (.bool false), (.bool false), (.bool false), (.bool false), (.bool false), (.bool false), (.bool false), (.bool false), (.bool false), (.bool false), (.bool false), (.bool false), (.bool false), (.bool false), (.bool false), (.bool false), (.bool false), (.bool false), (.bool false), (.bool false), (.bool false), (.bool false), (.bool false), (.bool false), (.bool false), (.bool false), (.bool false), (.bool false), (.bool false), (.bool false), (.bool false), (.bool false), (.bool false), (.bool false), (.bool false), (.bool false), (.bool false), (.bool false), (.bool false), (.bool false), (.bool false), (.bool false), (.bool false), (.bool false), (.bool false), (.bool false), (.bool false), (.bool false), (.bool false), (.bool false), (.bool false), (.bool false), (.bool false), (.bool false), (.bool false), (.bool false), (.bool false), (.bool false), (.bool false), (.bool false), (.bool false), (.bool false), (.bool false), (.bool false), (.bool false), (.bool false), (.bool false), (.bool false), (.bool false), (.bool false), (.bool false), (.bool false), (.bool false), (.bool false), (.bool false), (.bool false), (.bool false), (.bool false), (.bool false), (.bool false), (.bool false), (.bool false), (.bool false), (.bool false), (.bool false), (.bool false), (.bool false), (.bool false), (.bool false), (.bool false), (.bool false), (.bool false), (.bool false), (.bool false), (.bool false), (.bool false), (.bool false), (.bool false), (.bool false), (.bool false), (.bool false), (.bool false), (.bool false), (.bool false), (.bool false), (.bool false), (.bool false), (.bool false), (.bool false), (.bool false), (.bool false), (.bool false), (.bool false), (.bool false), (.bool false), (.bool false), (.bool false), (.bool false), (.bool false), (.bool false), (.bool false), (.bool false), (.bool false), (.bool false), (.bool false), (.bool false), (.bool false), (.bool false), (.bool false), (.bool false), (.bool false), (.bool false), (.bool false), (.bool false), (.bool false), (.bool false), (.bool false), (.bool false), (.bool false), (.bool false), (.bool false), (.bool false), (.bool false), (.bool false), (.bool false), (.bool false), (.bool false), (.bool false), (.bool false), (.bool false), (.bool false), (.bool false), (.bool false), (.bool false), (.bool false), (.bool false), (.bool false), (.bool false), (.bool false), (.bool false), (.bool false), (.bool false), (.bool false), (.bool false), (.bool false), (.bool false), (.bool false), (.bool false), (.bool false), (.bool false), (.bool false), (.bool false), (.bool false), (.bool false), (.bool false), (.bool false), (.bool false), (.bool false), (.bool false), (.bool false), (.bool false), (.bool false), (.bool false), (.bool false), (.bool false), (.bool false), (.bool false), (.bool false), (.bool false), (.bool false), (.bool false), (.bool false), (.bool false), (.bool false), (.bool false), (.bool false), (.bool false), (.bool false), (.bool false), (.bool false), (.bool false), (.bool false)]), none⟩, ⟨(some 3), (.mov (.const (.bool false))), none⟩]
@[go_sem] def o155_3 : List IOper := [⟨(some 4), (.mov (.const (.int .i64 0))), none⟩]
@[go_sem] def o155_7 : List IOper := [⟨(some 6), (.mov (.tmp 4)), none⟩, ⟨(some 7), (.mov (.tmp 0)), none⟩, ⟨(some 8), (.len true (.tmp 7)), none⟩, ⟨(some 9), (.bin .lss (.tmp 6) (.tmp 8)), none⟩]
def b155_8 : C := (.cond (.tmp 9) .skip (.exit 0))
@[go_sem] theorem r155_8 : EvK T b155_8 K env H Q = EvK T (.cond (.tmp 9) .skip (.exit 0)) K env H Q := rfl
@[go_sem] def o155_11 : List IOper := [⟨(some 12), (.mov (.tmp 0)), none⟩, ⟨(some 13), (.mov (.tmp 4)), none⟩, ⟨(some 14), (.ixstr (.tmp 12) (.tmp 13)), none⟩, ⟨(some 5), (.mov (.tmp 14)), none⟩]
@[go_sem] def o155_13 : List IOper := [⟨(some 15), (.mov (.tmp 5)), none⟩, ⟨(some 16), (.bin .geq (.tmp 15) (.const (.int .u8 128))), none⟩]
@[go_sem] def o155_16 : List IOper := [⟨(some 17), (.ld (some 256) (.tmp 2)), none⟩, ⟨none, (.st 256 (.tmp 2) (.tmp 17)), none⟩, ⟨(some 3), (.mov (.const (.bool false))), none⟩]
def b155_15 : C := (.seq (.ops o155_16) .ret)
@[go_sem] theorem r155_15 : EvK T b155_15 K env H Q = EvK T (.seq (.ops o155_16) .ret) K env H Q := rfl
def b155_14 : C := (.cond (.tmp 16) b155_15 .skip)
@[go_sem] theorem r155_14 : EvK T b155_14 K env H Q = EvK T (.cond (.tmp 16) b155_15 .skip) K env H Q := rfl
@[go_sem] def o155_18 : List IOper := [⟨(some 18), (.mov (.tmp 5)), none⟩, ⟨(some 19), (.iarr 256 1 (.tmp 2) (.tmp 18)), none⟩, ⟨none, (.st 1 (.tmp 19) (.const (.bool true))), none⟩]
def b155_17 : C := (.ops o155_18)
@[go_sem] theorem r155_17 : EvK T b155_17 K env H Q = EvK T (.ops o155_18) K env H Q := rfl
def b155_12 : C := (.seq (.seq (.ops o155_13) b155_14) b155_17)
@[go_sem] theorem r155_12 : EvK T b155_12 K env H Q = EvK T (.seq (.seq (.ops o155_13) b155_14) b155_17) K env H Q := rfl
def b155_10 : C := (.seq (.ops o155_11) b155_12)
@[go_sem] theorem r155_10 : EvK T b155_10 K env H Q = EvK T (.seq (.ops o155_11) b155_12) K env H Q := rfl
@[go_sem] def o155_20 : List IOper := [⟨(some 10), (.mov (.tmp 4)), none⟩, ⟨(some 11), (.bin .add (.tmp 10) (.const (.int .i64 1))), none⟩, ⟨(some 4), (.mov (.tmp 11)), none⟩]
def b155_19 : C := (.ops o155_20)
@[go_sem] theorem r155_19 : EvK T b155_19 K env H Q = EvK T (.ops o155_20) K env H Q := rfl
def b155_9 : C := (.seq (.block 1 b155_10) b155_19)
@[go_sem] theorem r155_9 : EvK T b155_9 K env H Q = EvK T (.seq (.block 1 b155_10) b155_19) K env H Q := rfl
def b155_6 : C := (.seq (.seq (.ops o155_7) b155_8) b155_9)
@[go_sem] theorem r155_6 : EvK T b155_6 K env H Q = EvK T (.seq (.seq (.ops o155_7) b155_8) b155_9) K env H Q := rfl
def l155_5 : C := .loop [] b155_6
theorem w155_5 {ι : Type} (i0 : ι) (Inv : ι → Env → Heap → Prop) (m : ι → Nat) (h0 : Inv i0 env H) (hs : ∀ i e h, Inv i e h → (∀ j e' h', m j < m i → Inv j e' h' → EvK T l155_5 K e' h' Q) → EvK T b155_6 (.loop [] b155_6 :: K) (forget [] e) h Q) : EvK T l155_5 K env H Q := EvK_while i0 Inv m h0 hs
def b155_4 : C := (.block 0 l155_5)
@[go_sem] theorem r155_4 : EvK T b155_4 K env H Q = EvK T (.block 0 l155_5) K env H Q := rfl
@[go_sem] def o155_22 : List IOper := [⟨(some 20), (.ld (some 256) (.tmp 2)), none⟩, ⟨none, (.st 256 (.tmp 2) (.tmp 20)), none⟩, ⟨(some 3), (.mov (.const (.bool true))), none⟩]
def b155_21 : C := (.seq (.ops o155_22) .ret)
@[go_sem] theorem r155_21 : EvK T b155_21 K env H Q = EvK T (.seq (.ops o155_22) .ret) K env H Q := rfl
def b155_2 : C := (.seq (.seq (.ops o155_3) b155_4) b155_21)
@[go_sem] theorem r155_2 : EvK T b155_2 K env H Q = EvK T (.seq (.seq (.ops o155_3) b155_4) b155_21) K env H Q := rfl
def b155 : C := (.seq (.ops o155_1) b155_2)
@[go_sem] theorem r155 : EvK T b155 K env H Q = EvK T (.seq (.ops o155_1) b155_2) K env H Q := rfl
def c155 : IFun := ⟨21, b155, [(.cell 2 (some 256)), (.tmp 3)]⟩
/-! 156 strings.trimLeftASCII -/
@[go_sem] def o156_1 : List IOper := [⟨(some 4), (.mov (.const (.string ⟨⟨[]⟩⟩))), none⟩]
@[go_sem] def o156_5 : List IOper := [⟨(some 5), (.mov (.tmp 0)), none⟩, ⟨(some 6), (.len true (.tmp 5)), none⟩, ⟨(some 7), (.bin .gtr (.tmp 6) (.const (.int .i64 0))), none⟩]
def b156_6 : C := (.cond (.tmp 7) .skip (.exit 0))
@[go_sem] theorem r156_6 : EvK T b156_6 K env H Q = EvK T (.cond (.tmp 7) .skip (.exit 0)) K env H Q := rfl
@[go_sem] def o156_9 : List IOper := [⟨(some 8), (.mov (.tmp 1)), none⟩, ⟨(some 9), (.mov (.tmp 0)), none⟩, ⟨(some 10), (.ixstr (.tmp 9) (.const (.int .i64 0))), none⟩, ⟨(some 11), (.call (.func 233) [(.tmp 8), (.tmp 10)]), none⟩, ⟨(some 12), (.un .not (.tmp 11)), none⟩]
def b156_10 : C := (.cond (.tmp 12) (.exit 0) .skip)
@[go_sem] theorem r156_10 : EvK T b156_10 K env H Q = EvK T (.cond (.tmp 12) (.exit 0) .skip) K env H Q := rfl
@[go_sem] def o156_12 : List IOper := [⟨(some 13), (.mov (.tmp 0)), none⟩, ⟨(some 14), (.slstr (.tmp 13) (some (.const (.int .i64 1))) none), none⟩, ⟨(some 0), (.mov (.tmp 14)), none⟩]
def b156_11 : C := (.ops o156_12)
@[go_sem] theorem r156_11 : EvK T b156_11 K env H Q = EvK T (.ops o156_12) K env H Q := rfl
def b156_8 : C := (.seq (.seq (.ops o156_9) b156_10) b156_11)
@[go_sem] theorem r156_8 : EvK T b156_8 K env H Q = EvK T (.seq (.seq (.ops o156_9) b156_10) b156_11) K env H Q := rfl
def b156_7 : C := (.block 1 b156_8)
@[go_sem] theorem r156_7 : EvK T b156_7 K env H Q = EvK T (.block 1 b156_8) K env H Q := rfl
def b156_4 : C := (.seq (.seq (.ops o156_5) b156_6) b156_7)
@[go_sem] theorem r156_4 : EvK T b156_4 K env H Q = EvK T (.seq (.seq (.ops o156_5) b156_6) b156_7) K env H Q := rfl
def l156_3 : C := .loop [] b156_4
theorem w156_3 {ι : Type} (i0 : ι) (Inv : ι → Env → Heap → Prop) (m : ι → Nat) (h0 : Inv i0 env H) (hs : ∀ i e h, Inv i e h → (∀ j e' h', m j < m i → Inv j e' h' → EvK T l156_3 K e' h' Q) → EvK T b156_4 (.loop [] b156_4 :: K) (forget [] e) h Q) : EvK T l156_3 K env H Q := EvK_while i0 Inv m h0 hs
@[go_sem] def o156_14 : List IOper := [⟨(some 15), (.mov (.tmp 0)), none⟩, ⟨(some 4), (.mov (.tmp 15)), none⟩]
def b156_13 : C := (.seq (.ops o156_14) .ret)
@[go_sem] theorem r156_13 : EvK T b156_13 K env H Q = EvK T (.seq (.ops o156_14) .ret) K env H Q := rfl
def b156_2 : C := (.seq (.block 0 l156_3) b156_13)
@[go_sem] theorem r156_2 : EvK T b156_2 K env H Q = EvK T (.seq (.block 0 l156_3) b156_13) K env H Q := rfl
def b156 : C := (.seq (.ops o156_1) b156_2)
@[go_sem] theorem r156 : EvK T b156 K env H Q = EvK T (.seq (.ops o156_1) b156_2) K env H Q := rfl
def c156 : IFun := ⟨16, b156, [(.tmp 4)]⟩
/-! 157 strings.trimRightASCII -/
@[go_sem] def o157_1 : List IOper := [⟨(some 4), (.mov (.const (.string ⟨⟨[]⟩⟩))), none⟩]
@[go_sem] def o157_5 : List IOper := [⟨(some 5), (.mov (.tmp 0)), none⟩, ⟨(some 6), (.len true (.tmp 5)), none⟩, ⟨(some 7), (.bin .gtr (.tmp 6) (.const (.int .i64 0))), none⟩]
def b157_6 : C := (.cond (.tmp 7) .skip (.exit 0))
@[go_sem] theorem r157_6 : EvK T b157_6 K env H Q = EvK T (.cond (.tmp 7) .skip (.exit 0)) K env H Q := rfl
@[go_sem] def o157_9 : List IOper := [⟨(some 8), (.mov (.tmp 1)), none⟩, ⟨(some 9), (.mov (.tmp 0)), none⟩, ⟨(some 10), (.mov (.tmp 0)), none⟩, ⟨(some 11), (.len true (.tmp 10)), none⟩, ⟨(some 12), (.bin .sub (.tmp 11) (.const (.int .i64 1))), none⟩, ⟨(some 13), (.ixstr (.tmp 9) (.tmp 12)), none⟩, ⟨(some 14), (.call (.func 233) [(.tmp 8), (.tmp 13)]), none⟩, ⟨(some 15), (.un .not (.tmp 14)), none⟩]
def b157_10 : C := (.cond (.tmp 15) (.exit 0) .skip)
@[go_sem] theorem r157_10 : EvK T b157_10 K env H Q = EvK T (.cond (.tmp 15) (.exit 0) .skip) K env H Q := rfl
@[go_sem] def o157_12 : List IOper := [⟨(some 16), (.mov (.tmp 0)), none⟩, ⟨(some 17), (.mov (.tmp 0)), none⟩, ⟨(some 18), (.len true (.tmp 17)), none⟩, ⟨(some 19), (.bin .sub (.tmp 18) (.const (.int .i64 1))), none⟩, ⟨(some 20), (.slstr (.tmp 16) none (some (.tmp 19))), none⟩, ⟨(some 0), (.mov (.tmp 20)), none⟩]
def b157_11 : C := (.ops o157_12)
@[go_sem] theorem r157_11 : EvK T b157_11 K env H Q = EvK T (.ops o157_12) K env H Q := rfl
def b157_8 : C := (.seq (.seq (.ops o157_9) b157_10) b157_11)
@[go_sem] theorem r157_8 : EvK T b157_8 K env H Q = EvK T (.seq (.seq (.ops o157_9) b157_10) b157_11) K env H Q := rfl
def b157_7 : C := (.block 1 b157_8)
@[go_sem] theorem r157_7 : EvK T b157_7 K env H Q = EvK T (.block 1 b157_8) K env H Q := rfl
def b157_4 : C := (.seq (.seq (.ops o157_5) b157_6) b157_7)
@[go_sem] theorem r157_4 : EvK T b157_4 K env H Q = EvK T (.seq (.seq (.ops o157_5) b157_6) b157_7) K env H Q := rfl
def l157_3 : C := .loop [] b157_4
theorem w157_3 {ι : Type} (i0 : ι) (Inv : ι → Env → Heap → Prop) (m : ι → Nat) (h0 : Inv i0 env H) (hs : ∀ i e h, Inv i e h → (∀ j e' h', m j < m i → Inv j e' h' → EvK T l157_3 K e' h' Q) → EvK T b157_4 (.loop [] b157_4 :: K) (forget [] e) h Q) : EvK T l157_3 K env H Q := EvK_while i0 Inv m h0 hs
@[go_sem] def o157_14 : List IOper := [⟨(some 21), (.mov (.tmp 0)), none⟩, ⟨(some 4), (.mov (.tmp 21)), none⟩]
def b157_13 : C := (.seq (.ops o157_14) .ret)
@[go_sem] theorem r157_13 : EvK T b157_13 K env H Q = EvK T (.seq (.ops o157_14) .ret) K env H Q := rfl
def b157_2 : C := (.seq (.block 0 l157_3) b157_13)
@[go_sem] theorem r157_2 : EvK T b157_2 K env H Q = EvK T (.seq (.block 0 l157_3) b157_13) K env H Q := rfl
def b157 : C := (.seq (.ops o157_1) b157_2)
@[go_sem] theorem r157 : EvK T b157 K env H Q = EvK T (.seq (.ops o157_1) b157_2) K env H Q := rfl
def c157 : IFun := ⟨22, b157, [(.tmp 4)]⟩
/-! 160 dynamometer/value.checkNode -/
@[go_sem] def o160_1 : List IOper := [⟨(some 1), (.box 27 (.tmp 0)), none⟩, ⟨(some 2), (.mov (.const (.int .i64 0))), none⟩]
@[go_sem] def o160_4 : List IOper := [⟨(some 7), (.faddr 0 (.tmp 1)), none⟩, ⟨(some 8), (.ld none (.tmp 7)), none⟩, ⟨(some 9), (.bin .lss (.tmp 8) (.const (.int .i64 1))), none⟩, ⟨(some 10), (.mov (.tmp 9)), none⟩, ⟨(some 11), (.faddr 0 (.tmp 1)), (some (10, false))⟩, ⟨(some 12), (.ld none (.tmp 11)), (some (10, false))⟩, ⟨(some 13), (.bin .gtr (.tmp 12) (.const (.int .i64 6))), (some (10, false))⟩, ⟨(some 14), (.pick (.tmp 10) (.const (.bool true)) (.tmp 13)), none⟩, ⟨(some 6), (.mov (.tmp 14)), none⟩]
@[go_sem] def o160_7 : List IOper := [⟨(some 2), (.mov (.const (.int .i64 7))), none⟩]
def b160_6 : C := (.seq (.ops o160_7) .ret)
@[go_sem] theorem r160_6 : EvK T b160_6 K env H Q = EvK T (.seq (.ops o160_7) .ret) K env H Q := rfl
@[go_sem] def o160_9 : List IOper := [⟨(some 16), (.ld (some 8) (.tmp 1)), none⟩, ⟨(some 17), (.call (.func 237) [(.tmp 16)]), none⟩, ⟨(some 15), (.mov (.tmp 17)), none⟩]
@[go_sem] def o160_12 : List IOper := [⟨(some 2), (.mov (.const (.int .i64 2))), none⟩]
def b160_11 : C := (.seq (.ops o160_12) .ret)
@[go_sem] theorem r160_11 : EvK T b160_11 K env H Q = EvK T (.seq (.ops o160_12) .ret) K env H Q := rfl
@[go_sem] def o160_14 : List IOper := [⟨(some 19), (.faddr 0 (.tmp 1)), none⟩, ⟨(some 20), (.ld none (.tmp 19)), none⟩, ⟨(some 21), (.bin .eql (.tmp 20) (.const (.int .i64 3))), none⟩, ⟨(some 18), (.mov (.tmp 21)), none⟩]
@[go_sem] def o160_17 : List IOper := [⟨(some 22), (.faddr 2 (.tmp 1)), none⟩, ⟨(some 23), (.ld (some 3) (.tmp 22)), none⟩, ⟨(some 24), (.call (.func 16) [(.tmp 23)]), none⟩, ⟨(some 2), (.mov (.tmp 24)), none⟩]
def b160_16 : C := (.seq (.ops o160_17) .ret)
@[go_sem] theorem r160_16 : EvK T b160_16 K env H Q = EvK T (.seq (.ops o160_17) .ret) K env H Q := rfl
@[go_sem] def o160_19 : List IOper := [⟨(some 26), (.faddr 0 (.tmp 1)), none⟩, ⟨(some 27), (.ld none (.tmp 26)), none⟩, ⟨(some 28), (.bin .eql (.tmp 27) (.const (.int .i64 4))), none⟩, ⟨(some 25), (.mov (.tmp 28)), none⟩]
@[go_sem] def o160_22 : List IOper := [⟨(some 29), (.faddr 5 (.tmp 1)), none⟩, ⟨(some 30), (.ld none (.tmp 29)), none⟩, ⟨(some 31), (.call (.func 18) [(.tmp 30)]), none⟩, ⟨(some 2), (.mov (.tmp 31)), none⟩]
def b160_21 : C := (.seq (.ops o160_22) .ret)
@[go_sem] theorem r160_21 : EvK T b160_21 K env H Q = EvK T (.seq (.ops o160_22) .ret) K env H Q := rfl
def b160_20 : C := (.cond (.tmp 25) b160_21 .skip)
@[go_sem] theorem r160_20 : EvK T b160_20 K env H Q = EvK T (.cond (.tmp 25) b160_21 .skip) K env H Q := rfl
def b160_18 : C := (.seq (.ops o160_19) b160_20)
@[go_sem] theorem r160_18 : EvK T b160_18 K env H Q = EvK T (.seq (.ops o160_19) b160_20) K env H Q := rfl
def b160_15 : C := (.cond (.tmp 18) b160_16 b160_18)
@[go_sem] theorem r160_15 : EvK T b160_15 K env H Q = EvK T (.cond (.tmp 18) b160_16 b160_18) K env H Q := rfl
def b160_13 : C := (.seq (.ops o160_14) b160_15)
@[go_sem] theorem r160_13 : EvK T b160_13 K env H Q = EvK T (.seq (.ops o160_14) b160_15) K env H Q := rfl
def b160_10 : C := (.cond (.tmp 15) b160_11 b160_13)
@[go_sem] theorem r160_10 : EvK T b160_10 K env H Q = EvK T (.cond (.tmp 15) b160_11 b160_13) K env H Q := rfl
def b160_8 : C := (.seq (.ops o160_9) b160_10)
@[go_sem] theorem r160_8 : EvK T b160_8 K env H Q = EvK T (.seq (.ops o160_9) b160_10) K env H Q := rfl
def b160_5 : C := (.cond (.tmp 6) b160_6 b160_8)
@[go_sem] theorem r160_5 : EvK T b160_5 K env H Q = EvK T (.cond (.tmp 6) b160_6 b160_8) K env H Q := rfl
def b160_3 : C := (.seq (.ops o160_4) b160_5)
@[go_sem] theorem r160_3 : EvK T b160_3 K env H Q = EvK T (.seq (.ops o160_4) b160_5) K env H Q := rfl
@[go_sem] def o160_24 : List IOper := [⟨(some 32), (.faddr 7 (.tmp 1)), none⟩, ⟨(some 33), (.ld none (.tmp 32)), none⟩, ⟨(some 34), (.len false (.tmp 33)), none⟩, ⟨(some 35), (.mov (.const (.int .i64 0))), none⟩]
@[go_sem] def o160_28 : List IOper := [⟨(some 36), (.bin .lss (.tmp 35) (.tmp 34)), none⟩]
@[go_sem] def o160_32 : List IOper := [⟨(some 37), (.mov (.tmp 35)), none⟩, ⟨(some 38), (.iaddr 1 (.tmp 33) (.tmp 35)), none⟩, ⟨(some 39), (.ld none (.tmp 38)), none⟩, ⟨(some 3), (.mov (.tmp 37)), none⟩, ⟨(some 4), (.mov (.tmp 39)), none⟩]
@[go_sem] def o160_34 : List IOper := [⟨(some 40), (.mov (.tmp 4)), none⟩, ⟨(some 41), (.call (.func 18) [(.tmp 40)]), none⟩, ⟨(some 5), (.mov (.tmp 41)), none⟩]
@[go_sem] def o160_36 : List IOper := [⟨(some 42), (.mov (.tmp 5)), none⟩, ⟨(some 43), (.bin .neq (.tmp 42) (.const (.int .i64 0))), none⟩]
@[go_sem] def o160_39 : List IOper := [⟨(some 44), (.mov (.tmp 5)), none⟩, ⟨(some 2), (.mov (.tmp 44)), none⟩]
def b160_38 : C := (.seq (.ops o160_39) .ret)
@[go_sem] theorem r160_38 : EvK T b160_38 K env H Q = EvK T (.seq (.ops o160_39) .ret) K env H Q := rfl
def b160_37 : C := (.cond (.tmp 43) b160_38 .skip)
@[go_sem] theorem r160_37 : EvK T b160_37 K env H Q = EvK T (.cond (.tmp 43) b160_38 .skip) K env H Q := rfl
def b160_35 : C := (.seq (.ops o160_36) b160_37)
@[go_sem] theorem r160_35 : EvK T b160_35 K env H Q = EvK T (.seq (.ops o160_36) b160_37) K env H Q := rfl
@[go_sem] def o160_41 : List IOper := [⟨(some 45), (.mov (.tmp 3)), none⟩, ⟨(some 46), (.bin .gtr (.tmp 45) (.const (.int .i64 0))), none⟩, ⟨(some 47), (.mov (.tmp 46)), none⟩, ⟨(some 48), (.mov (.tmp 4)), (some (47, true))⟩, ⟨(some 49), (.faddr 7 (.tmp 1)), (some (47, true))⟩, ⟨(some 50), (.ld none (.tmp 49)), (some (47, true))⟩, ⟨(some 51), (.mov (.tmp 3)), (some (47, true))⟩, ⟨(some 52), (.bin .sub (.tmp 51) (.const (.int .i64 1))), (some (47, true))⟩, ⟨(some 53), (.iaddr 1 (.tmp 50) (.tmp 52)), (some (47, true))⟩, ⟨(some 54), (.ld none (.tmp 53)), (some (47, true))⟩, ⟨(some 55), (.bin .leq (.tmp 48) (.tmp 54)), (some (47, true))⟩, ⟨(some 56), (.pick (.tmp 47) (.tmp 55) (.const (.bool false))), none⟩]
@[go_sem] def o160_44 : List IOper := [⟨(some 2), (.mov (.const (.int .i64 10))), none⟩]
def b160_43 : C := (.seq (.ops o160_44) .ret)
@[go_sem] theorem r160_43 : EvK T b160_43 K env H Q = EvK T (.seq (.ops o160_44) .ret) K env H Q := rfl
def b160_42 : C := (.cond (.tmp 56) b160_43 .skip)
@[go_sem] theorem r160_42 : EvK T b160_42 K env H Q = EvK T (.cond (.tmp 56) b160_43 .skip) K env H Q := rfl
def b160_40 : C := (.seq (.ops o160_41) b160_42)
@[go_sem] theorem r160_40 : EvK T b160_40 K env H Q = EvK T (.seq (.ops o160_41) b160_42) K env H Q := rfl
def b160_33 : C := (.seq (.seq (.ops o160_34) b160_35) b160_40)
@[go_sem] theorem r160_33 : EvK T b160_33 K env H Q = EvK T (.seq (.seq (.ops o160_34) b160_35) b160_40) K env H Q := rfl
def b160_31 : C := (.seq (.ops o160_32) b160_33)
@[go_sem] theorem r160_31 : EvK T b160_31 K env H Q = EvK T (.seq (.ops o160_32) b160_33) K env H Q := rfl
@[go_sem] def o160_46 : List IOper := [⟨(some 57), (.bin .add (.tmp 35) (.const (.int .i64 1))), none⟩, ⟨(some 35), (.mov (.tmp 57)), none⟩]
def b160_45 : C := (.ops o160_46)
@[go_sem] theorem r160_45 : EvK T b160_45 K env H Q = EvK T (.ops o160_46) K env H Q := rfl
def b160_30 : C := (.seq (.block 2 b160_31) b160_45)
@[go_sem] theorem r160_30 : EvK T b160_30 K env H Q = EvK T (.seq (.block 2 b160_31) b160_45) K env H Q := rfl
def b160_29 : C := (.seq (.cond (.tmp 36) .skip (.exit 1)) b160_30)
@[go_sem] theorem r160_29 : EvK T b160_29 K env H Q = EvK T (.seq (.cond (.tmp 36) .skip (.exit 1)) b160_30) K env H Q := rfl
def b160_27 : C := (.seq (.ops o160_28) b160_29)
@[go_sem] theorem r160_27 : EvK T b160_27 K env H Q = EvK T (.seq (.ops o160_28) b160_29) K env H Q := rfl
def l160_26 : C := .loop [] b160_27
theorem w160_26 {ι : Type} (i0 : ι) (Inv : ι → Env → Heap → Prop) (m : ι → Nat) (h0 : Inv i0 env H) (hs : ∀ i e h, Inv i e h → (∀ j e' h', m j < m i → Inv j e' h' → EvK T l160_26 K e' h' Q) → EvK T b160_27 (.loop [] b160_27 :: K) (forget [] e) h Q) : EvK T l160_26 K env H Q := EvK_while i0 Inv m h0 hs
def b160_25 : C := (.block 1 l160_26)
@[go_sem] theorem r160_25 : EvK T b160_25 K env H Q = EvK T (.block 1 l160_26) K env H Q := rfl
@[go_sem] def o160_48 : List IOper := [⟨(some 2), (.mov (.const (.int .i64 0))), none⟩]
def b160_47 : C := (.seq (.ops o160_48) .ret)
@[go_sem] theorem r160_47 : EvK T b160_47 K env H Q = EvK T (.seq (.ops o160_48) .ret) K env H Q := rfl
def b160_23 : C := (.seq (.seq (.ops o160_24) b160_25) b160_47)
@[go_sem] theorem r160_23 : EvK T b160_23 K env H Q = EvK T (.seq (.seq (.ops o160_24) b160_25) b160_47) K env H Q := rfl
def b160_2 : C := (.seq (.block 0 b160_3) b160_23)
@[go_sem] theorem r160_2 : EvK T b160_2 K env H Q = EvK T (.seq (.block 0 b160_3) b160_23) K env H Q := rfl
def b160 : C := (.seq (.ops o160_1) b160_2)
@[go_sem] theorem r160 : EvK T b160 K env H Q = EvK T (.seq (.ops o160_1) b160_2) K env H Q := rfl
def c160 : IFun := ⟨58, b160, [(.tmp 2)]⟩
/-! 161 dynamometer/dynamometerref1.nodeFault -/
@[go_sem] def o161_1 : List IOper := [⟨(some 1), (.box 27 (.tmp 0)), none⟩, ⟨(some 2), (.mov (.const (.int .i64 0))), none⟩]
@[go_sem] def o161_3 : List IOper := [⟨(some 6), (.faddr 0 (.tmp 1)), none⟩, ⟨(some 7), (.ld none (.tmp 6)), none⟩, ⟨(some 8), (.bin .lss (.tmp 7) (.const (.int .i64 1))), none⟩, ⟨(some 9), (.mov (.tmp 8)), none⟩, ⟨(some 10), (.faddr 0 (.tmp 1)), (some (9, false))⟩, ⟨(some 11), (.ld none (.tmp 10)), (some (9, false))⟩, ⟨(some 12), (.bin .gtr (.tmp 11) (.const (.int .i64 6))), (some (9, false))⟩, ⟨(some 13), (.pick (.tmp 9) (.const (.bool true)) (.tmp 12)), none⟩]
@[go_sem] def o161_6 : List IOper := [⟨(some 2), (.mov (.const (.int .i64 7))), none⟩]
def b161_5 : C := (.seq (.ops o161_6) .ret)
@[go_sem] theorem r161_5 : EvK T b161_5 K env H Q = EvK T (.seq (.ops o161_6) .ret) K env H Q := rfl
def b161_4 : C := (.cond (.tmp 13) b161_5 .skip)
@[go_sem] theorem r161_4 : EvK T b161_4 K env H Q = EvK T (.cond (.tmp 13) b161_5 .skip) K env H Q := rfl
@[go_sem] def o161_8 : List IOper := [⟨(some 14), (.faddr 2 (.tmp 1)), none⟩, ⟨(some 15), (.faddr 1 (.tmp 14)), none⟩, ⟨(some 16), (.ld none (.tmp 15)), none⟩, ⟨(some 17), (.bin .eql (.tmp 16) (.const (.string ⟨⟨[]⟩⟩))), none⟩, ⟨(some 18), (.mov (.tmp 17)), none⟩, ⟨(some 19), (.faddr 2 (.tmp 1)), (some (18, true))⟩, ⟨(some 20), (.faddr 0 (.tmp 19)), (some (18, true))⟩, ⟨(some 21), (.ld none (.tmp 20)), (some (18, true))⟩, ⟨(some 22), (.un .not (.tmp 21)), (some (18, true))⟩, ⟨(some 23), (.pick (.tmp 18) (.tmp 22) (.const (.bool false))), none⟩, ⟨(some 24), (.mov (.tmp 23)), none⟩, ⟨(some 25), (.faddr 2 (.tmp 1)), (some (24, true))⟩, ⟨(some 26), (.faddr 2 (.tmp 25)), (some (24, true))⟩, ⟨(some 27), (.ld none (.tmp 26)), (some (24, true))⟩, ⟨(some 28), (.bin .eql (.tmp 27) (.const (.int .i64 0))), (some (24, true))⟩, ⟨(some 29), (.pick (.tmp 24) (.tmp 28) (.const (.bool false))), none⟩, ⟨(some 3), (.mov (.tmp 29)), none⟩]
@[go_sem] def o161_10 : List IOper := [⟨(some 30), (.faddr 0 (.tmp 1)), none⟩, ⟨(some 31), (.ld none (.tmp 30)), none⟩, ⟨(some 32), (.bin .neq (.tmp 31) (.const (.int .i64 2))), none⟩, ⟨(some 33), (.mov (.tmp 32)), none⟩, ⟨(some 34), (.faddr 1 (.tmp 1)), (some (33, true))⟩, ⟨(some 35), (.ld none (.tmp 34)), (some (33, true))⟩, ⟨(some 36), (.pick (.tmp 33) (.tmp 35) (.const (.bool false))), none⟩, ⟨(some 37), (.mov (.tmp 36)), none⟩, ⟨(some 38), (.faddr 0 (.tmp 1)), (some (37, false))⟩, ⟨(some 39), (.ld none (.tmp 38)), (some (37, false))⟩, ⟨(some 40), (.bin .neq (.tmp 39) (.const (.int .i64 3))), (some (37, false))⟩, ⟨(some 41), (.mov (.tmp 40)), (some (37, false))⟩, ⟨(some 42), (.mov (.tmp 3)), (some (41, true))⟩, ⟨(some 43), (.un .not (.tmp 42)), (some (41, true))⟩, ⟨(some 44), (.pick (.tmp 41) (.tmp 43) (.const (.bool false))), (some (37, false))⟩, ⟨(some 45), (.pick (.tmp 37) (.const (.bool true)) (.tmp 44)), none⟩, ⟨(some 46), (.mov (.tmp 45)), none⟩, ⟨(some 47), (.faddr 0 (.tmp 1)), (some (46, false))⟩, ⟨(some 48), (.ld none (.tmp 47)), (some (46, false))⟩, ⟨(some 49), (.bin .neq (.tmp 48) (.const (.int .i64 4))), (some (46, false))⟩, ⟨(some 50), (.mov (.tmp 49)), (some (46, false))⟩, ⟨(some 51), (.faddr 5 (.tmp 1)), (some (50, true))⟩, ⟨(some 52), (.ld none (.tmp 51)), (some (50, true))⟩, ⟨(some 53), (.bin .neq (.tmp 52) (.const (.string ⟨⟨[]⟩⟩))), (some (50, true))⟩, ⟨(some 54), (.pick (.tmp 50) (.tmp 53) (.const (.bool false))), (some (46, false))⟩, ⟨(some 55), (.pick (.tmp 46) (.const (.bool true)) (.tmp 54)), none⟩, ⟨(some 56), (.mov (.tmp 55)), none⟩, ⟨(some 57), (.faddr 0 (.tmp 1)), (some (56, false))⟩, ⟨(some 58), (.ld none (.tmp 57)), (some (56, false))⟩, ⟨(some 59), (.bin .lss (.tmp 58) (.const (.int .i64 5))), (some (56, false))⟩, ⟨(some 60), (.mov (.tmp 59)), (some (56, false))⟩, ⟨(some 61), (.faddr 6 (.tmp 1)), (some (60, true))⟩, ⟨(some 62), (.ld none (.tmp 61)), (some (60, true))⟩, ⟨(some 63), (.len false (.tmp 62)), (some (60, true))⟩, ⟨(some 64), (.bin .gtr (.tmp 63) (.const (.int .i64 0))), (some (60, true))⟩, ⟨(some 65), (.pick (.tmp 60) (.tmp 64) (.const (.bool false))), (some (56, false))⟩, ⟨(some 66), (.pick (.tmp 56) (.const (.bool true)) (.tmp 65)), none⟩, ⟨(some 67), (.mov (.tmp 66)), none⟩, ⟨(some 68), (.faddr 0 (.tmp 1)), (some (67, false))⟩, ⟨(some 69), (.ld none (.tmp 68)), (some (67, false))⟩, ⟨(some 70), (.bin .neq (.tmp 69) (.const (.int .i64 6))), (some (67, false))⟩, ⟨(some 71), (.mov (.tmp 70)), (some (67, false))⟩, ⟨(some 72), (.faddr 7 (.tmp 1)), (some (71, true))⟩, ⟨(some 73), (.ld none (.tmp 72)), (some (71, true))⟩, ⟨(some 74), (.len false (.tmp 73)), (some (71, true))⟩, ⟨(some 75), (.bin .gtr (.tmp 74) (.const (.int .i64 0))), (some (71, true))⟩, ⟨(some 76), (.pick (.tmp 71) (.tmp 75) (.const (.bool false))), (some (67, false))⟩, ⟨(some 77), (.pick (.tmp 67) (.const (.bool true)) (.tmp 76)), none⟩, ⟨(some 78), (.mov (.tmp 77)), none⟩, ⟨(some 79), (.faddr 0 (.tmp 1)), (some (78, false))⟩, ⟨(some 80), (.ld none (.tmp 79)), (some (78, false))⟩, ⟨(some 81), (.bin .eql (.tmp 80) (.const (.int .i64 6))), (some (78, false))⟩, ⟨(some 82), (.mov (.tmp 81)), (some (78, false))⟩, ⟨(some 83), (.faddr 7 (.tmp 1)), (some (82, true))⟩, ⟨(some 84), (.ld none (.tmp 83)), (some (82, true))⟩, ⟨(some 85), (.len false (.tmp 84)), (some (82, true))⟩, ⟨(some 86), (.faddr 6 (.tmp 1)), (some (82, true))⟩, ⟨(some 87), (.ld none (.tmp 86)), (some (82, true))⟩, ⟨(some 88), (.len false (.tmp 87)), (some (82, true))⟩, ⟨(some 89), (.bin .neq (.tmp 85) (.tmp 88)), (some (82, true))⟩, ⟨(some 90), (.pick (.tmp 82) (.tmp 89) (.const (.bool false))), (some (78, false))⟩, ⟨(some 91), (.pick (.tmp 78) (.const (.bool true)) (.tmp 90)), none⟩]
@[go_sem] def o161_13 : List IOper := [⟨(some 2), (.mov (.const (.int .i64 2))), none⟩]
def b161_12 : C := (.seq (.ops o161_13) .ret)
@[go_sem] theorem r161_12 : EvK T b161_12 K env H Q = EvK T (.seq (.ops o161_13) .ret) K env H Q := rfl
def b161_11 : C := (.cond (.tmp 91) b161_12 .skip)
@[go_sem] theorem r161_11 : EvK T b161_11 K env H Q = EvK T (.cond (.tmp 91) b161_12 .skip) K env H Q := rfl
@[go_sem] def o161_15 : List IOper := [⟨(some 92), (.faddr 0 (.tmp 1)), none⟩, ⟨(some 93), (.ld none (.tmp 92)), none⟩, ⟨(some 94), (.bin .eql (.tmp 93) (.const (.int .i64 3))), none⟩]
@[go_sem] def o161_18 : List IOper := [⟨(some 95), (.faddr 2 (.tmp 1)), none⟩, ⟨(some 96), (.ld (some 3) (.tmp 95)), none⟩, ⟨(some 97), (.call (.func 17) [(.tmp 96)]), none⟩, ⟨(some 2), (.mov (.tmp 97)), none⟩]
def b161_17 : C := (.seq (.ops o161_18) .ret)
@[go_sem] theorem r161_17 : EvK T b161_17 K env H Q = EvK T (.seq (.ops o161_18) .ret) K env H Q := rfl
def b161_16 : C := (.cond (.tmp 94) b161_17 .skip)
@[go_sem] theorem r161_16 : EvK T b161_16 K env H Q = EvK T (.cond (.tmp 94) b161_17 .skip) K env H Q := rfl
@[go_sem] def o161_20 : List IOper := [⟨(some 98), (.faddr 0 (.tmp 1)), none⟩, ⟨(some 99), (.ld none (.tmp 98)), none⟩, ⟨(some 100), (.bin .eql (.tmp 99) (.const (.int .i64 4))), none⟩]
@[go_sem] def o161_23 : List IOper := [⟨(some 101), (.faddr 5 (.tmp 1)), none⟩, ⟨(some 102), (.ld none (.tmp 101)), none⟩, ⟨(some 103), (.call (.func 19) [(.tmp 102)]), none⟩, ⟨(some 2), (.mov (.tmp 103)), none⟩]
def b161_22 : C := (.seq (.ops o161_23) .ret)
@[go_sem] theorem r161_22 : EvK T b161_22 K env H Q = EvK T (.seq (.ops o161_23) .ret) K env H Q := rfl
def b161_21 : C := (.cond (.tmp 100) b161_22 .skip)
@[go_sem] theorem r161_21 : EvK T b161_21 K env H Q = EvK T (.cond (.tmp 100) b161_22 .skip) K env H Q := rfl
@[go_sem] def o161_25 : List IOper := [⟨(some 4), (.mov (.const (.int .i64 0))), none⟩]
@[go_sem] def o161_29 : List IOper := [⟨(some 104), (.mov (.tmp 4)), none⟩, ⟨(some 105), (.faddr 7 (.tmp 1)), none⟩, ⟨(some 106), (.ld none (.tmp 105)), none⟩, ⟨(some 107), (.len false (.tmp 106)), none⟩, ⟨(some 108), (.bin .lss (.tmp 104) (.tmp 107)), none⟩]
def b161_30 : C := (.cond (.tmp 108) .skip (.exit 0))
@[go_sem] theorem r161_30 : EvK T b161_30 K env H Q = EvK T (.cond (.tmp 108) .skip (.exit 0)) K env H Q := rfl
@[go_sem] def o161_33 : List IOper := [⟨(some 111), (.faddr 7 (.tmp 1)), none⟩, ⟨(some 112), (.ld none (.tmp 111)), none⟩, ⟨(some 113), (.mov (.tmp 4)), none⟩, ⟨(some 114), (.iaddr 1 (.tmp 112) (.tmp 113)), none⟩, ⟨(some 115), (.ld none (.tmp 114)), none⟩, ⟨(some 116), (.call (.func 19) [(.tmp 115)]), none⟩, ⟨(some 5), (.mov (.tmp 116)), none⟩]
@[go_sem] def o161_35 : List IOper := [⟨(some 117), (.mov (.tmp 5)), none⟩, ⟨(some 118), (.bin .neq (.tmp 117) (.const (.int .i64 0))), none⟩]
@[go_sem] def o161_38 : List IOper := [⟨(some 119), (.mov (.tmp 5)), none⟩, ⟨(some 2), (.mov (.tmp 119)), none⟩]
def b161_37 : C := (.seq (.ops o161_38) .ret)
@[go_sem] theorem r161_37 : EvK T b161_37 K env H Q = EvK T (.seq (.ops o161_38) .ret) K env H Q := rfl
def b161_36 : C := (.cond (.tmp 118) b161_37 .skip)
@[go_sem] theorem r161_36 : EvK T b161_36 K env H Q = EvK T (.cond (.tmp 118) b161_37 .skip) K env H Q := rfl
def b161_34 : C := (.seq (.ops o161_35) b161_36)
@[go_sem] theorem r161_34 : EvK T b161_34 K env H Q = EvK T (.seq (.ops o161_35) b161_36) K env H Q := rfl
@[go_sem] def o161_40 : List DOper := [⟨⟨(some 120), (.mov (.tmp 4)), none⟩, false, []⟩, ⟨⟨(some 121), (.bin .gtr (.tmp 120) (.const (.int .i64 0))), none⟩, false, []⟩, ⟨⟨(some 122), (.mov (.tmp 121)), none⟩, false, []⟩, ⟨⟨(some 123), (.faddr 7 (.tmp 1)), (some (122, true))⟩, false, []⟩, ⟨⟨(some 124), (.ld none (.tmp 123)), (some (122, true))⟩, false, []⟩, ⟨⟨(some 125), (.mov (.tmp 4)), (some (122, true))⟩, false, []⟩, ⟨⟨(some 126), (.iaddr 1 (.tmp 124) (.tmp 125)), (some (122, true))⟩, false, []⟩, ⟨⟨(some 127), (.ld none (.tmp 126)), (some (122, true))⟩, false, []⟩, ⟨⟨(some 128), (.faddr 7 (.tmp 1)), (some (122, true))⟩, false, []⟩, ⟨⟨(some 129), (.ld none (.tmp 128)), (some (122, true))⟩, false, []⟩, ⟨⟨(some 130), (.mov (.tmp 4)), (some (122, true))⟩, false, []⟩, ⟨⟨(some 131), (.bin .sub (.tmp 130) (.const (.int .i64 1))), (some (122, true))⟩, false, []⟩, ⟨⟨(some 132), (.iaddr 1 (.tmp 129) (.tmp 131)), (some (122, true))⟩, false, []⟩, ⟨⟨(some 133), (.ld none (.tmp 132)), (some (122, true))⟩, false, []⟩, ⟨⟨(some 134), (.bin .leq (.tmp 127) (.tmp 133)), (some (122, true))⟩, false, []⟩, ⟨⟨(some 135), (.pick (.tmp 122) (.tmp 134) (.const (.bool false))), none⟩, false, []⟩]
@[go_sem] def o161_43 : List IOper := [⟨(some 2), (.mov (.const (.int .i64 10))), none⟩]
def b161_42 : C := (.seq (.ops o161_43) .ret)
@[go_sem] theorem r161_42 : EvK T b161_42 K env H Q = EvK T (.seq (.ops o161_43) .ret) K env H Q := rfl
def b161_41 : C := (.cond (.tmp 135) b161_42 .skip)
@[go_sem] theorem r161_41 : EvK T b161_41 K env H Q = EvK T (.cond (.tmp 135) b161_42 .skip) K env H Q := rfl
def b161_39 : C := (.seq (.dops o161_40) b161_41)
@[go_sem] theorem r161_39 : EvK T b161_39 K env H Q = EvK T (.seq (.dops o161_40) b161_41) K env H Q := rfl
def b161_32 : C := (.seq (.seq (.ops o161_33) b161_34) b161_39)
@[go_sem] theorem r161_32 : EvK T b161_32 K env H Q = EvK T (.seq (.seq (.ops o161_33) b161_34) b161_39) K env H Q := rfl
@[go_sem] def o161_45 : List IOper := [⟨(some 109), (.mov (.tmp 4)), none⟩, ⟨(some 110), (.bin .add (.tmp 109) (.const (.int .i64 1))), none⟩, ⟨(some 4), (.mov (.tmp 110)), none⟩]
def b161_44 : C := (.ops o161_45)
@[go_sem] theorem r161_44 : EvK T b161_44 K env H Q = EvK T (.ops o161_45) K env H Q := rfl
def b161_31 : C := (.seq (.block 1 b161_32) b161_44)
@[go_sem] theorem r161_31 : EvK T b161_31 K env H Q = EvK T (.seq (.block 1 b161_32) b161_44) K env H Q := rfl
def b161_28 : C := (.seq (.seq (.ops o161_29) b161_30) b161_31)
@[go_sem] theorem r161_28 : EvK T b161_28 K env H Q = EvK T (.seq (.seq (.ops o161_29) b161_30) b161_31) K env H Q := rfl
def l161_27 : C := .loop [] b161_28
theorem w161_27 {ι : Type} (i0 : ι) (Inv : ι → Env → Heap → Prop) (m : ι → Nat) (h0 : Inv i0 env H) (hs : ∀ i e h, Inv i e h → (∀ j e' h', m j < m i → Inv j e' h' → EvK T l161_27 K e' h' Q) → EvK T b161_28 (.loop [] b161_28 :: K) (forget [] e) h Q) : EvK T l161_27 K env H Q := EvK_while i0 Inv m h0 hs
def b161_26 : C := (.block 0 l161_27)
@[go_sem] theorem r161_26 : EvK T b161_26 K env H Q = EvK T (.block 0 l161_27) K env H Q := rfl
@[go_sem] def o161_47 : List IOper := [⟨(some 2), (.mov (.const (.int .i64 0))), none⟩]
def b161_46 : C := (.seq (.ops o161_47) .ret)
@[go_sem] theorem r161_46 : EvK T b161_46 K env H Q = EvK T (.seq (.ops o161_47) .ret) K env H Q := rfl
def b161_24 : C := (.seq (.seq (.ops o161_25) b161_26) b161_46)
@[go_sem] theorem r161_24 : EvK T b161_24 K env H Q = EvK T (.seq (.seq (.ops o161_25) b161_26) b161_46) K env H Q := rfl
def b161_19 : C := (.seq (.seq (.ops o161_20) b161_21) b161_24)
@[go_sem] theorem r161_19 : EvK T b161_19 K env H Q = EvK T (.seq (.seq (.ops o161_20) b161_21) b161_24) K env H Q := rfl
def b161_14 : C := (.seq (.seq (.ops o161_15) b161_16) b161_19)
@[go_sem] theorem r161_14 : EvK T b161_14 K env H Q = EvK T (.seq (.seq (.ops o161_15) b161_16) b161_19) K env H Q := rfl
def b161_9 : C := (.seq (.seq (.ops o161_10) b161_11) b161_14)
@[go_sem] theorem r161_9 : EvK T b161_9 K env H Q = EvK T (.seq (.seq (.ops o161_10) b161_11) b161_14) K env H Q := rfl
def b161_7 : C := (.seq (.ops o161_8) b161_9)
@[go_sem] theorem r161_7 : EvK T b161_7 K env H Q = EvK T (.seq (.ops o161_8) b161_9) K env H Q := rfl
def b161_2 : C := (.seq (.seq (.ops o161_3) b161_4) b161_7)
@[go_sem] theorem r161_2 : EvK T b161_2 K env H Q = EvK T (.seq (.seq (.ops o161_3) b161_4) b161_7) K env H Q := rfl
def b161 : C := (.seq (.ops o161_1) b161_2)
@[go_sem] theorem r161 : EvK T b161 K env H Q = EvK T (.seq (.ops o161_1) b161_2) K env H Q := rfl
def c161 : IFun := ⟨136, b161, [(.tmp 2)]⟩
/-! 162 (*dynamometer/value.reader).peek -/
def c162 : IFun := ⟨22, (.seq (.ops [⟨(some 2), (.mov (.const (.int .u8 0))), none⟩]) (.seq (.seq (.dops [⟨⟨(some 3), (.mov (.tmp 0)), none⟩, false, []⟩, ⟨⟨(some 4), (.nilck (.tmp 3)), none⟩, false, []⟩, ⟨⟨(some 5), (.faddr 1 (.tmp 4)), none⟩, false, []⟩, ⟨⟨(some 6), (.ld none (.tmp 5)), none⟩, false, []⟩, ⟨⟨(some 7), (.mov (.tmp 0)), none⟩, false, []⟩, ⟨⟨(some 8), (.nilck (.tmp 7)), none⟩, false, []⟩, ⟨⟨(some 9), (.faddr 0 (.tmp 8)), none⟩, false, []⟩, ⟨⟨(some 10), (.ld none (.tmp 9)), none⟩, false, []⟩, ⟨⟨(some 11), (.len true (.tmp 10)), none⟩, false, []⟩, ⟨⟨(some 12), (.bin .lss (.tmp 6) (.tmp 11)), none⟩, false, []⟩]) (.cond (.tmp 12) (.seq (.dops [⟨⟨(some 13), (.mov (.tmp 0)), none⟩, false, []⟩, ⟨⟨(some 14), (.nilck (.tmp 13)), none⟩, false, []⟩, ⟨⟨(some 15), (.faddr 0 (.tmp 14)), none⟩, false, []⟩, ⟨⟨(some 16), (.ld none (.tmp 15)), none⟩, false, []⟩, ⟨⟨(some 17), (.mov (.tmp 0)), none⟩, false, []⟩, ⟨⟨(some 18), (.nilck (.tmp 17)), none⟩, false, []⟩, ⟨⟨(some 19), (.faddr 1 (.tmp 18)), none⟩, false, []⟩, ⟨⟨(some 20), (.ld none (.tmp 19)), none⟩, false, []⟩, ⟨⟨(some 21), (.ixstr (.tmp 16) (.tmp 20)), none⟩, false, []⟩, ⟨⟨(some 2), (.mov (.tmp 21)), none⟩, false, []⟩]) .ret) .skip)) (.seq (.ops [⟨(some 2), (.mov (.const (.int .u8 0))), none⟩]) .ret))), [(.tmp 2)]⟩
/-! 163 strings.IndexByte -/
def c163 : IFun := ⟨8, (.seq (.ops [⟨(some 4), (.mov (.const (.int .i64 0))), none⟩]) (.seq (.ops [⟨(some 5), (.mov (.tmp 0)), none⟩, ⟨(some 6), (.mov (.tmp 1)), none⟩, ⟨(some 7), (.call (.func 238) [(.tmp 5), (.tmp 6)]), none⟩, ⟨(some 4), (.mov (.tmp 7)), none⟩]) .ret)), [(.tmp 4)]⟩
/-! 164 (*dynamometer/value.reader).word -/
def c164 : IFun := ⟨20, (.seq (.ops [⟨(some 5), (.box 27 (.tmp 2)), none⟩, ⟨(some 6), (.new 27 [(.int .i64 0), (.bool false), (.bool false), (.string ⟨⟨[]⟩⟩), (.int .i64 0), (.string ⟨⟨[]⟩⟩), (.slice none 0 0), (.slice none 0 0)]), none⟩]) (.seq (.seq (.ops [⟨(some 8), (.mov (.tmp 1)), none⟩, ⟨(some 9), (.len true (.tmp 8)), none⟩, ⟨(some 10), (.mov (.const (.int .i64 0))), none⟩]) (.block 0 (.loop [] (.seq (.ops [⟨(some 11), (.bin .lss (.tmp 10) (.tmp 9)), none⟩]) (.seq (.cond (.tmp 11) .skip (.exit 0)) (.seq (.block 1 (.seq (.ops [⟨(some 12), (.mov (.tmp 10)), none⟩, ⟨(some 7), (.mov (.tmp 12)), none⟩]) (.ops [⟨(some 13), (.mov (.tmp 0)), none⟩, ⟨(some 14), (.mov (.tmp 1)), none⟩, ⟨(some 15), (.mov (.tmp 7)), none⟩, ⟨(some 16), (.ixstr (.tmp 14) (.tmp 15)), none⟩, ⟨(some 17), (.call (.func 239) [(.tmp 13), (.tmp 16)]), none⟩]))) (.ops [⟨(some 18), (.bin .add (.tmp 10) (.const (.int .i64 1))), none⟩, ⟨(some 10), (.mov (.tmp 18)), none⟩]))))))) (.seq (.ops [⟨(some 19), (.ld (some 8) (.tmp 5)), none⟩, ⟨none, (.st 8 (.tmp 6) (.tmp 19)), none⟩]) .ret))), [(.cell 6 (some 8))]⟩
/-! 165 (*dynamometer/value.reader).quoted -/
def c165 : IFun := ⟨143, (.seq (.ops [⟨(some 2), (.mov (.const (.string ⟨⟨[]⟩⟩))), none⟩]) (.seq (.ops [⟨(some 7), (.mov (.tmp 0)), none⟩, ⟨(some 8), (.nilck (.tmp 7)), none⟩, ⟨(some 9), (.faddr 1 (.tmp 8)), none⟩, ⟨(some 10), (.ld none (.tmp 9)), none⟩, ⟨(some 3), (.mov (.tmp 10)), none⟩]) (.seq (.ops [⟨(some 11), (.mov (.tmp 0)), none⟩, ⟨(some 12), (.call (.func 239) [(.tmp 11), (.const (.int .u8 34))]), none⟩]) (.seq (.ops [⟨(some 4), (.mov (.const (.slice none 0 0))), none⟩]) (.seq (.block 0 (.loop [] (.seq (.seq (.ops [⟨(some 13), (.mov (.tmp 0)), none⟩, ⟨(some 14), (.call (.func 162) [(.tmp 13)]), none⟩, ⟨(some 15), (.bin .neq (.tmp 14) (.const (.int .u8 34))), none⟩]) (.cond (.tmp 15) .skip (.exit 0))) (.block 1 (.seq (.ops [⟨(some 16), (.mov (.tmp 0)), none⟩, ⟨(some 17), (.call (.func 162) [(.tmp 16)]), none⟩, ⟨(some 5), (.mov (.tmp 17)), none⟩]) (.seq (.block 2 (.seq (.dops [⟨⟨(some 19), (.mov (.tmp 0)), none⟩, false, []⟩, ⟨⟨(some 20), (.nilck (.tmp 19)), none⟩, false, []⟩, ⟨⟨(some 21), (.faddr 1 (.tmp 20)), none⟩, false, []⟩, ⟨⟨(some 22), (.ld none (.tmp 21)), none⟩, false, []⟩, ⟨⟨(some 23), (.mov (.tmp 0)), none⟩, false, []⟩, ⟨⟨(some 24), (.nilck (.tmp 23)), none⟩, false, []⟩, ⟨⟨(some 25), (.faddr 0 (.tmp 24)), none⟩, false, []⟩, ⟨⟨(some 26), (.ld none (.tmp 25)), none⟩, false, []⟩, ⟨⟨(some 27), (.len true (.tmp 26)), none⟩, false, []⟩, ⟨⟨(some 28), (.bin .eql (.tmp 22) (.tmp 27)), none⟩, false, []⟩, ⟨⟨(some 29), (.mov (.tmp 28)), none⟩, false, []⟩, ⟨⟨(some 30), (.mov (.tmp 5)), (some (29, false))⟩, false, []⟩, ⟨⟨(some 31), (.bin .lss (.tmp 30) (.const (.int .u8 32))), (some (29, false))⟩, false, []⟩, ⟨⟨(some 32), (.pick (.tmp 29) (.const (.bool true)) (.tmp 31)), none⟩, false, []⟩, ⟨⟨(some 18), (.mov (.tmp 32)), none⟩, false, []⟩]) (.cond (.tmp 18) (.ops [⟨(some 33), (.mov (.tmp 0)), none⟩, ⟨(some 34), (.mov (.tmp 0)), none⟩, ⟨(some 35), (.nilck (.tmp 34)), none⟩, ⟨(some 36), (.faddr 1 (.tmp 35)), none⟩, ⟨(some 37), (.ld none (.tmp 36)), none⟩, ⟨(some 38), (.call (.func 84) [(.tmp 33), (.tmp 37), (.const (.int .i64 6))]), none⟩]) (.seq (.ops [⟨(some 40), (.mov (.tmp 5)), none⟩, ⟨(some 41), (.bin .neq (.tmp 40) (.const (.int .u8 92))), none⟩, ⟨(some 39), (.mov (.tmp 41)), none⟩]) (.cond (.tmp 39) (.seq (.ops [⟨(some 42), (.mov (.tmp 4)), none⟩, ⟨(some 43), (.mov (.tmp 5)), none⟩, ⟨(some 44), (.gsl 1 [(.int .u8 0)] [(0, (1, (.tmp 43)))]), none⟩, ⟨(some 45), (.append 5 1 1 (.tmp 42) (.tmp 44)), none⟩, ⟨(some 4), (.mov (.tmp 45)), none⟩]) (.seq (.ops [⟨(some 46), (.mov (.tmp 0)), none⟩, ⟨(some 47), (.nilck (.tmp 46)), none⟩, ⟨(some 48), (.faddr 1 (.tmp 47)), none⟩, ⟨(some 49), (.ld none (.tmp 48)), none⟩, ⟨(some 50), (.bin .add (.tmp 49) (.const (.int .i64 1))), none⟩, ⟨(some 51), (.nilck (.tmp 46)), none⟩, ⟨(some 52), (.faddr 1 (.tmp 51)), none⟩, ⟨none, (.st 1 (.tmp 52) (.tmp 50)), none⟩]) (.exit 1))) .skip))))) (.seq (.ops [⟨(some 53), (.mov (.tmp 0)), none⟩, ⟨(some 54), (.nilck (.tmp 53)), none⟩, ⟨(some 55), (.faddr 1 (.tmp 54)), none⟩, ⟨(some 56), (.ld none (.tmp 55)), none⟩, ⟨(some 57), (.bin .add (.tmp 56) (.const (.int .i64 1))), none⟩, ⟨(some 58), (.nilck (.tmp 53)), none⟩, ⟨(some 59), (.faddr 1 (.tmp 58)), none⟩, ⟨none, (.st 1 (.tmp 59) (.tmp 57)), none⟩]) (.seq (.ops [⟨(some 60), (.mov (.tmp 0)), none⟩, ⟨(some 61), (.call (.func 162) [(.tmp 60)]), none⟩, ⟨(some 5), (.mov (.tmp 61)), none⟩]) (.seq (.ops [⟨(some 62), (.mov (.tmp 5)), none⟩, ⟨(some 63), (.call (.func 163) [(.const (.string ⟨⟨[34, 92, 47, 98, 102, 110, 114, 116]⟩⟩)), (.tmp 62)]), none⟩, ⟨(some 6), (.mov (.tmp 63)), none⟩]) (.block 3 (.seq (.dops [⟨⟨(some 77), (.mov (.tmp 0)), none⟩, false, []⟩, ⟨⟨(some 78), (.nilck (.tmp 77)), none⟩, false, []⟩, ⟨⟨(some 79), (.faddr 1 (.tmp 78)), none⟩, false, []⟩, ⟨⟨(some 80), (.ld none (.tmp 79)), none⟩, false, []⟩, ⟨⟨(some 81), (.mov (.tmp 0)), none⟩, false, []⟩, ⟨⟨(some 82), (.nilck (.tmp 81)), none⟩, false, []⟩, ⟨⟨(some 83), (.faddr 0 (.tmp 82)), none⟩, false, []⟩, ⟨⟨(some 84), (.ld none (.tmp 83)), none⟩, false, []⟩, ⟨⟨(some 85), (.len true (.tmp 84)), none⟩, false, []⟩, ⟨⟨(some 86), (.bin .lss (.tmp 80) (.tmp 85)), none⟩, false, []⟩, ⟨⟨(some 87), (.mov (.tmp 86)), none⟩, false, []⟩, ⟨⟨(some 88), (.mov (.tmp 5)), (some (87, true))⟩, false, []⟩, ⟨⟨(some 89), (.bin .eql (.tmp 88) (.const (.int .u8 117))), (some (87, true))⟩, false, []⟩, ⟨⟨(some 90), (.pick (.tmp 87) (.tmp 89) (.const (.bool false))), none⟩, false, []⟩, ⟨⟨(some 76), (.mov (.tmp 90)), none⟩, false, []⟩]) (.cond (.tmp 76) (.seq (.ops [⟨(some 91), (.mov (.tmp 0)), none⟩, ⟨(some 92), (.nilck (.tmp 91)), none⟩, ⟨(some 93), (.faddr 1 (.tmp 92)), none⟩, ⟨(some 94), (.ld none (.tmp 93)), none⟩, ⟨(some 95), (.bin .add (.tmp 94) (.const (.int .i64 1))), none⟩, ⟨(some 96), (.nilck (.tmp 91)), none⟩, ⟨(some 97), (.faddr 1 (.tmp 96)), none⟩, ⟨none, (.st 1 (.tmp 97) (.tmp 95)), none⟩]) (.ops [⟨(some 98), (.mov (.tmp 4)), none⟩, ⟨(some 99), (.mov (.tmp 0)), none⟩, ⟨(some 100), (.mov (.tmp 0)), none⟩, ⟨(some 101), (.nilck (.tmp 100)), none⟩, ⟨(some 102), (.faddr 1 (.tmp 101)), none⟩, ⟨(some 103), (.ld none (.tmp 102)), none⟩, ⟨(some 104), (.bin .sub (.tmp 103) (.const (.int .i64 2))), none⟩, ⟨(some 105), (.call (.func 241) [(.tmp 99), (.tmp 104)]), none⟩, ⟨(some 106), (.call (.func 240) [(.tmp 98), (.tmp 105)]), none⟩, ⟨(some 4), (.mov (.tmp 106)), none⟩])) (.seq (.dops [⟨⟨(some 108), (.mov (.tmp 0)), none⟩, false, []⟩, ⟨⟨(some 109), (.nilck (.tmp 108)), none⟩, false, []⟩, ⟨⟨(some 110), (.faddr 1 (.tmp 109)), none⟩, false, []⟩, ⟨⟨(some 111), (.ld none (.tmp 110)), none⟩, false, []⟩, ⟨⟨(some 112), (.mov (.tmp 0)), none⟩, false, []⟩, ⟨⟨(some 113), (.nilck (.tmp 112)), none⟩, false, []⟩, ⟨⟨(some 114), (.faddr 0 (.tmp 113)), none⟩, false, []⟩, ⟨⟨(some 115), (.ld none (.tmp 114)), none⟩, false, []⟩, ⟨⟨(some 116), (.len true (.tmp 115)), none⟩, false, []⟩, ⟨⟨(some 117), (.bin .eql (.tmp 111) (.tmp 116)), none⟩, false, []⟩, ⟨⟨(some 118), (.mov (.tmp 117)), none⟩, false, []⟩, ⟨⟨(some 119), (.mov (.tmp 6)), (some (118, false))⟩, false, []⟩, ⟨⟨(some 120), (.bin .lss (.tmp 119) (.const (.int .i64 0))), (some (118, false))⟩, false, []⟩, ⟨⟨(some 121), (.pick (.tmp 118) (.const (.bool true)) (.tmp 120)), none⟩, false, []⟩, ⟨⟨(some 107), (.mov (.tmp 121)), none⟩, false, []⟩]) (.cond (.tmp 107) (.ops [⟨(some 122), (.mov (.tmp 0)), none⟩, ⟨(some 123), (.mov (.tmp 0)), none⟩, ⟨(some 124), (.nilck (.tmp 123)), none⟩, ⟨(some 125), (.faddr 1 (.tmp 124)), none⟩, ⟨(some 126), (.ld none (.tmp 125)), none⟩, ⟨(some 127), (.call (.func 84) [(.tmp 122), (.tmp 126), (.const (.int .i64 6))]), none⟩]) (.seq (.ops [⟨(some 64), (.mov (.tmp 4)), none⟩, ⟨(some 65), (.mov (.tmp 6)), none⟩, ⟨(some 66), (.ixstr (.const (.string ⟨⟨[34, 92, 47, 8, 12, 10, 13, 9]⟩⟩)) (.tmp 65)), none⟩, ⟨(some 67), (.gsl 1 [(.int .u8 0)] [(0, (1, (.tmp 66)))]), none⟩, ⟨(some 68), (.append 5 1 1 (.tmp 64) (.tmp 67)), none⟩, ⟨(some 4), (.mov (.tmp 68)), none⟩]) (.ops [⟨(some 69), (.mov (.tmp 0)), none⟩, ⟨(some 70), (.nilck (.tmp 69)), none⟩, ⟨(some 71), (.faddr 1 (.tmp 70)), none⟩, ⟨(some 72), (.ld none (.tmp 71)), none⟩, ⟨(some 73), (.bin .add (.tmp 72) (.const (.int .i64 1))), none⟩, ⟨(some 74), (.nilck (.tmp 69)), none⟩, ⟨(some 75), (.faddr 1 (.tmp 74)), none⟩, ⟨none, (.st 1 (.tmp 75) (.tmp 73)), none⟩])))))))))))))))) (.seq (.ops [⟨(some 128), (.mov (.tmp 0)), none⟩, ⟨(some 129), (.nilck (.tmp 128)), none⟩, ⟨(some 130), (.faddr 1 (.tmp 129)), none⟩, ⟨(some 131), (.ld none (.tmp 130)), none⟩, ⟨(some 132), (.bin .add (.tmp 131) (.const (.int .i64 1))), none⟩, ⟨(some 133), (.nilck (.tmp 128)), none⟩, ⟨(some 134), (.faddr 1 (.tmp 133)), none⟩, ⟨none, (.st 1 (.tmp 134) (.tmp 132)), none⟩]) (.seq (.seq (.ops [⟨(some 135), (.mov (.tmp 4)), none⟩, ⟨(some 136), (.len false (.tmp 135)), none⟩, ⟨(some 137), (.bin .gtr (.tmp 136) (.const (.int .i64 10000))), none⟩]) (.cond (.tmp 137) (.ops [⟨(some 138), (.mov (.tmp 0)), none⟩, ⟨(some 139), (.mov (.tmp 3)), none⟩, ⟨(some 140), (.call (.func 84) [(.tmp 138), (.tmp 139), (.const (.int .i64 3))]), none⟩]) .skip)) (.seq (.ops [⟨(some 141), (.mov (.tmp 4)), none⟩, ⟨(some 142), (.b2s (.tmp 141)), none⟩, ⟨(some 2), (.mov (.tmp 142)), none⟩]) .ret)))))))), [(.tmp 2)]⟩
/-! 166 (*dynamometer/value.reader).list -/
def c166 : IFun := ⟨46, (.seq (.ops [⟨(some 4), (.new 27 [(.int .i64 0), (.bool false), (.bool false), (.string ⟨⟨[]⟩⟩), (.int .i64 0), (.string ⟨⟨[]⟩⟩), (.slice none 0 0), (.slice none 0 0)]), none⟩]) (.seq (.ops [⟨(some 6), (.build [(.int .i64 0), (.bool false), (.bool false), (.string ⟨⟨[]⟩⟩), (.int .i64 0), (.string ⟨⟨[]⟩⟩), (.slice none 0 0), (.slice none 0 0)] [(0, (1, (.const (.int .i64 5))))]), none⟩, ⟨(some 5), (.new 27 [(.int .i64 0), (.bool false), (.bool false), (.string ⟨⟨[]⟩⟩), (.int .i64 0), (.string ⟨⟨[]⟩⟩), (.slice none 0 0), (.slice none 0 0)]), none⟩, ⟨none, (.st 8 (.tmp 5) (.tmp 6)), none⟩]) (.seq (.ops [⟨(some 7), (.mov (.tmp 0)), none⟩, ⟨(some 8), (.call (.func 239) [(.tmp 7), (.const (.int .u8 91))]), none⟩]) (.seq (.ops [⟨(some 9), (.mov (.tmp 0)), none⟩, ⟨(some 10), (.call (.func 83) [(.tmp 9)]), none⟩]) (.seq (.seq (.ops [⟨(some 11), (.mov (.tmp 0)), none⟩, ⟨(some 12), (.call (.func 162) [(.tmp 11)]), none⟩, ⟨(some 13), (.bin .eql (.tmp 12) (.const (.int .u8 93))), none⟩]) (.cond (.tmp 13) (.seq (.ops [⟨(some 14), (.mov (.tmp 0)), none⟩, ⟨(some 15), (.nilck (.tmp 14)), none⟩, ⟨(some 16), (.faddr 1 (.tmp 15)), none⟩, ⟨(some 17), (.ld none (.tmp 16)), none⟩, ⟨(some 18), (.bin .add (.tmp 17) (.const (.int .i64 1))), none⟩, ⟨(some 19), (.nilck (.tmp 14)), none⟩, ⟨(some 20), (.faddr 1 (.tmp 19)), none⟩, ⟨none, (.st 1 (.tmp 20) (.tmp 18)), none⟩]) (.seq (.ops [⟨(some 21), (.ld (some 8) (.tmp 5)), none⟩, ⟨none, (.st 8 (.tmp 4) (.tmp 21)), none⟩]) .ret)) .skip)) (.block 0 (.loop [] (.block 1 (.seq (.dops [⟨⟨(some 22), (.faddr 6 (.tmp 5)), none⟩, false, []⟩, ⟨⟨(some 23), (.ld none (.tmp 22)), none⟩, false, [7]⟩, ⟨⟨(some 24), (.mov (.tmp 0)), none⟩, false, []⟩, ⟨⟨(some 25), (.mov (.tmp 1)), none⟩, false, []⟩, ⟨⟨(some 26), (.bin .add (.tmp 25) (.const (.int .i64 1))), none⟩, false, []⟩, ⟨⟨(some 27), (.call (.func 82) [(.tmp 24), (.tmp 26)]), none⟩, true, []⟩, ⟨⟨(some 28), (.gsl 1 [(.int .i64 0), (.bool false), (.bool false), (.string ⟨⟨[]⟩⟩), (.int .i64 0), (.string ⟨⟨[]⟩⟩), (.slice none 0 0), (.slice none 0 0)] [(0, (8, (.tmp 27)))]), none⟩, false, []⟩, ⟨⟨(some 29), (.append 27 8 112 (.tmp 23) (.tmp 28)), none⟩, true, []⟩, ⟨⟨(some 30), (.faddr 6 (.tmp 5)), none⟩, false, []⟩, ⟨⟨none, (.st 1 (.tmp 30) (.tmp 29)), none⟩, true, []⟩]) (.seq (.ops [⟨(some 31), (.mov (.tmp 0)), none⟩, ⟨(some 32), (.call (.func 83) [(.tmp 31)]), none⟩]) (.seq (.seq (.ops [⟨(some 33), (.mov (.tmp 0)), none⟩, ⟨(some 34), (.call (.func 162) [(.tmp 33)]), none⟩, ⟨(some 35), (.bin .neq (.tmp 34) (.const (.int .u8 44))), none⟩]) (.cond (.tmp 35) (.seq (.ops [⟨(some 36), (.mov (.tmp 0)), none⟩, ⟨(some 37), (.call (.func 239) [(.tmp 36), (.const (.int .u8 93))]), none⟩]) (.seq (.ops [⟨(some 38), (.ld (some 8) (.tmp 5)), none⟩, ⟨none, (.st 8 (.tmp 4) (.tmp 38)), none⟩]) .ret)) .skip)) (.ops [⟨(some 39), (.mov (.tmp 0)), none⟩, ⟨(some 40), (.nilck (.tmp 39)), none⟩, ⟨(some 41), (.faddr 1 (.tmp 40)), none⟩, ⟨(some 42), (.ld none (.tmp 41)), none⟩, ⟨(some 43), (.bin .add (.tmp 42) (.const (.int .i64 1))), none⟩, ⟨(some 44), (.nilck (.tmp 39)), none⟩, ⟨(some 45), (.faddr 1 (.tmp 44)), none⟩, ⟨none, (.st 1 (.tmp 45) (.tmp 43)), none⟩])))))))))))), [(.cell 4 (some 8))]⟩
/-! 167 (*dynamometer/value.reader).object -/
def c167 : IFun := ⟨96, (.seq (.ops [⟨(some 4), (.new 27 [(.int .i64 0), (.bool false), (.bool false), (.string ⟨⟨[]⟩⟩), (.int .i64 0), (.string ⟨⟨[]⟩⟩), (.slice none 0 0), (.slice none 0 0)]), none⟩]) (.seq (.ops [⟨(some 12), (.build [(.int .i64 0), (.bool false), (.bool false), (.string ⟨⟨[]⟩⟩), (.int .i64 0), (.string ⟨⟨[]⟩⟩), (.slice none 0 0), (.slice none 0 0)] [(0, (1, (.const (.int .i64 6))))]), none⟩, ⟨(some 5), (.new 27 [(.int .i64 0), (.bool false), (.bool false), (.string ⟨⟨[]⟩⟩), (.int .i64 0), (.string ⟨⟨[]⟩⟩), (.slice none 0 0), (.slice none 0 0)]), none⟩, ⟨none, (.st 8 (.tmp 5) (.tmp 12)), none⟩]) (.seq (.ops [⟨(some 13), (.mov (.tmp 0)), none⟩, ⟨(some 14), (.call (.func 239) [(.tmp 13), (.const (.int .u8 123))]), none⟩]) (.seq (.ops [⟨(some 15), (.mov (.tmp 0)), none⟩, ⟨(some 16), (.call (.func 83) [(.tmp 15)]), none⟩]) (.seq (.seq (.ops [⟨(some 17), (.mov (.tmp 0)), none⟩, ⟨(some 18), (.call (.func 162) [(.tmp 17)]), none⟩, ⟨(some 19), (.bin .eql (.tmp 18) (.const (.int .u8 125))), none⟩]) (.cond (.tmp 19) (.seq (.ops [⟨(some 20), (.mov (.tmp 0)), none⟩, ⟨(some 21), (.nilck (.tmp 20)), none⟩, ⟨(some 22), (.faddr 1 (.tmp 21)), none⟩, ⟨(some 23), (.ld none (.tmp 22)), none⟩, ⟨(some 24), (.bin .add (.tmp 23) (.const (.int .i64 1))), none⟩, ⟨(some 25), (.nilck (.tmp 20)), none⟩, ⟨(some 26), (.faddr 1 (.tmp 25)), none⟩, ⟨none, (.st 1 (.tmp 26) (.tmp 24)), none⟩]) (.seq (.ops [⟨(some 27), (.ld (some 8) (.tmp 5)), none⟩, ⟨none, (.st 8 (.tmp 4) (.tmp 27)), none⟩]) .ret)) .skip)) (.seq (.ops [⟨(some 28), (.mkmap none), none⟩, ⟨(some 6), (.mov (.tmp 28)), none⟩]) (.seq (.ops [⟨(some 7), (.mov (.const (.slice none 0 0))), none⟩]) (.seq (.block 0 (.loop [] (.block 1 (.seq (.ops [⟨(some 29), (.mov (.tmp 0)), none⟩, ⟨(some 30), (.call (.func 83) [(.tmp 29)]), none⟩]) (.seq (.ops [⟨(some 31), (.mov (.tmp 0)), none⟩, ⟨(some 32), (.nilck (.tmp 31)), none⟩, ⟨(some 33), (.faddr 1 (.tmp 32)), none⟩, ⟨(some 34), (.ld none (.tmp 33)), none⟩, ⟨(some 8), (.mov (.tmp 34)), none⟩]) (.seq (.ops [⟨(some 35), (.mov (.tmp 0)), none⟩, ⟨(some 36), (.call (.func 165) [(.tmp 35)]), none⟩, ⟨(some 9), (.mov (.tmp 36)), none⟩]) (.seq (.seq (.ops [⟨(some 37), (.mov (.tmp 6)), none⟩, ⟨(some 38), (.mov (.tmp 9)), none⟩, ⟨(some 39), (.mlook (.bool false) false (.tmp 37) (.tmp 38)), none⟩]) (.cond (.tmp 39) (.ops [⟨(some 40), (.mov (.tmp 0)), none⟩, ⟨(some 41), (.mov (.tmp 8)), none⟩, ⟨(some 42), (.call (.func 84) [(.tmp 40), (.tmp 41), (.const (.int .i64 5))]), none⟩]) .skip)) (.seq (.ops [⟨(some 43), (.mov (.tmp 6)), none⟩, ⟨(some 44), (.mov (.tmp 9)), none⟩, ⟨none, (.mput (.tmp 43) (.tmp 44) (.const (.bool true))), none⟩]) (.seq (.ops [⟨(some 45), (.mov (.tmp 0)), none⟩, ⟨(some 46), (.call (.func 83) [(.tmp 45)]), none⟩]) (.seq (.ops [⟨(some 47), (.mov (.tmp 0)), none⟩, ⟨(some 48), (.call (.func 239) [(.tmp 47), (.const (.int .u8 58))]), none⟩]) (.seq (.ops [⟨(some 49), (.mov (.tmp 7)), none⟩, ⟨(some 50), (.mov (.tmp 9)), none⟩, ⟨(some 51), (.mov (.tmp 0)), none⟩, ⟨(some 52), (.mov (.tmp 1)), none⟩, ⟨(some 53), (.bin .add (.tmp 52) (.const (.int .i64 1))), none⟩, ⟨(some 54), (.call (.func 82) [(.tmp 51), (.tmp 53)]), none⟩, ⟨(some 55), (.build [(.string ⟨⟨[]⟩⟩), (.int .i64 0), (.bool false), (.bool false), (.string ⟨⟨[]⟩⟩), (.int .i64 0), (.string ⟨⟨[]⟩⟩), (.slice none 0 0), (.slice none 0 0)] [(0, (1, (.tmp 50))), (1, (8, (.tmp 54)))]), none⟩, ⟨(some 56), (.gsl 1 [(.string ⟨⟨[]⟩⟩), (.int .i64 0), (.bool false), (.bool false), (.string ⟨⟨[]⟩⟩), (.int .i64 0), (.string ⟨⟨[]⟩⟩), (.slice none 0 0), (.slice none 0 0)] [(0, (9, (.tmp 55)))]), none⟩, ⟨(some 57), (.append 244 9 128 (.tmp 49) (.tmp 56)), none⟩, ⟨(some 7), (.mov (.tmp 57)), none⟩]) (.seq (.ops [⟨(some 58), (.mov (.tmp 0)), none⟩, ⟨(some 59), (.call (.func 83) [(.tmp 58)]), none⟩]) (.seq (.seq (.ops [⟨(some 60), (.mov (.tmp 0)), none⟩, ⟨(some 61), (.call (.func 162) [(.tmp 60)]), none⟩, ⟨(some 62), (.bin .neq (.tmp 61) (.const (.int .u8 44))), none⟩]) (.cond (.tmp 62) (.exit 0) .skip)) (.ops [⟨(some 63), (.mov (.tmp 0)), none⟩, ⟨(some 64), (.nilck (.tmp 63)), none⟩, ⟨(some 65), (.faddr 1 (.tmp 64)), none⟩, ⟨(some 66), (.ld none (.tmp 65)), none⟩, ⟨(some 67), (.bin .add (.tmp 66) (.const (.int .i64 1))), none⟩, ⟨(some 68), (.nilck (.tmp 63)), none⟩, ⟨(some 69), (.faddr 1 (.tmp 68)), none⟩, ⟨none, (.st 1 (.tmp 69) (.tmp 67)), none⟩])))))))))))))) (.seq (.ops [⟨(some 70), (.mov (.tmp 0)), none⟩, ⟨(some 71), (.call (.func 239) [(.tmp 70), (.const (.int .u8 125))]), none⟩]) (.seq (.ops [⟨(some 72), (.mov (.tmp 7)), none⟩, ⟨(some 73), (.call (.func 242) [(.tmp 72), (.func 243)]), none⟩]) (.seq (.seq (.ops [⟨(some 74), (.mov (.tmp 7)), none⟩, ⟨(some 75), (.len false (.tmp 74)), none⟩, ⟨(some 76), (.mov (.const (.int .i64 0))), none⟩]) (.block 2 (.loop [] (.seq (.ops [⟨(some 77), (.bin .lss (.tmp 76) (.tmp 75)), none⟩]) (.seq (.cond (.tmp 77) .skip (.exit 2)) (.seq (.block 3 (.seq (.ops [⟨(some 78), (.iaddr 9 (.tmp 74) (.tmp 76)), none⟩, ⟨(some 79), (.ld (some 9) (.tmp 78)), none⟩, ⟨(some 11), (.new 244 [(.string ⟨⟨[]⟩⟩), (.int .i64 0), (.bool false), (.bool false), (.string ⟨⟨[]⟩⟩), (.int .i64 0), (.string ⟨⟨[]⟩⟩), (.slice none 0 0), (.slice none 0 0)]), none⟩, ⟨none, (.st 9 (.tmp 11) (.tmp 79)), none⟩]) (.dops [⟨⟨(some 80), (.faddr 7 (.tmp 5)), none⟩, false, []⟩, ⟨⟨(some 81), (.ld none (.tmp 80)), none⟩, false, []⟩, ⟨⟨(some 82), (.faddr 0 (.tmp 11)), none⟩, false, []⟩, ⟨⟨(some 83), (.ld none (.tmp 82)), none⟩, false, []⟩, ⟨⟨(some 84), (.gsl 1 [(.string ⟨⟨[]⟩⟩)] [(0, (1, (.tmp 83)))]), none⟩, false, []⟩, ⟨⟨(some 85), (.append 9 1 16 (.tmp 81) (.tmp 84)), none⟩, true, []⟩, ⟨⟨(some 86), (.faddr 6 (.tmp 5)), none⟩, false, []⟩, ⟨⟨(some 87), (.ld none (.tmp 86)), none⟩, false, [5]⟩, ⟨⟨(some 88), (.faddr 1 (.tmp 11)), none⟩, false, []⟩, ⟨⟨(some 89), (.ld (some 8) (.tmp 88)), none⟩, false, [5]⟩, ⟨⟨(some 90), (.gsl 1 [(.int .i64 0), (.bool false), (.bool false), (.string ⟨⟨[]⟩⟩), (.int .i64 0), (.string ⟨⟨[]⟩⟩), (.slice none 0 0), (.slice none 0 0)] [(0, (8, (.tmp 89)))]), none⟩, false, []⟩, ⟨⟨(some 91), (.append 27 8 112 (.tmp 87) (.tmp 90)), none⟩, true, []⟩, ⟨⟨(some 92), (.faddr 7 (.tmp 5)), none⟩, false, []⟩, ⟨⟨none, (.st 1 (.tmp 92) (.tmp 85)), none⟩, true, []⟩, ⟨⟨(some 93), (.faddr 6 (.tmp 5)), none⟩, false, []⟩, ⟨⟨none, (.st 1 (.tmp 93) (.tmp 91)), none⟩, true, []⟩]))) (.ops [⟨(some 94), (.bin .add (.tmp 76) (.const (.int .i64 1))), none⟩, ⟨(some 76), (.mov (.tmp 94)), none⟩]))))))) (.seq (.ops [⟨(some 95), (.ld (some 8) (.tmp 5)), none⟩, ⟨none, (.st 8 (.tmp 4) (.tmp 95)), none⟩]) .ret)))))))))))), [(.cell 4 (some 8))]⟩
/-! 168 (*dynamometer/value.reader).number -/
def c168 : IFun := ⟨110, (.seq (.ops [⟨(some 2), (.new 27 [(.int .i64 0), (.bool false), (.bool false), (.string ⟨⟨[]⟩⟩), (.int .i64 0), (.string ⟨⟨[]⟩⟩), (.slice none 0 0), (.slice none 0 0)]), none⟩]) (.seq (.ops [⟨(some 12), (.mov (.tmp 0)), none⟩, ⟨(some 13), (.nilck (.tmp 12)), none⟩, ⟨(some 14), (.faddr 1 (.tmp 13)), none⟩, ⟨(some 15), (.ld none (.tmp 14)), none⟩, ⟨(some 3), (.mov (.tmp 15)), none⟩]) (.seq (.ops [⟨(some 16), (.mov (.tmp 0)), none⟩, ⟨(some 17), (.call (.func 162) [(.tmp 16)]), none⟩, ⟨(some 18), (.bin .eql (.tmp 17) (.const (.int .u8 45))), none⟩, ⟨(some 4), (.mov (.tmp 18)), none⟩]) (.seq (.seq (.ops [⟨(some 19), (.mov (.tmp 4)), none⟩]) (.cond (.tmp 19) (.ops [⟨(some 20), (.mov (.tmp 0)), none⟩, ⟨(some 21), (.nilck (.tmp 20)), none⟩, ⟨(some 22), (.faddr 1 (.tmp 21)), none⟩, ⟨(some 23), (.ld none (.tmp 22)), none⟩, ⟨(some 24), (.bin .add (.tmp 23) (.const (.int .i64 1))), none⟩, ⟨(some 25), (.nilck (.tmp 20)), none⟩, ⟨(some 26), (.faddr 1 (.tmp 25)), none⟩, ⟨none, (.st 1 (.tmp 26) (.tmp 24)), none⟩]) .skip)) (.seq (.ops [⟨(some 5), (.mov (.const (.string ⟨⟨[48]⟩⟩))), none⟩]) (.seq (.seq (.ops [⟨(some 27), (.mov (.tmp 0)), none⟩, ⟨(some 28), (.call (.func 162) [(.tmp 27)]), none⟩, ⟨(some 29), (.bin .eql (.tmp 28) (.const (.int .u8 48))), none⟩]) (.cond (.tmp 29) (.ops [⟨(some 30), (.mov (.tmp 0)), none⟩, ⟨(some 31), (.nilck (.tmp 30)), none⟩, ⟨(some 32), (.faddr 1 (.tmp 31)), none⟩, ⟨(some 33), (.ld none (.tmp 32)), none⟩, ⟨(some 34), (.bin .add (.tmp 33) (.const (.int .i64 1))), none⟩, ⟨(some 35), (.nilck (.tmp 30)), none⟩, ⟨(some 36), (.faddr 1 (.tmp 35)), none⟩, ⟨none, (.st 1 (.tmp 36) (.tmp 34)), none⟩]) (.ops [⟨(some 37), (.mov (.tmp 0)), none⟩, ⟨(some 38), (.call (.func 244) [(.tmp 37)]), none⟩, ⟨(some 5), (.mov (.tmp 38)), none⟩]))) (.seq (.ops [⟨(some 6), (.mov (.const (.int .i64 0))), none⟩]) (.seq (.seq (.ops [⟨(some 39), (.mov (.tmp 0)), none⟩, ⟨(some 40), (.call (.func 162) [(.tmp 39)]), none⟩, ⟨(some 41), (.bin .eql (.tmp 40) (.const (.int .u8 46))), none⟩]) (.cond (.tmp 41) (.seq (.ops [⟨(some 42), (.mov (.tmp 0)), none⟩, ⟨(some 43), (.nilck (.tmp 42)), none⟩, ⟨(some 44), (.faddr 1 (.tmp 43)), none⟩, ⟨(some 45), (.ld none (.tmp 44)), none⟩, ⟨(some 46), (.bin .add (.tmp 45) (.const (.int .i64 1))), none⟩, ⟨(some 47), (.nilck (.tmp 42)), none⟩, ⟨(some 48), (.faddr 1 (.tmp 47)), none⟩, ⟨none, (.st 1 (.tmp 48) (.tmp 46)), none⟩]) (.seq (.ops [⟨(some 49), (.mov (.tmp 0)), none⟩, ⟨(some 50), (.call (.func 244) [(.tmp 49)]), none⟩, ⟨(some 7), (.mov (.tmp 50)), none⟩]) (.seq (.ops [⟨(some 51), (.mov (.tmp 5)), none⟩, ⟨(some 52), (.mov (.tmp 7)), none⟩, ⟨(some 53), (.bin .add (.tmp 51) (.tmp 52)), none⟩, ⟨(some 5), (.mov (.tmp 53)), none⟩]) (.ops [⟨(some 54), (.mov (.tmp 7)), none⟩, ⟨(some 55), (.len true (.tmp 54)), none⟩, ⟨(some 56), (.un .neg (.tmp 55)), none⟩, ⟨(some 6), (.mov (.tmp 56)), none⟩])))) .skip)) (.seq (.seq (.ops [⟨(some 57), (.mov (.tmp 0)), none⟩, ⟨(some 58), (.call (.func 162) [(.tmp 57)]), none⟩, ⟨(some 8), (.mov (.tmp 58)), none⟩]) (.seq (.ops [⟨(some 59), (.mov (.tmp 8)), none⟩, ⟨(some 60), (.bin .eql (.tmp 59) (.const (.int .u8 101))), none⟩, ⟨(some 61), (.mov (.tmp 60)), none⟩, ⟨(some 62), (.mov (.tmp 8)), (some (61, false))⟩, ⟨(some 63), (.bin .eql (.tmp 62) (.const (.int .u8 69))), (some (61, false))⟩, ⟨(some 64), (.pick (.tmp 61) (.const (.bool true)) (.tmp 63)), none⟩]) (.cond (.tmp 64) (.seq (.ops [⟨(some 65), (.mov (.tmp 0)), none⟩, ⟨(some 66), (.nilck (.tmp 65)), none⟩, ⟨(some 67), (.faddr 1 (.tmp 66)), none⟩, ⟨(some 68), (.ld none (.tmp 67)), none⟩, ⟨(some 69), (.bin .add (.tmp 68) (.const (.int .i64 1))), none⟩, ⟨(some 70), (.nilck (.tmp 65)), none⟩, ⟨(some 71), (.faddr 1 (.tmp 70)), none⟩, ⟨none, (.st 1 (.tmp 71) (.tmp 69)), none⟩]) (.seq (.ops [⟨(some 72), (.mov (.tmp 0)), none⟩, ⟨(some 73), (.call (.func 162) [(.tmp 72)]), none⟩, ⟨(some 74), (.bin .eql (.tmp 73) (.const (.int .u8 45))), none⟩, ⟨(some 9), (.mov (.tmp 74)), none⟩]) (.seq (.seq (.ops [⟨(some 75), (.mov (.tmp 9)), none⟩, ⟨(some 76), (.mov (.tmp 75)), none⟩, ⟨(some 77), (.mov (.tmp 0)), (some (76, false))⟩, ⟨(some 78), (.call (.func 162) [(.tmp 77)]), (some (76, false))⟩, ⟨(some 79), (.bin .eql (.tmp 78) (.const (.int .u8 43))), (some (76, false))⟩, ⟨(some 80), (.pick (.tmp 76) (.const (.bool true)) (.tmp 79)), none⟩]) (.cond (.tmp 80) (.ops [⟨(some 81), (.mov (.tmp 0)), none⟩, ⟨(some 82), (.nilck (.tmp 81)), none⟩, ⟨(some 83), (.faddr 1 (.tmp 82)), none⟩, ⟨(some 84), (.ld none (.tmp 83)), none⟩, ⟨(some 85), (.bin .add (.tmp 84) (.const (.int .i64 1))), none⟩, ⟨(some 86), (.nilck (.tmp 81)), none⟩, ⟨(some 87), (.faddr 1 (.tmp 86)), none⟩, ⟨none, (.st 1 (.tmp 87) (.tmp 85)), none⟩]) .skip)) (.seq (.ops [⟨(some 88), (.mov (.tmp 0)), none⟩, ⟨(some 89), (.call (.func 244) [(.tmp 88)]), none⟩, ⟨(some 90), (.call (.func 245) [(.tmp 89)]), none⟩, ⟨(some 10), (.mov (.tmp 90)), none⟩]) (.seq (.ops [⟨(some 91), (.mov (.tmp 9)), none⟩]) (.cond (.tmp 91) (.ops [⟨(some 92), (.mov (.tmp 6)), none⟩, ⟨(some 93), (.mov (.tmp 10)), none⟩, ⟨(some 94), (.bin .sub (.tmp 92) (.tmp 93)), none⟩, ⟨(some 6), (.mov (.tmp 94)), none⟩]) (.ops [⟨(some 95), (.mov (.tmp 6)), none⟩, ⟨(some 96), (.mov (.tmp 10)), none⟩, ⟨(some 97), (.bin .add (.tmp 95) (.tmp 96)), none⟩, ⟨(some 6), (.mov (.tmp 97)), none⟩]))))))) .skip))) (.seq (.ops [⟨(some 98), (.mov (.tmp 4)), none⟩, ⟨(some 99), (.mov (.tmp 5)), none⟩, ⟨(some 100), (.mov (.tmp 6)), none⟩, ⟨(some 101), (.call (.func 106) [(.tmp 98), (.tmp 99), (.tmp 100)]), none⟩, ⟨(some 11), (.new 23 [(.bool false), (.string ⟨⟨[]⟩⟩), (.int .i64 0)]), none⟩, ⟨none, (.st 3 (.tmp 11) (.tmp 101)), none⟩]) (.seq (.seq (.ops [⟨(some 102), (.ld (some 3) (.tmp 11)), none⟩, ⟨(some 103), (.call (.func 16) [(.tmp 102)]), none⟩, ⟨(some 104), (.bin .neq (.tmp 103) (.const (.int .i64 0))), none⟩]) (.cond (.tmp 104) (.ops [⟨(some 105), (.mov (.tmp 0)), none⟩, ⟨(some 106), (.mov (.tmp 3)), none⟩, ⟨(some 107), (.call (.func 84) [(.tmp 105), (.tmp 106), (.const (.int .i64 3))]), none⟩]) .skip)) (.seq (.ops [⟨(some 108), (.ld (some 3) (.tmp 11)), none⟩, ⟨(some 109), (.build [(.int .i64 0), (.bool false), (.bool false), (.string ⟨⟨[]⟩⟩), (.int .i64 0), (.string ⟨⟨[]⟩⟩), (.slice none 0 0), (.slice none 0 0)] [(0, (1, (.const (.int .i64 3)))), (2, (3, (.tmp 108)))]), none⟩, ⟨none, (.st 8 (.tmp 2) (.tmp 109)), none⟩]) .ret)))))))))))), [(.cell 2 (some 8))]⟩
/-! 177 (*dynamometer/value.printer).print -/
def c177 : IFun := ⟨44, (.seq (.ops [⟨(some 4), (.box 27 (.tmp 1)), none⟩]) (.seq (.ops [⟨(some 6), (.faddr 0 (.tmp 4)), none⟩, ⟨(some 7), (.ld none (.tmp 6)), none⟩]) (.block 0 (.seq (.ops [⟨(some 13), (.bin .eql (.tmp 7) (.const (.int .i64 1))), none⟩, ⟨(some 12), (.mov (.tmp 13)), none⟩]) (.cond (.tmp 12) (.ops [⟨(some 14), (.mov (.tmp 0)), none⟩, ⟨(some 15), (.nilck (.tmp 14)), none⟩, ⟨(some 16), (.faddr 0 (.tmp 15)), none⟩, ⟨(some 17), (.call (.func 203) [(.tmp 16), (.const (.string ⟨⟨[110, 117, 108, 108]⟩⟩))]), none⟩]) (.seq (.ops [⟨(some 19), (.bin .eql (.tmp 7) (.const (.int .i64 2))), none⟩, ⟨(some 18), (.mov (.tmp 19)), none⟩]) (.cond (.tmp 18) (.dops [⟨⟨(some 20), (.mov (.tmp 0)), none⟩, false, []⟩, ⟨⟨(some 21), (.nilck (.tmp 20)), none⟩, false, []⟩, ⟨⟨(some 22), (.faddr 0 (.tmp 21)), none⟩, false, []⟩, ⟨⟨(some 23), (.faddr 1 (.tmp 4)), none⟩, false, []⟩, ⟨⟨(some 24), (.ld none (.tmp 23)), none⟩, false, []⟩, ⟨⟨(some 25), (.call (.func 251) [(.tmp 24)]), none⟩, true, []⟩, ⟨⟨(some 26), (.call (.func 203) [(.tmp 22), (.tmp 25)]), none⟩, true, []⟩]) (.seq (.ops [⟨(some 28), (.bin .eql (.tmp 7) (.const (.int .i64 3))), none⟩, ⟨(some 27), (.mov (.tmp 28)), none⟩]) (.cond (.tmp 27) (.dops [⟨⟨(some 29), (.mov (.tmp 0)), none⟩, false, []⟩, ⟨⟨(some 30), (.nilck (.tmp 29)), none⟩, false, []⟩, ⟨⟨(some 31), (.faddr 0 (.tmp 30)), none⟩, false, []⟩, ⟨⟨(some 32), (.faddr 2 (.tmp 4)), none⟩, false, []⟩, ⟨⟨(some 33), (.ld (some 3) (.tmp 32)), none⟩, false, []⟩, ⟨⟨(some 34), (.call (.func 252) [(.tmp 33)]), none⟩, true, []⟩, ⟨⟨(some 35), (.call (.func 203) [(.tmp 31), (.tmp 34)]), none⟩, true, []⟩]) (.seq (.ops [⟨(some 37), (.bin .eql (.tmp 7) (.const (.int .i64 4))), none⟩, ⟨(some 36), (.mov (.tmp 37)), none⟩]) (.cond (.tmp 36) (.dops [⟨⟨(some 38), (.mov (.tmp 0)), none⟩, false, []⟩, ⟨⟨(some 39), (.nilck (.tmp 38)), none⟩, false, []⟩, ⟨⟨(some 40), (.faddr 0 (.tmp 39)), none⟩, false, []⟩, ⟨⟨(some 41), (.faddr 5 (.tmp 4)), none⟩, false, []⟩, ⟨⟨(some 42), (.ld none (.tmp 41)), none⟩, false, []⟩, ⟨⟨(some 43), (.call (.func 253) [(.tmp 40), (.tmp 42)]), none⟩, true, []⟩]) (.ops [⟨(some 8), (.mov (.tmp 0)), none⟩, ⟨(some 9), (.ld (some 8) (.tmp 4)), none⟩, ⟨(some 10), (.mov (.tmp 2)), none⟩, ⟨(some 11), (.call (.func 254) [(.tmp 8), (.tmp 9), (.tmp 10)]), none⟩])))))))))))), []⟩
/-! 178 (*strings.Builder).Len -/
def c178 : IFun := ⟨8, (.seq (.ops [⟨(some 2), (.mov (.const (.int .i64 0))), none⟩]) (.seq (.ops [⟨(some 3), (.mov (.tmp 0)), none⟩, ⟨(some 4), (.nilck (.tmp 3)), none⟩, ⟨(some 5), (.faddr 1 (.tmp 4)), none⟩, ⟨(some 6), (.ld none (.tmp 5)), none⟩, ⟨(some 7), (.len false (.tmp 6)), none⟩, ⟨(some 2), (.mov (.tmp 7)), none⟩]) .ret)), [(.tmp 2)]⟩
/-! 179 (*strings.Builder).String -/
def c179 : IFun := ⟨14, (.seq (.ops [⟨(some 2), (.mov (.const (.string ⟨⟨[]⟩⟩))), none⟩]) (.seq (.dops [⟨⟨(some 3), (.mov (.tmp 0)), none⟩, false, []⟩, ⟨⟨(some 4), (.nilck (.tmp 3)), none⟩, false, []⟩, ⟨⟨(some 5), (.faddr 1 (.tmp 4)), none⟩, false, []⟩, ⟨⟨(some 6), (.ld none (.tmp 5)), none⟩, false, []⟩, ⟨⟨(some 7), (.uslice (.tmp 6)), none⟩, true, []⟩, ⟨⟨(some 8), (.mov (.tmp 0)), none⟩, false, []⟩, ⟨⟨(some 9), (.nilck (.tmp 8)), none⟩, false, []⟩, ⟨⟨(some 10), (.faddr 1 (.tmp 9)), none⟩, false, []⟩, ⟨⟨(some 11), (.ld none (.tmp 10)), none⟩, false, [4]⟩, ⟨⟨(some 12), (.len false (.tmp 11)), none⟩, false, []⟩, ⟨⟨(some 13), (.ustr 5 (.tmp 7) (.tmp 12)), none⟩, true, []⟩, ⟨⟨(some 2), (.mov (.tmp 13)), none⟩, false, []⟩]) .ret)), [(.tmp 2)]⟩
/-! 181 dynamometer/value.sign -/
@[go_sem] def o181_1 : List IOper := [⟨(some 2), (.mov (.const (.int .i64 0))), none⟩]
@[go_sem] def o181_3 : List IOper := [⟨(some 3), (.mov (.tmp 0)), none⟩, ⟨(some 4), (.minmax false [(.const (.int .i64 1)), (.tmp 3)]), none⟩, ⟨(some 5), (.minmax true [(.const (.int .i64 (-1))), (.tmp 4)]), none⟩, ⟨(some 2), (.mov (.tmp 5)), none⟩]
def b181_2 : C := (.seq (.ops o181_3) .ret)
@[go_sem] theorem r181_2 : EvK T b181_2 K env H Q = EvK T (.seq (.ops o181_3) .ret) K env H Q := rfl
def b181 : C := (.seq (.ops o181_1) b181_2)
@[go_sem] theorem r181 : EvK T b181 K env H Q = EvK T (.seq (.ops o181_1) b181_2) K env H Q := rfl
def c181 : IFun := ⟨6, b181, [(.tmp 2)]⟩
/-! 182 dynamometer/value.compareBools -/
@[go_sem] def o182_1 : List IOper := [⟨(some 4), (.mov (.const (.int .i64 0))), none⟩]
@[go_sem] def o182_4 : List IOper := [⟨(some 6), (.mov (.tmp 0)), none⟩, ⟨(some 7), (.mov (.tmp 1)), none⟩, ⟨(some 8), (.eqb false (.tmp 6) (.tmp 7)), none⟩, ⟨(some 5), (.mov (.tmp 8)), none⟩]
@[go_sem] def o182_7 : List IOper := [⟨(some 4), (.mov (.const (.int .i64 0))), none⟩]
def b182_6 : C := (.seq (.ops o182_7) .ret)
@[go_sem] theorem r182_6 : EvK T b182_6 K env H Q = EvK T (.seq (.ops o182_7) .ret) K env H Q := rfl
@[go_sem] def o182_9 : List IOper := [⟨(some 10), (.mov (.tmp 1)), none⟩, ⟨(some 9), (.mov (.tmp 10)), none⟩]
@[go_sem] def o182_12 : List IOper := [⟨(some 4), (.mov (.const (.int .i64 (-1)))), none⟩]
def b182_11 : C := (.seq (.ops o182_12) .ret)
@[go_sem] theorem r182_11 : EvK T b182_11 K env H Q = EvK T (.seq (.ops o182_12) .ret) K env H Q := rfl
def b182_10 : C := (.cond (.tmp 9) b182_11 .skip)
@[go_sem] theorem r182_10 : EvK T b182_10 K env H Q = EvK T (.cond (.tmp 9) b182_11 .skip) K env H Q := rfl
def b182_8 : C := (.seq (.ops o182_9) b182_10)
@[go_sem] theorem r182_8 : EvK T b182_8 K env H Q = EvK T (.seq (.ops o182_9) b182_10) K env H Q := rfl
def b182_5 : C := (.cond (.tmp 5) b182_6 b182_8)
@[go_sem] theorem r182_5 : EvK T b182_5 K env H Q = EvK T (.cond (.tmp 5) b182_6 b182_8) K env H Q := rfl
def b182_3 : C := (.seq (.ops o182_4) b182_5)
@[go_sem] theorem r182_3 : EvK T b182_3 K env H Q = EvK T (.seq (.ops o182_4) b182_5) K env H Q := rfl
@[go_sem] def o182_14 : List IOper := [⟨(some 4), (.mov (.const (.int .i64 1))), none⟩]
def b182_13 : C := (.seq (.ops o182_14) .ret)
@[go_sem] theorem r182_13 : EvK T b182_13 K env H Q = EvK T (.seq (.ops o182_14) .ret) K env H Q := rfl
def b182_2 : C := (.seq (.block 0 b182_3) b182_13)
@[go_sem] theorem r182_2 : EvK T b182_2 K env H Q = EvK T (.seq (.block 0 b182_3) b182_13) K env H Q := rfl
def b182 : C := (.seq (.ops o182_1) b182_2)
@[go_sem] theorem r182 : EvK T b182 K env H Q = EvK T (.seq (.ops o182_1) b182_2) K env H Q := rfl
def c182 : IFun := ⟨11, b182, [(.tmp 4)]⟩
/-! 183 strings.Compare -/
@[go_sem] def o183_1 : List IOper := [⟨(some 4), (.mov (.const (.int .i64 0))), none⟩]
@[go_sem] def o183_3 : List IOper := [⟨(some 5), (.mov (.tmp 0)), none⟩, ⟨(some 6), (.mov (.tmp 1)), none⟩, ⟨(some 7), (.call (.func 258) [(.tmp 5), (.tmp 6)]), none⟩, ⟨(some 4), (.mov (.tmp 7)), none⟩]
def b183_2 : C := (.seq (.ops o183_3) .ret)
@[go_sem] theorem r183_2 : EvK T b183_2 K env H Q = EvK T (.seq (.ops o183_3) .ret) K env H Q := rfl
def b183 : C := (.seq (.ops o183_1) b183_2)
@[go_sem] theorem r183 : EvK T b183 K env H Q = EvK T (.seq (.ops o183_1) b183_2) K env H Q := rfl
def c183 : IFun := ⟨8, b183, [(.tmp 4)]⟩
/-! 184 dynamometer/value.compareLists -/
@[go_sem] def o184_1 : List IOper := [⟨(some 2), (.box 27 (.tmp 0)), none⟩, ⟨(some 3), (.box 27 (.tmp 1)), none⟩, ⟨(some 4), (.mov (.const (.int .i64 0))), none⟩]
@[go_sem] def o184_3 : List IOper := [⟨(some 8), (.faddr 6 (.tmp 2)), none⟩, ⟨(some 9), (.ld none (.tmp 8)), none⟩, ⟨(some 10), (.len false (.tmp 9)), none⟩, ⟨(some 11), (.faddr 6 (.tmp 3)), none⟩, ⟨(some 12), (.ld none (.tmp 11)), none⟩, ⟨(some 13), (.len false (.tmp 12)), none⟩, ⟨(some 14), (.minmax false [(.tmp 10), (.tmp 13)]), none⟩, ⟨(some 15), (.mov (.const (.int .i64 0))), none⟩]
@[go_sem] def o184_7 : List IOper := [⟨(some 16), (.bin .lss (.tmp 15) (.tmp 14)), none⟩]
@[go_sem] def o184_11 : List IOper := [⟨(some 17), (.mov (.tmp 15)), none⟩, ⟨(some 5), (.mov (.tmp 17)), none⟩]
@[go_sem] def o184_13 : List IOper := [⟨(some 18), (.faddr 0 (.tmp 2)), none⟩, ⟨(some 19), (.ld none (.tmp 18)), none⟩, ⟨(some 20), (.bin .eql (.tmp 19) (.const (.int .i64 6))), none⟩]
@[go_sem] def o184_16 : List DOper := [⟨⟨(some 21), (.faddr 7 (.tmp 2)), none⟩, false, []⟩, ⟨⟨(some 22), (.ld none (.tmp 21)), none⟩, false, []⟩, ⟨⟨(some 23), (.mov (.tmp 5)), none⟩, false, []⟩, ⟨⟨(some 24), (.iaddr 1 (.tmp 22) (.tmp 23)), none⟩, false, []⟩, ⟨⟨(some 25), (.ld none (.tmp 24)), none⟩, false, []⟩, ⟨⟨(some 26), (.faddr 7 (.tmp 3)), none⟩, false, []⟩, ⟨⟨(some 27), (.ld none (.tmp 26)), none⟩, false, []⟩, ⟨⟨(some 28), (.mov (.tmp 5)), none⟩, false, []⟩, ⟨⟨(some 29), (.iaddr 1 (.tmp 27) (.tmp 28)), none⟩, false, []⟩, ⟨⟨(some 30), (.ld none (.tmp 29)), none⟩, false, []⟩, ⟨⟨(some 31), (.call (.func 183) [(.tmp 25), (.tmp 30)]), none⟩, true, []⟩, ⟨⟨(some 6), (.mov (.tmp 31)), none⟩, false, []⟩]
@[go_sem] def o184_18 : List IOper := [⟨(some 32), (.mov (.tmp 6)), none⟩, ⟨(some 33), (.bin .neq (.tmp 32) (.const (.int .i64 0))), none⟩]
@[go_sem] def o184_21 : List IOper := [⟨(some 34), (.mov (.tmp 6)), none⟩, ⟨(some 4), (.mov (.tmp 34)), none⟩]
def b184_20 : C := (.seq (.ops o184_21) .ret)
@[go_sem] theorem r184_20 : EvK T b184_20 K env H Q = EvK T (.seq (.ops o184_21) .ret) K env H Q := rfl
def b184_19 : C := (.cond (.tmp 33) b184_20 .skip)
@[go_sem] theorem r184_19 : EvK T b184_19 K env H Q = EvK T (.cond (.tmp 33) b184_20 .skip) K env H Q := rfl
def b184_17 : C := (.seq (.ops o184_18) b184_19)
@[go_sem] theorem r184_17 : EvK T b184_17 K env H Q = EvK T (.seq (.ops o184_18) b184_19) K env H Q := rfl
def b184_15 : C := (.seq (.dops o184_16) b184_17)
@[go_sem] theorem r184_15 : EvK T b184_15 K env H Q = EvK T (.seq (.dops o184_16) b184_17) K env H Q := rfl
def b184_14 : C := (.cond (.tmp 20) b184_15 .skip)
@[go_sem] theorem r184_14 : EvK T b184_14 K env H Q = EvK T (.cond (.tmp 20) b184_15 .skip) K env H Q := rfl
@[go_sem] def o184_23 : List DOper := [⟨⟨(some 35), (.faddr 6 (.tmp 2)), none⟩, false, []⟩, ⟨⟨(some 36), (.ld none (.tmp 35)), none⟩, false, []⟩, ⟨⟨(some 37), (.mov (.tmp 5)), none⟩, false, []⟩, ⟨⟨(some 38), (.iaddr 8 (.tmp 36) (.tmp 37)), none⟩, false, []⟩, ⟨⟨(some 39), (.ld (some 8) (.tmp 38)), none⟩, false, []⟩, ⟨⟨(some 40), (.faddr 6 (.tmp 3)), none⟩, false, []⟩, ⟨⟨(some 41), (.ld none (.tmp 40)), none⟩, false, []⟩, ⟨⟨(some 42), (.mov (.tmp 5)), none⟩, false, []⟩, ⟨⟨(some 43), (.iaddr 8 (.tmp 41) (.tmp 42)), none⟩, false, []⟩, ⟨⟨(some 44), (.ld (some 8) (.tmp 43)), none⟩, false, []⟩, ⟨⟨(some 45), (.call (.func 95) [(.tmp 39), (.tmp 44)]), none⟩, true, []⟩, ⟨⟨(some 7), (.mov (.tmp 45)), none⟩, false, []⟩]
@[go_sem] def o184_25 : List IOper := [⟨(some 46), (.mov (.tmp 7)), none⟩, ⟨(some 47), (.bin .neq (.tmp 46) (.const (.int .i64 0))), none⟩]
@[go_sem] def o184_28 : List IOper := [⟨(some 48), (.mov (.tmp 7)), none⟩, ⟨(some 4), (.mov (.tmp 48)), none⟩]
def b184_27 : C := (.seq (.ops o184_28) .ret)
@[go_sem] theorem r184_27 : EvK T b184_27 K env H Q = EvK T (.seq (.ops o184_28) .ret) K env H Q := rfl
def b184_26 : C := (.cond (.tmp 47) b184_27 .skip)
@[go_sem] theorem r184_26 : EvK T b184_26 K env H Q = EvK T (.cond (.tmp 47) b184_27 .skip) K env H Q := rfl
def b184_24 : C := (.seq (.ops o184_25) b184_26)
@[go_sem] theorem r184_24 : EvK T b184_24 K env H Q = EvK T (.seq (.ops o184_25) b184_26) K env H Q := rfl
def b184_22 : C := (.seq (.dops o184_23) b184_24)
@[go_sem] theorem r184_22 : EvK T b184_22 K env H Q = EvK T (.seq (.dops o184_23) b184_24) K env H Q := rfl
def b184_12 : C := (.seq (.seq (.ops o184_13) b184_14) b184_22)
@[go_sem] theorem r184_12 : EvK T b184_12 K env H Q = EvK T (.seq (.seq (.ops o184_13) b184_14) b184_22) K env H Q := rfl
def b184_10 : C := (.seq (.ops o184_11) b184_12)
@[go_sem] theorem r184_10 : EvK T b184_10 K env H Q = EvK T (.seq (.ops o184_11) b184_12) K env H Q := rfl
@[go_sem] def o184_30 : List IOper := [⟨(some 49), (.bin .add (.tmp 15) (.const (.int .i64 1))), none⟩, ⟨(some 15), (.mov (.tmp 49)), none⟩]
def b184_29 : C := (.ops o184_30)
@[go_sem] theorem r184_29 : EvK T b184_29 K env H Q = EvK T (.ops o184_30) K env H Q := rfl
def b184_9 : C := (.seq (.block 1 b184_10) b184_29)
@[go_sem] theorem r184_9 : EvK T b184_9 K env H Q = EvK T (.seq (.block 1 b184_10) b184_29) K env H Q := rfl
def b184_8 : C := (.seq (.cond (.tmp 16) .skip (.exit 0)) b184_9)
@[go_sem] theorem r184_8 : EvK T b184_8 K env H Q = EvK T (.seq (.cond (.tmp 16) .skip (.exit 0)) b184_9) K env H Q := rfl
def b184_6 : C := (.seq (.ops o184_7) b184_8)
@[go_sem] theorem r184_6 : EvK T b184_6 K env H Q = EvK T (.seq (.ops o184_7) b184_8) K env H Q := rfl
def l184_5 : C := .loop [] b184_6
theorem w184_5 {ι : Type} (i0 : ι) (Inv : ι → Env → Heap → Prop) (m : ι → Nat) (h0 : Inv i0 env H) (hs : ∀ i e h, Inv i e h → (∀ j e' h', m j < m i → Inv j e' h' → EvK T l184_5 K e' h' Q) → EvK T b184_6 (.loop [] b184_6 :: K) (forget [] e) h Q) : EvK T l184_5 K env H Q := EvK_while i0 Inv m h0 hs
def b184_4 : C := (.block 0 l184_5)
@[go_sem] theorem r184_4 : EvK T b184_4 K env H Q = EvK T (.block 0 l184_5) K env H Q := rfl
@[go_sem] def o184_32 : List IOper := [⟨(some 50), (.faddr 6 (.tmp 2)), none⟩, ⟨(some 51), (.ld none (.tmp 50)), none⟩, ⟨(some 52), (.len false (.tmp 51)), none⟩, ⟨(some 53), (.faddr 6 (.tmp 3)), none⟩, ⟨(some 54), (.ld none (.tmp 53)), none⟩, ⟨(some 55), (.len false (.tmp 54)), none⟩, ⟨(some 56), (.bin .sub (.tmp 52) (.tmp 55)), none⟩, ⟨(some 57), (.call (.func 181) [(.tmp 56)]), none⟩, ⟨(some 4), (.mov (.tmp 57)), none⟩]
def b184_31 : C := (.seq (.ops o184_32) .ret)
@[go_sem] theorem r184_31 : EvK T b184_31 K env H Q = EvK T (.seq (.ops o184_32) .ret) K env H Q := rfl
def b184_2 : C := (.seq (.seq (.ops o184_3) b184_4) b184_31)
@[go_sem] theorem r184_2 : EvK T b184_2 K env H Q = EvK T (.seq (.seq (.ops o184_3) b184_4) b184_31) K env H Q := rfl
def b184 : C := (.seq (.ops o184_1) b184_2)
@[go_sem] theorem r184 : EvK T b184 K env H Q = EvK T (.seq (.ops o184_1) b184_2) K env H Q := rfl
def c184 : IFun := ⟨58, b184, [(.tmp 4)]⟩
/-! 185 dynamometer/dynamometerref1.rank -/
@[go_sem] def o185_1 : List IOper := [⟨(some 1), (.box 27 (.tmp 0)), none⟩, ⟨(some 2), (.mov (.const (.int .i64 0))), none⟩]
@[go_sem] def o185_3 : List IOper := [⟨(some 3), (.faddr 0 (.tmp 1)), none⟩, ⟨(some 4), (.ld none (.tmp 3)), none⟩, ⟨(some 5), (.bin .eql (.tmp 4) (.const (.int .i64 2))), none⟩, ⟨(some 6), (.mov (.tmp 5)), none⟩, ⟨(some 7), (.faddr 1 (.tmp 1)), (some (6, true))⟩, ⟨(some 8), (.ld none (.tmp 7)), (some (6, true))⟩, ⟨(some 9), (.pick (.tmp 6) (.tmp 8) (.const (.bool false))), none⟩]
@[go_sem] def o185_6 : List IOper := [⟨(some 2), (.mov (.const (.int .i64 5))), none⟩]
def b185_5 : C := (.seq (.ops o185_6) .ret)
@[go_sem] theorem r185_5 : EvK T b185_5 K env H Q = EvK T (.seq (.ops o185_6) .ret) K env H Q := rfl
def b185_4 : C := (.cond (.tmp 9) b185_5 .skip)
@[go_sem] theorem r185_4 : EvK T b185_4 K env H Q = EvK T (.cond (.tmp 9) b185_5 .skip) K env H Q := rfl
@[go_sem] def o185_8 : List IOper := [⟨(some 10), (.faddr 0 (.tmp 1)), none⟩, ⟨(some 11), (.ld none (.tmp 10)), none⟩, ⟨(some 12), (.bin .mul (.const (.int .i64 2)) (.tmp 11)), none⟩, ⟨(some 2), (.mov (.tmp 12)), none⟩]
def b185_7 : C := (.seq (.ops o185_8) .ret)
@[go_sem] theorem r185_7 : EvK T b185_7 K env H Q = EvK T (.seq (.ops o185_8) .ret) K env H Q := rfl
def b185_2 : C := (.seq (.seq (.ops o185_3) b185_4) b185_7)
@[go_sem] theorem r185_2 : EvK T b185_2 K env H Q = EvK T (.seq (.seq (.ops o185_3) b185_4) b185_7) K env H Q := rfl
def b185 : C := (.seq (.ops o185_1) b185_2)
@[go_sem] theorem r185 : EvK T b185 K env H Q = EvK T (.seq (.ops o185_1) b185_2) K env H Q := rfl
def c185 : IFun := ⟨13, b185, [(.tmp 2)]⟩
/-! 186 dynamometer/dynamometerref1.texts -/
@[go_sem] def o186_1 : List IOper := [⟨(some 4), (.mov (.const (.int .i64 0))), none⟩]
@[go_sem] def o186_3 : List IOper := [⟨(some 5), (.mov (.tmp 0)), none⟩, ⟨(some 6), (.mov (.tmp 1)), none⟩, ⟨(some 7), (.bin .lss (.tmp 5) (.tmp 6)), none⟩]
@[go_sem] def o186_6 : List IOper := [⟨(some 4), (.mov (.const (.int .i64 (-1)))), none⟩]
def b186_5 : C := (.seq (.ops o186_6) .ret)
@[go_sem] theorem r186_5 : EvK T b186_5 K env H Q = EvK T (.seq (.ops o186_6) .ret) K env H Q := rfl
def b186_4 : C := (.cond (.tmp 7) b186_5 .skip)
@[go_sem] theorem r186_4 : EvK T b186_4 K env H Q = EvK T (.cond (.tmp 7) b186_5 .skip) K env H Q := rfl
@[go_sem] def o186_8 : List IOper := [⟨(some 8), (.mov (.tmp 0)), none⟩, ⟨(some 9), (.mov (.tmp 1)), none⟩, ⟨(some 10), (.bin .gtr (.tmp 8) (.tmp 9)), none⟩]
@[go_sem] def o186_11 : List IOper := [⟨(some 4), (.mov (.const (.int .i64 1))), none⟩]
def b186_10 : C := (.seq (.ops o186_11) .ret)
@[go_sem] theorem r186_10 : EvK T b186_10 K env H Q = EvK T (.seq (.ops o186_11) .ret) K env H Q := rfl
def b186_9 : C := (.cond (.tmp 10) b186_10 .skip)
@[go_sem] theorem r186_9 : EvK T b186_9 K env H Q = EvK T (.cond (.tmp 10) b186_10 .skip) K env H Q := rfl
@[go_sem] def o186_13 : List IOper := [⟨(some 4), (.mov (.const (.int .i64 0))), none⟩]
def b186_12 : C := (.seq (.ops o186_13) .ret)
@[go_sem] theorem r186_12 : EvK T b186_12 K env H Q = EvK T (.seq (.ops o186_13) .ret) K env H Q := rfl
def b186_7 : C := (.seq (.seq (.ops o186_8) b186_9) b186_12)
@[go_sem] theorem r186_7 : EvK T b186_7 K env H Q = EvK T (.seq (.seq (.ops o186_8) b186_9) b186_12) K env H Q := rfl
def b186_2 : C := (.seq (.seq (.ops o186_3) b186_4) b186_7)
@[go_sem] theorem r186_2 : EvK T b186_2 K env H Q = EvK T (.seq (.seq (.ops o186_3) b186_4) b186_7) K env H Q := rfl
def b186 : C := (.seq (.ops o186_1) b186_2)
@[go_sem] theorem r186 : EvK T b186 K env H Q = EvK T (.seq (.ops o186_1) b186_2) K env H Q := rfl
def c186 : IFun := ⟨11, b186, [(.tmp 4)]⟩
/-! 187 dynamometer/value.padded -/
def c187 : IFun := ⟨12, (.seq (.ops [⟨(some 4), (.mov (.const (.string ⟨⟨[]⟩⟩))), none⟩]) (.seq (.ops [⟨(some 5), (.mov (.tmp 1)), none⟩, ⟨(some 6), (.mov (.tmp 0)), none⟩, ⟨(some 7), (.len true (.tmp 6)), none⟩, ⟨(some 8), (.bin .sub (.tmp 5) (.tmp 7)), none⟩, ⟨(some 9), (.call (.func 111) [(.const (.string ⟨⟨[48]⟩⟩)), (.tmp 8)]), none⟩, ⟨(some 10), (.mov (.tmp 0)), none⟩, ⟨(some 11), (.bin .add (.tmp 9) (.tmp 10)), none⟩, ⟨(some 4), (.mov (.tmp 11)), none⟩]) .ret)), [(.tmp 4)]⟩
/-! 190 dynamometer/value.rank -/
@[go_sem] def o190_1 : List IOper := [⟨(some 1), (.box 23 (.tmp 0)), none⟩, ⟨(some 2), (.mov (.const (.int .i64 0))), none⟩]
@[go_sem] def o190_4 : List IOper := [⟨(some 4), (.faddr 1 (.tmp 1)), none⟩, ⟨(some 5), (.ld none (.tmp 4)), none⟩, ⟨(some 6), (.bin .eql (.tmp 5) (.const (.string ⟨⟨[48]⟩⟩))), none⟩, ⟨(some 3), (.mov (.tmp 6)), none⟩]
@[go_sem] def o190_7 : List IOper := [⟨(some 2), (.mov (.const (.int .i64 0))), none⟩]
def b190_6 : C := (.seq (.ops o190_7) .ret)
@[go_sem] theorem r190_6 : EvK T b190_6 K env H Q = EvK T (.seq (.ops o190_7) .ret) K env H Q := rfl
@[go_sem] def o190_9 : List IOper := [⟨(some 8), (.faddr 0 (.tmp 1)), none⟩, ⟨(some 9), (.ld none (.tmp 8)), none⟩, ⟨(some 7), (.mov (.tmp 9)), none⟩]
@[go_sem] def o190_12 : List IOper := [⟨(some 2), (.mov (.const (.int .i64 (-1)))), none⟩]
def b190_11 : C := (.seq (.ops o190_12) .ret)
@[go_sem] theorem r190_11 : EvK T b190_11 K env H Q = EvK T (.seq (.ops o190_12) .ret) K env H Q := rfl
def b190_10 : C := (.cond (.tmp 7) b190_11 .skip)
@[go_sem] theorem r190_10 : EvK T b190_10 K env H Q = EvK T (.cond (.tmp 7) b190_11 .skip) K env H Q := rfl
def b190_8 : C := (.seq (.ops o190_9) b190_10)
@[go_sem] theorem r190_8 : EvK T b190_8 K env H Q = EvK T (.seq (.ops o190_9) b190_10) K env H Q := rfl
def b190_5 : C := (.cond (.tmp 3) b190_6 b190_8)
@[go_sem] theorem r190_5 : EvK T b190_5 K env H Q = EvK T (.cond (.tmp 3) b190_6 b190_8) K env H Q := rfl
def b190_3 : C := (.seq (.ops o190_4) b190_5)
@[go_sem] theorem r190_3 : EvK T b190_3 K env H Q = EvK T (.seq (.ops o190_4) b190_5) K env H Q := rfl
@[go_sem] def o190_14 : List IOper := [⟨(some 2), (.mov (.const (.int .i64 1))), none⟩]
def b190_13 : C := (.seq (.ops o190_14) .ret)
@[go_sem] theorem r190_13 : EvK T b190_13 K env H Q = EvK T (.seq (.ops o190_14) .ret) K env H Q := rfl
def b190_2 : C := (.seq (.block 0 b190_3) b190_13)
@[go_sem] theorem r190_2 : EvK T b190_2 K env H Q = EvK T (.seq (.block 0 b190_3) b190_13) K env H Q := rfl
def b190 : C := (.seq (.ops o190_1) b190_2)
@[go_sem] theorem r190 : EvK T b190 K env H Q = EvK T (.seq (.ops o190_1) b190_2) K env H Q := rfl
def c190 : IFun := ⟨10, b190, [(.tmp 2)]⟩
/-! 191 dynamometer/value.orderSize -/
@[go_sem] def o191_1 : List IOper := [⟨(some 2), (.box 23 (.tmp 0)), none⟩, ⟨(some 3), (.box 23 (.tmp 1)), none⟩, ⟨(some 4), (.mov (.const (.int .i64 0))), none⟩]
@[go_sem] def o191_3 : List IOper := [⟨(some 6), (.faddr 1 (.tmp 2)), none⟩, ⟨(some 7), (.ld none (.tmp 6)), none⟩, ⟨(some 8), (.len true (.tmp 7)), none⟩, ⟨(some 9), (.faddr 2 (.tmp 2)), none⟩, ⟨(some 10), (.ld none (.tmp 9)), none⟩, ⟨(some 11), (.bin .add (.tmp 8) (.tmp 10)), none⟩, ⟨(some 12), (.faddr 1 (.tmp 3)), none⟩, ⟨(some 13), (.ld none (.tmp 12)), none⟩, ⟨(some 14), (.len true (.tmp 13)), none⟩, ⟨(some 15), (.bin .sub (.tmp 11) (.tmp 14)), none⟩, ⟨(some 16), (.faddr 2 (.tmp 3)), none⟩, ⟨(some 17), (.ld none (.tmp 16)), none⟩, ⟨(some 18), (.bin .sub (.tmp 15) (.tmp 17)), none⟩, ⟨(some 19), (.call (.func 181) [(.tmp 18)]), none⟩, ⟨(some 5), (.mov (.tmp 19)), none⟩]
@[go_sem] def o191_5 : List IOper := [⟨(some 20), (.mov (.tmp 5)), none⟩, ⟨(some 21), (.bin .neq (.tmp 20) (.const (.int .i64 0))), none⟩]
@[go_sem] def o191_8 : List IOper := [⟨(some 22), (.mov (.tmp 5)), none⟩, ⟨(some 4), (.mov (.tmp 22)), none⟩]
def b191_7 : C := (.seq (.ops o191_8) .ret)
@[go_sem] theorem r191_7 : EvK T b191_7 K env H Q = EvK T (.seq (.ops o191_8) .ret) K env H Q := rfl
def b191_6 : C := (.cond (.tmp 21) b191_7 .skip)
@[go_sem] theorem r191_6 : EvK T b191_6 K env H Q = EvK T (.cond (.tmp 21) b191_7 .skip) K env H Q := rfl
def b191_4 : C := (.seq (.ops o191_5) b191_6)
@[go_sem] theorem r191_4 : EvK T b191_4 K env H Q = EvK T (.seq (.ops o191_5) b191_6) K env H Q := rfl
@[go_sem] def o191_10 : List IOper := [⟨(some 23), (.faddr 1 (.tmp 2)), none⟩, ⟨(some 24), (.ld none (.tmp 23)), none⟩, ⟨(some 25), (.faddr 1 (.tmp 3)), none⟩, ⟨(some 26), (.ld none (.tmp 25)), none⟩, ⟨(some 27), (.call (.func 183) [(.tmp 24), (.tmp 26)]), none⟩, ⟨(some 4), (.mov (.tmp 27)), none⟩]
def b191_9 : C := (.seq (.ops o191_10) .ret)
@[go_sem] theorem r191_9 : EvK T b191_9 K env H Q = EvK T (.seq (.ops o191_10) .ret) K env H Q := rfl
def b191_2 : C := (.seq (.seq (.ops o191_3) b191_4) b191_9)
@[go_sem] theorem r191_2 : EvK T b191_2 K env H Q = EvK T (.seq (.seq (.ops o191_3) b191_4) b191_9) K env H Q := rfl
def b191 : C := (.seq (.ops o191_1) b191_2)
@[go_sem] theorem r191 : EvK T b191 K env H Q = EvK T (.seq (.ops o191_1) b191_2) K env H Q := rfl
def c191 : IFun := ⟨28, b191, [(.tmp 4)]⟩
/-! 192 internal/strconv.Itoa -/
def c192 : IFun := ⟨5, (.seq (.ops [⟨(some 2), (.mov (.const (.string ⟨⟨[]⟩⟩))), none⟩]) (.seq (.ops [⟨(some 3), (.mov (.tmp 0)), none⟩, ⟨(some 4), (.call (.func 259) [(.tmp 3), (.const (.int .i64 10))]), none⟩, ⟨(some 2), (.mov (.tmp 4)), none⟩]) .ret)), [(.tmp 2)]⟩

end Ve
end Go.Proofs.YtnociodpfmlglaaGreatDoor
