/-
  For all documents of together at most 1048576 values and letters, Compare of the program returns what the reference returns; the law answers true and leaves its arguments as they were.
  (ValueCompareMatchesSpec, the second form's card. Conditions: the bound on the bulk; the row's own cells.)
-/
import Derived.Test.YtnociodpfmlglaaGreatDoorFin
import Derived.Test.YtnociodpfmlglaaGreatDoorPC
import Derived.Test.YtnociodpfmlglaaGreatDoorL6F
set_option linter.unusedVariables false
set_option linter.constructorNameAsVariable false
set_option maxRecDepth 100000
namespace Go.Proofs.YtnociodpfmlglaaGreatDoor
namespace Ve
open Go Go.RowKit Go.WideShapes Go.ChangeShapes Go.ChangeAt

theorem contract6 (H : Type) (enc : TypeId × Value → H) (W : World) (args : Array Value) (ds gs : List (DataW H)) (before : List MemPlace)
    (hval : ∀ (j : Nat) t v, Tryz.f6.params[j]? = some t → args[j]? = some v → Value.okWide Tryz.prog W .any 0 t v)
    (hW : DataW.Whole enc Tryz.prog Tryz.f6.params.toList Rows.valueCompareMatchesSpecSpec.vars false W args.toList ds gs before)
    (hk : Rows.uptoSmall H ds = true) (hS : W.ShapedOpen Tryz.prog) :
    Calls Tryz.prog 6 args W fun e W' => ∃ v, e = .returned v ∧ Rows.valueCompareMatchesSpecSpec.post enc Tryz.prog Tryz.f6 false true false false W args v W' := by
  have hW' := hW
  obtain ⟨p, q, hA, hV, hpq, hfz, hnd⟩ := hW
  rw [Tryz.params6] at hA hval
  obtain ⟨v0, vs0, d0, ds0, p0, q0, hargs, rfl, rfl, h0, r0⟩ := trodAll_cons hA
  obtain ⟨v1, vs1, d1, ds1, p1, q1, rfl, rfl, rfl, h1, r1⟩ := trodAll_cons r0
  obtain ⟨rfl, rfl, rfl⟩ := trodAll_nil r1
  obtain rfl : args = #[v0, v1] := by cases args; simp_all
  obtain ⟨cs0, D0, a0, hD0, l0⟩ := arg_doc (hval 0 27 v0 rfl rfl) h0
  obtain ⟨cs1, D1, a1, hD1, l1⟩ := arg_doc (hval 1 27 v1 rfl rfl) h1
  have hb : Rows.uptoBulkAll [d0, d1] ≤ 1048576 := of_decide_eq_true hk
  simp only [Rows.uptoBulkAll] at hb
  refine law_post laidOut rowed full Tryz.func6 (by kernel_rfl) (by kernel_rfl) (tb := 4) (by kernel_rfl) Tryz.underlying4 (by kernel_rfl) rfl ⟨rfl, rfl, rfl⟩ hW' ?_
  refine sem_of_cl (args := [v0, v1]) (globals_le hS) ?_
  simp only [List.map_cons, List.map_nil, a0, a1]
  exact law6 hD0 (by omega) hD1 (by omega)

def args6 : Array Value := #[.agg #[.int .i64 0, .bool false, .bool false, .string ⟨#[]⟩, .int .i64 0, .string ⟨#[]⟩, .slice none 0 0, .slice none 0 0], .agg #[.int .i64 0, .bool false, .bool false, .string ⟨#[]⟩, .int .i64 0, .string ⟨#[]⟩, .slice none 0 0, .slice none 0 0]]
theorem reads6 (os : Os) {H : Type} (enc : TypeId × Value → H) : ∃ x, DataW.whole enc Tryz.prog ((laidWorld os).forCall (fun _ _ => 0) ⟨#[], args6, []⟩).memory Tryz.f6.params.toList Rows.valueCompareMatchesSpecSpec.vars false args6.toList 8 = some x ∧ Rows.uptoSmall H x.1 = true ∧ x.2.1 = [] := by
  have hw : (DataW.whole enc Tryz.prog ((laidWorld os).forCall (fun _ _ => 0) ⟨#[], args6, []⟩).memory Tryz.f6.params.toList Rows.valueCompareMatchesSpecSpec.vars false args6.toList 8).map (fun x => (x.1, x.2.1)) =
      some ([.agg [.lit (.int .i64 0), .lit (.bool false), .agg [.lit (.bool false), .lit (.string []), .lit (.int .i64 0)], .lit (.string []), .nil, .nil], .agg [.lit (.int .i64 0), .lit (.bool false), .agg [.lit (.bool false), .lit (.string []), .lit (.int .i64 0)], .lit (.string []), .nil, .nil]], []) := by kernel_rfl
  obtain ⟨⟨x1, x2, x3⟩, hx, hx1⟩ := Option.map_eq_some_iff.1 hw
  simp only [Prod.mk.injEq] at hx1
  obtain ⟨rfl, rfl⟩ := hx1
  exact ⟨_, hx, by kernel_rfl, rfl⟩

theorem lifted6 (os : Os) (started : os.Started) (H : Type) (enc : TypeId × Value → H) (F : Stop.Interp) :
    ReturnsInHanded {} Tryz.checked os 6 .any ((Rows.OpenSpec.upto Rows.valueCompareMatchesSpecSpec).preRow enc Tryz.prog Tryz.f6 Rows.valueCompareMatchesSpecUptoRow.domain false Rows.valueCompareMatchesSpecUptoRow.laid) (((Rows.OpenSpec.upto Rows.valueCompareMatchesSpecSpec).at F).post enc Tryz.prog Tryz.f6 false true false false) := by
  obtain ⟨⟨x1, x2, x3⟩, hx, hx2, hx3⟩ := reads6 os enc
  simp only at hx2 hx3
  subst hx3
  refine returnsInHanded_of_row (C := Tryz.checked) (s := Rows.OpenSpec.upto Rows.valueCompareMatchesSpecSpec) own0 started (by kernel_rfl) Tryz.func6
    (witness_row_atRef (enc := enc) (C := Tryz.checked) false (laidWorld os) args6 rfl (by kernel_rfl) (by kernel_rfl) (by kernel_rfl)
      (OpenSpec.preRow_of_cond 8 hx (by kernel_rfl) (fun k hk => by cases hk; rw [List.append_nil]; exact hx2) (by kernel_rfl) (laid_met0 os _))) ?_
  intro W base args ds gs before hval hW _ hcond _ hL hS _
  have hgs : gs = [] := by
    obtain ⟨p, q, hA, hV, _⟩ := hW
    cases gs with
    | nil => rfl
    | cons g gs => cases hV
  subst hgs
  have hk := hcond _ rfl
  rw [List.append_nil] at hk
  exact contract6 H enc W args ds [] before (fun j t v h1 h2 => Value.okWide_any_base (hval j t v h1 h2)) hW hk hS

theorem saidUpto6 : Rows.ValueCompareMatchesSpecUptoSaid :=
  OpenClaim.holds_of_cond 6 Tryz.f6 rfl rfl rfl rfl rfl rfl rfl ⟨rfl, rfl, rfl, rfl, rfl⟩ rfl rfl rfl rfl rfl (by kernel_rfl) Tryz.func6 closed6
    (of_decide_eq_true (by kernel_rfl)) wrap6
    (fun os started H enc _ F => by rw [OpenClaim.pre_eq_preRow]; exact lifted6 os started H enc F)

theorem looks0 : true = Tryz.prog.looks [] := by kernel_rfl
theorem noStandIn6 : (Tryz.f6.params.toList.all fun t => !Tryz.prog.wantsStandIn t) = true := by kernel_rfl
theorem named6F : Tryz.prog.funcNamed "dynamometer/dynamometerlaw1.ValueCompareMatchesSpec" = some 6 := by kernel_rfl
theorem plain6 (f : FuncId) (fn : Func) (hf : Tryz.pinned.checked.prog.funcNamed Rows.valueCompareMatchesSpecUptoRow.func = some f) (hfn : Tryz.pinned.checked.prog.funcs[f]? = some fn) :
    true = Tryz.pinned.checked.prog.looks [] ∧ ∀ (j : Nat) t, fn.params[j]? = some t → Tryz.pinned.checked.prog.wantsStandIn t = false := by
  obtain rfl : f = 6 := Option.some.inj (named6F.symm.trans hf) |>.symm
  obtain rfl : fn = Tryz.f6 := (Option.some.inj (Tryz.func6.symm.trans hfn)).symm
  refine ⟨looks0, fun j t ht => ?_⟩
  have hm : t ∈ Tryz.f6.params.toList := by simpa using Array.mem_of_getElem? ht
  have h := List.all_eq_true.1 noStandIn6 t hm
  show Tryz.prog.wantsStandIn t = false
  generalize Tryz.prog.wantsStandIn t = b at h ⊢
  cases b
  · rfl
  · cases h

end Ve
/-- ValueCompareMatchesSpec, of every input up to the bound. -/
theorem valueCompareMatchesSpec_upto : Rows.ValueCompareMatchesSpecUptoCardSaid :=
  Claim7.holds_tied_plain_at .later [] _ _ _ _ Ve.saidUpto6 (fun _ h => by cases h) Ve.wf6 (fun _ h => by cases h) valueCompareMatchesSpecUpto_row_tie rfl ⟨rfl, rfl⟩ Ve.mainIs0 rfl Ve.plain6 Ve.goes6
end Go.Proofs.YtnociodpfmlglaaGreatDoor
#print axioms Go.Proofs.YtnociodpfmlglaaGreatDoor.valueCompareMatchesSpec_upto
