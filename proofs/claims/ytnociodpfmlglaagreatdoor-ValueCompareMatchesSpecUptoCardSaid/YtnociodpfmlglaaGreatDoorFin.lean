/-
  What every law of the seat asks of its frame.
-/
import Derived.Test.YtnociodpfmlglaaGreatDoorWit
import Derived.Test.YtnociodpfmlglaaGreatDoorOp
import Derived.Test.YtnociodpfmlglaaGreatDoorIrG
import Derived.Test.YtnociodpfmlglaaGreatDoorIrE
import Derived.ChangeMaps5
set_option linter.unusedVariables false
set_option linter.constructorNameAsVariable false
set_option maxRecDepth 100000
namespace Go.Proofs.YtnociodpfmlglaaGreatDoor
namespace Ve
open Go Go.RowKit Go.WideShapes Go.ChangeShapes

theorem laidOut : laidOutB Tryz.prog = true := by kernel_rfl
theorem rowed : mapsRowed Tryz.prog = true := by kernel_rfl
theorem full : ((List.range Tryz.prog.types.size).all fun t => match Tryz.prog.underlying t with | some (.slice e) => decide (0 < Tryz.prog.cellsOf e) | _ => true) = true := by kernel_rfl
theorem row7 : (((begin Tryz.prog (fun _ _ => 0) default).world.heap[7]?).bind Obj.row?).isSome = true := by kernel_rfl
theorem globals_le {W : World} (h : W.ShapedOpen Tryz.prog) : Tryz.prog.globals.size ≤ W.heap.size := by
  obtain ⟨⟨z, t⟩, hz⟩ := Option.isSome_iff_exists.1 row7
  obtain ⟨cs, hc, _⟩ := h.1 7 z t (by rw [nglobals]; omega) hz
  have := (Array.getElem?_eq_some_iff.1 hc).1
  rw [nglobals]
  omega

theorem docTypes : DocTypes Tryz.prog 27 23 3 4 9 24 25 where
  i := Tryz.underlying3
  b := Tryz.underlying4
  s := Tryz.underlying9
  l := Tryz.underlying24
  k := Tryz.underlying25
  n := ⟨_, _, _, Tryz.underlying23, rfl, rfl, rfl, rfl, rfl, rfl⟩
  v := ⟨_, _, _, _, _, _, Tryz.underlying27, rfl, rfl, rfl, rfl, rfl, rfl, rfl, rfl, rfl, rfl, rfl, rfl⟩
  ci := by kernel_rfl
  cb := by kernel_rfl
  cs := by kernel_rfl
  cl := by kernel_rfl
  ck := by kernel_rfl
  cn := by kernel_rfl
  cv := by kernel_rfl

/-- What the machine says, as a call. -/
theorem sem_of_cl {f : FuncId} {args : List Value} {W : World} (hg : Tryz.prog.globals.size ≤ W.heap.size) (h : Cl tab f (args.map (absV W.heap.size)) (absH W) fun out => ∃ H', out = .ret (.bool true) H') :
    CallSem Tryz.prog f ⟨args⟩ W fun e W' => e = .returned (.bool true) ∧ Below W.heap.size W W' := by
  obtain ⟨n, out, hr, H', rfl⟩ := h
  refine CallSem.mono (run_start tabOk dtabOk intrOk hg hr) ?_
  rintro e W' ⟨α, v', _, rfl, hv, hs⟩
  cases hv
  exact ⟨rfl, hs.below⟩

section
variable {H : Type} {enc : TypeId × Value → H} {W : World}

/-- A document among the arguments. -/
theorem arg_doc {r : Reach} {b0 : Nat} {v : Value} {d : DataW H} {ps : List MemPlace} (hval : Value.okWide Tryz.prog W r b0 27 v) (h : DataW.Trod enc Tryz.prog W 0 (fun _ => true) true 27 v d ps) :
    ∃ cs D, absV W.heap.size v = .agg ⟨cs⟩ ∧ DocAt (absH W) cs D ∧ bulk D ≤ Rows.uptoBulk d := by
  simp only [Value.okWide, Tryz.underlying27] at hval
  obtain ⟨cs, rfl, _, _⟩ := hval
  obtain ⟨n, hn⟩ := h
  obtain ⟨D, h1, h2⟩ := open_doc docTypes n _ _ hn
  exact ⟨_, D, rfl, h1, h2⟩
theorem arg_num {r : Reach} {b0 : Nat} {v : Value} {d : DataW H} {ps : List MemPlace} (hval : Value.okWide Tryz.prog W r b0 23 v) (h : DataW.Trod enc Tryz.prog W 0 (fun _ => true) true 23 v d ps) :
    ∃ n : Num, absV W.heap.size v = .agg ⟨[.bool n.neg, strOf n.dig, .int .i64 n.exp]⟩ ∧ i64 n.exp ∧ n.dig.length + 1 ≤ Rows.uptoBulk d := by
  simp only [Value.okWide, Tryz.underlying23] at hval
  obtain ⟨⟨cs⟩, rfl, _, _⟩ := hval
  obtain ⟨n, hn⟩ := h
  obtain ⟨D, h1, h2, h3⟩ := open_num docTypes hn
  have h1' : cs = _ := h1
  subst h1'
  exact ⟨D, rfl, h2, h3⟩
theorem arg_str {r : Reach} {b0 : Nat} {v : Value} {d : DataW H} {ps : List MemPlace} (hval : Value.okWide Tryz.prog W r b0 9 v) (h : DataW.Trod enc Tryz.prog W 0 (fun _ => true) true 9 v d ps) :
    ∃ s : Str, absV W.heap.size v = strOf s ∧ s.length + 1 = Rows.uptoBulk d := by
  obtain ⟨s, rfl, rfl, _, _⟩ := Go.ChangeMaps.open_string Tryz.underlying9 hval h
  obtain ⟨⟨l⟩⟩ := s
  exact ⟨l, rfl, by simp [Rows.uptoBulk]⟩
end

end Ve
end Go.Proofs.YtnociodpfmlglaaGreatDoor
