/-
  Reading the parts of a function that defers a closure off its code.
-/
import Derived.Test.YtnociodpfmlglaaGreatDoorVe18
set_option linter.unusedVariables false
set_option linter.unusedSimpArgs false
namespace Go.Proofs.YtnociodpfmlglaaGreatDoor
namespace Ve
open Go Go.RowKit

def takeSeq : Nat → Code → List Code
  | 0, _ => []
  | n + 1, .seq a b => a :: takeSeq n b
  | _, _ => []
def dropSeq : Nat → Code → Code
  | 0, c => c
  | n + 1, .seq _ b => dropSeq n b
  | _, c => c

/-- The statement that defers: its number, its two operations, and what comes behind it. -/
def partsD : Code → Option (Oper × Oper × Code)
  | .seq (.region _ ops false) rest => match ops.toList with | [mk, df] => some (mk, df, rest) | _ => none
  | _ => none

/-- What it captures and calls, its temporary. -/
def capsD (P : Program) : Option (Oper × Oper × Code) → Option (Nat × FuncId × List Operand × C)
  | some (mk, df, rest) =>
    match mk.op, mk.dst, mk.guard, df.op, df.dst, df.guard with
    | .makeFunc (.func g) first caps, some t, none, .defer ⟨.value (.tmp t'), args, _⟩, none, none =>
      if first.size = 0 ∧ args.size = 0 ∧ t' = t ∧ caps.toList.all (opdOk P) = true then some (t, g, caps.toList, (compC P rest []).1) else none
    | _, _, _, _, _, _ => none
  | none => none

theorem isD_of {P : Program} {t : Nat} {g : FuncId} {caps : List Operand} {r : C} : ∀ (n : Nat) (c : Code), (takeSeq n c).length = n → capsD P (partsD (dropSeq n c)) = some (t, g, caps, r) →
    IsD P c ((takeSeq n c).map fun a => (compC P a []).1) t g caps r
  | 0, c, _, h => by
    simp only [takeSeq, dropSeq, List.map_nil] at h ⊢
    unfold partsD at h
    split at h
    · rename_i ops rest hlen
      split at h
      · rename_i mk df hops
        simp only [capsD] at h
        split at h
        · rename_i g' first caps' t1 t2 args ts h1 h2 h3 h4 h5 h6
          split at h
          · rename_i hc
            obtain ⟨c1, c2, c3, c4⟩ := hc
            subst c3
            simp only [Option.some.injEq, Prod.mk.injEq] at h
            obtain ⟨rfl, rfl, rfl, rfl⟩ := h
            have e1 : first = #[] := Array.eq_empty_of_size_eq_zero c1
            have e2 : args = #[] := Array.eq_empty_of_size_eq_zero c2
            subst e1; subst e2
            have eo : ops = #[mk, df] := by
              obtain ⟨l⟩ := ops
              simp only at hops
              rw [hops]
            exact .here eo h1 h2 h3 h4 h5 h6 c4
          · cases h
        · cases h
      · simp [capsD] at h
    · simp [capsD] at h
  | n + 1, .seq a b, hl, h => by
    simp only [takeSeq, List.length_cons, Nat.add_right_cancel_iff] at hl
    exact .there (isD_of n b hl h)
  | n + 1, .skip, hl, _ | n + 1, .region _ _ _, hl, _ | n + 1, .cond _ _ _, hl, _ | n + 1, .block _ _, hl, _ | n + 1, .loop _, hl, _ | n + 1, .rangeFunc _ _ _ _, hl, _ | n + 1, .exit _, hl, _ | n + 1, .scope _, hl, _ | n + 1, .label _, hl, _ | n + 1, .goto _, hl, _ | n + 1, .ret, hl, _ | n + 1, .refuse _, hl, _ => by
    simp [takeSeq] at hl

/-- The closure's parts. -/
def cloD (P : Program) (G : Func) : Option (Nat × Nat × C) :=
  match G.body with
  | some (.seq (.region _ ops false) c0) =>
    match ops.toList with
    | [rc, asg] =>
      match rc.op, rc.dst, rc.guard, asg.op, asg.dst, asg.guard with
      | .call ⟨.builtin .recover, args, _⟩, some u, none, .assign (.tmp u'), some v, none =>
        if args.size = 0 ∧ u' = u ∧ G.results.size = 0 ∧ (G.name == "runtime.NumGoroutine") = false ∧ u < G.ntmps then some (u, v, (compC P c0 []).1) else none
      | _, _, _, _, _, _ => none
    | _ => none
  | _ => none

theorem isClo_of {P : Program} {G : Func} {u v : Nat} {r : C} (h : cloD P G = some (u, v, r)) : IsClo P G u v r := by
  unfold cloD at h
  split at h
  · rename_i id ops c0 hb
    split at h
    · rename_i rc asg hops
      split at h
      · rename_i args ts u1 u2 v1 h1 h2 h3 h4 h5 h6
        split at h
        · rename_i hc
          obtain ⟨c1, c2, c3, c4, c5⟩ := hc
          subst c2
          simp only [Option.some.injEq, Prod.mk.injEq] at h
          obtain ⟨rfl, rfl, rfl⟩ := h
          have e1 : args = #[] := Array.eq_empty_of_size_eq_zero c1
          subst e1
          have eo : ops = #[rc, asg] := by
            obtain ⟨l⟩ := ops
            simp only at hops
            rw [hops]
          subst eo
          exact ⟨id, rc, asg, c0, ts, hb, h1, h2, h3, h4, h5, h6, rfl, Array.eq_empty_of_size_eq_zero c3, c4, c5⟩
        · cases h
      · cases h
    · cases h
  · cases h

end Ve
end Go.Proofs.YtnociodpfmlglaaGreatDoor
