/-
  Statements whose order is open: whatever order their edges allow, the end is that of the text's order.
-/
import Derived.Test.YtnociodpfmlglaaGreatDoorVe11
set_option linter.unusedVariables false
set_option linter.unusedSimpArgs false
namespace Go.Proofs.YtnociodpfmlglaaGreatDoor
namespace Ve
open Go Go.RowKit

/-! what comes ahead of what -/
def binding (o : Oper) : List Nat := (o.after.toList.filter (Region.binds .any)).map (·.on)

def maskOf (acc : List Nat) : List Nat → Nat
  | [] => 0
  | e :: r => (2 ^ e ||| acc.getD e 0) ||| maskOf acc r

def masks : List Oper → List Nat → List Nat
  | [], acc => acc
  | o :: r, acc => masks r (acc ++ [maskOf acc (binding o)])

theorem maskOf_bit {acc : List Nat} {j : Nat} : ∀ {es : List Nat}, (maskOf acc es).testBit j = true → ∃ e ∈ es, j = e ∨ (acc.getD e 0).testBit j = true
  | [], h => by simp [maskOf] at h
  | e :: r, h => by
    simp only [maskOf, Nat.testBit_or, Bool.or_eq_true] at h
    rcases h with (h | h) | h
    · refine ⟨e, by simp, .inl ?_⟩
      rw [Nat.testBit_two_pow] at h
      simpa using (of_decide_eq_true h).symm
    · exact ⟨e, by simp, .inr h⟩
    · obtain ⟨e', h1, h2⟩ := maskOf_bit h
      exact ⟨e', by simp [h1], h2⟩

theorem masks_length : ∀ (os : List Oper) (acc : List Nat), (masks os acc).length = acc.length + os.length
  | [], acc => by simp [masks]
  | o :: r, acc => by rw [masks, masks_length]; simp; omega

theorem masks_get_lt : ∀ (os : List Oper) (acc : List Nat) (k : Nat), k < acc.length → (masks os acc).getD k 0 = acc.getD k 0
  | [], acc, k, h => rfl
  | o :: r, acc, k, h => by
    rw [masks, masks_get_lt r _ k (by simp; omega)]
    rw [List.getD_eq_getElem?_getD, List.getD_eq_getElem?_getD, List.getElem?_append_left h]

/-- Closed under what comes ahead. -/
def Closed (ops : List Oper) (S : Nat → Prop) : Prop := ∀ i o, ops[i]? = some o → S i → ∀ e ∈ binding o, S e

theorem masks_closed {S : Nat → Prop} : ∀ (pre os : List Oper) (acc : List Nat), acc.length = pre.length → Closed (pre ++ os) S → (∀ k, k < acc.length → ∀ j, (acc.getD k 0).testBit j = true → S k → S j) →
    (∀ k, k < (masks os acc).length → ∀ j, ((masks os acc).getD k 0).testBit j = true → S k → S j)
  | pre, [], acc, hl, hS, h => h
  | pre, o :: r, acc, hl, hS, h => by
    rw [masks]
    refine masks_closed (pre ++ [o]) r _ (by simp [hl]) (by simpa using hS) ?_
    intro k hk j hj hSk
    by_cases e : k < acc.length
    · rw [List.getD_eq_getElem?_getD, List.getElem?_append_left e, ← List.getD_eq_getElem?_getD] at hj
      exact h k e j hj hSk
    · have : k = acc.length := by simp at hk; omega
      subst this
      rw [List.getD_eq_getElem?_getD, List.getElem?_append_right (Nat.le_refl _)] at hj
      simp at hj
      have hedge := hS acc.length o (by rw [hl]; simp) hSk
      obtain ⟨e', he', hje⟩ := maskOf_bit hj
      rcases hje with rfl | hje
      · exact hedge _ he'
      · have hlt : e' < acc.length := by
          rcases Nat.lt_or_ge e' acc.length with h1 | h1
          · exact h1
          · rw [List.getD_eq_getElem?_getD, List.getElem?_eq_none h1] at hje; simp at hje
        exact h e' hlt j hje (hedge _ he')

/-- What stands in the mask of an operation all of whose direct forerunners are in S is in S. -/
theorem masks_ready {S : Nat → Prop} {os : List Oper} (hS : Closed os S) {i : Nat} {o : Oper} (ho : os[i]? = some o) (hr : ∀ e ∈ binding o, S e) {j : Nat} (hj : ((masks os []).getD i 0).testBit j = true) : S j := by
  have key := masks_closed (S := fun k => S k) [] os [] rfl (by simpa using hS) (by intro k hk; simp at hk)
  -- the mask of place i is laid of the binding edges
  have hlen : (masks os []).length = os.length := by rw [masks_length]; simp
  have hi : i < os.length := (List.getElem?_eq_some_iff.1 ho).1
  have split : ∀ (os : List Oper) (acc : List Nat) (i : Nat) (o : Oper), os[i]? = some o → ∃ acc' : List Nat, acc'.length = acc.length + i ∧ (∀ k, k < acc'.length → acc'.getD k 0 = (masks os acc).getD k 0) ∧ (masks os acc).getD (acc.length + i) 0 = maskOf acc' (binding o) := by
    intro os
    induction os with
    | nil => intro acc i o h; simp at h
    | cons a r ih =>
      intro acc i o h
      cases i with
      | zero =>
        simp at h; subst h
        refine ⟨acc, by simp, ?_, ?_⟩
        · intro k hk; exact (masks_get_lt (a :: r) acc k hk).symm
        · rw [masks, masks_get_lt _ _ _ (by simp)]
          simp [List.getD_eq_getElem?_getD]
      | succ i =>
        simp at h
        obtain ⟨acc', h1, h2, h3⟩ := ih (acc ++ [maskOf acc (binding a)]) i o h
        refine ⟨acc', by simp at h1; omega, by rw [masks]; exact h2, ?_⟩
        rw [masks]
        have : (acc ++ [maskOf acc (binding a)]).length + i = acc.length + (i + 1) := by simp; omega
        rw [← this]; exact h3
  obtain ⟨acc', h1, h2, h3⟩ := split os [] i o ho
  simp only [List.length_nil, Nat.zero_add] at h1 h3
  rw [h3] at hj
  obtain ⟨e, he, hje⟩ := maskOf_bit hj
  rcases hje with rfl | hje
  · exact hr _ he
  · have hlt : e < acc'.length := by
      rcases Nat.lt_or_ge e acc'.length with g | g
      · exact g
      · rw [List.getD_eq_getElem?_getD, List.getElem?_eq_none g] at hje; simp at hje
    rw [h2 e hlt] at hje
    exact key e (by omega) j hje (hr _ he)

theorem masks_in {S : Nat → Prop} {os : List Oper} (hS : Closed os S) {i j : Nat} (hi : S i) (hj : ((masks os []).getD i 0).testBit j = true) : S j := by
  rcases Nat.lt_or_ge i (masks os []).length with h | h
  · exact masks_closed (S := fun k => S k) [] os [] rfl (by simpa using hS) (by intro k hk; simp at hk) i h j hj hi
  · rw [List.getD_eq_getElem?_getD, List.getElem?_eq_none h] at hj; simp at hj

/-! the compiled statement -/
def isLd : I → Bool
  | .ld _ _ => true
  | _ => false

def isGsl : I → Bool
  | .gsl _ _ _ => true
  | _ => false

def loudI (i : I) : Bool := !isQuiet i && !isLd i && !isGsl i

def namesOf (o : Oper) (g : Option (Nat × Bool)) : List Nat :=
  o.dst.toList ++ (o.op.operands.toList.filterMap fun | .tmp t => some t | _ => none) ++ (g.map (·.1)).toList

/-- Of each two operations, of which one writes what the other one names, one comes ahead of the other by the edges. -/
def tempsOk (M : List Nat) (row : List (Option Nat × List Nat)) : Bool :=
  row.zipIdx.all fun (a, i) => row.zipIdx.all fun (b, j) =>
    i == j || (match a.1 with | some t => !b.2.contains t || (M.getD (max i j) 0).testBit (min i j) | none => true)

def loudOk (M : List Nat) (ls : List Bool) : Bool :=
  ls.zipIdx.all fun (a, i) => ls.zipIdx.all fun (b, j) => !(decide (i < j) && a && b) || (M.getD j 0).testBit i

def edgesOk (ops : List Oper) : Bool := ops.zipIdx.all fun (o, i) => (binding o).all (· < i)

/-- The places between which a load at place i may come up, but for its own one. -/
def winsOf (M : List Nat) (ls : List Bool) (i : Nat) : List Nat :=
  (List.range (ls.length + 1)).filter fun j =>
    (j == ls.length || ls.getD j false) &&
    ls.zipIdx.all (fun (b, l) => !b || ((!(M.getD i 0).testBit l || decide (l < j)) && (!(M.getD l 0).testBit i || decide (j ≤ l)))) &&
    !((decide (i ≤ j)) && (ls.zipIdx.all fun (b, l) => !b || decide (l < i) || decide (j ≤ l)))

def markD (M : List Nat) (ls : List Bool) : List IOper → Nat → List DOper
  | [], _ => []
  | o :: r, i => ⟨o, loudI o.op, if isLd o.op then winsOf M ls i else []⟩ :: markD M ls r (i + 1)

def compD (P : Program) (ops : Array Oper) : Option (List DOper) :=
  match compIOs P ops ops.toList with
  | none => none
  | some l =>
    let M := masks ops.toList []
    let ls := l.map fun o => loudI o.op
    if P.follows .mixedOrders && edgesOk ops.toList && loudOk M ls && tempsOk M ((ops.toList.zip l).map fun (o, x) => (o.dst, namesOf o x.guard)) then
      some (markD M ls l 0)
    else none

end Ve
end Go.Proofs.YtnociodpfmlglaaGreatDoor
