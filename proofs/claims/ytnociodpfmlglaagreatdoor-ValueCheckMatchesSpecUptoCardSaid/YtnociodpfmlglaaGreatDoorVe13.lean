/-
  Statements whose order is open, second part: the proof.
-/
import Derived.Test.YtnociodpfmlglaaGreatDoorVe12
set_option linter.unusedVariables false
set_option linter.unusedSimpArgs false
namespace Go.Proofs.YtnociodpfmlglaaGreatDoor
namespace Ve
open Go Go.RowKit

theorem beqV_eq {a b : Value} (h : beqV a b = true) : a = b := by
  unfold beqV at h
  split at h <;> simp at h
  · rw [h]
  · rw [h.1, h.2]
  · rename_i x y
    have : x = y := by apply ByteArray.ext; apply Array.ext'; exact h
    rw [this]
  · rfl
  · obtain ⟨⟨h1, h2⟩, h3⟩ := h; rw [h1, h2, h3]
  · rw [h.1, h.2]
  · obtain ⟨⟨⟨⟨h1, h2⟩, h3⟩, h4⟩, h5⟩ := h; rw [h1, h2, h3, h4, h5]
  · rfl
  · rfl

theorem beqL_eq : ∀ {a b : List Value}, beqL a b = true → a = b
  | [], [], _ => rfl
  | [], _ :: _, h => by simp [beqL] at h
  | _ :: _, [], h => by simp [beqL] at h
  | a :: x, b :: y, h => by
    simp only [beqL, Bool.and_eq_true] at h
    rw [beqV_eq h.1, beqL_eq h.2]

theorem beqA_eq {a b : Value} (h : beqA a b = true) : a = b := by
  unfold beqA at h
  split at h
  · rename_i x y
    have := beqL_eq h
    have : x = y := Array.ext' this
    rw [this]
  · exact beqV_eq h

section
variable {P : Program} {T : Tab} {E : C → Env → Heap → Option (Ex × Env × Heap)}

def StepD (T : Tab) (E : C → Env → Heap → Option (Ex × Env × Heap)) (x : IOper) (s s' : Env × Heap) : Prop :=
  (∃ v, wanted s.1 x.guard = some true ∧ evOp T E s.1 s.2 x.op = some (.ret v s'.2) ∧ s'.1 = put s.1 x.dst v) ∨ (wanted s.1 x.guard = some false ∧ s' = (put s.1 x.dst undef, s.2))

theorem pendOf_sub (env : Env) (o : DOper) (v : Value) (ps : List Pend) : ∀ p ∈ ps, p ∈ pendOf env o v ps := by
  intro p hp
  unfold pendOf
  split <;> simp [hp]

/-- The states that a statement's operations go through in the text's order, and what was checked. -/
def Traced (T : Tab) (E : C → Env → Heap → Option (Ex × Env × Heap)) (l : List DOper) (k : Nat) (env : Env) (H : Heap) (st : List (Nat × Heap)) (ps : List Pend) (r : Ex × Env × Heap) : Prop :=
  ∃ tr : Nat → Env × Heap, tr k = (env, H) ∧ (∀ i d, l[i]? = some d → StepD T E d.o (tr (k + i)) (tr (k + i + 1))) ∧ r = (.norm, tr (k + l.length)) ∧
    ∃ (st' : List (Nat × Heap)) (ps' : List Pend), ps'.all (pendOk st') = true ∧ (∀ p ∈ ps, p ∈ ps') ∧ (∀ j X, stageAt st' j = some X → (X = (tr j).2 ∧ k ≤ j) ∨ stageAt st j = some X) ∧
      (∀ i d n a v, l[i]? = some d → d.o.op = .ld n a → d.wins ≠ [] → wanted (tr (k + i)).1 d.o.guard = some true → evOp T E (tr (k + i)).1 (tr (k + i)).2 d.o.op = some (.ret v (tr (k + i + 1)).2) → (⟨n, rd (tr (k + i)).1 a, v, d.wins⟩ : Pend) ∈ ps')

theorem traced_cons {o : DOper} {os : List DOper} {k : Nat} {env : Env} {H : Heap} {st st1 : List (Nat × Heap)} {ps ps1 : List Pend} {r : Ex × Env × Heap} {s' : Env × Heap} (hstep : StepD T E o.o (env, H) s')
    (hst : ∀ j X, stageAt st1 j = some X → (k = j ∧ X = H) ∨ stageAt st j = some X) (hps : ∀ p ∈ ps, p ∈ ps1)
    (hld : ∀ n a v, o.o.op = .ld n a → o.wins ≠ [] → wanted env o.o.guard = some true → evOp T E env H o.o.op = some (.ret v s'.2) → (⟨n, rd env a, v, o.wins⟩ : Pend) ∈ ps1)
    (h : Traced T E os (k + 1) s'.1 s'.2 st1 ps1 r) : Traced T E (o :: os) k env H st ps r := by
  obtain ⟨tr, t1, t2, t3, st', ps', t4, t5, t6, t7⟩ := h
  refine ⟨fun i => if i = k then (env, H) else tr i, by simp, ?_, ?_, st', ps', t4, fun p hp => t5 p (hps p hp), ?_, ?_⟩
  · intro i d hd
    cases i with
    | zero =>
      simp at hd; subst hd
      simp only [Nat.add_zero, if_true, if_neg (show k + 1 ≠ k by omega), t1]
      exact hstep
    | succ i =>
      simp at hd
      have := t2 i d hd
      simp only [if_neg (show k + (i + 1) ≠ k by omega), if_neg (show k + (i + 1) + 1 ≠ k by omega)]
      rw [show k + (i + 1) = k + 1 + i by omega]
      exact this
  · rw [t3]
    simp only [List.length_cons, if_neg (show k + (os.length + 1) ≠ k by omega)]
    rw [show k + (os.length + 1) = k + 1 + os.length by omega]
  · intro j X hX
    rcases t6 j X hX with ⟨h6, h6'⟩ | h6
    · left; simp only [if_neg (show j ≠ k by omega)]; exact ⟨h6, by omega⟩
    · rcases hst j X h6 with ⟨e, h7⟩ | h7
      · subst e; left; simpa using h7
      · exact .inr h7
  · intro i d n a v hd hop hw hwant hev
    cases i with
    | zero =>
      simp at hd; subst hd
      simp only [Nat.add_zero, if_true, if_neg (show k + 1 ≠ k by omega), t1] at hwant hev ⊢
      exact t5 _ (hld n a v hop hw hwant hev)
    | succ i =>
      simp at hd
      simp only [if_neg (show k + (i + 1) ≠ k by omega), if_neg (show k + (i + 1) + 1 ≠ k by omega)] at hwant hev ⊢
      rw [show k + (i + 1) = k + 1 + i by omega] at hwant hev ⊢
      exact t7 i d n a v hd hop hw hwant hev

theorem evD_trace : ∀ (l : List DOper) (k : Nat) (env : Env) (H : Heap) (st : List (Nat × Heap)) (ps : List Pend) (r : Ex × Env × Heap), evD T E l k env H st ps = some r → Traced T E l k env H st ps r
  | [], k, env, H, st, ps, r, h => by
    unfold evD at h
    split at h
    · rename_i hp
      cases h
      refine ⟨fun _ => (env, H), rfl, by intro i d hd; simp at hd, rfl, (k, H) :: st, ps, hp, fun p hp => hp, ?_, by intro i d n a v hd; simp at hd⟩
      intro j X hX
      simp only [stageAt] at hX
      split at hX
      · rename_i e; cases hX; exact .inl ⟨rfl, by omega⟩
      · exact .inr hX
    · cases h
  | o :: os, k, env, H, st, ps, r, h => by
    have hst : ∀ j X, stageAt (if o.loud then (k, H) :: st else st) j = some X → (k = j ∧ X = H) ∨ stageAt st j = some X := by
      intro j X hX
      split at hX
      · simp only [stageAt] at hX
        split at hX
        · rename_i e; cases hX; exact .inl ⟨e, rfl⟩
        · exact .inr hX
      · exact .inr hX
    unfold evD at h
    split at h
    · rename_i hw
      split at h
      · rename_i v H' hev
        refine traced_cons (s' := (put env o.o.dst v, H')) (.inl ⟨v, hw, hev, rfl⟩) hst (pendOf_sub env o v ps) ?_ (evD_trace os (k + 1) _ _ _ _ r h)
        intro n a v2 hop hwins _ hev2
        rw [hev] at hev2
        cases hev2
        unfold pendOf
        rw [hop]
        split
        · rename_i e; exact absurd e hwins
        · rename_i e1 _; cases e1; exact List.mem_cons_self
        · rename_i h1 _; exact absurd rfl (h1 _ _)
      · cases h
    · rename_i hw
      refine traced_cons (s' := (put env o.o.dst undef, H)) (.inr ⟨hw, rfl⟩) hst (fun p hp => hp) ?_ (evD_trace os (k + 1) _ _ _ _ r h)
      intro n a v2 _ _ hw2
      rw [hw] at hw2; cases hw2
    · cases h


/-! the context of a statement -/
theorem quiet_heap {env : Env} {H : Heap} {i : I} {out : Out} (hq : isQuiet i = true) (he : evI env H i = some out) : ∃ v, out = .ret v H := by
  cases i <;> simp only [isQuiet, Bool.false_eq_true] at hq <;> simp only [evI] at he
  all_goals
    repeat' split at he
    all_goals first
      | (cases he; done)
      | exact ⟨_, he.symm⟩
      | exact ⟨_, (Option.some.inj he).symm⟩
      | (simp only [ret, Option.map_eq_some_iff] at he; obtain ⟨v, _, h⟩ := he; exact ⟨v, h.symm⟩)
      | (simp only [Option.map_eq_some_iff] at he; obtain ⟨v, _, h⟩ := he; exact ⟨_, h.symm⟩)

theorem ld_heap {env : Env} {H : Heap} {n : Option Nat} {a : Operand} {out : Out} (he : evI env H (.ld n a) = some out) : ∃ v, out = .ret v H ∧ ldv H n (rd env a) = some v := by
  simp only [evI, ret, Option.map_eq_some_iff] at he
  obtain ⟨v, h1, h2⟩ := he
  exact ⟨v, h2.symm, h1⟩

structure DC (P : Program) (T : Tab) (E : C → Env → Heap → Option (Ex × Env × Heap)) (ops : Array Oper) (l0 : List IOper) (M : List Nat) (tr : Nat → Env × Heap) : Prop where
  mixed : P.follows .mixedOrders = true
  len : l0.length = ops.size
  comp : ∀ (i : Nat) (o : Oper), ops[i]? = some o → ∃ x, l0[i]? = some x ∧ compIO P ops o = some x
  edges : ∀ (i : Nat) (o : Oper), ops[i]? = some o → ∀ e ∈ binding o, e < i
  loud : ∀ (i j : Nat) (x y : IOper), i < j → l0[i]? = some x → l0[j]? = some y → loudI x.op = true → loudI y.op = true → (M.getD j 0).testBit i = true
  temps : ∀ (i j : Nat) (o o' : Oper) (x' : IOper) (t : Nat), i ≠ j → ops[i]? = some o → ops[j]? = some o' → l0[j]? = some x' → o.dst = some t → t ∈ namesOf o' x'.guard → (M.getD (max i j) 0).testBit (min i j) = true
  step : ∀ (i : Nat) (x : IOper), l0[i]? = some x → StepD T E x (tr i) (tr (i + 1))
  wins : ∀ (i : Nat) (x : IOper) (n : Option Nat) (a : Operand) (v : Value), l0[i]? = some x → x.op = .ld n a → wanted (tr i).1 x.guard = some true → evOp T E (tr i).1 (tr i).2 x.op = some (.ret v (tr (i + 1)).2) →
    ∀ j ∈ winsOf M (l0.map fun o => loudI o.op) i, ldv (tr j).2 n (rd (tr i).1 a) = some v
  mdef : M = masks ops.toList []

section
variable {ops : Array Oper} {l0 : List IOper} {M : List Nat} {tr : Nat → Env × Heap}

theorem DC.heap_step (h : DC P T E ops l0 M tr) {i : Nat} {x : IOper} (hx : l0[i]? = some x) (hl : loudI x.op = false) : (tr (i + 1)).2 = (tr i).2 := by
  rcases h.step i x hx with ⟨v, _, hev, _⟩ | ⟨_, e⟩
  · have hcall : ∀ H out, evOp T E (tr i).1 H x.op = some out → isCall x.op = false → evI (tr i).1 H x.op = some out := by
      intro H out he hk
      cases hop : x.op <;> rw [hop] at he hk <;> first | exact he | cases hk
    have hk : isCall x.op = false := by
      cases hop : x.op <;> rw [hop] at hl <;> first | rfl | (simp [loudI, isQuiet, isLd, isGsl] at hl)
    have he := hcall _ _ hev hk
    by_cases hq : isQuiet x.op = true
    · obtain ⟨v', e⟩ := quiet_heap hq he
      injection e
    · have hld : isLd x.op = true ∨ isGsl x.op = true := by
        cases h1 : isLd x.op with
        | true => exact .inl rfl
        | false => right; simp only [loudI, h1, show isQuiet x.op = false by simpa using hq] at hl; simpa using hl
      cases hop : x.op with
      | ld n a =>
        rw [hop] at he
        obtain ⟨v', e, _⟩ := ld_heap he
        injection e
      | gsl n z parts =>
        rw [hop] at he
        simp only [evI, Option.map_eq_some_iff] at he
        obtain ⟨_, _, e⟩ := he
        injection e with _ e
        exact e.symm
      | _ => rw [hop] at hld; rcases hld with hld | hld <;> cases hld
  · rw [e]

theorem DC.heap_const (h : DC P T E ops l0 M tr) {i j : Nat} (hij : i ≤ j) (hj : j ≤ l0.length) (hn : ∀ k x, i ≤ k → k < j → l0[k]? = some x → loudI x.op = false) : (tr j).2 = (tr i).2 := by
  induction j with
  | zero => have : i = 0 := by omega
            rw [this]
  | succ j ih =>
    by_cases e : i = j + 1
    · rw [e]
    · obtain ⟨x, hx⟩ : ∃ x, l0[j]? = some x := ⟨l0[j]'(by omega), by simp⟩
      rw [h.heap_step hx (hn j x (by omega) (by omega) hx)]
      exact ih (by omega) (by omega) (fun k x h1 h2 h3 => hn k x h1 (by omega) h3)

theorem put_ne {env : Env} {d : Option Nat} {v : Value} {t : Nat} (h : d ≠ some t) : (put env d v).getD t undef = env.getD t undef := by
  cases d with
  | none => rfl
  | some d =>
    simp only [put, List.getD_eq_getElem?_getD]
    rw [List.getElem?_set_ne (by rintro rfl; exact h rfl)]

theorem put_length {env : Env} {d : Option Nat} {v : Value} : (put env d v).length = env.length := by cases d <;> simp [put]

theorem DC.env_step (h : DC P T E ops l0 M tr) {i t : Nat} {x : IOper} (hx : l0[i]? = some x) (hd : x.dst ≠ some t) : (tr (i + 1)).1.getD t undef = (tr i).1.getD t undef := by
  rcases h.step i x hx with ⟨v, _, _, e⟩ | ⟨_, e⟩
  · rw [e]; exact put_ne hd
  · rw [e]; exact put_ne hd

theorem DC.env_len (h : DC P T E ops l0 M tr) : ∀ {j : Nat}, j ≤ l0.length → (tr j).1.length = (tr 0).1.length
  | 0, _ => rfl
  | j + 1, hj => by
    obtain ⟨x, hx⟩ : ∃ x, l0[j]? = some x := ⟨l0[j]'(by omega), by simp⟩
    rw [← h.env_len (show j ≤ l0.length by omega)]
    rcases h.step j x hx with ⟨v, _, _, e⟩ | ⟨_, e⟩ <;> rw [e] <;> exact put_length

theorem DC.env_const (h : DC P T E ops l0 M tr) {i j t : Nat} (hij : i ≤ j) (hj : j ≤ l0.length) (hn : ∀ k x, i ≤ k → k < j → l0[k]? = some x → x.dst ≠ some t) : (tr j).1.getD t undef = (tr i).1.getD t undef := by
  induction j with
  | zero => have : i = 0 := by omega
            rw [this]
  | succ j ih =>
    by_cases e : i = j + 1
    · rw [e]
    · obtain ⟨x, hx⟩ : ∃ x, l0[j]? = some x := ⟨l0[j]'(by omega), by simp⟩
      rw [h.env_step hx (hn j x (by omega) (by omega) hx)]
      exact ih (by omega) (by omega) (fun k x h1 h2 h3 => hn k x h1 (by omega) h3)

/-- The first place from i on at which p holds, or the end. -/
theorem first_at (p : Nat → Bool) (m : Nat) : ∀ (d i : Nat), i + d = m → ∃ j, i ≤ j ∧ j ≤ m ∧ (j = m ∨ p j = true) ∧ ∀ k, i ≤ k → k < j → p k = false
  | 0, i, h => ⟨m, by omega, Nat.le_refl _, .inl rfl, by intro k h1 h2; omega⟩
  | d + 1, i, h => by
    by_cases e : p i = true
    · exact ⟨i, Nat.le_refl _, by omega, .inr e, by intro k h1 h2; omega⟩
    · obtain ⟨j, h1, h2, h3, h4⟩ := first_at p m d (i + 1) (by omega)
      refine ⟨j, by omega, h2, h3, fun k g1 g2 => ?_⟩
      by_cases ek : k = i
      · subst ek; simpa using e
      · exact h4 k (by omega) g2

end
end
end Ve
end Go.Proofs.YtnociodpfmlglaaGreatDoor
