/-
  More fuel changes no answer of the deterministic machine; its steps as rules over code that still waits.
-/
import Derived.Test.YtnociodpfmlglaaGreatDoorVe19
set_option linter.unusedVariables false
set_option linter.unusedSimpArgs false
namespace Go.Proofs.YtnociodpfmlglaaGreatDoor
namespace Ve
open Go

abbrev Ev1 := C → Env → Heap → Option (Ex × Env × Heap)
def Up (E E' : Ev1) : Prop := ∀ c env H r, E c env H = some r → E' c env H = some r

section
variable {T : Tab} {E E' : Ev1} (h : Up E E')
include h

theorem evPre_up : ∀ (l : List C) (env : Env) (H : Heap) r, evPre E l env H = some r → evPre E' l env H = some r
  | [], env, H, r, e => e
  | c :: l, env, H, r, e => by
    unfold evPre at e ⊢
    cases hc : E c env H with
    | none => rw [hc] at e; cases e
    | some x =>
      rw [h _ _ _ _ hc]
      rw [hc] at e
      obtain ⟨ex, env', H'⟩ := x
      cases ex <;> first | exact evPre_up l _ _ _ e | exact e

theorem evClo_up {d : DFn} {cl : List Value} {rv : Value} {env : Env} {H : Heap} {r : Out} (e : evClo E d cl rv env H = some r) : evClo E' d cl rv env H = some r := by
  unfold evClo at e ⊢
  split at e
  · rename_i hc; rw [h _ _ _ _ hc]; exact e
  · rename_i hc; rw [h _ _ _ _ hc]; exact e
  · cases e

theorem evDfn_up {d : DFn} {args : List Value} {H : Heap} {r : Out} (e : evDfn E d args H = some r) : evDfn E' d args H = some r := by
  unfold evDfn at e ⊢
  split at e
  · rename_i hc; rw [evPre_up h _ _ _ _ hc]; exact e
  · rename_i hc; rw [evPre_up h _ _ _ _ hc]; exact e
  · rename_i hc; rw [evPre_up h _ _ _ _ hc]
    split at e
    · cases e
    · rename_i hlt
      simp only [hlt, if_false] at e ⊢
      split at e
      · rename_i h2; rw [h _ _ _ _ h2]; exact evClo_up h e
      · rename_i h2; rw [h _ _ _ _ h2]; exact evClo_up h e
      · rename_i h2; rw [h _ _ _ _ h2]; exact evClo_up h e
      · cases e
  · cases e

theorem evCall_up {f : FuncId} {args : List Value} {H : Heap} {r : Out} (e : evCall T E f args H = some r) : evCall T E' f args H = some r := by
  unfold evCall at e ⊢
  split at e
  · split at e
    · exact evDfn_up h e
    · exact e
  · split at e
    · rename_i hc; rw [h _ _ _ _ hc]; exact e
    · rename_i hc; rw [h _ _ _ _ hc]; exact e
    · rename_i hc; rw [h _ _ _ _ hc]; exact e
    · cases e

theorem evOp_up {env : Env} {H : Heap} {i : I} {r : Out} (e : evOp T E env H i = some r) : evOp T E' env H i = some r := by
  unfold evOp at e ⊢
  split at e
  · split at e
    · rename_i hf; exact evCall_up h e
    · cases e
  · exact e

theorem evOps_up : ∀ (l : List IOper) (env : Env) (H : Heap) r, evOps T E l env H = some r → evOps T E' l env H = some r
  | [], env, H, r, e => e
  | o :: os, env, H, r, e => by
    unfold evOps at e ⊢
    split at e
    · split at e
      · rename_i ho; rw [evOp_up h ho]; exact evOps_up os _ _ _ e
      · rename_i ho; rw [evOp_up h ho]; exact e
      · cases e
    · exact evOps_up os _ _ _ e
    · cases e

theorem evD_up : ∀ (l : List DOper) (k : Nat) (env : Env) (H : Heap) st ps r, evD T E l k env H st ps = some r → evD T E' l k env H st ps = some r
  | [], k, env, H, st, ps, r, e => e
  | o :: os, k, env, H, st, ps, r, e => by
    unfold evD at e ⊢
    split at e
    · split at e
      · rename_i ho; rw [evOp_up h ho]; exact evD_up os _ _ _ _ _ _ e
      · cases e
    · exact evD_up os _ _ _ _ _ _ e
    · cases e

theorem evC_up : ∀ (c : C) (env : Env) (H : Heap) r, evC T E c env H = some r → evC T E' c env H = some r
  | .skip, env, H, r, e => e
  | .ops l, env, H, r, e => evOps_up h l env H r e
  | .dops l, env, H, r, e => evD_up h l 0 env H [] [] r e
  | .seq a b, env, H, r, e => by
    unfold evC at e ⊢
    cases ha : evC T E a env H with
    | none => rw [ha] at e; cases e
    | some x =>
      rw [evC_up a _ _ _ ha]
      rw [ha] at e
      obtain ⟨ex, env', H'⟩ := x
      cases ex <;> first | exact evC_up b _ _ _ e | exact e
  | .cond x a b, env, H, r, e => by
    unfold evC at e ⊢
    split at e
    · exact evC_up a _ _ _ e
    · exact evC_up b _ _ _ e
    · cases e
  | .block id c, env, H, r, e => by
    unfold evC at e ⊢
    cases ha : evC T E c env H with
    | none => rw [ha] at e; cases e
    | some x => rw [evC_up c _ _ _ ha]; rw [ha] at e; exact e
  | .loop gone c, env, H, r, e => by
    unfold evC at e ⊢
    cases ha : evC T E c (forget gone env) H with
    | none => rw [ha] at e; cases e
    | some x =>
      rw [evC_up c _ _ _ ha]
      rw [ha] at e
      obtain ⟨ex, env', H'⟩ := x
      cases ex <;> first | exact h _ _ _ _ e | exact e
  | .exit id, env, H, r, e => e
  | .ret, env, H, r, e => e
  | .stuck, env, H, r, e => e
end

theorem evN_up (T : Tab) : ∀ n, Up (evN T n) (evN T (n + 1))
  | 0 => fun c env H r e => by cases e
  | n + 1 => fun c env H r e => evC_up (evN_up T n) c env H r e

theorem evN_le {T : Tab} {n m : Nat} (h : n ≤ m) : Up (evN T n) (evN T m) := by
  induction h with
  | refl => exact fun _ _ _ _ e => e
  | step _ ih => exact fun c env H r e => evN_up T _ c env H r (ih c env H r e)

/-! ## the rules -/
abbrev Po := Ex → Env → Heap → Prop

/-- The code's run, at some fuel. -/
def Ev (T : Tab) (c : C) (env : Env) (H : Heap) (Q : Po) : Prop := ∃ n r, evN T n c env H = some r ∧ Q r.1 r.2.1 r.2.2
def EvO (T : Tab) (l : List IOper) (env : Env) (H : Heap) (Q : Po) : Prop := ∃ n r, evOps T (evN T n) l env H = some r ∧ Q r.1 r.2.1 r.2.2
def EvD (T : Tab) (l : List DOper) (k : Nat) (env : Env) (H : Heap) (st : List (Nat × Heap)) (ps : List Pend) (Q : Po) : Prop := ∃ n r, evD T (evN T n) l k env H st ps = some r ∧ Q r.1 r.2.1 r.2.2
/-- A call's run, at some fuel. -/
def Cl (T : Tab) (f : FuncId) (args : List Value) (H : Heap) (Q : Out → Prop) : Prop := ∃ n out, run T n f args H = some out ∧ Q out

theorem Cl.mono {T : Tab} {f : FuncId} {args : List Value} {H : Heap} {Q R : Out → Prop} (h : Cl T f args H Q) (k : ∀ out, Q out → R out) : Cl T f args H R := by
  obtain ⟨n, out, e, q⟩ := h
  exact ⟨n, out, e, k out q⟩

theorem Ev.mono {T : Tab} {c : C} {env : Env} {H : Heap} {Q R : Po} (h : Ev T c env H Q) (k : ∀ ex env' H', Q ex env' H' → R ex env' H') : Ev T c env H R := by
  obtain ⟨n, r, e, q⟩ := h
  exact ⟨n, r, e, k _ _ _ q⟩

/-- What waits behind the code that runs. -/
inductive Fr where
  | seq (c : C)
  | block (id : Nat)
  | loop (gone : List Nat) (c : C)

/-- The code, and what waits behind it. -/
def KR (T : Tab) : List Fr → Ex → Env → Heap → Po → Prop
  | [], ex, env, H, Q => Q ex env H
  | .seq b :: K, .norm, env, H, Q => Ev T b env H fun ex env' H' => KR T K ex env' H' Q
  | .seq _ :: K, ex, env, H, Q => KR T K ex env H Q
  | .block id :: K, .exit j, env, H, Q => if j = id then KR T K .norm env H Q else KR T K (.exit j) env H Q
  | .block _ :: K, ex, env, H, Q => KR T K ex env H Q
  | .loop gone c :: K, .norm, env, H, Q => Ev T (.loop gone c) env H fun ex env' H' => KR T K ex env' H' Q
  | .loop _ _ :: K, ex, env, H, Q => KR T K ex env H Q

def EvK (T : Tab) (c : C) (K : List Fr) (env : Env) (H : Heap) (Q : Po) : Prop := Ev T c env H fun ex env' H' => KR T K ex env' H' Q
def EvOK (T : Tab) (l : List IOper) (K : List Fr) (env : Env) (H : Heap) (Q : Po) : Prop := EvO T l env H fun ex env' H' => KR T K ex env' H' Q
def EvDK (T : Tab) (l : List DOper) (k : Nat) (K : List Fr) (env : Env) (H : Heap) (st : List (Nat × Heap)) (ps : List Pend) (Q : Po) : Prop := EvD T l k env H st ps fun ex env' H' => KR T K ex env' H' Q

section
variable {T : Tab} {K : List Fr} {env : Env} {H : Heap} {Q : Po}

@[go_sem] theorem KR_nil {ex : Ex} : KR T [] ex env H Q = Q ex env H := by simp only [KR]
@[go_sem] theorem KR_seq {b : C} : KR T (.seq b :: K) .norm env H Q = EvK T b K env H Q := by simp only [KR, EvK]
@[go_sem] theorem KR_seq_exit {b : C} {j : Nat} : KR T (.seq b :: K) (.exit j) env H Q = KR T K (.exit j) env H Q := by simp only [KR]
@[go_sem] theorem KR_seq_ret {b : C} : KR T (.seq b :: K) .ret env H Q = KR T K .ret env H Q := by simp only [KR]
@[go_sem] theorem KR_seq_pan {b : C} {v : Value} : KR T (.seq b :: K) (.pan v) env H Q = KR T K (.pan v) env H Q := by simp only [KR]
@[go_sem] theorem KR_block_norm {id : Nat} : KR T (.block id :: K) .norm env H Q = KR T K .norm env H Q := by simp only [KR]
@[go_sem] theorem KR_block_ret {id : Nat} : KR T (.block id :: K) .ret env H Q = KR T K .ret env H Q := by simp only [KR]
@[go_sem] theorem KR_block_pan {id : Nat} {v : Value} : KR T (.block id :: K) (.pan v) env H Q = KR T K (.pan v) env H Q := by simp only [KR]
@[go_sem] theorem KR_block_exit {id j : Nat} : KR T (.block id :: K) (.exit j) env H Q = if j = id then KR T K .norm env H Q else KR T K (.exit j) env H Q := by simp only [KR]
@[go_sem] theorem KR_loop {g : List Nat} {c : C} : KR T (.loop g c :: K) .norm env H Q = EvK T (.loop g c) K env H Q := by simp only [KR, EvK]
@[go_sem] theorem KR_loop_exit {g : List Nat} {c : C} {j : Nat} : KR T (.loop g c :: K) (.exit j) env H Q = KR T K (.exit j) env H Q := by simp only [KR]
@[go_sem] theorem KR_loop_ret {g : List Nat} {c : C} : KR T (.loop g c :: K) .ret env H Q = KR T K .ret env H Q := by simp only [KR]
@[go_sem] theorem KR_loop_pan {g : List Nat} {c : C} {v : Value} : KR T (.loop g c :: K) (.pan v) env H Q = KR T K (.pan v) env H Q := by simp only [KR]

theorem Ev_some {c : C} {Q : Po} {r : Ex × Env × Heap} (h : ∀ n, evN T (n + 1) c env H = some r) : Ev T c env H Q = Q r.1 r.2.1 r.2.2 := by
  apply propext
  constructor
  · rintro ⟨n, r', e, q⟩
    cases n with
    | zero => cases e
    | succ n => rw [h n] at e; cases e; exact q
  · intro q; exact ⟨1, r, h 0, q⟩

@[go_sem] theorem EvK_skip : EvK T .skip K env H Q = KR T K .norm env H Q := Ev_some (r := (.norm, env, H)) fun _ => rfl
@[go_sem] theorem EvK_exit {id : Nat} : EvK T (.exit id) K env H Q = KR T K (.exit id) env H Q := Ev_some (r := (.exit id, env, H)) fun _ => rfl
@[go_sem] theorem EvK_ret : EvK T .ret K env H Q = KR T K .ret env H Q := Ev_some (r := (.ret, env, H)) fun _ => rfl

theorem Ev_ops {l : List IOper} {Q : Po} : Ev T (.ops l) env H Q = EvO T l env H Q := by
  apply propext
  constructor
  · rintro ⟨n, r, e, q⟩
    cases n with
    | zero => cases e
    | succ n => exact ⟨n, r, e, q⟩
  · rintro ⟨n, r, e, q⟩; exact ⟨n + 1, r, e, q⟩
theorem Ev_dops {l : List DOper} {Q : Po} : Ev T (.dops l) env H Q = EvD T l 0 env H [] [] Q := by
  apply propext
  constructor
  · rintro ⟨n, r, e, q⟩
    cases n with
    | zero => cases e
    | succ n => exact ⟨n, r, e, q⟩
  · rintro ⟨n, r, e, q⟩; exact ⟨n + 1, r, e, q⟩
@[go_sem] theorem EvK_ops {l : List IOper} : EvK T (.ops l) K env H Q = EvOK T l K env H Q := Ev_ops
@[go_sem] theorem EvK_dops {l : List DOper} : EvK T (.dops l) K env H Q = EvDK T l 0 K env H [] [] Q := Ev_dops

theorem Ev_seq {a b : C} {Q : Po} : Ev T (.seq a b) env H Q = Ev T a env H fun ex env' H' => KR T [.seq b] ex env' H' Q := by
  apply propext
  constructor
  · rintro ⟨n, r, e, q⟩
    cases n with
    | zero => cases e
    | succ n =>
      simp only [evN, evC] at e
      cases ha : evC T (evN T n) a env H with
      | none => rw [ha] at e; cases e
      | some x =>
        rw [ha] at e
        obtain ⟨ex, env', H'⟩ := x
        refine ⟨n + 1, (ex, env', H'), ha, ?_⟩
        cases ex with
        | norm => simp only [KR]; exact ⟨n + 1, r, e, q⟩
        | _ => simp only at e; cases e; exact q
  · rintro ⟨n, ⟨ex, env', H'⟩, e, q⟩
    cases ex with
    | norm =>
      simp only [KR] at q
      obtain ⟨m, r, e2, q⟩ := q
      refine ⟨max n m + 1, r, ?_, q⟩
      have e1 := evN_le (T := T) (show n ≤ max n m + 1 by omega) _ _ _ _ e
      have e3 := evN_le (T := T) (show m ≤ max n m + 1 by omega) _ _ _ _ e2
      simp only [evN, evC] at e1 e3 ⊢
      rw [e1]; exact e3
    | _ =>
      refine ⟨n + 1, _, ?_, q⟩
      have e1 := evN_le (T := T) (show n ≤ n + 1 by omega) _ _ _ _ e
      simp only [evN, evC] at e1 ⊢
      rw [e1]

theorem KR_append {K1 : List Fr} : ∀ {ex : Ex} {env : Env} {H : Heap}, KR T (K1 ++ K) ex env H Q = KR T K1 ex env H fun ex env' H' => KR T K ex env' H' Q := by
  induction K1 with
  | nil => intro ex env H; simp only [List.nil_append, KR]
  | cons f K1 ih =>
    intro ex env H
    cases f with
    | seq b => cases ex <;> simp only [List.cons_append, KR, ih]
    | block id =>
      cases ex <;> simp only [List.cons_append, KR, ih]
    | loop g c => cases ex <;> simp only [List.cons_append, KR, ih]

@[go_sem] theorem EvK_seq {a b : C} : EvK T (.seq a b) K env H Q = EvK T a (.seq b :: K) env H Q := by
  unfold EvK
  rw [Ev_seq]
  congr 1
  funext ex env' H'
  exact (KR_append (K1 := [.seq b]) (K := K)).symm

theorem Ev_block {id : Nat} {c : C} {Q : Po} : Ev T (.block id c) env H Q = Ev T c env H fun ex env' H' => KR T [.block id] ex env' H' Q := by
  apply propext
  constructor
  · rintro ⟨n, r, e, q⟩
    cases n with
    | zero => cases e
    | succ n =>
      simp only [evN, evC] at e
      cases ha : evC T (evN T n) c env H with
      | none => rw [ha] at e; cases e
      | some x =>
        rw [ha] at e
        obtain ⟨ex, env', H'⟩ := x
        refine ⟨n + 1, (ex, env', H'), ha, ?_⟩
        cases ex with
        | exit j =>
          simp only at e
          simp only [KR]
          split at e <;> rename_i hj <;> simp only [hj, if_true, if_false] <;> cases e <;> exact q
        | _ => simp only at e; cases e; exact q
  · rintro ⟨n, ⟨ex, env', H'⟩, e, q⟩
    have e1 := evN_le (T := T) (show n ≤ n + 1 by omega) _ _ _ _ e
    simp only [evN] at e1
    cases ex with
    | exit j =>
      simp only [KR] at q
      by_cases hj : j = id
      · subst hj
        refine ⟨n + 1, (.norm, env', H'), ?_, ?_⟩
        · simp only [evN, evC, e1, if_true]
        · simpa using q
      · refine ⟨n + 1, (.exit j, env', H'), ?_, ?_⟩
        · simp only [evN, evC, e1, hj, if_false]
        · simpa [hj] using q
    | _ =>
      refine ⟨n + 1, _, ?_, q⟩
      simp only [evN, evC, e1]

@[go_sem] theorem EvK_block {id : Nat} {c : C} : EvK T (.block id c) K env H Q = EvK T c (.block id :: K) env H Q := by
  unfold EvK
  rw [Ev_block]
  congr 1
  funext ex env' H'
  exact (KR_append (K1 := [.block id]) (K := K)).symm

theorem Ev_loop {g : List Nat} {c : C} {Q : Po} : Ev T (.loop g c) env H Q = Ev T c (forget g env) H fun ex env' H' => KR T [.loop g c] ex env' H' Q := by
  apply propext
  constructor
  · rintro ⟨n, r, e, q⟩
    cases n with
    | zero => cases e
    | succ n =>
      simp only [evN, evC] at e
      cases ha : evC T (evN T n) c (forget g env) H with
      | none => rw [ha] at e; cases e
      | some x =>
        rw [ha] at e
        obtain ⟨ex, env', H'⟩ := x
        refine ⟨n + 1, (ex, env', H'), ha, ?_⟩
        cases ex with
        | norm => simp only [KR]; exact ⟨n, r, e, q⟩
        | _ => simp only at e; cases e; exact q
  · rintro ⟨n, ⟨ex, env', H'⟩, e, q⟩
    cases ex with
    | norm =>
      simp only [KR] at q
      obtain ⟨m, r, e2, q⟩ := q
      refine ⟨max n m + 1 + 1, r, ?_, q⟩
      have e1 := evN_le (T := T) (show n ≤ max n m + 1 + 1 by omega) _ _ _ _ e
      have e3 := evN_le (T := T) (show m ≤ max n m + 1 by omega) _ _ _ _ e2
      rw [evN] at e1 ⊢
      rw [evC, e1]; exact e3
    | _ =>
      refine ⟨n + 1, _, ?_, q⟩
      have e1 := evN_le (T := T) (show n ≤ n + 1 by omega) _ _ _ _ e
      simp only [evN, evC] at e1 ⊢
      rw [e1]

/-- A loop's round. Not for the simplifier. -/
theorem EvK_loop {g : List Nat} {c : C} : EvK T (.loop g c) K env H Q = EvK T c (.loop g c :: K) (forget g env) H Q := by
  unfold EvK
  rw [Ev_loop]
  congr 1
  funext ex env' H'
  exact (KR_append (K1 := [.loop g c]) (K := K)).symm

/-- A branch by a truth that is at hand. -/
def brK (T : Tab) (v : Value) (a b : C) (K : List Fr) (env : Env) (H : Heap) (Q : Po) : Prop := ∃ t, v = .bool t ∧ EvK T (if t then a else b) K env H Q
theorem EvK_cond' {x : Operand} {a b : C} : EvK T (.cond x a b) K env H Q = brK T (rd env x) a b K env H Q := by
  apply propext
  constructor
  · rintro ⟨n, r, e, q⟩
    cases n with
    | zero => cases e
    | succ n =>
      simp only [evN, evC] at e
      split at e
      · rename_i hx; exact ⟨true, hx, n + 1, r, e, q⟩
      · rename_i hx; exact ⟨false, hx, n + 1, r, e, q⟩
      · cases e
  · rintro ⟨t, hx, n, r, e, q⟩
    refine ⟨n + 1, r, ?_, q⟩
    have e1 := evN_le (T := T) (show n ≤ n + 1 by omega) _ _ _ _ e
    simp only [evN, evC, hx] at e1 ⊢
    cases t <;> exact e1
@[go_sem] theorem EvK_cond {x : Operand} {a b : C} : EvK T (.cond x a b) K env H Q = brK T (rd env x) a b K env H Q := EvK_cond'
@[go_sem] theorem brK_true {a b : C} : brK T (.bool true) a b K env H Q = EvK T a K env H Q := by
  apply propext; constructor
  · rintro ⟨t, h, k⟩; cases h; exact k
  · intro k; exact ⟨true, rfl, k⟩
@[go_sem] theorem brK_false {a b : C} : brK T (.bool false) a b K env H Q = EvK T b K env H Q := by
  apply propext; constructor
  · rintro ⟨t, h, k⟩; cases h; exact k
  · intro k; exact ⟨false, rfl, k⟩
theorem brK_of {t : Bool} {a b : C} (h1 : t = true → EvK T a K env H Q) (h2 : t = false → EvK T b K env H Q) : brK T (.bool t) a b K env H Q := by
  cases t
  · rw [brK_false]; exact h2 rfl
  · rw [brK_true]; exact h1 rfl
theorem brK_prop {p : Prop} [Decidable p] {a b : C} (h1 : p → EvK T a K env H Q) (h2 : ¬ p → EvK T b K env H Q) : brK T (.bool (decide p)) a b K env H Q :=
  brK_of (fun h => h1 (of_decide_eq_true h)) (fun h => h2 (of_decide_eq_false h))

/-! operations -/
theorem EvO_nil {Q : Po} : EvO T [] env H Q = Q .norm env H := by
  apply propext; constructor
  · rintro ⟨n, r, e, q⟩; cases e; exact q
  · intro q; exact ⟨0, _, rfl, q⟩
@[go_sem] theorem EvOK_nil : EvOK T [] K env H Q = KR T K .norm env H Q := EvO_nil

/-- What an operation has made, and the operations behind it. -/
def stO (T : Tab) (o : Option Out) (d : Option Nat) (os : List IOper) (K : List Fr) (env : Env) (Q : Po) : Prop :=
  match o with
  | some (.ret v H1) => EvOK T os K (put env d v) H1 Q
  | some (.pan v H1) => KR T K (.pan v) env H1 Q
  | none => False
@[go_sem] theorem stO_ret {v : Value} {H1 : Heap} {d : Option Nat} {os : List IOper} : stO T (some (.ret v H1)) d os K env Q = EvOK T os K (put env d v) H1 Q := rfl
@[go_sem] theorem stO_pan {v : Value} {H1 : Heap} {d : Option Nat} {os : List IOper} : stO T (some (.pan v H1)) d os K env Q = KR T K (.pan v) env H1 Q := rfl

def isCl : I → Bool | .call _ _ => true | _ => false
theorem evOp_plain {E : Ev1} {i : I} (h : isCl i = false) : evOp T E env H i = evI env H i := by
  cases i <;> first | rfl | (simp [isCl] at h)

theorem EvOK_op {d : Option Nat} {i : I} {os : List IOper} (h : isCl i = false) : EvOK T (⟨d, i, none⟩ :: os) K env H Q = stO T (evI env H i) d os K env Q := by
  apply propext; constructor
  · rintro ⟨n, r, e, q⟩
    simp only [evOps, wanted, evOp_plain h] at e
    unfold stO
    split at e
    · rename_i ho; rw [ho]; exact ⟨n, r, e, q⟩
    · rename_i ho; rw [ho]; cases e; exact q
    · cases e
  · intro k
    unfold stO at k
    split at k
    · rename_i ho
      obtain ⟨n, r, e, q⟩ := k
      exact ⟨n, r, by simp only [evOps, wanted, evOp_plain h, ho]; exact e, q⟩
    · rename_i ho
      exact ⟨0, (_, env, _), by simp only [evOps, wanted, evOp_plain h, ho], k⟩
    · cases k

/-- A guarded operation. -/
def guO (T : Tab) (b : Option Bool) (d : Option Nat) (i : I) (os : List IOper) (K : List Fr) (env : Env) (H : Heap) (Q : Po) : Prop :=
  match b with
  | some true => EvOK T (⟨d, i, none⟩ :: os) K env H Q
  | some false => EvOK T os K (put env d undef) H Q
  | none => False
@[go_sem] theorem guO_true {d : Option Nat} {i : I} {os : List IOper} : guO T (some true) d i os K env H Q = EvOK T (⟨d, i, none⟩ :: os) K env H Q := rfl
@[go_sem] theorem guO_false {d : Option Nat} {i : I} {os : List IOper} : guO T (some false) d i os K env H Q = EvOK T os K (put env d undef) H Q := rfl
@[go_sem] theorem EvOK_guard {d : Option Nat} {i : I} {g : Nat × Bool} {os : List IOper} : EvOK T (⟨d, i, some g⟩ :: os) K env H Q = guO T (wanted env (some g)) d i os K env H Q := by
  apply propext; constructor
  · rintro ⟨n, r, e, q⟩
    rw [evOps] at e
    simp only at e
    unfold guO
    split at e
    · rename_i hw; rw [hw]; exact ⟨n, r, by rw [evOps]; simp only [wanted]; exact e, q⟩
    · rename_i hw; rw [hw]; exact ⟨n, r, e, q⟩
    · cases e
  · intro k
    unfold guO at k
    split at k
    · rename_i hw
      obtain ⟨n, r, e, q⟩ := k
      refine ⟨n, r, ?_, q⟩
      rw [evOps] at e ⊢
      simp only [wanted] at e
      simp only [hw]
      exact e
    · rename_i hw
      obtain ⟨n, r, e, q⟩ := k
      exact ⟨n, r, by rw [evOps]; simp only [hw]; exact e, q⟩
    · cases k

/-- A call among the operations. -/
def callOf (f : Value) (args : List Value) : Option (FuncId × List Value) :=
  match f with
  | .func (.func f) first captured => some (f, first.toList ++ args ++ captured.toList)
  | _ => none
def clO (T : Tab) (c : Option (FuncId × List Value)) (d : Option Nat) (os : List IOper) (K : List Fr) (env : Env) (H : Heap) (Q : Po) : Prop :=
  match c with
  | some (f, args) => Cl T f args H fun out => stO T (some out) d os K env Q
  | none => False
@[go_sem] theorem EvOK_call {d : Option Nat} {f : Operand} {args : List Operand} {os : List IOper} : EvOK T (⟨d, .call f args, none⟩ :: os) K env H Q = clO T (callOf (rd env f) (args.map (rd env))) d os K env H Q := by
  apply propext; constructor
  · rintro ⟨n, r, e, q⟩
    simp only [evOps, wanted, evOp] at e
    unfold callOf clO
    cases hf : rd env f <;> simp only [hf] at e ⊢ <;> try (cases e; done)
    rename_i fn first captured
    cases fn <;> simp only [] at e ⊢ <;> try (cases e; done)
    rename_i fid
    split at e
    · rename_i v H1 ho
      exact ⟨n, _, ho, n, r, e, q⟩
    · rename_i v H1 ho
      cases e
      exact ⟨n, _, ho, q⟩
    · cases e
  · intro k
    unfold callOf clO at k
    cases hf : rd env f <;> simp only [hf] at k
    rename_i fn first captured
    cases fn <;> simp only [] at k
    rename_i fid
    obtain ⟨n, out, e, q⟩ := k
    cases out with
    | ret v H1 =>
      obtain ⟨m, r, e2, q⟩ := q
      refine ⟨max n m, r, ?_, q⟩
      have e3 := evCall_up (T := T) (evN_le (show n ≤ max n m by omega)) e
      have e4 := evOps_up (T := T) (evN_le (show m ≤ max n m by omega)) _ _ _ _ e2
      simp only [evOps, wanted, evOp, hf, e3]
      exact e4
    | pan v H1 =>
      refine ⟨n, (.pan v, env, H1), ?_, q⟩
      have e3 : evCall T (evN T n) fid (first.toList ++ args.map (rd env) ++ captured.toList) H = some (.pan v H1) := e
      simp only [evOps, wanted, evOp, hf, e3]
@[go_sem] theorem callOf_func {f : FuncId} {args : List Value} : callOf (.func (.func f) #[] #[]) args = some (f, args) := by simp [callOf]
@[go_sem] theorem callOf_clo {f : FuncId} {first captured args : List Value} : callOf (.func (.func f) ⟨first⟩ ⟨captured⟩) args = some (f, first ++ args ++ captured) := rfl
@[go_sem] theorem clO_some {f : FuncId} {args : List Value} {d : Option Nat} {os : List IOper} : clO T (some (f, args)) d os K env H Q = Cl T f args H fun out => stO T (some out) d os K env Q := rfl

/-! statements whose order is open -/
theorem EvD_nil {k : Nat} {st : List (Nat × Heap)} {ps : List Pend} {Q : Po} : EvD T [] k env H st ps Q = (ps.all (pendOk ((k, H) :: st)) = true ∧ Q .norm env H) := by
  apply propext; constructor
  · rintro ⟨n, r, e, q⟩
    simp only [evD] at e
    split at e
    · rename_i h; cases e; exact ⟨h, q⟩
    · cases e
  · rintro ⟨h, q⟩; exact ⟨0, (.norm, env, H), by simp only [evD, h, if_true], q⟩
@[go_sem] theorem EvDK_nil {k : Nat} {st : List (Nat × Heap)} {ps : List Pend} : EvDK T [] k K env H st ps Q = (ps.all (pendOk ((k, H) :: st)) = true ∧ KR T K .norm env H Q) := EvD_nil

def stD (T : Tab) (o : Option Out) (d : Option Nat) (os : List DOper) (k : Nat) (K : List Fr) (env : Env) (st : List (Nat × Heap)) (ps : Value → List Pend) (Q : Po) : Prop :=
  match o with
  | some (.ret v H1) => EvDK T os k K (put env d v) H1 st (ps v) Q
  | _ => False
@[go_sem] theorem stD_ret {v : Value} {H1 : Heap} {d : Option Nat} {os : List DOper} {k : Nat} {st : List (Nat × Heap)} {ps : Value → List Pend} : stD T (some (.ret v H1)) d os k K env st ps Q = EvDK T os k K (put env d v) H1 st (ps v) Q := rfl

theorem EvDK_op {o : DOper} {os : List DOper} {k : Nat} {st : List (Nat × Heap)} {ps : List Pend} (hg : o.o.guard = none) (h : isCl o.o.op = false) :
    EvDK T (o :: os) k K env H st ps Q = stD T (evI env H o.o.op) o.o.dst os (k + 1) K env (if o.loud then (k, H) :: st else st) (fun v => pendOf env o v ps) Q := by
  apply propext; constructor
  · rintro ⟨n, r, e, q⟩
    simp only [evD, hg, wanted, evOp_plain h] at e
    unfold stD
    split at e
    · rename_i ho; rw [ho]; exact ⟨n, r, e, q⟩
    · cases e
  · intro k
    unfold stD at k
    split at k
    · rename_i ho
      obtain ⟨n, r, e, q⟩ := k
      exact ⟨n, r, by simp only [evD, hg, wanted, evOp_plain h, ho]; exact e, q⟩
    · cases k
theorem EvDK_plain {d : Option Nat} {i : I} {os : List DOper} {k : Nat} {loud : Bool} {st : List (Nat × Heap)} {ps : List Pend} (h : isCl i = false) :
    EvDK T (⟨⟨d, i, none⟩, loud, []⟩ :: os) k K env H st ps Q = stD T (evI env H i) d os (k + 1) K env (if loud then (k, H) :: st else st) (fun _ => ps) Q := by
  rw [EvDK_op rfl h]
  simp [pendOf]
theorem EvDK_load {d : Option Nat} {m : Option Nat} {a : Operand} {os : List DOper} {k j : Nat} {js : List Nat} {loud : Bool} {st : List (Nat × Heap)} {ps : List Pend} :
    EvDK T (⟨⟨d, .ld m a, none⟩, loud, j :: js⟩ :: os) k K env H st ps Q = stD T (evI env H (.ld m a)) d os (k + 1) K env (if loud then (k, H) :: st else st) (fun v => ⟨m, rd env a, v, j :: js⟩ :: ps) Q := by
  rw [EvDK_op rfl rfl]
  simp [pendOf]

def guD (T : Tab) (b : Option Bool) (d : Option Nat) (i : I) (loud : Bool) (wins : List Nat) (os : List DOper) (k : Nat) (K : List Fr) (env : Env) (H : Heap) (st : List (Nat × Heap)) (ps : List Pend) (Q : Po) : Prop :=
  match b with
  | some true => EvDK T (⟨⟨d, i, none⟩, loud, wins⟩ :: os) k K env H st ps Q
  | some false => EvDK T os (k + 1) K (put env d undef) H (if loud then (k, H) :: st else st) ps Q
  | none => False
section
variable {d : Option Nat} {i : I} {os : List DOper} {k : Nat} {loud : Bool} {wins : List Nat} {st : List (Nat × Heap)} {ps : List Pend}
@[go_sem] theorem guD_true : guD T (some true) d i loud wins os k K env H st ps Q = EvDK T (⟨⟨d, i, none⟩, loud, wins⟩ :: os) k K env H st ps Q := rfl
@[go_sem] theorem guD_false : guD T (some false) d i loud wins os k K env H st ps Q = EvDK T os (k + 1) K (put env d undef) H (if loud then (k, H) :: st else st) ps Q := rfl
@[go_sem] theorem EvDK_guard {g : Nat × Bool} : EvDK T (⟨⟨d, i, some g⟩, loud, wins⟩ :: os) k K env H st ps Q = guD T (wanted env (some g)) d i loud wins os k K env H st ps Q := by
  apply propext; constructor
  · rintro ⟨n, r, e, q⟩
    rw [evD] at e
    simp only at e
    unfold guD
    split at e
    · rename_i hw; rw [hw]; exact ⟨n, r, by rw [evD]; simp only [wanted]; exact e, q⟩
    · rename_i hw; rw [hw]; exact ⟨n, r, e, q⟩
    · cases e
  · intro k
    unfold guD at k
    split at k
    · rename_i hw
      obtain ⟨n, r, e, q⟩ := k
      refine ⟨n, r, ?_, q⟩
      rw [evD] at e ⊢
      simp only [wanted] at e
      simp only [hw]
      exact e
    · rename_i hw
      obtain ⟨n, r, e, q⟩ := k
      exact ⟨n, r, by rw [evD]; simp only [hw]; exact e, q⟩
    · cases k

def stC (T : Tab) (o : Out) (d : Option Nat) (os : List DOper) (k : Nat) (K : List Fr) (env : Env) (st : List (Nat × Heap)) (ps : List Pend) (Q : Po) : Prop :=
  match o with
  | .ret v H1 => EvDK T os k K (put env d v) H1 st ps Q
  | _ => False
@[go_sem] theorem stC_ret {v : Value} {H1 : Heap} : stC T (.ret v H1) d os k K env st ps Q = EvDK T os k K (put env d v) H1 st ps Q := rfl
def clD (T : Tab) (c : Option (FuncId × List Value)) (d : Option Nat) (os : List DOper) (k : Nat) (K : List Fr) (env : Env) (H : Heap) (st : List (Nat × Heap)) (ps : List Pend) (Q : Po) : Prop :=
  match c with
  | some (f, args) => Cl T f args H fun out => stC T out d os k K env st ps Q
  | none => False
@[go_sem] theorem clD_some {f : FuncId} {args : List Value} : clD T (some (f, args)) d os k K env H st ps Q = Cl T f args H fun out => stC T out d os k K env st ps Q := rfl
@[go_sem] theorem EvDK_call {f : Operand} {args : List Operand} :
    EvDK T (⟨⟨d, .call f args, none⟩, loud, wins⟩ :: os) k K env H st ps Q = clD T (callOf (rd env f) (args.map (rd env))) d os (k + 1) K env H (if loud then (k, H) :: st else st) ps Q := by
  have hp : ∀ v, pendOf env ⟨⟨d, .call f args, none⟩, loud, wins⟩ v ps = ps := by intro v; unfold pendOf; cases wins <;> rfl
  apply propext; constructor
  · rintro ⟨n, r, e, q⟩
    simp only [evD, wanted, evOp, hp] at e
    unfold callOf clD
    cases hf : rd env f <;> simp only [hf] at e ⊢ <;> try (cases e; done)
    rename_i fn first captured
    cases fn <;> simp only [] at e ⊢ <;> try (cases e; done)
    rename_i fid
    split at e
    · rename_i v H1 ho
      exact ⟨n, _, ho, n, r, e, q⟩
    · cases e
  · intro k
    unfold callOf clD at k
    cases hf : rd env f <;> simp only [hf] at k
    rename_i fn first captured
    cases fn <;> simp only [] at k
    rename_i fid
    obtain ⟨n, out, e, q⟩ := k
    cases out with
    | ret v H1 =>
      obtain ⟨m, r, e2, q⟩ := q
      refine ⟨max n m, r, ?_, q⟩
      have e3 := evCall_up (T := T) (evN_le (show n ≤ max n m by omega)) e
      have e4 := evD_up (T := T) (evN_le (show m ≤ max n m by omega)) _ _ _ _ _ _ _ e2
      simp only [evD, wanted, evOp, hf, e3, hp]
      exact e4
    | pan v H1 => cases q
end

/-- A piece of the code by itself. -/
theorem EvK_cut {c : C} {K1 : List Fr} {R : Po} (h : EvK T c K1 env H R) (k : ∀ ex env' H', R ex env' H' → KR T K ex env' H' Q) : EvK T c (K1 ++ K) env H Q := by
  unfold EvK at h ⊢
  obtain ⟨n, r, e, q⟩ := h
  refine ⟨n, r, e, ?_⟩
  show KR T (K1 ++ K) r.1 r.2.1 r.2.2 Q
  rw [KR_append]
  revert q
  generalize r.1 = ex
  generalize r.2.1 = env'
  generalize r.2.2 = H'
  clear e
  revert ex env' H'
  have kr : ∀ (K1 : List Fr) {R R' : Po}, (∀ ex env' H', R ex env' H' → R' ex env' H') → ∀ ex env' H', KR T K1 ex env' H' R → KR T K1 ex env' H' R' := by
    intro K1
    induction K1 with
    | nil => intro R R' hr ex env' H'; simp only [KR]; exact hr _ _ _
    | cons f K1 ih =>
      intro R R' hr ex env' H' q
      cases f with
      | seq b => cases ex <;> simp only [KR] at q ⊢ <;> first | exact q.mono (fun _ _ _ => ih hr _ _ _) | exact ih hr _ _ _ q
      | block id =>
        cases ex <;> simp only [KR] at q ⊢ <;> try exact ih hr _ _ _ q
        split at q <;> rename_i hj <;> simp only [hj, if_true, if_false] <;> exact ih hr _ _ _ q
      | loop g c => cases ex <;> simp only [KR] at q ⊢ <;> first | exact q.mono (fun _ _ _ => ih hr _ _ _) | exact ih hr _ _ _ q
  intro ex env' H' q
  exact kr K1 k _ _ _ q

/-- How a function's run ends. -/
def finO (rs : List RV) (Q : Out → Prop) : Po := fun ex env H =>
  match ex with
  | .norm | .ret => ∃ v, results rs env H = some v ∧ Q (.ret v H)
  | .pan v => Q (.pan v H)
  | .exit _ => False
theorem Cl_of {f : FuncId} {fn : IFun} {args : List Value} {Q : Out → Prop} (hf : T.code f = some fn) (h : EvK T fn.body [] (args ++ List.replicate (fn.ntmps - args.length) undef) H (finO fn.results Q)) : Cl T f args H Q := by
  obtain ⟨n, ⟨ex, env', H'⟩, e, q⟩ := h
  simp only [KR] at q
  cases ex with
  | norm => obtain ⟨v, hv, q⟩ := q; exact ⟨n, _, by simp only [run, evCall, hf, e, hv, Option.map_some], q⟩
  | ret => obtain ⟨v, hv, q⟩ := q; exact ⟨n, _, by simp only [run, evCall, hf, e, hv, Option.map_some], q⟩
  | pan v => exact ⟨n, _, by simp only [run, evCall, hf, e], q⟩
  | exit j => cases q
@[go_sem] theorem finO_norm {rs : List RV} {Q : Out → Prop} : finO rs Q .norm env H = ∃ v, results rs env H = some v ∧ Q (.ret v H) := rfl
@[go_sem] theorem finO_ret {rs : List RV} {Q : Out → Prop} : finO rs Q .ret env H = ∃ v, results rs env H = some v ∧ Q (.ret v H) := rfl
@[go_sem] theorem finO_pan {rs : List RV} {Q : Out → Prop} {v : Value} : finO rs Q (.pan v) env H = Q (.pan v H) := rfl
theorem Cl_intr {f : FuncId} {args : List Value} {Q : Out → Prop} {out : Out} (hf : T.code f = none) (hd : T.dfn f = none) (h : T.intr f args H = some out) (q : Q out) : Cl T f args H Q :=
  ⟨0, out, by simp only [run, evCall, hf, hd, h], q⟩
end

end Ve
end Go.Proofs.YtnociodpfmlglaaGreatDoor
