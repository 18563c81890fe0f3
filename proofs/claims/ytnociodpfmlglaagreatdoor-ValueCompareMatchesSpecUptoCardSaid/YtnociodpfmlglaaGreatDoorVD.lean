/-
  Calls, and statements whose operations come in one order.
-/
import Derived.Test.YtnociodpfmlglaaGreatDoorVC
import Derived.Recover
import Derived.Laws.Externs
import Derived.Lib.Bytealg
set_option linter.unusedVariables false
set_option linter.unusedSimpArgs false
namespace Go.Proofs.YtnociodpfmlglaaGreatDoor
namespace Ve
open Go Go.RowKit

def litOk : Value → Bool
  | .agg cs => cs.toList.all isLit
  | v => isLit v

def opdOk (P : Program) : Operand → Bool
  | .const v => litOk v
  | .global g => decide (g < P.globals.size)
  | _ => true

def plainOp (P : Program) (gs : Bool) (o : Oper) : Option I :=
  match compOp P gs o with
  | some i => if isCall i then none else some i
  | none => none

/-- An operation, calls and panics included. -/
def compFull (P : Program) (gs : Bool) (o : Oper) : Option I :=
  if o.op.operands.all (opdOk P) then
    match o.op with
    | .panic x => some (.pan x)
    | .call c => match c.callee with | .value f => some (.call f c.args.toList) | _ => plainOp P gs o
    | _ => plainOp P gs o
  else none

theorem plainOp_spec {P : Program} {gs : Bool} {o : Oper} {i : I} (h : plainOp P gs o = some i) : isCall i = false ∧ compOp P gs o = some i := by
  unfold plainOp at h
  split at h
  · split at h
    · cases h
    · rename_i e hk; cases h; exact ⟨by simpa using hk, e⟩
  · cases h

theorem compFull_spec {P : Program} {gs : Bool} {o : Oper} {i : I} (h : compFull P gs o = some i) : o.op.operands.all (opdOk P) = true ∧
    ((isCall i = false ∧ compOp P gs o = some i) ∨ (∃ x, o.op = .panic x ∧ i = .pan x) ∨ (∃ c f, o.op = .call c ∧ c.callee = .value f ∧ i = .call f c.args.toList)) := by
  unfold compFull at h
  split at h
  · rename_i h0
    refine ⟨h0, ?_⟩
    split at h
    · rename_i x hop; cases h; exact .inr (.inl ⟨x, hop, rfl⟩)
    · rename_i c hop
      split at h
      · rename_i f hf; cases h; exact .inr (.inr ⟨c, f, hop, hf, rfl⟩)
      · exact .inl (plainOp_spec h)
    · exact .inl (plainOp_spec h)
  · cases h

/-- How a call of the model stands to what the deterministic machine says of it. -/
def OutRel (α : Al) (w0 : World) : Out → Ending → World → Prop
  | .ret v H, e, w => ∃ α' v', α.le α' ∧ e = .returned v' ∧ VR α' v v' ∧ Sim α' w0 H w
  | .pan v H, e, w => ∃ α' v', α.le α' ∧ e = .panicked [{ v := v', recovered := false }] ∧ VR α' v v' ∧ Sim α' w0 H w

/-- A call, entered or done at once. -/
def CallSem (P : Program) (f : FuncId) (args : Array Value) (w : World) (R : Ending → World → Prop) : Prop :=
  ((callFunc f args).run P w = .ok (.enter f args) w ∧ Calls P f args w R) ∨ ∃ v w', (callFunc f args).run P w = .ok (.value v) w' ∧ R (.returned v) w'

def CallOk (P : Program) (T : Tab) (E : C → Env → Heap → Option (Ex × Env × Heap)) : Prop :=
  ∀ f args H out, evCall T E f args H = some out → ∀ α w0 w args', (∀ g, g < P.globals.size → α g = some (g, 0)) → Sim α w0 H w → VRs α args args' → CallSem P f ⟨args'⟩ w (OutRel α w0 out)

/-- The states of the two machines. -/
structure St (P : Program) (D : List Deferred) (α : Al) (w0 : World) (env : Env) (H : Heap) (a : Act) (w : World) : Prop where
  env : VRs α env a.tmps.toList
  sim : Sim α w0 H w
  glob : ∀ g, g < P.globals.size → α g = some (g, 0)
  defs : a.defers = D

section
variable {P : Program} {D : List Deferred} {α : Al} {env : Env} {w0 w : World} {H : Heap} {a : Act} {T : Tab} {E : C → Env → Heap → Option (Ex × Env × Heap)}

theorem VRs.getD {l l' : List Value} (h : VRs α l l') (t : Nat) : VR α (l.getD t undef) (l'.getD t undef) := by
  rw [List.getD_eq_getElem?_getD, List.getD_eq_getElem?_getD]
  cases e : l[t]? with
  | none =>
    have : l'[t]? = none := by
      rw [List.getElem?_eq_none_iff] at e ⊢
      rw [h.length]; exact e
    rw [this]; exact VR.undef α
  | some v =>
    obtain ⟨v', e', hr⟩ := h.get e
    rw [e']; exact hr

theorem getD_list (x : Array Value) (t : Nat) : x.getD t undef = x.toList.getD t undef := by
  rw [List.getD_eq_getElem?_getD, Array.getElem?_toList, Array.getD_eq_getD_getElem?]

theorem litOk_rel {v : Value} (h : litOk v = true) : VR α v v := by
  cases v with
  | agg cs => obtain ⟨l⟩ := cs; exact .agg (VRs.lits (by simpa [litOk] using h))
  | _ => exact VR.lit (by simpa [litOk] using h)

theorem rd_rel (he : VRs α env a.tmps.toList) (hg : ∀ g, g < P.globals.size → α g = some (g, 0)) {x : Operand} (hx : opdOk P x = true) : VR α (rd env x) (a.eval x) := by
  cases x with
  | tmp t =>
    simp only [rd, Act.eval, getD_list]
    exact he.getD t
  | const v => exact litOk_rel hx
  | global g => exact .ptr0 (hg g (by simpa [opdOk] using hx))
  | func f => exact .func _ rfl .nil .nil

/-- One operation, in the model's own words. -/
theorem op_wp (hk : CallOk P T E) {gs : Bool} {o : Oper} {i : I} (hc : compFull P gs o = some i) (hρ : ∀ x ∈ o.op.operands, VR α (rd env x) (a.eval x)) (hs : Sim α w0 H w) (hg : ∀ g, g < P.globals.size → α g = some (g, 0)) {out : Out} (he : evOp T E env H i = some out)
    {next : Act → World → Prop} {Q : Exit → Act → World → Prop}
    (h1 : ∀ v H', out = .ret v H' → ∀ α' v' w', α.le α' → VR α' v v' → Sim α' w0 H' w' → next (a.put o.dst v') w')
    (h2 : ∀ v H', out = .pan v H' → ∀ α' v' w', α.le α' → VR α' v v' → Sim α' w0 H' w' → Q (.panic [{ v := v', recovered := false }]) a w') :
    o.wp P a w next Q := by
  obtain ⟨h0, h | ⟨x, hop, rfl⟩ | ⟨c, f, hop, hf, rfl⟩⟩ := compFull_spec hc
  · obtain ⟨hkk, hcc⟩ := h
    have he' : evI env H i = some out := by
      cases i <;> first | exact he | cases hkk
    have fin : ∀ v' w', Done ((execOp a.eval o).run P w) v' w' → ∀ α' v H', out = .ret v H' → α.le α' → VR α' v v' → Sim α' w0 H' w' → o.wp P a w next Q := by
      intro v' w' hd α' v H' ho hl hv hs'
      have := h1 v H' ho α' v' w' hl hv hs'
      unfold Oper.wp
      rcases hd with hd | ⟨hd, rfl⟩
      · rw [hd]; exact this
      · rw [hd]; exact this
    by_cases hq : isQuiet i = true
    · obtain ⟨v, v', ho, _, hv, hd⟩ := quiet_sound hcc hq hρ H out he'
      exact fin v' w (hd w) α v H ho (Al.le_refl _) hv hs
    · obtain ⟨α', v, v', H', w', ho, hl, hv, hs', hd⟩ := loud_sound hcc (by simpa using hq) hkk hρ hs he'
      exact fin v' w' hd α' v H' ho hl hv hs'
  · obtain ⟨v, v', ho, hv, hrun⟩ := pan_sound (w := w) hop hρ he
    unfold Oper.wp
    rw [hrun]
    exact h2 v H ho α v' w (Al.le_refl _) hv hs
  · simp only [evOp] at he
    split at he
    · rename_i g first captured hfv
      have hr := hρ f (by simp [hop, Op.operands, Call.operands, hf])
      rw [hfv] at hr
      have hargs : ∀ x ∈ c.args.toList, VR α (rd env x) (a.eval x) := fun x hx => hρ x (by simp [hop, Op.operands, Call.operands]; exact .inr (by simpa using hx))
      generalize hrf : a.eval f = rf at hr
      obtain ⟨first⟩ := first
      obtain ⟨captured⟩ := captured
      cases hr with
      | func _ hfn ha hcap =>
        rename_i fa ca
        have hall := (ha.append (VRs.map hargs)).append hcap
        have hsem := hk g _ H out he α w0 w _ hg hs hall
        have hrun : (execOp a.eval o).run P w = (callFunc g ⟨fa ++ c.args.toList.map a.eval ++ ca⟩).run P w := by
          simp only [execOp, hop, resolve, hf, hrf, Deferred.ofValue, Sem.run_bind, Sem.run_pure, Result.andThen_ok, invoke]
          congr 2
          apply Array.ext'; simp
        unfold Oper.wp
        rw [hrun]
        rcases hsem with ⟨hen, hcalls⟩ | ⟨v', w', hen, hR⟩
        · rw [hen]
          show Calls P g _ w _
          refine hcalls.mono fun e w' hR => ?_
          cases out with
          | ret v H' =>
            obtain ⟨α', v', hl, rfl, hv, hs'⟩ := hR
            exact h1 v H' rfl α' v' w' hl hv hs'
          | pan v H' =>
            obtain ⟨α', v', hl, rfl, hv, hs'⟩ := hR
            exact h2 v H' rfl α' v' w' hl hv hs'
        · rw [hen]
          cases out with
          | ret v H' =>
            obtain ⟨α', v'', hl, hee, hv, hs'⟩ := hR
            cases hee
            exact h1 v H' rfl α' v' w' hl hv hs'
          | pan v H' =>
            obtain ⟨α', v'', hl, hee, hv, hs'⟩ := hR
            cases hee
    · cases he

def guardOf (ops : Array Oper) : Option (Nat × Bool) → Option (Option (Nat × Bool))
  | none => some none
  | some (j, want) =>
    match (ops[j]?).bind (·.dst) with
    | some d => some (some (d, want))
    | none => none

/-- Is a row's slice made for an append alone? -/
def forAppend (ops : Array Oper) (o : Oper) : Bool :=
  match o.dst with
  | some t => ops.toList.any fun q =>
    match q.op with
    | .call c => (match c.callee, c.args.toList with | .builtin .append, [_, .tmp t'] => t == t' | _, _ => false)
    | _ => false
  | none => false

def compIO (P : Program) (ops : Array Oper) (o : Oper) : Option IOper :=
  match compFull P (forAppend ops o) o, guardOf ops o.guard with
  | some i, some g => some ⟨o.dst, i, g⟩
  | _, _ => none

def compIOs (P : Program) (ops : Array Oper) : List Oper → Option (List IOper)
  | [] => some []
  | o :: r => match compIO P ops o, compIOs P ops r with | some i, some l => some (i :: l) | _, _ => none

theorem wanted_rel {ops : Array Oper} {o : Oper} {g : Option (Nat × Bool)} (hg : guardOf ops o.guard = some g) (hv : ∀ t w, g = some (t, w) → VR α (env.getD t undef) (a.tmps.toList.getD t undef)) {b : Bool} (hw : wanted env g = some b) :
    Region.wanted o (yielded ops a.tmps) = b := by
  unfold guardOf at hg
  unfold Region.wanted
  split at hg
  · rename_i e
    cases hg
    simp [wanted] at hw
    rw [e, ← hw]
  · rename_i j want e
    rw [e]
    split at hg
    · rename_i d hd
      cases hg
      have hr := hv d want rfl
      simp only [wanted] at hw
      have hy : ∀ v, a.tmps.toList.getD d undef = v → yielded ops a.tmps j = (match v with | .bool b => some b | _ => none) := by
        intro v hv
        unfold yielded
        rw [hd]
        simp only [Option.bind_some]
        rw [List.getD_eq_getElem?_getD, Array.getElem?_toList] at hv
        cases e2 : a.tmps[d]? with
        | none => rw [e2] at hv; simp at hv; rw [← hv]; rfl
        | some u => rw [e2] at hv; simp at hv; rw [← hv]; cases u <;> rfl
      split at hw
      · rename_i q e2
        rw [e2] at hr
        have := hy _ hr.bool_inv
        simp only [this]
        simp only [Option.some.injEq] at hw
        rw [← hw]
        cases q <;> cases want <;> rfl
      · rename_i e2
        rw [e2] at hr
        have hu : a.tmps.toList.getD d undef = .tuple ⟨[]⟩ := by
          generalize a.tmps.toList.getD d undef = r at hr
          cases hr with
          | tup h => cases h; rfl
        have := hy _ hu
        simp only [this]
        simp only [Option.some.injEq] at hw
        rw [← hw]
        rfl
      · cases hw
    · cases hg

theorem put_rel (he : VRs α env a.tmps.toList) {v v' : Value} (hv : VR α v v') (d : Option Nat) : VRs α (put env d v) (a.put d v').tmps.toList := by
  cases d with
  | none => exact he
  | some d =>
    simp only [put, Act.put]
    have := VRs.set hv d he
    simpa using this

theorem put_defs (d : Option Nat) (v : Value) : (a.put d v).defers = a.defers := by cases d <;> rfl

/-- What lies behind a run of code. -/
def ExRel (α : Al) : Ex → Exit → Prop
  | .norm, e => e = .normal
  | .exit id, e => e = .exit id
  | .ret, e => e = .ret
  | .pan v, e => ∃ v', e = .panic [{ v := v', recovered := false }] ∧ VR α v v'

def Post (P : Program) (D : List Deferred) (α : Al) (w0 : World) (r : Ex × Env × Heap) (Q : Exit → Act → World → Prop) : Prop :=
  ∀ α' e a' w', α.le α' → ExRel α' r.1 e → St P D α' w0 r.2.1 r.2.2 a' w' → Q e a' w'

theorem Post.mono {β : Al} {r : Ex × Env × Heap} {Q : Exit → Act → World → Prop} (h : Post P D α w0 r Q) (hl : α.le β) : Post P D β w0 r Q :=
  fun α' e a' w' hl' he hs => h α' e a' w' (Al.le_trans hl hl') he hs

theorem glob_mono {β : Al} (hg : ∀ g, g < P.globals.size → α g = some (g, 0)) (hl : α.le β) : ∀ g, g < P.globals.size → β g = some (g, 0) := fun g h => (hl.at' g _ (hg g h)).1

theorem compIO_spec {ops : Array Oper} {o : Oper} {io : IOper} (h : compIO P ops o = some io) : compFull P (forAppend ops o) o = some io.op ∧ guardOf ops o.guard = some io.guard ∧ io.dst = o.dst := by
  unfold compIO at h
  split at h
  · rename_i i g e1 e2; cases h; exact ⟨e1, e2, rfl⟩
  · cases h

/-- Operations in the text's order. -/
theorem ops_sound (hk : CallOk P T E) {ops : Array Oper} {Q : Exit → Act → World → Prop} : ∀ (rest : List Oper) (k : Nat) (l : List IOper), ops.toList.drop k = rest → compIOs P ops rest = some l →
    ∀ (α : Al) (env : Env) (H : Heap) (a : Act) (w : World) (r : Ex × Env × Heap), St P D α w0 env H a w → evOps T E l env H = some r → Post P D α w0 r Q → wpOps P ops Q (List.range' k rest.length) a w
  | [], k, l, hr, hl, α, env, H, a, w, r, hst, he, hQ => by
    simp only [compIOs, Option.some.injEq] at hl
    subst hl
    simp only [evOps, Option.some.injEq] at he
    subst he
    simp only [List.length_nil, List.range'_zero, wpOps]
    exact hQ α .normal a w (Al.le_refl _) rfl hst
  | o :: rest, k, l, hr, hl, α, env, H, a, w, r, hst, he, hQ => by
    unfold compIOs at hl
    split at hl
    · rename_i io l' e1 e2
      cases hl
      obtain ⟨hc, hg, hdst⟩ := compIO_spec e1
      have hget : ops[k]? = some o := by
        have : (ops.toList.drop k)[0]? = some o := by rw [hr]; rfl
        rw [List.getElem?_drop] at this
        simpa using this
      have hdrop : ops.toList.drop (k + 1) = rest := by
        have : (ops.toList.drop k).drop 1 = rest := by rw [hr]; rfl
        rw [List.drop_drop] at this
        exact this
      have ih := ops_sound hk (Q := Q) rest (k + 1) l' hdrop e2
      simp only [List.length_cons, List.range'_succ, wpOps, hget]
      unfold evOps at he
      have hwv : ∀ t w', io.guard = some (t, w') → VR α (env.getD t undef) (a.tmps.toList.getD t undef) := fun t _ _ => hst.env.getD t
      split at he
      · rename_i hw
        rw [if_pos (wanted_rel hg hwv hw)]
        refine .inl ?_
        have hρ : ∀ x ∈ o.op.operands, VR α (rd env x) (a.eval x) := fun x hx => rd_rel hst.env hst.glob (by
          have := (compFull_spec hc).1
          simp only [Array.all_eq_true'] at this
          exact this x hx)
        split at he
        · rename_i v H' hev
          refine op_wp hk hc hρ hst.sim hst.glob hev ?_ ?_
          · intro v2 H2 ho α' v' w' hle hv hs'
            cases ho
            refine ih α' _ _ _ w' r ⟨?_, hs', glob_mono hst.glob hle, by rw [put_defs]; exact hst.defs⟩ he (hQ.mono hle)
            rw [hdst]
            exact put_rel (hst.env.mono hle) hv _
          · intro v2 H2 ho; cases ho
        · rename_i v H' hev
          simp only [Option.some.injEq] at he
          subst he
          refine op_wp hk hc hρ hst.sim hst.glob hev ?_ ?_
          · intro v2 H2 ho; cases ho
          · intro v2 H2 ho α' v' w' hle hv hs'
            cases ho
            exact hQ α' _ a w' hle ⟨v', rfl, hv⟩ ⟨hst.env.mono hle, hs', glob_mono hst.glob hle, hst.defs⟩
        · cases he
      · rename_i hw
        rw [if_neg (by rw [wanted_rel hg hwv hw]; simp)]
        refine ih α _ H _ w r ⟨?_, hst.sim, hst.glob, by rw [put_defs]; exact hst.defs⟩ he hQ
        rw [hdst]
        exact put_rel hst.env (VR.undef α) _
      · cases he
    · cases hl

end
end Ve
end Go.Proofs.YtnociodpfmlglaaGreatDoor

/-
  Statements whose order is open: whatever order their edges allow, the end is that of the text's order.
-/
set_option linter.unusedVariables false
set_option linter.unusedSimpArgs false
namespace Go.Proofs.YtnociodpfmlglaaGreatDoor
namespace Ve
open Go Go.RowKit

/-! what comes ahead of what -/
def binding (o : Oper) : List Nat := (o.after.toList.filter (Region.binds .any)).map (·.on)

def maskOf (acc : List Nat) : List Nat → Nat
  | [] => 0
  | e :: r => (2 ^ e ||| acc.getD e 0) ||| maskOf acc r

def masks : List Oper → List Nat → List Nat
  | [], acc => acc
  | o :: r, acc => masks r (acc ++ [maskOf acc (binding o)])

theorem maskOf_bit {acc : List Nat} {j : Nat} : ∀ {es : List Nat}, (maskOf acc es).testBit j = true → ∃ e ∈ es, j = e ∨ (acc.getD e 0).testBit j = true
  | [], h => by simp [maskOf] at h
  | e :: r, h => by
    simp only [maskOf, Nat.testBit_or, Bool.or_eq_true] at h
    rcases h with (h | h) | h
    · refine ⟨e, by simp, .inl ?_⟩
      rw [Nat.testBit_two_pow] at h
      simpa using (of_decide_eq_true h).symm
    · exact ⟨e, by simp, .inr h⟩
    · obtain ⟨e', h1, h2⟩ := maskOf_bit h
      exact ⟨e', by simp [h1], h2⟩

theorem masks_length : ∀ (os : List Oper) (acc : List Nat), (masks os acc).length = acc.length + os.length
  | [], acc => by simp [masks]
  | o :: r, acc => by rw [masks, masks_length]; simp; omega

theorem masks_get_lt : ∀ (os : List Oper) (acc : List Nat) (k : Nat), k < acc.length → (masks os acc).getD k 0 = acc.getD k 0
  | [], acc, k, h => rfl
  | o :: r, acc, k, h => by
    rw [masks, masks_get_lt r _ k (by simp; omega)]
    rw [List.getD_eq_getElem?_getD, List.getD_eq_getElem?_getD, List.getElem?_append_left h]

/-- Closed under what comes ahead. -/
def Closed (ops : List Oper) (S : Nat → Prop) : Prop := ∀ i o, ops[i]? = some o → S i → ∀ e ∈ binding o, S e

theorem masks_closed {S : Nat → Prop} : ∀ (pre os : List Oper) (acc : List Nat), acc.length = pre.length → Closed (pre ++ os) S → (∀ k, k < acc.length → ∀ j, (acc.getD k 0).testBit j = true → S k → S j) →
    (∀ k, k < (masks os acc).length → ∀ j, ((masks os acc).getD k 0).testBit j = true → S k → S j)
  | pre, [], acc, hl, hS, h => h
  | pre, o :: r, acc, hl, hS, h => by
    rw [masks]
    refine masks_closed (pre ++ [o]) r _ (by simp [hl]) (by simpa using hS) ?_
    intro k hk j hj hSk
    by_cases e : k < acc.length
    · rw [List.getD_eq_getElem?_getD, List.getElem?_append_left e, ← List.getD_eq_getElem?_getD] at hj
      exact h k e j hj hSk
    · have : k = acc.length := by simp at hk; omega
      subst this
      rw [List.getD_eq_getElem?_getD, List.getElem?_append_right (Nat.le_refl _)] at hj
      simp at hj
      have hedge := hS acc.length o (by rw [hl]; simp) hSk
      obtain ⟨e', he', hje⟩ := maskOf_bit hj
      rcases hje with rfl | hje
      · exact hedge _ he'
      · have hlt : e' < acc.length := by
          rcases Nat.lt_or_ge e' acc.length with h1 | h1
          · exact h1
          · rw [List.getD_eq_getElem?_getD, List.getElem?_eq_none h1] at hje; simp at hje
        exact h e' hlt j hje (hedge _ he')

/-- What stands in the mask of an operation all of whose direct forerunners are in S is in S. -/
theorem masks_ready {S : Nat → Prop} {os : List Oper} (hS : Closed os S) {i : Nat} {o : Oper} (ho : os[i]? = some o) (hr : ∀ e ∈ binding o, S e) {j : Nat} (hj : ((masks os []).getD i 0).testBit j = true) : S j := by
  have key := masks_closed (S := fun k => S k) [] os [] rfl (by simpa using hS) (by intro k hk; simp at hk)
  -- the mask of place i is laid of the binding edges
  have hlen : (masks os []).length = os.length := by rw [masks_length]; simp
  have hi : i < os.length := (List.getElem?_eq_some_iff.1 ho).1
  have split : ∀ (os : List Oper) (acc : List Nat) (i : Nat) (o : Oper), os[i]? = some o → ∃ acc' : List Nat, acc'.length = acc.length + i ∧ (∀ k, k < acc'.length → acc'.getD k 0 = (masks os acc).getD k 0) ∧ (masks os acc).getD (acc.length + i) 0 = maskOf acc' (binding o) := by
    intro os
    induction os with
    | nil => intro acc i o h; simp at h
    | cons a r ih =>
      intro acc i o h
      cases i with
      | zero =>
        simp at h; subst h
        refine ⟨acc, by simp, ?_, ?_⟩
        · intro k hk; exact (masks_get_lt (a :: r) acc k hk).symm
        · rw [masks, masks_get_lt _ _ _ (by simp)]
          simp [List.getD_eq_getElem?_getD]
      | succ i =>
        simp at h
        obtain ⟨acc', h1, h2, h3⟩ := ih (acc ++ [maskOf acc (binding a)]) i o h
        refine ⟨acc', by simp at h1; omega, by rw [masks]; exact h2, ?_⟩
        rw [masks]
        have : (acc ++ [maskOf acc (binding a)]).length + i = acc.length + (i + 1) := by simp; omega
        rw [← this]; exact h3
  obtain ⟨acc', h1, h2, h3⟩ := split os [] i o ho
  simp only [List.length_nil, Nat.zero_add] at h1 h3
  rw [h3] at hj
  obtain ⟨e, he, hje⟩ := maskOf_bit hj
  rcases hje with rfl | hje
  · exact hr _ he
  · have hlt : e < acc'.length := by
      rcases Nat.lt_or_ge e acc'.length with g | g
      · exact g
      · rw [List.getD_eq_getElem?_getD, List.getElem?_eq_none g] at hje; simp at hje
    rw [h2 e hlt] at hje
    exact key e (by omega) j hje (hr _ he)

theorem masks_in {S : Nat → Prop} {os : List Oper} (hS : Closed os S) {i j : Nat} (hi : S i) (hj : ((masks os []).getD i 0).testBit j = true) : S j := by
  rcases Nat.lt_or_ge i (masks os []).length with h | h
  · exact masks_closed (S := fun k => S k) [] os [] rfl (by simpa using hS) (by intro k hk; simp at hk) i h j hj hi
  · rw [List.getD_eq_getElem?_getD, List.getElem?_eq_none h] at hj; simp at hj

/-! the compiled statement -/
def isLd : I → Bool
  | .ld _ _ => true
  | _ => false

def isGsl : I → Bool
  | .gsl _ _ _ => true
  | _ => false

def loudI (i : I) : Bool := !isQuiet i && !isLd i && !isGsl i

def namesOf (o : Oper) (g : Option (Nat × Bool)) : List Nat :=
  o.dst.toList ++ (o.op.operands.toList.filterMap fun | .tmp t => some t | _ => none) ++ (g.map (·.1)).toList

/-- Of each two operations, of which one writes what the other one names, one comes ahead of the other by the edges. -/
def tempsOk (M : List Nat) (row : List (Option Nat × List Nat)) : Bool :=
  row.zipIdx.all fun (a, i) => row.zipIdx.all fun (b, j) =>
    i == j || (match a.1 with | some t => !b.2.contains t || (M.getD (max i j) 0).testBit (min i j) | none => true)

def loudOk (M : List Nat) (ls : List Bool) : Bool :=
  ls.zipIdx.all fun (a, i) => ls.zipIdx.all fun (b, j) => !(decide (i < j) && a && b) || (M.getD j 0).testBit i

def edgesOk (ops : List Oper) : Bool := ops.zipIdx.all fun (o, i) => (binding o).all (· < i)

/-- The places between which a load at place i may come up, but for its own one. -/
def winsOf (M : List Nat) (ls : List Bool) (i : Nat) : List Nat :=
  (List.range (ls.length + 1)).filter fun j =>
    (j == ls.length || ls.getD j false) &&
    ls.zipIdx.all (fun (b, l) => !b || ((!(M.getD i 0).testBit l || decide (l < j)) && (!(M.getD l 0).testBit i || decide (j ≤ l)))) &&
    !((decide (i ≤ j)) && (ls.zipIdx.all fun (b, l) => !b || decide (l < i) || decide (j ≤ l)))

def markD (M : List Nat) (ls : List Bool) : List IOper → Nat → List DOper
  | [], _ => []
  | o :: r, i => ⟨o, loudI o.op, if isLd o.op then winsOf M ls i else []⟩ :: markD M ls r (i + 1)

def compD (P : Program) (ops : Array Oper) : Option (List DOper) :=
  match compIOs P ops ops.toList with
  | none => none
  | some l =>
    let M := masks ops.toList []
    let ls := l.map fun o => loudI o.op
    if P.follows .mixedOrders && edgesOk ops.toList && loudOk M ls && tempsOk M ((ops.toList.zip l).map fun (o, x) => (o.dst, namesOf o x.guard)) then
      some (markD M ls l 0)
    else none

end Ve
end Go.Proofs.YtnociodpfmlglaaGreatDoor

/-
  Statements whose order is open, second part: the proof.
-/
set_option linter.unusedVariables false
set_option linter.unusedSimpArgs false
namespace Go.Proofs.YtnociodpfmlglaaGreatDoor
namespace Ve
open Go Go.RowKit

theorem beqV_eq {a b : Value} (h : beqV a b = true) : a = b := by
  unfold beqV at h
  split at h <;> simp at h
  · rw [h]
  · rw [h.1, h.2]
  · rename_i x y
    have : x = y := by apply ByteArray.ext; apply Array.ext'; exact h
    rw [this]
  · rfl
  · obtain ⟨⟨h1, h2⟩, h3⟩ := h; rw [h1, h2, h3]
  · rw [h.1, h.2]
  · obtain ⟨⟨⟨⟨h1, h2⟩, h3⟩, h4⟩, h5⟩ := h; rw [h1, h2, h3, h4, h5]
  · rfl
  · rfl

theorem beqL_eq : ∀ {a b : List Value}, beqL a b = true → a = b
  | [], [], _ => rfl
  | [], _ :: _, h => by simp [beqL] at h
  | _ :: _, [], h => by simp [beqL] at h
  | a :: x, b :: y, h => by
    simp only [beqL, Bool.and_eq_true] at h
    rw [beqV_eq h.1, beqL_eq h.2]

theorem beqA_eq {a b : Value} (h : beqA a b = true) : a = b := by
  unfold beqA at h
  split at h
  · rename_i x y
    have := beqL_eq h
    have : x = y := Array.ext' this
    rw [this]
  · exact beqV_eq h

section
variable {P : Program} {T : Tab} {E : C → Env → Heap → Option (Ex × Env × Heap)}

def StepD (T : Tab) (E : C → Env → Heap → Option (Ex × Env × Heap)) (x : IOper) (s s' : Env × Heap) : Prop :=
  (∃ v, wanted s.1 x.guard = some true ∧ evOp T E s.1 s.2 x.op = some (.ret v s'.2) ∧ s'.1 = put s.1 x.dst v) ∨ (wanted s.1 x.guard = some false ∧ s' = (put s.1 x.dst undef, s.2))

theorem pendOf_sub (env : Env) (o : DOper) (v : Value) (ps : List Pend) : ∀ p ∈ ps, p ∈ pendOf env o v ps := by
  intro p hp
  unfold pendOf
  split <;> simp [hp]

/-- The states that a statement's operations go through in the text's order, and what was checked. -/
def Traced (T : Tab) (E : C → Env → Heap → Option (Ex × Env × Heap)) (l : List DOper) (k : Nat) (env : Env) (H : Heap) (st : List (Nat × Heap)) (ps : List Pend) (r : Ex × Env × Heap) : Prop :=
  ∃ tr : Nat → Env × Heap, tr k = (env, H) ∧ (∀ i d, l[i]? = some d → StepD T E d.o (tr (k + i)) (tr (k + i + 1))) ∧ r = (.norm, tr (k + l.length)) ∧
    ∃ (st' : List (Nat × Heap)) (ps' : List Pend), ps'.all (pendOk st') = true ∧ (∀ p ∈ ps, p ∈ ps') ∧ (∀ j X, stageAt st' j = some X → (X = (tr j).2 ∧ k ≤ j) ∨ stageAt st j = some X) ∧
      (∀ i d n a v, l[i]? = some d → d.o.op = .ld n a → d.wins ≠ [] → wanted (tr (k + i)).1 d.o.guard = some true → evOp T E (tr (k + i)).1 (tr (k + i)).2 d.o.op = some (.ret v (tr (k + i + 1)).2) → (⟨n, rd (tr (k + i)).1 a, v, d.wins⟩ : Pend) ∈ ps')

theorem traced_cons {o : DOper} {os : List DOper} {k : Nat} {env : Env} {H : Heap} {st st1 : List (Nat × Heap)} {ps ps1 : List Pend} {r : Ex × Env × Heap} {s' : Env × Heap} (hstep : StepD T E o.o (env, H) s')
    (hst : ∀ j X, stageAt st1 j = some X → (k = j ∧ X = H) ∨ stageAt st j = some X) (hps : ∀ p ∈ ps, p ∈ ps1)
    (hld : ∀ n a v, o.o.op = .ld n a → o.wins ≠ [] → wanted env o.o.guard = some true → evOp T E env H o.o.op = some (.ret v s'.2) → (⟨n, rd env a, v, o.wins⟩ : Pend) ∈ ps1)
    (h : Traced T E os (k + 1) s'.1 s'.2 st1 ps1 r) : Traced T E (o :: os) k env H st ps r := by
  obtain ⟨tr, t1, t2, t3, st', ps', t4, t5, t6, t7⟩ := h
  refine ⟨fun i => if i = k then (env, H) else tr i, by simp, ?_, ?_, st', ps', t4, fun p hp => t5 p (hps p hp), ?_, ?_⟩
  · intro i d hd
    cases i with
    | zero =>
      simp at hd; subst hd
      simp only [Nat.add_zero, if_true, if_neg (show k + 1 ≠ k by omega), t1]
      exact hstep
    | succ i =>
      simp at hd
      have := t2 i d hd
      simp only [if_neg (show k + (i + 1) ≠ k by omega), if_neg (show k + (i + 1) + 1 ≠ k by omega)]
      rw [show k + (i + 1) = k + 1 + i by omega]
      exact this
  · rw [t3]
    simp only [List.length_cons, if_neg (show k + (os.length + 1) ≠ k by omega)]
    rw [show k + (os.length + 1) = k + 1 + os.length by omega]
  · intro j X hX
    rcases t6 j X hX with ⟨h6, h6'⟩ | h6
    · left; simp only [if_neg (show j ≠ k by omega)]; exact ⟨h6, by omega⟩
    · rcases hst j X h6 with ⟨e, h7⟩ | h7
      · subst e; left; simpa using h7
      · exact .inr h7
  · intro i d n a v hd hop hw hwant hev
    cases i with
    | zero =>
      simp at hd; subst hd
      simp only [Nat.add_zero, if_true, if_neg (show k + 1 ≠ k by omega), t1] at hwant hev ⊢
      exact t5 _ (hld n a v hop hw hwant hev)
    | succ i =>
      simp at hd
      simp only [if_neg (show k + (i + 1) ≠ k by omega), if_neg (show k + (i + 1) + 1 ≠ k by omega)] at hwant hev ⊢
      rw [show k + (i + 1) = k + 1 + i by omega] at hwant hev ⊢
      exact t7 i d n a v hd hop hw hwant hev

theorem evD_trace : ∀ (l : List DOper) (k : Nat) (env : Env) (H : Heap) (st : List (Nat × Heap)) (ps : List Pend) (r : Ex × Env × Heap), evD T E l k env H st ps = some r → Traced T E l k env H st ps r
  | [], k, env, H, st, ps, r, h => by
    unfold evD at h
    split at h
    · rename_i hp
      cases h
      refine ⟨fun _ => (env, H), rfl, by intro i d hd; simp at hd, rfl, (k, H) :: st, ps, hp, fun p hp => hp, ?_, by intro i d n a v hd; simp at hd⟩
      intro j X hX
      simp only [stageAt] at hX
      split at hX
      · rename_i e; cases hX; exact .inl ⟨rfl, by omega⟩
      · exact .inr hX
    · cases h
  | o :: os, k, env, H, st, ps, r, h => by
    have hst : ∀ j X, stageAt (if o.loud then (k, H) :: st else st) j = some X → (k = j ∧ X = H) ∨ stageAt st j = some X := by
      intro j X hX
      split at hX
      · simp only [stageAt] at hX
        split at hX
        · rename_i e; cases hX; exact .inl ⟨e, rfl⟩
        · exact .inr hX
      · exact .inr hX
    unfold evD at h
    split at h
    · rename_i hw
      split at h
      · rename_i v H' hev
        refine traced_cons (s' := (put env o.o.dst v, H')) (.inl ⟨v, hw, hev, rfl⟩) hst (pendOf_sub env o v ps) ?_ (evD_trace os (k + 1) _ _ _ _ r h)
        intro n a v2 hop hwins _ hev2
        rw [hev] at hev2
        cases hev2
        unfold pendOf
        rw [hop]
        split
        · rename_i e; exact absurd e hwins
        · rename_i e1 _; cases e1; exact List.mem_cons_self
        · rename_i h1 _; exact absurd rfl (h1 _ _)
      · cases h
    · rename_i hw
      refine traced_cons (s' := (put env o.o.dst undef, H)) (.inr ⟨hw, rfl⟩) hst (fun p hp => hp) ?_ (evD_trace os (k + 1) _ _ _ _ r h)
      intro n a v2 _ _ hw2
      rw [hw] at hw2; cases hw2
    · cases h


/-! the context of a statement -/
theorem quiet_heap {env : Env} {H : Heap} {i : I} {out : Out} (hq : isQuiet i = true) (he : evI env H i = some out) : ∃ v, out = .ret v H := by
  cases i <;> simp only [isQuiet, Bool.false_eq_true] at hq <;> simp only [evI] at he
  all_goals
    repeat' split at he
    all_goals first
      | (cases he; done)
      | exact ⟨_, he.symm⟩
      | exact ⟨_, (Option.some.inj he).symm⟩
      | (simp only [ret, Option.map_eq_some_iff] at he; obtain ⟨v, _, h⟩ := he; exact ⟨v, h.symm⟩)
      | (simp only [Option.map_eq_some_iff] at he; obtain ⟨v, _, h⟩ := he; exact ⟨_, h.symm⟩)

theorem ld_heap {env : Env} {H : Heap} {n : Option Nat} {a : Operand} {out : Out} (he : evI env H (.ld n a) = some out) : ∃ v, out = .ret v H ∧ ldv H n (rd env a) = some v := by
  simp only [evI, ret, Option.map_eq_some_iff] at he
  obtain ⟨v, h1, h2⟩ := he
  exact ⟨v, h2.symm, h1⟩

structure DC (P : Program) (T : Tab) (E : C → Env → Heap → Option (Ex × Env × Heap)) (ops : Array Oper) (l0 : List IOper) (M : List Nat) (tr : Nat → Env × Heap) : Prop where
  mixed : P.follows .mixedOrders = true
  len : l0.length = ops.size
  comp : ∀ (i : Nat) (o : Oper), ops[i]? = some o → ∃ x, l0[i]? = some x ∧ compIO P ops o = some x
  edges : ∀ (i : Nat) (o : Oper), ops[i]? = some o → ∀ e ∈ binding o, e < i
  loud : ∀ (i j : Nat) (x y : IOper), i < j → l0[i]? = some x → l0[j]? = some y → loudI x.op = true → loudI y.op = true → (M.getD j 0).testBit i = true
  temps : ∀ (i j : Nat) (o o' : Oper) (x' : IOper) (t : Nat), i ≠ j → ops[i]? = some o → ops[j]? = some o' → l0[j]? = some x' → o.dst = some t → t ∈ namesOf o' x'.guard → (M.getD (max i j) 0).testBit (min i j) = true
  step : ∀ (i : Nat) (x : IOper), l0[i]? = some x → StepD T E x (tr i) (tr (i + 1))
  wins : ∀ (i : Nat) (x : IOper) (n : Option Nat) (a : Operand) (v : Value), l0[i]? = some x → x.op = .ld n a → wanted (tr i).1 x.guard = some true → evOp T E (tr i).1 (tr i).2 x.op = some (.ret v (tr (i + 1)).2) →
    ∀ j ∈ winsOf M (l0.map fun o => loudI o.op) i, ldv (tr j).2 n (rd (tr i).1 a) = some v
  mdef : M = masks ops.toList []

section
variable {ops : Array Oper} {l0 : List IOper} {M : List Nat} {tr : Nat → Env × Heap}

theorem DC.heap_step (h : DC P T E ops l0 M tr) {i : Nat} {x : IOper} (hx : l0[i]? = some x) (hl : loudI x.op = false) : (tr (i + 1)).2 = (tr i).2 := by
  rcases h.step i x hx with ⟨v, _, hev, _⟩ | ⟨_, e⟩
  · have hcall : ∀ H out, evOp T E (tr i).1 H x.op = some out → isCall x.op = false → evI (tr i).1 H x.op = some out := by
      intro H out he hk
      cases hop : x.op <;> rw [hop] at he hk <;> first | exact he | cases hk
    have hk : isCall x.op = false := by
      cases hop : x.op <;> rw [hop] at hl <;> first | rfl | (simp [loudI, isQuiet, isLd, isGsl] at hl)
    have he := hcall _ _ hev hk
    by_cases hq : isQuiet x.op = true
    · obtain ⟨v', e⟩ := quiet_heap hq he
      injection e
    · have hld : isLd x.op = true ∨ isGsl x.op = true := by
        cases h1 : isLd x.op with
        | true => exact .inl rfl
        | false => right; simp only [loudI, h1, show isQuiet x.op = false by simpa using hq] at hl; simpa using hl
      cases hop : x.op with
      | ld n a =>
        rw [hop] at he
        obtain ⟨v', e, _⟩ := ld_heap he
        injection e
      | gsl n z parts =>
        rw [hop] at he
        simp only [evI, Option.map_eq_some_iff] at he
        obtain ⟨_, _, e⟩ := he
        injection e with _ e
        exact e.symm
      | _ => rw [hop] at hld; rcases hld with hld | hld <;> cases hld
  · rw [e]

theorem DC.heap_const (h : DC P T E ops l0 M tr) {i j : Nat} (hij : i ≤ j) (hj : j ≤ l0.length) (hn : ∀ k x, i ≤ k → k < j → l0[k]? = some x → loudI x.op = false) : (tr j).2 = (tr i).2 := by
  induction j with
  | zero => have : i = 0 := by omega
            rw [this]
  | succ j ih =>
    by_cases e : i = j + 1
    · rw [e]
    · obtain ⟨x, hx⟩ : ∃ x, l0[j]? = some x := ⟨l0[j]'(by omega), by simp⟩
      rw [h.heap_step hx (hn j x (by omega) (by omega) hx)]
      exact ih (by omega) (by omega) (fun k x h1 h2 h3 => hn k x h1 (by omega) h3)

theorem put_ne {env : Env} {d : Option Nat} {v : Value} {t : Nat} (h : d ≠ some t) : (put env d v).getD t undef = env.getD t undef := by
  cases d with
  | none => rfl
  | some d =>
    simp only [put, List.getD_eq_getElem?_getD]
    rw [List.getElem?_set_ne (by rintro rfl; exact h rfl)]

theorem put_length {env : Env} {d : Option Nat} {v : Value} : (put env d v).length = env.length := by cases d <;> simp [put]

theorem DC.env_step (h : DC P T E ops l0 M tr) {i t : Nat} {x : IOper} (hx : l0[i]? = some x) (hd : x.dst ≠ some t) : (tr (i + 1)).1.getD t undef = (tr i).1.getD t undef := by
  rcases h.step i x hx with ⟨v, _, _, e⟩ | ⟨_, e⟩
  · rw [e]; exact put_ne hd
  · rw [e]; exact put_ne hd

theorem DC.env_len (h : DC P T E ops l0 M tr) : ∀ {j : Nat}, j ≤ l0.length → (tr j).1.length = (tr 0).1.length
  | 0, _ => rfl
  | j + 1, hj => by
    obtain ⟨x, hx⟩ : ∃ x, l0[j]? = some x := ⟨l0[j]'(by omega), by simp⟩
    rw [← h.env_len (show j ≤ l0.length by omega)]
    rcases h.step j x hx with ⟨v, _, _, e⟩ | ⟨_, e⟩ <;> rw [e] <;> exact put_length

theorem DC.env_const (h : DC P T E ops l0 M tr) {i j t : Nat} (hij : i ≤ j) (hj : j ≤ l0.length) (hn : ∀ k x, i ≤ k → k < j → l0[k]? = some x → x.dst ≠ some t) : (tr j).1.getD t undef = (tr i).1.getD t undef := by
  induction j with
  | zero => have : i = 0 := by omega
            rw [this]
  | succ j ih =>
    by_cases e : i = j + 1
    · rw [e]
    · obtain ⟨x, hx⟩ : ∃ x, l0[j]? = some x := ⟨l0[j]'(by omega), by simp⟩
      rw [h.env_step hx (hn j x (by omega) (by omega) hx)]
      exact ih (by omega) (by omega) (fun k x h1 h2 h3 => hn k x h1 (by omega) h3)

/-- The first place from i on at which p holds, or the end. -/
theorem first_at (p : Nat → Bool) (m : Nat) : ∀ (d i : Nat), i + d = m → ∃ j, i ≤ j ∧ j ≤ m ∧ (j = m ∨ p j = true) ∧ ∀ k, i ≤ k → k < j → p k = false
  | 0, i, h => ⟨m, by omega, Nat.le_refl _, .inl rfl, by intro k h1 h2; omega⟩
  | d + 1, i, h => by
    by_cases e : p i = true
    · exact ⟨i, Nat.le_refl _, by omega, .inr e, by intro k h1 h2; omega⟩
    · obtain ⟨j, h1, h2, h3, h4⟩ := first_at p m d (i + 1) (by omega)
      refine ⟨j, by omega, h2, h3, fun k g1 g2 => ?_⟩
      by_cases ek : k = i
      · subst ek; simpa using e
      · exact h4 k (by omega) g2

end
end
end Ve
end Go.Proofs.YtnociodpfmlglaaGreatDoor

/-
  Statements whose order is open, third part: one step, and all of them.
-/
set_option linter.unusedVariables false
set_option linter.unusedSimpArgs false
namespace Go.Proofs.YtnociodpfmlglaaGreatDoor
namespace Ve
open Go Go.RowKit
section
variable {P : Program} {D : List Deferred} {T : Tab} {E : C → Env → Heap → Option (Ex × Env × Heap)} {ops : Array Oper} {l0 : List IOper} {M : List Nat} {tr : Nat → Env × Heap}

/-- Listed. -/
def Lst (listed : Array Bool) (i : Nat) : Prop := listed[i]? = some true

def NlAt (l0 : List IOper) (listed : Array Bool) (j : Nat) : Prop :=
  (j = l0.length ∨ ∃ x, l0[j]? = some x ∧ loudI x.op = true ∧ ¬ Lst listed j) ∧ ∀ i x, i < j → l0[i]? = some x → loudI x.op = true → Lst listed i

def NwAt (l0 : List IOper) (listed : Array Bool) (t j : Nat) : Prop :=
  (j = l0.length ∨ ∃ x, l0[j]? = some x ∧ x.dst = some t ∧ ¬ Lst listed j) ∧ (∀ i x, i < j → l0[i]? = some x → x.dst = some t → Lst listed i) ∧ j ≤ l0.length

structure Inv (P : Program) (D : List Deferred) (α : Al) (w0 : World) (ops : Array Oper) (l0 : List IOper) (tr : Nat → Env × Heap) (listed : Array Bool) (a : Act) (w : World) : Prop where
  size : listed.size = ops.size
  closed : Closed ops.toList (Lst listed)
  heap : ∃ j, NlAt l0 listed j ∧ j ≤ l0.length ∧ Sim α w0 (tr j).2 w
  env : ∀ t, ∃ j, NwAt l0 listed t j ∧ VR α ((tr j).1.getD t undef) (a.tmps.toList.getD t undef)
  len : a.tmps.size = (tr 0).1.length
  glob : ∀ g, g < P.globals.size → α g = some (g, 0)
  defs : a.defers = D

theorem lst_set {listed : Array Bool} {i j : Nat} (hi : i < listed.size) : Lst (listed.setIfInBounds i true) j ↔ (j = i ∨ Lst listed j) := by
  unfold Lst
  rw [Array.getElem?_setIfInBounds]
  by_cases e : i = j
  · subst e; simp [hi]
  · simp [e]
    intro h
    exact absurd h.symm e

/-- What an operation names has, whatever has been listed, the value that it has in the text's order. -/
theorem Inv.named (h : DC P T E ops l0 M tr) {α : Al} {w0 w : World} {listed : Array Bool} {a : Act} (hI : Inv P D α w0 ops l0 tr listed a w) {i : Nat} {o : Oper} {x : IOper} (ho : ops[i]? = some o) (hx : l0[i]? = some x) (hu : ¬ Lst listed i)
    (hr : ∀ e ∈ binding o, Lst listed e) {t : Nat} (ht : t ∈ namesOf o x.guard) : VR α ((tr i).1.getD t undef) (a.tmps.toList.getD t undef) := by
  obtain ⟨j, ⟨hj1, hj2, hj3⟩, hv⟩ := hI.env t
  have hoL : ops.toList[i]? = some o := by simpa using ho
  have hil : i < l0.length := (List.getElem?_eq_some_iff.1 hx).1
  have hge : i ≤ j := by
    rcases Nat.lt_or_ge j i with g | g
    · exfalso
      rcases hj1 with e | ⟨y, hy, hyd, hyu⟩
      · omega
      · obtain ⟨oj, hoj⟩ : ∃ oj, ops[j]? = some oj := ⟨ops[j]'(by have := h.len; omega), by simp⟩
        obtain ⟨y', hy', hc⟩ := h.comp j oj hoj
        rw [hy] at hy'; cases hy'
        have hd : oj.dst = some t := by rw [← (compIO_spec hc).2.2]; exact hyd
        have := h.temps j i oj o x t (by omega) hoj ho hx hd ht
        rw [Nat.max_eq_right (by omega), Nat.min_eq_left (by omega), h.mdef] at this
        exact hyu (masks_ready hI.closed hoL hr this)
    · exact g
  have hconst : (tr j).1.getD t undef = (tr i).1.getD t undef := by
    refine h.env_const hge hj3 ?_
    intro k y hk1 hk2 hy hyd
    have hLk := hj2 k y hk2 hy hyd
    by_cases e : k = i
    · subst e; exact hu hLk
    · obtain ⟨ok, hok⟩ : ∃ ok, ops[k]? = some ok := ⟨ops[k]'(by have := h.len; omega), by simp⟩
      obtain ⟨y', hy', hc⟩ := h.comp k ok hok
      rw [hy] at hy'; cases hy'
      have hd : ok.dst = some t := by rw [← (compIO_spec hc).2.2]; exact hyd
      have := h.temps k i ok o x t e hok ho hx hd ht
      rw [Nat.max_eq_left (by omega), Nat.min_eq_right (by omega), h.mdef] at this
      exact hu (masks_in hI.closed hLk this)
  rw [← hconst]; exact hv

/-- Behind an operation: listed, its value in its place. -/
theorem Inv.next (h : DC P T E ops l0 M tr) {α β : Al} {w0 w w' : World} {listed : Array Bool} {a : Act} (hI : Inv P D α w0 ops l0 tr listed a w) (hle : α.le β) {i : Nat} {o : Oper} {x : IOper} (ho : ops[i]? = some o) (hx : l0[i]? = some x) (hu : ¬ Lst listed i)
    (hr : ∀ e ∈ binding o, Lst listed e) {v v' : Value} (hv : VR β v v') (hput : (tr (i + 1)).1 = put (tr i).1 x.dst v)
    (hh : (loudI x.op = true ∧ Sim β w0 (tr (i + 1)).2 w') ∨ (loudI x.op = false ∧ ∃ j, NlAt l0 listed j ∧ j ≤ l0.length ∧ Sim β w0 (tr j).2 w')) :
    Inv P D β w0 ops l0 tr (listed.setIfInBounds i true) (a.put o.dst v') w' := by
  have hoL : ops.toList[i]? = some o := by simpa using ho
  have hil : i < l0.length := (List.getElem?_eq_some_iff.1 hx).1
  have hisz : i < listed.size := by rw [hI.size, ← h.len]; exact hil
  obtain ⟨x', hx', hc⟩ := h.comp i o ho
  rw [hx] at hx'; cases hx'
  have hdst : x.dst = o.dst := (compIO_spec hc).2.2
  -- what comes behind i by the edges isn't listed
  have hbeh : ∀ k, Lst listed k → (M.getD k 0).testBit i = true → False := fun k hk hb => hu (masks_in hI.closed hk (by rw [← h.mdef]; exact hb))
  refine ⟨by simp [hI.size], ?_, ?_, ?_, ?_, glob_mono hI.glob hle, by rw [put_defs]; exact hI.defs⟩
  · intro k ok hok hk e he
    rw [lst_set hisz] at hk ⊢
    rcases hk with rfl | hk
    · rw [hoL] at hok; cases hok; exact .inr (hr e he)
    · exact .inr (hI.closed k ok hok hk e he)
  · rcases hh with ⟨hlo, hs⟩ | ⟨hlo, j, ⟨hj1, hj2⟩, hj3, hs⟩
    · -- the next loud one behind i
      obtain ⟨j, g1, g2, g3, g4⟩ := first_at (fun k => match l0[k]? with | some y => loudI y.op | none => false) l0.length (l0.length - (i + 1)) (i + 1) (by omega)
      have hsame : (tr j).2 = (tr (i + 1)).2 := h.heap_const g1 g2 (by
        intro k y k1 k2 hy
        have := g4 k k1 k2
        rw [hy] at this; exact this)
      refine ⟨j, ⟨?_, ?_⟩, g2, by rw [hsame]; exact hs⟩
      · rcases g3 with g3 | g3
        · exact .inl g3
        · right
          cases hy : l0[j]? with
          | none => rw [hy] at g3; cases g3
          | some y =>
            rw [hy] at g3
            refine ⟨y, rfl, g3, ?_⟩
            rw [lst_set hisz]
            rintro (e | hl)
            · omega
            · exact hbeh j hl (h.loud i j x y (by omega) hx hy hlo g3)
      · intro k y hk hy hyl
        rw [lst_set hisz]
        rcases Nat.lt_trichotomy k i with hki | hki | hki
        · right
          have := h.loud k i y x hki hy hx hyl hlo
          rw [h.mdef] at this
          exact masks_ready hI.closed hoL hr this
        · exact .inl hki
        · have := g4 k (by omega) hk
          rw [hy] at this
          simp only at this
          rw [this] at hyl; cases hyl
    · refine ⟨j, ⟨?_, ?_⟩, hj3, hs⟩
      · rcases hj1 with e | ⟨y, hy, hyl, hyu⟩
        · exact .inl e
        · refine .inr ⟨y, hy, hyl, ?_⟩
          rw [lst_set hisz]
          rintro (e | hl)
          · subst e; rw [hx] at hy; cases hy; rw [hlo] at hyl; cases hyl
          · exact hyu hl
      · intro k y hk hy hyl
        rw [lst_set hisz]
        exact .inr (hj2 k y hk hy hyl)
  · intro t
    by_cases hd : x.dst = some t
    · obtain ⟨j, g1, g2, g3, g4⟩ := first_at (fun k => match l0[k]? with | some y => decide (y.dst = some t) | none => false) l0.length (l0.length - (i + 1)) (i + 1) (by omega)
      have hsame : (tr j).1.getD t undef = (tr (i + 1)).1.getD t undef := h.env_const g1 g2 (by
        intro k y k1 k2 hy
        have := g4 k k1 k2
        rw [hy] at this; simpa using this)
      have hon : t ∈ namesOf o x.guard := by unfold namesOf; rw [← hdst, hd]; simp
      refine ⟨j, ⟨?_, ?_, g2⟩, ?_⟩
      · rcases g3 with g3 | g3
        · exact .inl g3
        · right
          cases hy : l0[j]? with
          | none => rw [hy] at g3; cases g3
          | some y =>
            rw [hy] at g3
            have hyd : y.dst = some t := by simpa using g3
            refine ⟨y, rfl, hyd, ?_⟩
            rw [lst_set hisz]
            rintro (e | hl)
            · omega
            · have hjl : j < l0.length := (List.getElem?_eq_some_iff.1 hy).1
              obtain ⟨oj, hoj⟩ : ∃ oj, ops[j]? = some oj := ⟨ops[j]'(by have := h.len; omega), by simp⟩
              obtain ⟨y', hy', hcj⟩ := h.comp j oj hoj
              rw [hy] at hy'; cases hy'
              have hdj : oj.dst = some t := by rw [← (compIO_spec hcj).2.2]; exact hyd
              have := h.temps j i oj o x t (by omega) hoj ho hx hdj hon
              rw [Nat.max_eq_left (by omega), Nat.min_eq_right (by omega)] at this
              exact hbeh j hl this
      · intro k y hk hy hyd
        rw [lst_set hisz]
        rcases Nat.lt_trichotomy k i with hki | hki | hki
        · right
          obtain ⟨ok, hok⟩ : ∃ ok, ops[k]? = some ok := ⟨ops[k]'(by have := h.len; omega), by simp⟩
          obtain ⟨y', hy', hck⟩ := h.comp k ok hok
          rw [hy] at hy'; cases hy'
          have hdk : ok.dst = some t := by rw [← (compIO_spec hck).2.2]; exact hyd
          have := h.temps k i ok o x t (by omega) hok ho hx hdk hon
          rw [Nat.max_eq_right (by omega), Nat.min_eq_left (by omega), h.mdef] at this
          exact masks_ready hI.closed hoL hr this
        · exact .inl hki
        · have := g4 k (by omega) hk
          rw [hy] at this
          simp only [decide_eq_false_iff_not] at this
          exact absurd hyd this
      · rw [hsame, hput, hd]
        have hlen1 : (tr i).1.length = a.tmps.size := by rw [hI.len]; exact h.env_len (by omega)
        simp only [put, Act.put, ← hdst, hd, List.getD_eq_getElem?_getD]
        by_cases ht : t < a.tmps.size
        · rw [List.getElem?_set_self (by omega)]
          simp [ht]
          exact hv
        · rw [List.getElem?_eq_none (by simp; omega)]
          simp [ht]
          exact VR.undef β
    · obtain ⟨j, ⟨hj1, hj2, hj3⟩, hvr⟩ := hI.env t
      refine ⟨j, ⟨?_, ?_, hj3⟩, ?_⟩
      · rcases hj1 with e | ⟨y, hy, hyd, hyu⟩
        · exact .inl e
        · refine .inr ⟨y, hy, hyd, ?_⟩
          rw [lst_set hisz]
          rintro (e | hl)
          · subst e; rw [hx] at hy; cases hy; exact hd hyd
          · exact hyu hl
      · intro k y hk hy hyd
        rw [lst_set hisz]
        exact .inr (hj2 k y hk hy hyd)
      · have : (a.put o.dst v').tmps.toList.getD t undef = a.tmps.toList.getD t undef := by
          rw [← hdst]
          cases hxd : x.dst with
          | none => rfl
          | some d =>
            simp only [Act.put, List.getD_eq_getElem?_getD]
            have hne : d ≠ t := by rintro rfl; exact hd hxd
            simp [List.getElem?_set_ne hne]
        rw [this]
        exact hvr.mono hle
  · have : (a.put o.dst v').tmps.size = a.tmps.size := by cases o.dst <;> simp [Act.put]
    rw [this]; exact hI.len


theorem mem_ready {listed : Array Bool} {i : Nat} (hsz : listed.size = ops.size) (h : i ∈ Region.ready .any ops listed) : ∃ o, ops[i]? = some o ∧ ¬ Lst listed i ∧ ∀ e ∈ binding o, Lst listed e := by
  unfold Region.ready at h
  simp only [List.mem_filter, List.mem_range, Bool.and_eq_true, Bool.not_eq_true'] at h
  obtain ⟨hi, h1, h2⟩ := h
  refine ⟨ops[i], by simp [hi], ?_, ?_⟩
  · intro hL
    unfold Lst at hL
    rw [Array.getD_eq_getD_getElem?, hL] at h1
    cases h1
  · intro e he
    unfold binding at he
    simp only [List.mem_map, List.mem_filter, Array.mem_toList_iff] at he
    obtain ⟨ed, ⟨he1, he2⟩, rfl⟩ := he
    rw [Array.getElem?_eq_getElem hi] at h2
    simp only [Option.map_some, Option.getD_some, Array.all_eq_true'] at h2
    have := h2 ed he1
    simp only [he2, Bool.not_true, Bool.false_or] at this
    unfold Lst
    rw [Array.getD_eq_getD_getElem?] at this
    cases hg : listed[ed.on]? with
    | none => rw [hg] at this; simp at this
    | some b => rw [hg] at this; simp at this; rw [this]

theorem ready_of {listed : Array Bool} {i : Nat} {o : Oper} (ho : ops[i]? = some o) (hsz : listed.size = ops.size) (hu : ¬ Lst listed i) (hr : ∀ e ∈ binding o, Lst listed e) : i ∈ Region.ready .any ops listed := by
  have hi : i < ops.size := (Array.getElem?_eq_some_iff.1 ho).1
  unfold Region.ready
  simp only [List.mem_filter, List.mem_range, Bool.and_eq_true, Bool.not_eq_true']
  refine ⟨hi, ?_, ?_⟩
  · rw [Array.getD_eq_getD_getElem?]
    have : listed[i]? = some listed[i] := by simp
    unfold Lst at hu
    rw [this] at hu ⊢
    simpa using hu
  · rw [ho]
    simp only [Option.map_some, Option.getD_some, Array.all_eq_true', Bool.or_eq_true, Bool.not_eq_true']
    intro e he
    by_cases hb : Region.binds .any e = true
    · right
      have := hr e.on (by unfold binding; simp only [List.mem_map, List.mem_filter, Array.mem_toList_iff]; exact ⟨e, ⟨he, hb⟩, rfl⟩)
      unfold Lst at this
      rw [Array.getD_eq_getD_getElem?, this]; rfl
    · left; simpa using hb

/-- If nothing is ready, all is listed. -/
theorem all_listed (h : DC P T E ops l0 M tr) {listed : Array Bool} (hsz : listed.size = ops.size) (hn : Region.ready .any ops listed = []) : ∀ i, i < ops.size → Lst listed i := by
  intro i
  induction i using Nat.strongRecOn with
  | _ i ih =>
    intro hi
    by_cases hL : Lst listed i
    · exact hL
    · exfalso
      obtain ⟨o, ho⟩ : ∃ o, ops[i]? = some o := ⟨ops[i], by simp [hi]⟩
      have := ready_of ho hsz hL (fun e he => by
        have hlt := h.edges i o ho e he
        exact ih e hlt (by omega))
      rw [hn] at this
      cases this

theorem winsOf_mem {ls : List Bool} {i j : Nat} (h1 : j = ls.length ∨ ls.getD j false = true) (hj : j ≤ ls.length) (h2 : ∀ l, ls.getD l false = true → (M.getD i 0).testBit l = true → l < j) (h3 : ∀ l, ls.getD l false = true → (M.getD l 0).testBit i = true → j ≤ l)
    (h4 : ¬ (i ≤ j ∧ ∀ l, ls.getD l false = true → l < i ∨ j ≤ l)) : j ∈ winsOf M ls i := by
  have hz : ∀ (b : Bool) (l : Nat), (b, l) ∈ ls.zipIdx → b = true → ls.getD l false = true := by
    intro b l hm hb
    have := List.mem_zipIdx_iff_getElem?.1 hm
    simp only at this
    rw [List.getD_eq_getElem?_getD, this, hb]; rfl
  unfold winsOf
  simp only [List.mem_filter, List.mem_range, Bool.and_eq_true, Bool.or_eq_true, List.all_eq_true, Bool.not_eq_true', decide_eq_true_eq, beq_iff_eq, Bool.not_eq_true, Prod.forall]
  refine ⟨by omega, ⟨h1, ?_⟩, ?_⟩
  · intro b l hm
    cases b with
    | false => exact .inl rfl
    | true =>
      right
      constructor
      · by_cases hb : (M.getD i 0).testBit l = true
        · exact .inr (h2 l (hz _ _ hm rfl) hb)
        · left; simpa using hb
      · by_cases hb : (M.getD l 0).testBit i = true
        · exact .inr (h3 l (hz _ _ hm rfl) hb)
        · left; simpa using hb
  · by_cases hij : i ≤ j
    · have : ∃ l, ls.getD l false = true ∧ ¬ (l < i ∨ j ≤ l) := by
        false_or_by_contra
        rename_i hne
        refine h4 ⟨hij, fun l hl => ?_⟩
        false_or_by_contra
        rename_i hne2
        exact hne ⟨l, hl, hne2⟩
      obtain ⟨l, hl, hne⟩ := this
      have hm : (true, l) ∈ ls.zipIdx := by
        rw [List.mem_zipIdx_iff_getElem?]
        rw [List.getD_eq_getElem?_getD] at hl
        cases e : ls[l]? with
        | none => rw [e] at hl; cases hl
        | some b => rw [e] at hl; simp at hl; simp [hl]
      simp only [Bool.and_eq_false_iff]
      right
      rw [List.all_eq_false]
      refine ⟨(true, l), hm, ?_⟩
      simp only [Bool.not_true, Bool.false_or, Bool.or_eq_true, decide_eq_true_eq]
      exact hne
    · simp [hij]


/-- One operation, in whatever place of the order. -/
theorem Inv.op (hk : CallOk P T E) (h : DC P T E ops l0 M tr) {α : Al} {w0 w : World} {listed : Array Bool} {a : Act} (hI : Inv P D α w0 ops l0 tr listed a w) {i : Nat} {o : Oper} (ho : ops[i]? = some o) (hu : ¬ Lst listed i) (hr : ∀ e ∈ binding o, Lst listed e)
    {K : Act → World → Prop} {Q : Exit → Act → World → Prop} (hK : ∀ β a' w', α.le β → Inv P D β w0 ops l0 tr (listed.setIfInBounds i true) a' w' → K a' w') : wpOp P ops Q i K a w := by
  obtain ⟨x, hx, hc⟩ := h.comp i o ho
  obtain ⟨hcf, hg, hdst⟩ := compIO_spec hc
  have hil : i < l0.length := (List.getElem?_eq_some_iff.1 hx).1
  have hnames : ∀ t, t ∈ namesOf o x.guard → VR α ((tr i).1.getD t undef) (a.tmps.toList.getD t undef) := fun t ht => hI.named h ho hx hu hr ht
  have hρ : ∀ y ∈ o.op.operands, VR α (rd (tr i).1 y) (a.eval y) := by
    intro y hy
    cases y with
    | tmp t =>
      simp only [rd, Act.eval, getD_list]
      refine hnames t ?_
      unfold namesOf
      simp only [List.mem_append, List.mem_filterMap]
      exact .inl (.inr ⟨.tmp t, by simpa using hy, rfl⟩)
    | const v =>
      have := (compFull_spec hcf).1
      simp only [Array.all_eq_true'] at this
      exact litOk_rel (this _ hy)
    | global g =>
      have := (compFull_spec hcf).1
      simp only [Array.all_eq_true'] at this
      exact .ptr0 (hI.glob g (by simpa [opdOk] using this _ hy))
    | func f => exact .func _ rfl .nil .nil
  have hgv : ∀ t w', x.guard = some (t, w') → VR α ((tr i).1.getD t undef) (a.tmps.toList.getD t undef) := by
    intro t w' e
    exact hnames t (by unfold namesOf; rw [e]; simp)
  unfold wpOp
  rw [ho]
  simp only
  obtain ⟨j, hNl, hjl, hsim⟩ := hI.heap
  -- where i is loud, it is the next loud one
  have hnl : loudI x.op = true → j = i := by
    intro hl
    rcases Nat.lt_trichotomy j i with g | g | g
    · exfalso
      rcases hNl.1 with e | ⟨y, hy, hyl, hyu⟩
      · omega
      · have := h.loud j i y x g hy hx hyl hl
        rw [h.mdef] at this
        exact hyu (masks_ready hI.closed (by simpa using ho) hr this)
    · exact g
    · exact absurd (hNl.2 i x g hx hl) hu
  rcases h.step i x hx with ⟨v, hw, hev, hput⟩ | ⟨hw, hskip⟩
  · rw [if_pos (wanted_rel hg hgv hw)]
    refine .inl ?_
    by_cases hl : loudI x.op = true
    · have := hnl hl
      subst this
      refine op_wp hk hcf hρ hsim hI.glob hev ?_ ?_
      · intro v2 H2 e β v' w' hle hv hs'
        cases e
        exact hK β _ w' hle (hI.next h hle ho hx hu hr hv hput (.inl ⟨hl, hs'⟩))
      · intro v2 H2 e; cases e
    · have hl' : loudI x.op = false := by simpa using hl
      by_cases hq : isQuiet x.op = true
      · -- nothing of memory
        have hkk : isCall x.op = false := by cases hop : x.op <;> rw [hop] at hq <;> first | rfl | cases hq
        have hcc : compOp P (forAppend ops o) o = some x.op := by
          rcases (compFull_spec hcf).2 with h1 | ⟨y, _, e⟩ | ⟨c, f, _, _, e⟩
          · exact h1.2
          · rw [e] at hkk; cases hkk
          · rw [e] at hkk; cases hkk
        have hev' : evI (tr i).1 (tr i).2 x.op = some (.ret v (tr (i + 1)).2) := by
          cases hop : x.op <;> rw [hop] at hev hkk <;> first | exact hev | cases hkk
        obtain ⟨v2, v', e, _, hv, hd⟩ := quiet_sound hcc hq hρ _ _ hev'
        injection e with e1 e2
        subst e1
        have hnext := hI.next h (Al.le_refl α) ho hx hu hr hv hput (.inr ⟨hl', j, hNl, hjl, hsim⟩)
        have hdw := hd w
        clear hd
        unfold Oper.wp
        rcases hdw with hd | ⟨hd, rfl⟩
        · rw [hd]; exact hK α _ w (Al.le_refl α) hnext
        · rw [hd]; exact hK α _ w (Al.le_refl α) hnext
      · -- a load
        have hld : isLd x.op = true ∨ isGsl x.op = true := by
          cases h1 : isLd x.op with
          | true => exact .inl rfl
          | false => right; simp only [loudI, h1, show isQuiet x.op = false by simpa using hq] at hl'; simpa using hl'
        cases hop : x.op with
        | ld n ad =>
          have hkk : isCall x.op = false := by rw [hop]; rfl
          have hcc : compOp P (forAppend ops o) o = some x.op := by
            rcases (compFull_spec hcf).2 with h1 | ⟨y, _, e⟩ | ⟨c, f, _, _, e⟩
            · exact h1.2
            · rw [e] at hkk; cases hkk
            · rw [e] at hkk; cases hkk
          have hev' : evI (tr i).1 (tr i).2 x.op = some (.ret v (tr (i + 1)).2) := by rw [hop] at hev ⊢; exact hev
          rw [hop] at hev'
          obtain ⟨v2, e, hv0⟩ := ld_heap hev'
          injection e with e1 e2
          subst e1
          have hval : ldv (tr j).2 n (rd (tr i).1 ad) = some v := by
            by_cases hown : i ≤ j ∧ ∀ l y, l0[l]? = some y → loudI y.op = true → l < i ∨ j ≤ l
            · have : (tr j).2 = (tr i).2 := h.heap_const hown.1 hjl (by
                intro k y k1 k2 hy
                cases hyl : loudI y.op with
                | false => rfl
                | true => rcases hown.2 k y hy hyl with g | g <;> omega)
              rw [this]; exact hv0
            · have hls : ∀ l, (l0.map fun o => loudI o.op).getD l false = true → ∃ y, l0[l]? = some y ∧ loudI y.op = true := by
                intro l hh
                rw [List.getD_eq_getElem?_getD, List.getElem?_map] at hh
                cases e : l0[l]? with
                | none => rw [e] at hh; cases hh
                | some y => rw [e] at hh; exact ⟨y, rfl, hh⟩
              have hls2 : ∀ l y, l0[l]? = some y → loudI y.op = true → (l0.map fun o => loudI o.op).getD l false = true := by
                intro l y hy hyl
                rw [List.getD_eq_getElem?_getD, List.getElem?_map, hy]; exact hyl
              refine h.wins i x n ad v hx hop hw hev j (winsOf_mem ?_ (by simpa using hjl) ?_ ?_ ?_)
              · rcases hNl.1 with e | ⟨y, hy, hyl, hyu⟩
                · exact .inl (by simpa using e)
                · exact .inr (hls2 j y hy hyl)
              · intro l hh hb
                obtain ⟨y, hy, hyl⟩ := hls l hh
                have hLl : Lst listed l := by
                  rw [h.mdef] at hb
                  exact masks_ready hI.closed (by simpa using ho) hr hb
                rcases Nat.lt_trichotomy l j with g | g | g
                · exact g
                · subst g
                  rcases hNl.1 with e | ⟨y', _, _, hyu⟩
                  · have := (List.getElem?_eq_some_iff.1 hy).1; omega
                  · exact absurd hLl hyu
                · exfalso
                  rcases hNl.1 with e | ⟨y', hy', hyl', hyu⟩
                  · have := (List.getElem?_eq_some_iff.1 hy).1; omega
                  · have := h.loud j l y' y g hy' hy hyl' hyl
                    rw [h.mdef] at this
                    exact hyu (masks_in hI.closed hLl this)
              · intro l hh hb
                obtain ⟨y, hy, hyl⟩ := hls l hh
                rcases Nat.lt_or_ge l j with g | g
                · exfalso
                  have hLl := hNl.2 l y g hy hyl
                  rw [h.mdef] at hb
                  exact hu (masks_in hI.closed hLl hb)
                · exact g
              · rintro ⟨g1, g2⟩
                exact hown ⟨g1, fun l y hy hyl => g2 l (hls2 l y hy hyl)⟩
          have hev2 : evI (tr i).1 (tr j).2 x.op = some (.ret v (tr j).2) := by rw [hop]; simp only [evI, hval]; rfl
          have hq' : isQuiet x.op = false := by simpa using hq
          obtain ⟨β, v2, v', H2, w', e, hle, hv, hs', hd⟩ := loud_sound hcc hq' hkk hρ hsim hev2
          cases e
          have hnext := hI.next h hle ho hx hu hr hv hput (.inr ⟨hl', j, hNl, hjl, hs'⟩)
          unfold Oper.wp
          rcases hd with hd | ⟨hd, rfl⟩
          · rw [hd]; exact hK β _ w' hle hnext
          · rw [hd]; exact hK β _ w' hle hnext
        | gsl n z parts =>
          have hkk : isCall x.op = false := by rw [hop]; rfl
          have hcc : compOp P (forAppend ops o) o = some x.op := by
            rcases (compFull_spec hcf).2 with h1 | ⟨y, _, e⟩ | ⟨c, f, _, _, e⟩
            · exact h1.2
            · rw [e] at hkk; cases hkk
            · rw [e] at hkk; cases hkk
          have hev' : evI (tr i).1 (tr i).2 x.op = some (.ret v (tr (i + 1)).2) := by rw [hop] at hev ⊢; exact hev
          have hev2 : evI (tr i).1 (tr j).2 x.op = some (.ret v (tr j).2) := by
            rw [hop] at hev' ⊢
            simp only [evI, Option.map_eq_some_iff] at hev' ⊢
            obtain ⟨l, h1, h2⟩ := hev'
            injection h2 with h2 _
            exact ⟨l, h1, by rw [h2]⟩
          have hq' : isQuiet x.op = false := by simpa using hq
          obtain ⟨β, v2, v', H2, w', e, hle, hv, hs', hd⟩ := loud_sound hcc hq' hkk hρ hsim hev2
          cases e
          have hnext := hI.next h hle ho hx hu hr hv hput (.inr ⟨hl', j, hNl, hjl, hs'⟩)
          unfold Oper.wp
          rcases hd with hd | ⟨hd, rfl⟩
          · rw [hd]; exact hK β _ w' hle hnext
          · rw [hd]; exact hK β _ w' hle hnext
        | _ => rw [hop] at hld; rcases hld with hld | hld <;> cases hld
  · rw [if_neg (by rw [wanted_rel hg hgv hw]; simp)]
    refine hK α _ w (Al.le_refl α) (hI.next h (Al.le_refl α) ho hx hu hr (VR.undef α) (by rw [hskip]) ?_)
    by_cases hl : loudI x.op = true
    · have := hnl hl
      subst this
      exact .inl ⟨hl, by rw [hskip]; exact hsim⟩
    · exact .inr ⟨by simpa using hl, j, hNl, hjl, hsim⟩

theorem Inv.done (h : DC P T E ops l0 M tr) {α : Al} {w0 w : World} {listed : Array Bool} {a : Act} (hI : Inv P D α w0 ops l0 tr listed a w) (hall : ∀ i, i < ops.size → Lst listed i) : St P D α w0 (tr l0.length).1 (tr l0.length).2 a w := by
  have hm : ∀ j x, l0[j]? = some x → Lst listed j := fun j x hx => hall j (by have := (List.getElem?_eq_some_iff.1 hx).1; have := h.len; omega)
  obtain ⟨j, hNl, hjl, hsim⟩ := hI.heap
  have hj : j = l0.length := by
    rcases hNl.1 with e | ⟨y, hy, _, hyu⟩
    · exact e
    · exact absurd (hm j y hy) hyu
  subst hj
  refine ⟨?_, hsim, hI.glob, hI.defs⟩
  have hlen : (tr l0.length).1.length = a.tmps.toList.length := by rw [h.env_len (Nat.le_refl _), ← hI.len]; simp
  have key : ∀ t, VR α ((tr l0.length).1.getD t undef) (a.tmps.toList.getD t undef) := by
    intro t
    obtain ⟨j, ⟨hj1, _, _⟩, hv⟩ := hI.env t
    have hj : j = l0.length := by
      rcases hj1 with e | ⟨y, hy, _, hyu⟩
      · exact e
      · exact absurd (hm j y hy) hyu
    rw [← hj]; exact hv
  have gen : ∀ (l l' : List Value), l.length = l'.length → (∀ t, VR α (l.getD t undef) (l'.getD t undef)) → VRs α l l' := by
    intro l
    induction l with
    | nil => intro l' hl _; cases l' with
      | nil => exact .nil
      | cons => cases hl
    | cons v l ih =>
      intro l' hl hg
      cases l' with
      | nil => cases hl
      | cons v' l' =>
        refine .cons (by simpa using hg 0) (ih l' (by simpa using hl) fun t => by simpa using hg (t + 1))
  exact gen _ _ hlen key

theorem count_set {listed : Array Bool} {i : Nat} (hi : i < listed.size) (hu : ¬ Lst listed i) : (listed.setIfInBounds i true).toList.count false + 1 = listed.toList.count false := by
  have hf : listed.toList[i]? = some false := by
    have : listed[i]? = some listed[i] := by simp
    unfold Lst at hu
    rw [this] at hu
    simp only [Option.some.injEq, Bool.not_eq_true] at hu
    simp [hi, hu]
  simp only [Array.toList_setIfInBounds]
  generalize listed.toList = l at hf
  clear hu hi
  induction l generalizing i with
  | nil => simp at hf
  | cons b l ih =>
    cases i with
    | zero => simp at hf; subst hf; simp
    | succ i =>
      simp at hf
      have := ih hf
      simp only [List.set_cons_succ, List.count_cons]
      omega

theorem any_sound (hk : CallOk P T E) (h : DC P T E ops l0 M tr) {w0 : World} {Q : Exit → Act → World → Prop} {r : Ex × Env × Heap} (hr : r = (.norm, tr l0.length)) : ∀ (fuel : Nat) (α : Al) (listed : Array Bool) (a : Act) (w : World), Inv P D α w0 ops l0 tr listed a w →
    listed.toList.count false ≤ fuel → Post P D α w0 r Q → wpAny P .any ops Q fuel listed a w
  | 0, α, listed, a, w, hI, hc, hQ => by
    have hn : Region.ready .any ops listed = [] := by
      cases e : Region.ready .any ops listed with
      | nil => rfl
      | cons i r =>
        exfalso
        obtain ⟨o, ho, hu, _⟩ := mem_ready (ops := ops) hI.size (by rw [e]; exact List.mem_cons_self : i ∈ Region.ready .any ops listed)
        have hi : i < listed.size := by rw [hI.size]; exact (Array.getElem?_eq_some_iff.1 ho).1
        have := count_set hi hu
        omega
    refine ⟨hn, ?_⟩
    have hst := hI.done h (all_listed h hI.size hn)
    subst hr
    exact hQ α .normal a w (Al.le_refl α) rfl hst
  | fuel + 1, α, listed, a, w, hI, hc, hQ => by
    refine ⟨fun hn => ?_, fun i hi => ?_⟩
    · have hst := hI.done h (all_listed h hI.size hn)
      subst hr
      exact hQ α .normal a w (Al.le_refl α) rfl hst
    · obtain ⟨o, ho, hu, hb⟩ := mem_ready hI.size hi
      have hil : i < listed.size := by rw [hI.size]; exact (Array.getElem?_eq_some_iff.1 ho).1
      have hcnt := count_set hil hu
      refine hI.op hk h ho hu hb ?_
      intro β a' w' hle hI'
      exact any_sound hk h hr fuel β _ a' w' hI' (by omega) (hQ.mono hle)


/-! the start -/
theorem compIOs_get {P : Program} {ops : Array Oper} : ∀ {os : List Oper} {l : List IOper}, compIOs P ops os = some l → l.length = os.length ∧ ∀ (i : Nat) (o : Oper), os[i]? = some o → ∃ x, l[i]? = some x ∧ compIO P ops o = some x
  | [], l, h => by simp [compIOs] at h; subst h; exact ⟨rfl, by intro i o h; simp at h⟩
  | o :: os, l, h => by
    unfold compIOs at h
    split at h
    · rename_i x l' e1 e2
      cases h
      obtain ⟨h1, h2⟩ := compIOs_get e2
      refine ⟨by simp [h1], ?_⟩
      intro i o' ho
      cases i with
      | zero => simp at ho; subst ho; exact ⟨x, by simp, e1⟩
      | succ i => simp at ho; obtain ⟨y, g1, g2⟩ := h2 i o' ho; exact ⟨y, by simpa using g1, g2⟩
    · cases h

theorem markD_get {M : List Nat} {ls : List Bool} : ∀ {l : List IOper} {k i : Nat}, (markD M ls l k)[i]? = (l[i]?).map fun o => ⟨o, loudI o.op, if isLd o.op then winsOf M ls (k + i) else []⟩
  | [], k, i => by simp [markD]
  | o :: r, k, 0 => by simp [markD]
  | o :: r, k, i + 1 => by
    simp only [markD, List.getElem?_cons_succ]
    rw [markD_get]
    rw [show k + 1 + i = k + (i + 1) by omega]

theorem markD_length {M : List Nat} {ls : List Bool} : ∀ {l : List IOper} {k : Nat}, (markD M ls l k).length = l.length
  | [], k => rfl
  | o :: r, k => by simp [markD, markD_length]

theorem mem_zip {α : Type} {l : List α} {i : Nat} {a : α} (ha : l[i]? = some a) : (a, i) ∈ l.zipIdx := by
  rw [List.mem_zipIdx_iff_getElem?]; exact ha

theorem compD_DC {l : List DOper} (hc : compD P ops = some l) {env : Env} {H : Heap} {r : Ex × Env × Heap} (he : evD T E l 0 env H [] [] = some r) :
    ∃ (l0 : List IOper) (M : List Nat) (tr : Nat → Env × Heap), DC P T E ops l0 M tr ∧ r = (.norm, tr l0.length) ∧ tr 0 = (env, H) := by
  unfold compD at hc
  split at hc
  · cases hc
  · rename_i l0 hl0
    simp only at hc
    split at hc
    · rename_i hcond
      cases hc
      simp only [Bool.and_eq_true] at hcond
      obtain ⟨⟨⟨c1, c2⟩, c3⟩, c4⟩ := hcond
      obtain ⟨hlen, hget⟩ := compIOs_get hl0
      obtain ⟨tr, t1, t2, t3, st', ps', t4, t5, t6, t7⟩ := evD_trace _ _ _ _ _ _ _ he
      rw [markD_length, Nat.zero_add] at t3
      have hls : ∀ (l : Nat) (y : IOper), l0[l]? = some y → (l0.map fun o => loudI o.op)[l]? = some (loudI y.op) := by
        intro l y hy; rw [List.getElem?_map, hy]; rfl
      refine ⟨l0, masks ops.toList [], tr, ?_, t3, t1⟩
      refine ⟨c1, by simpa using hlen, ?_, ?_, ?_, ?_, ?_, ?_, rfl⟩
      · intro i o ho; exact hget i o (by simpa using ho)
      · intro i o ho e hb
        have := List.all_eq_true.1 c2 (o, i) (mem_zip (by simpa using ho))
        simp only [List.all_eq_true] at this
        simpa using this e hb
      · intro i j x y hij hx hy hxl hyl
        have h1 := List.all_eq_true.1 c3 _ (mem_zip (hls i x hx))
        have h2 := List.all_eq_true.1 h1 _ (mem_zip (hls j y hy))
        simp only [hxl, hyl] at h2
        simpa [hij] using h2
      · intro i j o o' x' t hne ho ho' hx' hd ht
        obtain ⟨x, hx, _⟩ := hget i o (by simpa using ho)
        have hz : ∀ (k : Nat) (q : Oper) (y : IOper), ops[k]? = some q → l0[k]? = some y → ((ops.toList.zip l0).map fun (o, x) => (o.dst, namesOf o x.guard))[k]? = some (q.dst, namesOf q y.guard) := by
          intro k q y hq hy
          have : (ops.toList.zip l0)[k]? = some (q, y) := List.getElem?_zip_eq_some.2 ⟨by simpa using hq, hy⟩
          rw [List.getElem?_map, this]
          rfl
        have h1 := List.all_eq_true.1 c4 _ (mem_zip (hz i o x ho hx))
        have h2 := List.all_eq_true.1 h1 _ (mem_zip (hz j o' x' ho' hx'))
        simp only [hd, Bool.or_eq_true, beq_iff_eq, Bool.not_eq_true'] at h2
        rcases h2 with h2 | h2 | h2
        · exact absurd h2 hne
        · have : (namesOf o' x'.guard).contains t = true := by simpa using ht
          rw [this] at h2; cases h2
        · exact h2
      · intro i x hx
        have := t2 i ⟨x, loudI x.op, if isLd x.op then winsOf (masks ops.toList []) (l0.map fun o => loudI o.op) (0 + i) else []⟩ (by rw [markD_get, hx]; rfl)
        simpa using this
      · intro i x n a v hx hop hw hev j hj
        have hd : (markD (masks ops.toList []) (l0.map fun o => loudI o.op) l0 0)[i]? = some ⟨x, true && loudI x.op, winsOf (masks ops.toList []) (l0.map fun o => loudI o.op) i⟩ := by
          rw [markD_get, hx]
          simp [hop, isLd]
        have hne : winsOf (masks ops.toList []) (l0.map fun o => loudI o.op) i ≠ [] := by intro e; rw [e] at hj; cases hj
        have hp := t7 i _ n a v hd hop hne (by simpa using hw) (by simpa using hev)
        rw [List.all_eq_true] at t4
        have := t4 _ hp
        unfold pendOk at this
        rw [List.all_eq_true] at this
        have := this j hj
        split at this
        · rename_i X hX
          have hX' : X = (tr j).2 := by
            rcases t6 j X hX with h6 | h6
            · exact h6.1
            · simp [stageAt] at h6
          subst hX'
          simp only [Nat.zero_add] at this
          split at this
          · rename_i v' hv'
            rw [hv', beqA_eq this]
          · cases this
        · cases this
    · cases hc

/-- A statement whose order is open. -/
theorem dops_sound (hk : CallOk P T E) {id : Nat} {l : List DOper} (hc : compD P ops = some l) {α : Al} {w0 w : World} {env : Env} {H : Heap} {a : Act} {r : Ex × Env × Heap} (hst : St P D α w0 env H a w) (he : evD T E l 0 env H [] [] = some r)
    {Q : Exit → Act → World → Prop} (hQ : Post P D α w0 r Q) : (Code.region id ops true).wp P Q a w := by
  obtain ⟨l0, M, tr, h, hr, h0⟩ := compD_DC hc he
  refine wp_region_any h.mixed ?_
  have hnot : ∀ i, ¬ Lst (Array.replicate ops.size false) i := by
    intro i hi
    unfold Lst at hi
    rw [Array.getElem?_replicate] at hi
    split at hi <;> cases hi
  refine any_sound hk h hr ops.size α _ a _ ?_ ?_ hQ
  · have hsd := hst.sim.drawn (w.drawn + 1)
    refine ⟨by simp, fun i o _ hi => absurd hi (hnot i), ?_, ?_, ?_, hst.glob, hst.defs⟩
    · obtain ⟨j, g1, g2, g3, g4⟩ := first_at (fun k => match l0[k]? with | some y => loudI y.op | none => false) l0.length l0.length 0 (by omega)
      have hsame : (tr j).2 = (tr 0).2 := h.heap_const g1 g2 (by
        intro k y k1 k2 hy
        have := g4 k k1 k2
        rw [hy] at this; exact this)
      refine ⟨j, ⟨?_, ?_⟩, g2, by rw [hsame, h0]; exact hsd⟩
      · rcases g3 with g3 | g3
        · exact .inl g3
        · cases hy : l0[j]? with
          | none => rw [hy] at g3; cases g3
          | some y => rw [hy] at g3; exact .inr ⟨y, rfl, g3, hnot j⟩
      · intro k y hk hy hyl
        have := g4 k (by omega) hk
        rw [hy] at this
        simp only at this
        rw [this] at hyl; cases hyl
    · intro t
      obtain ⟨j, g1, g2, g3, g4⟩ := first_at (fun k => match l0[k]? with | some y => decide (y.dst = some t) | none => false) l0.length l0.length 0 (by omega)
      have hsame : (tr j).1.getD t undef = (tr 0).1.getD t undef := h.env_const g1 g2 (by
        intro k y k1 k2 hy
        have := g4 k k1 k2
        rw [hy] at this; simpa using this)
      refine ⟨j, ⟨?_, ?_, g2⟩, by rw [hsame, h0]; exact hst.env.getD t⟩
      · rcases g3 with g3 | g3
        · exact .inl g3
        · cases hy : l0[j]? with
          | none => rw [hy] at g3; cases g3
          | some y => rw [hy] at g3; exact .inr ⟨y, rfl, by simpa using g3, hnot j⟩
      · intro k y hk hy hyd
        have := g4 k (by omega) hk
        rw [hy] at this
        simp only [decide_eq_false_iff_not] at this
        exact absurd hyd this
    · rw [h0, ← hst.env.length]; simp
  · have : (Array.replicate ops.size false).toList.count false = ops.size := by simp
    omega

end
end Ve
end Go.Proofs.YtnociodpfmlglaaGreatDoor

/-
  Code, functions, and the whole: what the deterministic machine says of a call, the model does.
-/
set_option linter.unusedVariables false
set_option linter.unusedSimpArgs false
namespace Go.Proofs.YtnociodpfmlglaaGreatDoor
namespace Ve
open Go Go.RowKit

/-- Code; the lists say which temporaries a loop's head forgets. -/
def compC (P : Program) : Code → List (List Nat) → C × List (List Nat)
  | .skip, g => (.skip, g)
  | .label _, g => (.skip, g)
  | .region _ ops false, g => ((match compIOs P ops ops.toList with | some l => .ops l | none => .stuck), g)
  | .region _ ops true, g => ((match compD P ops with | some l => .dops l | none => .stuck), g)
  | .seq a b, g =>
    match compC P a g with
    | (a', g1) => match compC P b g1 with | (b', g2) => (.seq a' b', g2)
  | .cond x a b, g =>
    match compC P a g with
    | (a', g1) => match compC P b g1 with | (b', g2) => (if opdOk P x then .cond x a' b' else .stuck, g2)
  | .block id c, g => match compC P c g with | (c', g1) => (.block id c', g1)
  | .loop c, g => match compC P c g.tail with | (c', g1) => (.loop (g.headD []) c', g1)
  | .exit id, g => (.exit id, g)
  | .ret, g => (.ret, g)
  | _, g => (.stuck, g)

def compRes (P : Program) : List ResultVar → Option (List RV)
  | [] => some []
  | .tmp t :: r => (compRes P r).map (.tmp t :: ·)
  | .cell a t :: r => match shapeOf P t, compRes P r with | some n, some l => some (.cell a n :: l) | _, _ => none

/-- A function, read by the deterministic machine. -/
def compFn (P : Program) (F : Func) (g : List (List Nat)) : Option IFun :=
  match F.body, compRes P F.results.toList with
  | some c, some rs => if F.name == "runtime.NumGoroutine" then none else some ⟨F.ntmps, (compC P c g).1, rs⟩
  | _, _ => none

def TabOk (P : Program) (T : Tab) : Prop := ∀ f fn, T.code f = some fn → ∃ F g, P.funcs[f]? = some F ∧ compFn P F g = some fn

def LoopOk (P : Program) (α : Al) (w0 : World) (c : Code) (a : Act) (w : World) (Q : Exit → Act → World → Prop) : Prop :=
  ∀ (b : Frame) (k : List Item) (cs : List Frame), ∃ e a' w', Q e a' w' ∧ Arrives P (lone (b.at a (.code c :: .inLoop c :: k)) cs w) b k cs e a' w'

def CodeOk (P : Program) (E : C → Env → Heap → Option (Ex × Env × Heap)) : Prop :=
  (∀ D c g α w0 env H a w r Q, St P D α w0 env H a w → E (compC P c g).1 env H = some r → Post P D α w0 r Q → c.wp P Q a w) ∧
  (∀ D c g gone α w0 env H a w r Q, St P D α w0 env H a w → E (.loop gone (compC P c g).1) env H = some r → Post P D α w0 r Q → LoopOk P α w0 c a w Q)

section
variable {P : Program} {D : List Deferred} {T : Tab} {E : C → Env → Heap → Option (Ex × Env × Heap)}

theorem VRs.forget {α : Al} : ∀ (gone : List Nat) {env : Env} {l : List Value}, VRs α env l → VRs α (Ve.forget gone env) l
  | [], env, l, h => h
  | t :: r, env, l, h => by
    refine VRs.forget r ?_
    have gen : ∀ {env l : List Value} (t : Nat), VRs α env l → VRs α (env.set t unk) l := by
      intro env l t h
      induction h using VRs.rec (motive_1 := fun _ _ _ => True) generalizing t with
      | nil => exact .nil
      | cons hv hs _ ih =>
        cases t with
        | zero => exact .cons (.unk _) hs
        | succ t => exact .cons hv (ih t)
      | _ => trivial
    exact gen t h

theorem range_eq (n : Nat) : List.range n = List.range' 0 n := by rw [List.range_eq_range']

theorem evC_wp (hE : CodeOk P E) (hk : CallOk P T E) : ∀ (c : Code) (g : List (List Nat)) (α : Al) (w0 : World) (env : Env) (H : Heap) (a : Act) (w : World) (r : Ex × Env × Heap) (Q : Exit → Act → World → Prop),
    St P D α w0 env H a w → evC T E (compC P c g).1 env H = some r → Post P D α w0 r Q → c.wp P Q a w := by
  intro c
  induction c with
  | skip =>
    intro g α w0 env H a w r Q hst he hQ
    simp only [compC, evC, Option.some.injEq] at he
    subst he
    exact wp_skip (hQ α .normal a w (Al.le_refl α) rfl hst)
  | label l =>
    intro g α w0 env H a w r Q hst he hQ
    simp only [compC, evC, Option.some.injEq] at he
    subst he
    exact wp_label (hQ α .normal a w (Al.le_refl α) rfl hst)
  | exit id =>
    intro g α w0 env H a w r Q hst he hQ
    simp only [compC, evC, Option.some.injEq] at he
    subst he
    exact wp_exit (hQ α (.exit id) a w (Al.le_refl α) rfl hst)
  | ret =>
    intro g α w0 env H a w r Q hst he hQ
    simp only [compC, evC, Option.some.injEq] at he
    subst he
    exact wp_ret (hQ α .ret a w (Al.le_refl α) rfl hst)
  | region id ops draw =>
    intro g α w0 env H a w r Q hst he hQ
    cases draw with
    | false =>
      simp only [compC] at he
      cases hl : compIOs P ops ops.toList with
      | none => rw [hl] at he; cases he
      | some l =>
        rw [hl] at he
        simp only [evC] at he
        refine wp_region ?_
        rw [range_eq]
        have := ops_sound hk (Q := Q) ops.toList 0 l (by simp) hl α env H a w r hst he hQ
        simpa using this
    | true =>
      simp only [compC] at he
      cases hl : compD P ops with
      | none => rw [hl] at he; cases he
      | some l =>
        rw [hl] at he
        simp only [evC] at he
        exact dops_sound hk hl hst he hQ
  | seq x y ihx ihy =>
    intro g α w0 env H a w r Q hst he hQ
    simp only [compC, evC] at he
    refine wp_seq ?_
    cases hx : evC T E (compC P x g).1 env H with
    | none => rw [hx] at he; cases he
    | some r1 =>
      rw [hx] at he
      obtain ⟨e1, env1, H1⟩ := r1
      refine ihx g α w0 env H a w _ _ hst hx ?_
      intro β e a1 w1 hle hex hst1
      cases e1 with
      | norm =>
        simp only [ExRel] at hex
        subst hex
        simp only at he
        exact ihy _ β w0 env1 H1 a1 w1 r Q hst1 he (hQ.mono hle)
      | exit id =>
        simp only [ExRel] at hex
        subst hex
        simp only [Option.some.injEq] at he
        subst he
        exact hQ β _ a1 w1 hle rfl hst1
      | ret =>
        simp only [ExRel] at hex
        subst hex
        simp only [Option.some.injEq] at he
        subst he
        exact hQ β _ a1 w1 hle rfl hst1
      | pan v =>
        obtain ⟨v', rfl, hv⟩ := hex
        simp only [Option.some.injEq] at he
        subst he
        exact hQ β _ a1 w1 hle ⟨v', rfl, hv⟩ hst1
  | cond x y z ihy ihz =>
    intro g α w0 env H a w r Q hst he hQ
    simp only [compC] at he
    by_cases hx : opdOk P x = true
    · rw [if_pos hx] at he
      simp only [evC] at he
      have hr := rd_rel hst.env hst.glob hx
      split at he
      · rename_i e
        rw [e] at hr
        exact wp_cond_true hr.bool_inv (ihy g α w0 env H a w r Q hst he hQ)
      · rename_i e
        rw [e] at hr
        exact wp_cond_false hr.bool_inv (ihz _ α w0 env H a w r Q hst he hQ)
      · cases he
    · rw [if_neg hx] at he
      cases he
  | block id c ih =>
    intro g α w0 env H a w r Q hst he hQ
    simp only [compC, evC] at he
    refine wp_block ?_
    cases hx : evC T E (compC P c g).1 env H with
    | none => rw [hx] at he; cases he
    | some r1 =>
      rw [hx] at he
      obtain ⟨e1, env1, H1⟩ := r1
      refine ih g α w0 env H a w _ _ hst hx ?_
      intro β e a1 w1 hle hex hst1
      cases e1 with
      | norm =>
        simp only [ExRel] at hex
        subst hex
        simp only [Option.some.injEq] at he
        subst he
        exact hQ β _ a1 w1 hle rfl hst1
      | exit j =>
        simp only [ExRel] at hex
        subst hex
        simp only at he
        by_cases hj : j = id
        · rw [if_pos hj] at he
          simp only [Option.some.injEq] at he
          subst he
          simp only [Exit.inBlock, if_pos hj]
          exact hQ β _ a1 w1 hle rfl hst1
        · rw [if_neg hj] at he
          simp only [Option.some.injEq] at he
          subst he
          simp only [Exit.inBlock, if_neg hj]
          exact hQ β _ a1 w1 hle rfl hst1
      | ret =>
        simp only [ExRel] at hex
        subst hex
        simp only [Option.some.injEq] at he
        subst he
        exact hQ β _ a1 w1 hle rfl hst1
      | pan v =>
        obtain ⟨v', rfl, hv⟩ := hex
        simp only [Option.some.injEq] at he
        subst he
        exact hQ β _ a1 w1 hle ⟨v', rfl, hv⟩ hst1
  | loop c ih =>
    intro g α w0 env H a w r Q hst he hQ
    simp only [compC] at he
    -- the rounds, from the body's head on
    have hloop : LoopOk P α w0 c a w Q := by
      intro b k cs
      simp only [evC] at he
      have hst' : St P D α w0 (forget (g.headD []) env) H a w := ⟨hst.env.forget _, hst.sim, hst.glob, hst.defs⟩
      cases hx : evC T E (compC P c g.tail).1 (forget (g.headD []) env) H with
      | none => rw [hx] at he; cases he
      | some r1 =>
        rw [hx] at he
        obtain ⟨e1, env1, H1⟩ := r1
        have hbody := ih g.tail α w0 _ H a w _ (Exit.then (fun a' w' => LoopOk P α w0 c a' w' Q) Q) hst' hx (by
          intro β e a1 w1 hle hex hst1
          cases e1 with
          | norm =>
            simp only [ExRel] at hex
            subst hex
            simp only at he
            exact hE.2 D c g.tail _ β w0 env1 H1 a1 w1 r Q hst1 he (hQ.mono hle)
          | exit id =>
            simp only [ExRel] at hex
            subst hex
            simp only [Option.some.injEq] at he
            subst he
            exact hQ β _ a1 w1 hle rfl hst1
          | ret =>
            simp only [ExRel] at hex
            subst hex
            simp only [Option.some.injEq] at he
            subst he
            exact hQ β _ a1 w1 hle rfl hst1
          | pan v =>
            obtain ⟨v', rfl, hv⟩ := hex
            simp only [Option.some.injEq] at he
            subst he
            exact hQ β _ a1 w1 hle ⟨v', rfl, hv⟩ hst1)
        obtain ⟨e, a₁, w₁, hq, harr⟩ := hbody b (.inLoop c :: k) cs
        cases e with
        | normal =>
          obtain ⟨e₂, a₂, w₂, hq₂, harr₂⟩ := hq b k cs
          exact ⟨e₂, a₂, w₂, hq₂, .of_steps (Steps.trans harr (.one step_inLoop)) harr₂⟩
        | exit id => exact ⟨_, a₁, w₁, hq, .pass (x := .inLoop c) rfl (fun _ _ => .inl (by simp)) harr⟩
        | goto l => exact ⟨_, a₁, w₁, hq, .pass (x := .inLoop c) rfl (fun _ _ => .inl (by simp)) harr⟩
        | ret => exact ⟨_, a₁, w₁, hq, .pass (x := .inLoop c) rfl (fun _ _ => .inl (by simp)) harr⟩
        | panic ch => exact ⟨_, a₁, w₁, hq, .pass (x := .inLoop c) rfl (fun _ _ => .inl (by simp)) harr⟩
        | outgrown => exact ⟨_, a₁, w₁, hq, .pass (x := .inLoop c) rfl (fun _ _ => .inl (by simp)) harr⟩
    intro b k cs
    obtain ⟨e, a', w', hq, harr⟩ := hloop b k cs
    exact ⟨e, a', w', hq, .of_steps (.one step_loop) harr⟩
  | _ =>
    intro g α w0 env H a w r Q hst he hQ
    simp [compC, evC] at he

theorem evC_loop (hE : CodeOk P E) (hk : CallOk P T E) (c : Code) (g : List (List Nat)) (gone : List Nat) (α : Al) (w0 : World) (env : Env) (H : Heap) (a : Act) (w : World) (r : Ex × Env × Heap) (Q : Exit → Act → World → Prop)
    (hst : St P D α w0 env H a w) (he : evC T E (.loop gone (compC P c g).1) env H = some r) (hQ : Post P D α w0 r Q) : LoopOk P α w0 c a w Q := by
  intro b k cs
  simp only [evC] at he
  have hst' : St P D α w0 (forget gone env) H a w := ⟨hst.env.forget _, hst.sim, hst.glob, hst.defs⟩
  cases hx : evC T E (compC P c g).1 (forget gone env) H with
  | none => rw [hx] at he; cases he
  | some r1 =>
    rw [hx] at he
    obtain ⟨e1, env1, H1⟩ := r1
    have hbody := evC_wp hE hk c g α w0 _ H a w _ (Exit.then (fun a' w' => LoopOk P α w0 c a' w' Q) Q) hst' hx (by
      intro β e a1 w1 hle hex hst1
      cases e1 with
      | norm =>
        simp only [ExRel] at hex
        subst hex
        simp only at he
        exact hE.2 D c g _ β w0 env1 H1 a1 w1 r Q hst1 he (hQ.mono hle)
      | exit id =>
        simp only [ExRel] at hex
        subst hex
        simp only [Option.some.injEq] at he
        subst he
        exact hQ β _ a1 w1 hle rfl hst1
      | ret =>
        simp only [ExRel] at hex
        subst hex
        simp only [Option.some.injEq] at he
        subst he
        exact hQ β _ a1 w1 hle rfl hst1
      | pan v =>
        obtain ⟨v', rfl, hv⟩ := hex
        simp only [Option.some.injEq] at he
        subst he
        exact hQ β _ a1 w1 hle ⟨v', rfl, hv⟩ hst1)
    obtain ⟨e, a₁, w₁, hq, harr⟩ := hbody b (.inLoop c :: k) cs
    cases e with
    | normal =>
      obtain ⟨e₂, a₂, w₂, hq₂, harr₂⟩ := hq b k cs
      exact ⟨e₂, a₂, w₂, hq₂, .of_steps (Steps.trans harr (.one step_inLoop)) harr₂⟩
    | exit id => exact ⟨_, a₁, w₁, hq, .pass (x := .inLoop c) rfl (fun _ _ => .inl (by simp)) harr⟩
    | goto l => exact ⟨_, a₁, w₁, hq, .pass (x := .inLoop c) rfl (fun _ _ => .inl (by simp)) harr⟩
    | ret => exact ⟨_, a₁, w₁, hq, .pass (x := .inLoop c) rfl (fun _ _ => .inl (by simp)) harr⟩
    | panic ch => exact ⟨_, a₁, w₁, hq, .pass (x := .inLoop c) rfl (fun _ _ => .inl (by simp)) harr⟩
    | outgrown => exact ⟨_, a₁, w₁, hq, .pass (x := .inLoop c) rfl (fun _ _ => .inl (by simp)) harr⟩

/-- One result of a function, read as the model reads it. -/
def resCell (tm : Array Value) (r : ResultVar) : Sem Value :=
  match r with
  | ResultVar.tmp t => pure (tm.getD t undef)
  | ResultVar.cell x t => do loadVar t (← asAddr (tm.getD x undef))

theorem results_run {α : Al} {w0 w : World} {H : Heap} {env : Env} {a : Act} (he : VRs α env a.tmps.toList) (hs : Sim α w0 H w) : ∀ {rs : List ResultVar} {l : List RV} {vs : List Value}, compRes P rs = some l → resVs env H l = some vs →
    ∃ vs', (rs.mapM (resCell a.tmps)).run P w = Result.ok vs' w ∧ VRs α vs vs'
  | [], l, vs, hc, hv => by
    simp [compRes] at hc; subst hc
    simp [resVs] at hv; subst hv
    exact ⟨[], rfl, .nil⟩
  | .tmp t :: rs, l, vs, hc, hv => by
    simp only [compRes, Option.map_eq_some_iff] at hc
    obtain ⟨l', h1, rfl⟩ := hc
    simp only [resVs, resV, Option.map_eq_some_iff] at hv
    obtain ⟨vs1, h2, rfl⟩ := hv
    obtain ⟨vs', g1, g2⟩ := results_run he hs h1 h2
    refine ⟨a.tmps.getD t undef :: vs', ?_, .cons (by rw [getD_list]; exact VRs.getD he t) g2⟩
    simp only [List.mapM_cons, resCell, Sem.run_bind, Sem.run_pure, Result.andThen_ok, g1]
  | .cell x t :: rs, l, vs, hc, hv => by
    unfold compRes at hc
    split at hc
    · rename_i n l' hn h1
      cases hc
      unfold resVs at hv
      split at hv
      · rename_i v hld
        simp only [Option.map_eq_some_iff] at hv
        obtain ⟨vs1, h2, rfl⟩ := hv
        obtain ⟨vs', g1, g2⟩ := results_run he hs h1 h2
        have hx := VRs.getD he x
        simp only [resV] at hld
        have hrun' : ∃ v', VR α v v' ∧ (do loadVar t (← asAddr (a.tmps.getD x undef)) : Sem Value).run P w = .ok v' w := by
          rw [getD_list]
          obtain ⟨v', hr, hrun⟩ := ldv_run (P := P) hs hn hx hld
          refine ⟨v', hr, ?_⟩
          clear hn
          revert hx hld hrun
          generalize a.tmps.toList.getD x undef = av
          generalize env.getD x undef = ev
          intro hld hx hrun
          unfold ldv at hld
          cases hx <;> first | (simp [unk] at hld; done) | (simp only [Instr.loadAt, Instr.sureAddr, asAddr] at hrun ⊢; exact hrun)
        obtain ⟨v', hr, hrun'⟩ := hrun'
        refine ⟨v' :: vs', ?_, .cons hr g2⟩
        simp only [List.mapM_cons, resCell, Sem.run_bind, g1]
        simp only [Sem.run_bind] at hrun'
        rw [hrun']
        simp only [Result.andThen_ok, g1, Sem.run_pure]
      · cases hv
    · cases hc

end
end Ve
end Go.Proofs.YtnociodpfmlglaaGreatDoor

/-
  Functions that defer one closure, which recovers; and the model's own entries.
-/
set_option linter.unusedVariables false
set_option linter.unusedSimpArgs false
namespace Go.Proofs.YtnociodpfmlglaaGreatDoor
namespace Ve
open Go Go.RowKit

/-- What a function does, in the deterministic machine's words. -/
def XOk (P : Program) (f : FuncId) (x : List Value → Heap → Option Out) : Prop :=
  ∀ args H out, x args H = some out → ∀ α w0 w args', (∀ g, g < P.globals.size → α g = some (g, 0)) → Sim α w0 H w → VRs α args args' → CallSem P f ⟨args'⟩ w (OutRel α w0 out)

def IntrOk (P : Program) (T : Tab) : Prop :=
  ∀ f args H out, T.code f = none → T.dfn f = none → T.intr f args H = some out → ∀ α w0 w args', (∀ g, g < P.globals.size → α g = some (g, 0)) → Sim α w0 H w → VRs α args args' → CallSem P f ⟨args'⟩ w (OutRel α w0 out)

/-- Code that defers a closure at its outermost level. -/
inductive IsD (P : Program) : Code → List C → Nat → FuncId → List Operand → C → Prop
  | here {id : Nat} {ops : Array Oper} {rest : Code} {t : Nat} {g : FuncId} {caps : Array Operand} {ts : Array TypeId} {mk df : Oper} (ho : ops = #[mk, df]) (h1 : mk.op = .makeFunc (.func g) #[] caps) (h2 : mk.dst = some t) (h3 : mk.guard = none)
      (h4 : df.op = .defer ⟨.value (.tmp t), #[], ts⟩) (h5 : df.dst = none) (h6 : df.guard = none) (hc : caps.toList.all (opdOk P) = true) : IsD P (.seq (.region id ops false) rest) [] t g caps.toList (compC P rest []).1
  | there {a rest : Code} {pre : List C} {t : Nat} {g : FuncId} {caps : List Operand} {r : C} (h : IsD P rest pre t g caps r) : IsD P (.seq a rest) ((compC P a []).1 :: pre) t g caps r

/-- A closure that first asks what has been thrown. -/
def IsClo (P : Program) (G : Func) (u v : Nat) (crest : C) : Prop :=
  ∃ id rc asg c0 ts, G.body = some (.seq (.region id #[rc, asg] false) c0) ∧ rc.op = .call ⟨.builtin .recover, #[], ts⟩ ∧ rc.dst = some u ∧ rc.guard = none ∧ asg.op = .assign (.tmp u) ∧ asg.dst = some v ∧ asg.guard = none ∧
    (compC P c0 []).1 = crest ∧ G.results = #[] ∧ (G.name == "runtime.NumGoroutine") = false ∧ u < G.ntmps

def DTabOk (P : Program) (T : Tab) : Prop :=
  ∀ f d, T.dfn f = some d → ∃ F G c, P.funcs[f]? = some F ∧ F.body = some c ∧ (F.name == "runtime.NumGoroutine") = false ∧ F.ntmps = d.ntmps ∧ compRes P F.results.toList = some d.results ∧ IsD P c d.pre d.t d.g d.caps d.rest ∧
    P.funcs[d.g]? = some G ∧ IsClo P G d.u d.v d.crest ∧ G.ntmps = d.gtmps

section
variable {P : Program} {D : List Deferred} {T : Tab} {E : C → Env → Heap → Option (Ex × Env × Heap)}

theorem results_sound {γ : Al} {w0 w : World} {H : Heap} {env : Env} {tmps : Array Value} {F : Func} {rs : List RV} {v : Value} (he : VRs γ env tmps.toList) (hs : Sim γ w0 H w) (hrs : compRes P F.results.toList = some rs)
    (hv : Ve.results rs env H = some v) : ∃ v', (Go.results F tmps).run P w = .ok v' w ∧ VR γ v v' := by
  unfold Ve.results at hv
  have key : ∀ vs, resVs env H rs = some vs → ∃ vs', (Go.results F tmps).run P w = .ok (if h : (⟨vs'⟩ : Array Value).size = 1 then (⟨vs'⟩ : Array Value)[0] else .tuple ⟨vs'⟩) w ∧ VRs γ vs vs' := by
    intro vs hvs
    obtain ⟨vs', g1, g2⟩ := results_run (a := { tmps := tmps, defers := [] }) he hs hrs hvs
    refine ⟨vs', ?_, g2⟩
    unfold Go.results
    rw [Array.mapM_eq_mapM_toList]
    change Sem.run P (do let vs ← (List.toArray <$> List.mapM (resCell tmps) F.results.toList); pure (if h : vs.size = 1 then vs[0] else .tuple vs)) w = _
    simp only [Sem.run_bind, Sem.run_map, g1, Result.andThen_ok, Sem.run_pure]
  split at hv
  · rename_i v1 hvs
    cases hv
    obtain ⟨vs', g1, g2⟩ := key _ hvs
    cases g2 with
    | cons hv2 hs2 =>
      cases hs2
      exact ⟨_, g1, hv2⟩
  · rename_i vs hne hvs
    cases hv
    obtain ⟨vs', g1, g2⟩ := key _ hvs
    have hsz : ¬ ((⟨vs'⟩ : Array Value).size = 1) := by
      have : (⟨vs'⟩ : Array Value).size = vs.length := g2.length
      rw [this]
      intro h1
      match vs, h1 with
      | [x], _ => exact hne x rfl
    rw [dif_neg hsz] at g1
    exact ⟨_, g1, .tup g2⟩
  · cases hv

theorem put_toList (a : Act) (t : Nat) (v : Value) : (a.put (some t) v).tmps.toList = a.tmps.toList.set t v := by
  show (a.tmps.setIfInBounds t v).toList = _
  simp

theorem isD_wp (hE : CodeOk P E) {c : Code} {pre : List C} {t : Nat} {g : FuncId} {caps : List Operand} {rest : C} (h : IsD P c pre t g caps rest) {Q : Exit → Act → World → Prop} : ∀ (α : Al) (w0 : World) (env : Env) (H : Heap) (a : Act) (w : World) (e1 : Ex) (env1 : Env) (H1 : Heap),
    St P [] α w0 env H a w → evPre E pre env H = some (e1, env1, H1) →
    (e1 ≠ .norm → Post P [] α w0 (e1, env1, H1) Q) →
    (e1 = .norm → t < env1.length ∧ ∃ r2, E rest (env1.set t (.func (.func g) ⟨[]⟩ ⟨caps.map (rd env1)⟩)) H1 = some r2 ∧ ∀ β cl', α.le β → VRs β (caps.map (rd env1)) cl' → Post P [⟨.fn (.func g) ⟨cl'⟩, #[]⟩] β w0 r2 Q) →
    c.wp P Q a w := by
  induction h with
  | @here id ops rest t g caps ts mk df ho h1 h2 h3 h4 h5 h6 hc =>
    intro α w0 env H a w e1 env1 H1 hst he hQ1 hQ2
    simp only [evPre, Option.some.injEq, Prod.mk.injEq] at he
    obtain ⟨rfl, rfl, rfl⟩ := he
    obtain ⟨hlt, r2, hr, hQ⟩ := hQ2 rfl
    refine wp_seq (wp_region ?_)
    subst ho
    have hw1 : ∀ y, Region.wanted mk y = true := fun y => by simp [Region.wanted, h3]
    have hw2 : ∀ y, Region.wanted df y = true := fun y => by simp [Region.wanted, h6]
    have hclr : VRs α (caps.toList.map (rd env)) (caps.toList.map a.eval) := VRs.map fun x hx => rd_rel hst.env hst.glob (List.all_eq_true.1 hc x hx)
    have e0 : (execOp a.eval mk).run P w = .ok (.value (.func (.func g) #[] ⟨caps.toList.map a.eval⟩)) w := by
      obtain ⟨caps⟩ := caps
      simp [execOp, h1, Instr.makeFunc]
    show wpOps P #[mk, df] _ [0, 1] a w
    simp only [wpOps, List.getElem?_toArray, List.getElem?_cons_zero, hw1, if_true]
    left
    unfold Oper.wp
    rw [e0, Oper.upon_value]
    have hsz : t < a.tmps.size := by
      have := hst.env.length
      rw [Array.length_toList] at this
      omega
    have e1 : (execOp (a.put mk.dst (.func (.func g) #[] ⟨caps.toList.map a.eval⟩)).eval df).run P w = .ok (.defer ⟨.fn (.func g) ⟨caps.toList.map a.eval⟩, #[]⟩) w := by
      have : (a.put mk.dst (.func (.func g) #[] ⟨caps.toList.map a.eval⟩)).eval (.tmp t) = .func (.func g) #[] ⟨caps.toList.map a.eval⟩ := by
        rw [h2]
        simp [Act.eval, Act.put, hsz]
      simp [execOp, h4, resolve, this, Deferred.ofValue]
    simp only [List.getElem?_cons_succ, List.getElem?_cons_zero, hw2, if_true, Oper.wp]
    left
    rw [e1, Oper.upon_defer]
    show rest.wp P Q _ w
    refine hE.1 [⟨.fn (.func g) ⟨caps.toList.map a.eval⟩, #[]⟩] rest [] α w0 _ H _ w r2 Q ?_ hr (hQ α _ (Al.le_refl α) hclr)
    refine ⟨?_, hst.sim, hst.glob, ?_⟩
    · rw [h2, h5]
      show VRs α _ (a.put (some t) _).tmps.toList
      rw [put_toList]
      exact hst.env.set (.func _ rfl .nil hclr) t
    · rw [h5, h2]
      show _ :: (a.put (some t) _).defers = _
      rw [put_defs, hst.defs]
  | @there a0 rest pre t g caps r h ih =>
    intro α w0 env H a w e1 env1 H1 hst he hQ1 hQ2
    refine wp_seq ?_
    unfold evPre at he
    cases hx : E (compC P a0 []).1 env H with
    | none => rw [hx] at he; cases he
    | some r0 =>
      rw [hx] at he
      obtain ⟨ex, envx, Hx⟩ := r0
      refine hE.1 [] a0 [] α w0 env H a w _ _ hst hx ?_
      intro β e a1 w1 hle hex hst1
      cases ex with
      | norm =>
        simp only [ExRel] at hex
        subst hex
        simp only at he
        exact ih β w0 envx Hx a1 w1 e1 env1 H1 hst1 he (fun hn => (hQ1 hn).mono hle) (fun hn => by
          obtain ⟨hlt, r2, g1, g2⟩ := hQ2 hn
          exact ⟨hlt, r2, g1, fun γ cl' hγ => g2 γ cl' (Al.le_trans hle hγ)⟩)
      | exit id =>
        simp only [ExRel] at hex
        subst hex
        simp only [Option.some.injEq, Prod.mk.injEq] at he
        obtain ⟨rfl, rfl, rfl⟩ := he
        exact hQ1 (fun e => nomatch e) β _ a1 w1 hle rfl hst1
      | ret =>
        simp only [ExRel] at hex
        subst hex
        simp only [Option.some.injEq, Prod.mk.injEq] at he
        obtain ⟨rfl, rfl, rfl⟩ := he
        exact hQ1 (fun e => nomatch e) β _ a1 w1 hle rfl hst1
      | pan v =>
        obtain ⟨v', rfl, hv⟩ := hex
        simp only [Option.some.injEq, Prod.mk.injEq] at he
        obtain ⟨rfl, rfl, rfl⟩ := he
        exact hQ1 (fun e => nomatch e) β _ a1 w1 hle ⟨v', rfl, hv⟩ hst1

theorem env_start {α : Al} {args args' : List Value} (ha : VRs α args args') (n : Nat) : VRs α (args ++ List.replicate (n - args.length) undef) ((⟨args'⟩ : Array Value) ++ Array.replicate (n - (⟨args'⟩ : Array Value).size) undef).toList := by
  simp only [Array.toList_append, Array.toList_replicate]
  refine ha.append ?_
  have : (⟨args'⟩ : Array Value).size = args.length := ha.length
  rw [this]
  generalize n - args.length = m
  induction m with
  | zero => exact .nil
  | succ n ih => exact .cons (VR.undef α) ih

/-- The closure's call, while the function is left. -/
theorem clo_calls (hE : CodeOk P E) {F G : Func} {d : DFn} (hG : P.funcs[d.g]? = some G) (hclo : IsClo P G d.u d.v d.crest) (hn : G.ntmps = d.gtmps) (hrs : compRes P F.results.toList = some d.results)
    {α β : Al} {w0 w : World} {cl cl' : List Value} {rv rv' : Value} {env : Env} {tmps : Array Value} {H : Heap} {out : Out} {u : FrameMode} (hl : α.le β) (hglob : ∀ g, g < P.globals.size → β g = some (g, 0))
    (hs : Sim β w0 H w) (henv : VRs β env tmps.toList) (hcl : VRs β cl cl') (hrv : VR β rv rv') (he : evClo E d cl rv env H = some out)
    (hrec : ∀ (c₀ : Frame) (cs : List Frame), c₀.mode = u → ∃ u', settle u' = .returning ∧
      ((recoverD (c₀ :: cs) = some (rv', { c₀ with mode := u' } :: cs)) ∨ (recoverD (c₀ :: cs) = none ∧ rv' = .nilIface ∧ u' = u))) :
    CallsD P d.g ⟨cl'⟩ u w fun
      | .returned _, u', w' => Leaves P F tmps (OutRel α w0 out) [] (settle u') w'
      | .panicked chain, u', w' => Leaves P F tmps (OutRel α w0 out) [] (raised u' chain) w'
      | .outgrown, _, w' => OutRel α w0 out .outgrown w' := by
  obtain ⟨id, rc, asg, c0, ts, hb, r1, r2, r3, a1, a2, a3, hcomp, hres, hname, hu⟩ := hclo
  refine callsD_of_wpS hG hb ?_
  intro c₀ cs hc0
  refine wpS_seq (wpS_region ?_)
  obtain ⟨u', hset, hrec2⟩ := hrec c₀ cs hc0
  have hw1 : ∀ y, Region.wanted rc y = true := fun y => by simp [Region.wanted, r3]
  have hw2 : ∀ y, Region.wanted asg y = true := fun y => by simp [Region.wanted, a3]
  have hx1 : ∀ ρ, (execOp ρ rc).run P w = .ok .recover w := by
    intro ρ
    simp [execOp, r1, resolve, invoke, Go.builtin]
  have hx2 : ∀ ρ, (execOp ρ asg).run P w = .ok (.value (ρ (.tmp d.u))) w := by
    intro ρ
    simp [execOp, a1]
  -- behind the region
  unfold evClo at he
  have key : ∀ (cs' : List Frame), cs' = { c₀ with mode := u' } :: cs → wpOpsS P #[rc, asg] (Exit.thenS (c0.wpS P (bodyPostS P G c₀ cs fun
      | .returned _, u', w' => Leaves P F tmps (OutRel α w0 out) [] (settle u') w'
      | .panicked chain, u', w' => Leaves P F tmps (OutRel α w0 out) [] (raised u' chain) w'
      | .outgrown, _, w' => OutRel α w0 out .outgrown w')) (bodyPostS P G c₀ cs fun
      | .returned _, u', w' => Leaves P F tmps (OutRel α w0 out) [] (settle u') w'
      | .panicked chain, u', w' => Leaves P F tmps (OutRel α w0 out) [] (raised u' chain) w'
      | .outgrown, _, w' => OutRel α w0 out .outgrown w')) [1]
        ((({ tmps := (⟨cl'⟩ : Array Value) ++ Array.replicate (G.ntmps - (⟨cl'⟩ : Array Value).size) undef, defers := [] } : Act)).put rc.dst rv') cs' w := by
    intro cs' hcs
    subst hcs
    simp only [wpOpsS, List.getElem?_toArray, List.getElem?_cons_succ, List.getElem?_cons_zero, hw2, if_true, hx2, Oper.upon_value]
    show c0.wpS P _ _ _ _
    refine wpS_of_wp ?_
    have hst : St P [] β w0 (((cl ++ List.replicate (d.gtmps - cl.length) undef).set d.u rv).set d.v rv) H
        (((({ tmps := (⟨cl'⟩ : Array Value) ++ Array.replicate (G.ntmps - (⟨cl'⟩ : Array Value).size) undef, defers := [] } : Act)).put rc.dst rv').put asg.dst
          ((({ tmps := (⟨cl'⟩ : Array Value) ++ Array.replicate (G.ntmps - (⟨cl'⟩ : Array Value).size) undef, defers := [] } : Act).put rc.dst rv').eval (.tmp d.u))) w := by
      have h0 := env_start hcl G.ntmps
      rw [hn] at h0
      have hsz : d.u < ((⟨cl'⟩ : Array Value) ++ Array.replicate (G.ntmps - (⟨cl'⟩ : Array Value).size) undef).size := by
        simp only [Array.size_append, Array.size_replicate]
        omega
      have hev : (({ tmps := (⟨cl'⟩ : Array Value) ++ Array.replicate (G.ntmps - (⟨cl'⟩ : Array Value).size) undef, defers := [] } : Act).put rc.dst rv').eval (.tmp d.u) = rv' := by
        rw [r2]
        show (Array.setIfInBounds _ d.u rv').getD d.u undef = rv'
        simp only [Array.getD_eq_getD_getElem?, Array.getElem?_setIfInBounds_self_of_lt hsz, Option.getD_some]
      rw [hev, r2, a2]
      refine ⟨?_, hs, hglob, by rw [put_defs, put_defs]⟩
      rw [put_toList, put_toList, hn]
      exact (h0.set hrv d.u).set hrv d.v
    cases hx : E d.crest (((cl ++ List.replicate (d.gtmps - cl.length) undef).set d.u rv).set d.v rv) H with
    | none => rw [hx] at he; cases he
    | some r =>
      rw [hx] at he
      obtain ⟨e3, env3, H3⟩ := r
      rw [← hcomp] at hx
      refine hE.1 [] c0 [] β w0 _ H _ w _ _ hst hx ?_
      have fin : ∀ γ a3 w3, β.le γ → St P [] γ w0 env3 H3 a3 w3 → ((Ve.results d.results env H3).map fun v => Out.ret v H3) = some out →
          a3.defers = [] ∧ ∃ u'', ({ c₀ with mode := u' } :: cs : List Frame) = { c₀ with mode := u'' } :: cs ∧ ∃ v, (Go.results G a3.tmps).run P w3 = .ok v w3 ∧ Leaves P F tmps (OutRel α w0 out) [] (settle u'') w3 := by
        intro γ a3 w3 hle hst3 ho
        simp only [Option.map_eq_some_iff] at ho
        obtain ⟨v, hv, rfl⟩ := ho
        obtain ⟨v', g1, g2⟩ := results_sound (henv.mono hle) hst3.sim hrs hv
        refine ⟨hst3.defs, u', rfl, .tuple #[], ?_, ?_⟩
        · unfold Go.results
          simp [hres]
        · rw [hset]
          exact ⟨v', g1, γ, v', Al.le_trans hl hle, rfl, g2, hst3.sim⟩
      intro γ e a3 w3 hle hex hst3
      cases e3 with
      | norm =>
        simp only [ExRel] at hex
        subst hex
        exact fin γ a3 w3 hle hst3 he
      | ret =>
        simp only [ExRel] at hex
        subst hex
        exact fin γ a3 w3 hle hst3 he
      | exit id => simp only at he; cases he
      | pan v => simp only at he; cases he
  show wpOpsS P #[rc, asg] _ [0, 1] _ _ _
  rw [wpOpsS]
  simp only [List.getElem?_toArray, List.getElem?_cons_zero, hw1, if_true, hx1]
  rcases hrec2 with h | ⟨h, h2, h3⟩
  · rw [h]
    exact key _ rfl
  · rw [h]
    rw [← h2]
    refine key _ ?_
    rw [h3, ← hc0]

/-- A function that defers a closure. -/
theorem d_sound (hE : CodeOk P E) {f : FuncId} {F G : Func} {c : Code} {d : DFn} (hF : P.funcs[f]? = some F) (hb : F.body = some c) (hname : (F.name == "runtime.NumGoroutine") = false) (hnt : F.ntmps = d.ntmps)
    (hrs : compRes P F.results.toList = some d.results) (hD : IsD P c d.pre d.t d.g d.caps d.rest) (hG : P.funcs[d.g]? = some G) (hclo : IsClo P G d.u d.v d.crest) (hn : G.ntmps = d.gtmps) : XOk P f (evDfn E d) := by
  intro args H out he α w0 w args' hg hs ha
  left
  have hen : (callFunc f ⟨args'⟩).run P w = .ok (.enter f ⟨args'⟩) w := by
    simp only [callFunc, Sem.run_bind, run_program, Result.andThen_ok, hF]
    rw [if_neg (by simpa using hname)]
    rw [hb]
    rfl
  refine ⟨hen, ?_⟩
  refine calls_of_wp_defers hF hb ?_
  have h0 := env_start ha F.ntmps
  rw [hnt] at h0
  have hst : St P [] α w0 (args ++ List.replicate (d.ntmps - args.length) undef) H { tmps := (⟨args'⟩ : Array Value) ++ Array.replicate (F.ntmps - (⟨args'⟩ : Array Value).size) undef, defers := [] } w := by
    refine ⟨?_, hs, hg, rfl⟩
    rw [hnt]; exact h0
  unfold evDfn at he
  cases hp : evPre E d.pre (args ++ List.replicate (d.ntmps - args.length) undef) H with
  | none => rw [hp] at he; cases he
  | some r =>
    obtain ⟨e1, env1, H1⟩ := r
    rw [hp] at he
    refine isD_wp hE hD α w0 _ H _ w e1 env1 H1 hst hp ?_ ?_
    · intro hne β e a1 w1 hle hex hst1
      cases e1 with
      | norm => exact absurd rfl hne
      | exit id => cases he
      | ret =>
        simp only [ExRel] at hex
        subst hex
        simp only [Option.map_eq_some_iff] at he
        obtain ⟨v, hv, rfl⟩ := he
        obtain ⟨v', g1, g2⟩ := results_sound hst1.env hst1.sim hrs hv
        show Leaves P F a1.tmps _ a1.defers .returning w1
        rw [hst1.defs]
        exact ⟨v', g1, β, v', hle, rfl, g2, hst1.sim⟩
      | pan v =>
        obtain ⟨v', rfl, hv⟩ := hex
        simp only [Option.some.injEq] at he
        subst he
        show Leaves P F a1.tmps _ a1.defers (.panicking _) w1
        rw [hst1.defs]
        exact ⟨β, v', hle, rfl, hv, hst1.sim⟩
    · intro hnorm
      subst hnorm
      simp only at he
      split at he
      · cases he
      · rename_i hlt
        have hlt' : d.t < env1.length := by simpa using hlt
        refine ⟨hlt', ?_⟩
        cases hr : E d.rest (env1.set d.t (.func (.func d.g) ⟨[]⟩ ⟨d.caps.map (rd env1)⟩)) H1 with
        | none => rw [hr] at he; cases he
        | some r2 =>
          obtain ⟨e2, env2, H2⟩ := r2
          rw [hr] at he
          refine ⟨_, rfl, ?_⟩
          intro β cl' hβ hcl γ e a2 w2 hle hex hst2
          have hinv : (invoke (.fn (.func d.g) ⟨cl'⟩) #[]).run P w2 = .ok (.enter d.g ⟨cl'⟩) w2 := by
            obtain ⟨id, rc, asg, c0, ts, hbG, _, _, _, _, _, _, _, _, hnG, _⟩ := hclo
            simp only [invoke, Array.empty_append, callFunc, Sem.run_bind, run_program, Result.andThen_ok, hG]
            rw [if_neg (by simpa using hnG), hbG]
            rfl
          have hle' := Al.le_trans hβ hle
          have fin : ∀ (rv rv' : Value) (u : FrameMode), u ≠ .run → VR γ rv rv' → evClo E d (d.caps.map (rd env1)) rv env2 H2 = some out →
              (∀ (c₀ : Frame) (cs : List Frame), c₀.mode = u → ∃ u', settle u' = .returning ∧ ((recoverD (c₀ :: cs) = some (rv', { c₀ with mode := u' } :: cs)) ∨ (recoverD (c₀ :: cs) = none ∧ rv' = .nilIface ∧ u' = u))) →
              Leaves P F a2.tmps (OutRel α w0 out) a2.defers u w2 := by
            intro rv rv' u hu hrv hev hrec
            rw [hst2.defs]
            refine leaves_cons hu hinv ?_
            exact clo_calls hE hG hclo hn hrs hle' hst2.glob hst2.sim hst2.env (hcl.mono hle) hrv hev hrec
          cases e2 with
          | norm =>
            simp only [ExRel] at hex
            subst hex
            refine fin .nilIface .nilIface .returning (fun e => nomatch e) (.nilI) he ?_
            intro c₀ cs hc
            refine ⟨.returning, rfl, .inr ⟨?_, rfl, rfl⟩⟩
            simp [recoverD, hc]
          | ret =>
            simp only [ExRel] at hex
            subst hex
            refine fin .nilIface .nilIface .returning (fun e => nomatch e) (.nilI) he ?_
            intro c₀ cs hc
            refine ⟨.returning, rfl, .inr ⟨?_, rfl, rfl⟩⟩
            simp [recoverD, hc]
          | exit id => cases he
          | pan v =>
            obtain ⟨v', rfl, hv⟩ := hex
            refine fin v v' (.panicking [{ v := v', recovered := false }]) (fun e => nomatch e) hv he ?_
            intro c₀ cs hc
            refine ⟨.panicking [{ v := v', recovered := true }], rfl, .inl ?_⟩
            simp [recoverD, hc]

/-- A function without a body: what the model's entry answers. -/
theorem x_sound {f : FuncId} {F : Func} {e : Array Value → Sem Value} {x : List Value → Heap → Option Out} (hF : P.funcs[f]? = some F) (hname : (F.name == "runtime.NumGoroutine") = false) (hb : F.body.isNone = true) (hn : Extern.findNext F = none) (hf : Extern.find F = some e)
    (h : ∀ args H out, x args H = some out → ∃ v, out = .ret v H ∧ ∀ (α : Al) args', VRs α args args' → ∃ v', VR α v v' ∧ ∀ w, (e ⟨args'⟩).run P w = .ok v' w) : XOk P f x := by
  intro args H out he α w0 w args' hg hs ha
  obtain ⟨v, rfl, h2⟩ := h args H out he
  obtain ⟨v', hv, hr⟩ := h2 α args' ha
  right
  refine ⟨v', w, ?_, α, v', Al.le_refl α, rfl, hv, hs⟩
  rw [run_callFunc_extern hF hname hb hn hf, hr]
  rfl

def xIndexByte : List Value → Heap → Option Out
  | [.string s, .int .u8 c], H => some (.ret (.int .i64 (Lib.indexByte (bytesOf s) c.toNat.toUInt8)) H)
  | _, _ => none

def xCompare : List Value → Heap → Option Out
  | [.string a, .string b], H => some (.ret (.int .i64 (Lib.compareBytes (bytesOf a) (bytesOf b))) H)
  | _, _ => none

def xCount : List Value → Heap → Option Out
  | [.string s, .int .u8 c], H => some (.ret (.int .i64 (Lib.countByte (bytesOf s) c.toNat.toUInt8 : Nat)) H)
  | _, _ => none

def xSame : List Value → Heap → Option Out
  | [v], H => some (.ret v H)
  | _, _ => none

theorem xIndexByte_ok {f : FuncId} {F : Func} (hF : P.funcs[f]? = some F) (hname : (F.name == "runtime.NumGoroutine") = false) (hb : F.body.isNone = true) (hn : Extern.findNext F = none) (hf : Extern.find F = some Extern.BytealgIndexByte.indexByte) : XOk P f xIndexByte := by
  refine x_sound hF hname hb hn hf ?_
  intro args H out he
  unfold xIndexByte at he
  split at he
  · cases he
    refine ⟨_, rfl, fun α args' ha => ?_⟩
    cases ha with
    | cons h1 hs => cases hs with
      | cons h2 hs => cases hs; rw [h1.str_inv, h2.int_inv]; exact ⟨_, .int _ _, fun w => Lib.run_indexByteString _ _ w⟩
  · cases he

theorem xCompare_ok {f : FuncId} {F : Func} (hF : P.funcs[f]? = some F) (hname : (F.name == "runtime.NumGoroutine") = false) (hb : F.body.isNone = true) (hn : Extern.findNext F = none) (hf : Extern.find F = some Extern.BytealgCompare.compare) : XOk P f xCompare := by
  refine x_sound hF hname hb hn hf ?_
  intro args H out he
  unfold xCompare at he
  split at he
  · cases he
    refine ⟨_, rfl, fun α args' ha => ?_⟩
    cases ha with
    | cons h1 hs => cases hs with
      | cons h2 hs => cases hs; rw [h1.str_inv, h2.str_inv]; exact ⟨_, .int _ _, fun w => Lib.run_compareString _ _ w⟩
  · cases he

theorem xCount_ok {f : FuncId} {F : Func} (hF : P.funcs[f]? = some F) (hname : (F.name == "runtime.NumGoroutine") = false) (hb : F.body.isNone = true) (hn : Extern.findNext F = none) (hf : Extern.find F = some Extern.BytealgCount.count) : XOk P f xCount := by
  refine x_sound hF hname hb hn hf ?_
  intro args H out he
  unfold xCount at he
  split at he
  · cases he
    refine ⟨_, rfl, fun α args' ha => ?_⟩
    cases ha with
    | cons h1 hs => cases hs with
      | cons h2 hs => cases hs; rw [h1.str_inv, h2.int_inv]; exact ⟨_, .int _ _, fun w => Lib.run_countString _ _ w⟩
  · cases he

theorem xSame_ok {f : FuncId} {F : Func} (hF : P.funcs[f]? = some F) (hname : (F.name == "runtime.NumGoroutine") = false) (hb : F.body.isNone = true) (hn : Extern.findNext F = none) (hf : Extern.find F = some Extern.AbiNoEscape.same) : XOk P f xSame := by
  refine x_sound hF hname hb hn hf ?_
  intro args H out he
  unfold xSame at he
  split at he
  · cases he
    refine ⟨_, rfl, fun α args' ha => ?_⟩
    cases ha with
    | cons h1 hs => cases hs; exact ⟨_, h1, fun w => rfl⟩
  · cases he

theorem call_sound (hT : TabOk P T) (hD : DTabOk P T) (hI : IntrOk P T) (hE : CodeOk P E) : CallOk P T E := by
  intro f args H out he α w0 w args' hg hs ha
  unfold evCall at he
  cases hc : T.code f with
  | none =>
    rw [hc] at he
    simp only at he
    cases hd : T.dfn f with
    | none => rw [hd] at he; exact hI f args H out hc hd he α w0 w args' hg hs ha
    | some d =>
      rw [hd] at he
      obtain ⟨F, G, c, hF, hb, hname, hnt, hrs, hDs, hG, hclo, hn⟩ := hD f d hd
      exact d_sound hE hF hb hname hnt hrs hDs hG hclo hn args H out he α w0 w args' hg hs ha
  | some fn =>
    rw [hc] at he
    simp only at he
    obtain ⟨F, g, hF, hcf⟩ := hT f fn hc
    unfold compFn at hcf
    split at hcf
    · rename_i c rs hb hrs
      split at hcf
      · cases hcf
      · rename_i hname
        cases hcf
        left
        have hen : (callFunc f ⟨args'⟩).run P w = .ok (.enter f ⟨args'⟩) w := by
          simp only [callFunc, Sem.run_bind, run_program, Result.andThen_ok, hF]
          rw [if_neg (by simpa using hname)]
          rw [hb]
          rfl
        refine ⟨hen, ?_⟩
        refine calls_of_wp hF hb ?_
        have hlen := ha.length
        have henv : VRs α (args ++ List.replicate (F.ntmps - args.length) undef) ((⟨args'⟩ : Array Value) ++ Array.replicate (F.ntmps - (⟨args'⟩ : Array Value).size) undef).toList := by
          simp only [Array.toList_append, Array.toList_replicate]
          refine ha.append ?_
          have : (⟨args'⟩ : Array Value).size = args.length := hlen
          rw [this]
          generalize F.ntmps - args.length = n
          induction n with
          | zero => exact .nil
          | succ n ih => exact .cons (VR.undef α) ih
        have hst : St P [] α w0 (args ++ List.replicate (F.ntmps - args.length) undef) H { tmps := (⟨args'⟩ : Array Value) ++ Array.replicate (F.ntmps - (⟨args'⟩ : Array Value).size) undef, defers := [] } w := ⟨henv, hs, hg, rfl⟩
        cases hx : E (compC P c g).1 (args ++ List.replicate (F.ntmps - args.length) undef) H with
        | none => rw [hx] at he; cases he
        | some r =>
          rw [hx] at he
          obtain ⟨e1, env1, H1⟩ := r
          refine hE.1 [] c g α w0 _ H _ w _ _ hst hx ?_
          have fin : ∀ β a1 w1, α.le β → St P [] β w0 env1 H1 a1 w1 → ((Ve.results rs env1 H1).map fun v => Out.ret v H1) = some out → a1.defers = [] ∧ ∃ v, (Go.results F a1.tmps).run P w1 = .ok v w1 ∧ OutRel α w0 out (.returned v) w1 := by
            intro β a1 w1 hle hst1 ho
            refine ⟨hst1.defs, ?_⟩
            simp only [Option.map_eq_some_iff] at ho
            obtain ⟨v, hv, rfl⟩ := ho
            unfold Ve.results at hv
            have key : ∀ vs, resVs env1 H1 rs = some vs → ∃ vs', (Go.results F a1.tmps).run P w1 = .ok (if h : (⟨vs'⟩ : Array Value).size = 1 then (⟨vs'⟩ : Array Value)[0] else .tuple ⟨vs'⟩) w1 ∧ VRs β vs vs' := by
              intro vs hvs
              obtain ⟨vs', g1, g2⟩ := results_run hst1.env hst1.sim hrs hvs
              refine ⟨vs', ?_, g2⟩
              unfold Go.results
              rw [Array.mapM_eq_mapM_toList]
              change Sem.run P (do let vs ← (List.toArray <$> List.mapM (resCell a1.tmps) F.results.toList); pure (if h : vs.size = 1 then vs[0] else .tuple vs)) w1 = _
              simp only [Sem.run_bind, Sem.run_map, g1, Result.andThen_ok, Sem.run_pure]
            split at hv
            · rename_i v1 hvs
              cases hv
              obtain ⟨vs', g1, g2⟩ := key _ hvs
              cases g2 with
              | cons hv2 hs2 =>
                cases hs2
                refine ⟨_, g1, β, _, hle, rfl, ?_, hst1.sim⟩
                exact hv2
            · rename_i vs hne hvs
              cases hv
              obtain ⟨vs', g1, g2⟩ := key _ hvs
              have hsz : ¬ ((⟨vs'⟩ : Array Value).size = 1) := by
                have : (⟨vs'⟩ : Array Value).size = vs.length := g2.length
                rw [this]
                intro h1
                match vs, h1 with
                | [x], _ => exact hne x rfl
              rw [dif_neg hsz] at g1
              exact ⟨_, g1, β, _, hle, rfl, .tup g2, hst1.sim⟩
            · cases hv
          intro β e a1 w1 hle hex hst1
          cases e1 with
          | norm =>
            simp only [ExRel] at hex
            subst hex
            exact fin β a1 w1 hle hst1 he
          | ret =>
            simp only [ExRel] at hex
            subst hex
            exact fin β a1 w1 hle hst1 he
          | exit id => simp only at he; cases he
          | pan v =>
            obtain ⟨v', rfl, hv⟩ := hex
            simp only [Option.some.injEq] at he
            subst he
            exact ⟨hst1.defs, β, v', hle, rfl, hv, hst1.sim⟩
    · cases hcf

theorem all_sound (hT : TabOk P T) (hD : DTabOk P T) (hI : IntrOk P T) : ∀ n, CodeOk P (evN T n)
  | 0 => ⟨fun D c g α w0 env H a w r Q hst he => by simp [evN] at he, fun D c g gone α w0 env H a w r Q hst he => by simp [evN] at he⟩
  | n + 1 => by
    have ih := all_sound hT hD hI n
    have hk := call_sound hT hD hI ih
    exact ⟨fun D c g α w0 env H a w r Q hst he hQ => evC_wp ih hk c g α w0 env H a w r Q hst he hQ, fun D c g gone α w0 env H a w r Q hst he hQ => evC_loop ih hk c g gone α w0 env H a w r Q hst he hQ⟩

/-- What the deterministic machine says of a call, the model does. -/
theorem run_sound (hT : TabOk P T) (hD : DTabOk P T) (hI : IntrOk P T) {n : Nat} {f : FuncId} {args : List Value} {H : Heap} {out : Out} (h : Ve.run T n f args H = some out) {α : Al} {w0 w : World} {args' : List Value}
    (hg : ∀ g, g < P.globals.size → α g = some (g, 0)) (hs : Sim α w0 H w) (ha : VRs α args args') : CallSem P f ⟨args'⟩ w (OutRel α w0 out) :=
  call_sound hT hD hI (all_sound hT hD hI n) f args H out h α w0 w args' hg hs ha

end
end Ve
end Go.Proofs.YtnociodpfmlglaaGreatDoor
