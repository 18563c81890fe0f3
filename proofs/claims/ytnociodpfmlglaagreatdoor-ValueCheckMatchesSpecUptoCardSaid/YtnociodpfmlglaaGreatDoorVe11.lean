/-
  Calls, and statements whose operations come in one order.
-/
import Derived.Test.YtnociodpfmlglaaGreatDoorVe10
set_option linter.unusedVariables false
set_option linter.unusedSimpArgs false
namespace Go.Proofs.YtnociodpfmlglaaGreatDoor
namespace Ve
open Go Go.RowKit

def litOk : Value → Bool
  | .agg cs => cs.toList.all isLit
  | v => isLit v

def opdOk (P : Program) : Operand → Bool
  | .const v => litOk v
  | .global g => decide (g < P.globals.size)
  | _ => true

def plainOp (P : Program) (gs : Bool) (o : Oper) : Option I :=
  match compOp P gs o with
  | some i => if isCall i then none else some i
  | none => none

/-- An operation, calls and panics included. -/
def compFull (P : Program) (gs : Bool) (o : Oper) : Option I :=
  if o.op.operands.all (opdOk P) then
    match o.op with
    | .panic x => some (.pan x)
    | .call c => match c.callee with | .value f => some (.call f c.args.toList) | _ => plainOp P gs o
    | _ => plainOp P gs o
  else none

theorem plainOp_spec {P : Program} {gs : Bool} {o : Oper} {i : I} (h : plainOp P gs o = some i) : isCall i = false ∧ compOp P gs o = some i := by
  unfold plainOp at h
  split at h
  · split at h
    · cases h
    · rename_i e hk; cases h; exact ⟨by simpa using hk, e⟩
  · cases h

theorem compFull_spec {P : Program} {gs : Bool} {o : Oper} {i : I} (h : compFull P gs o = some i) : o.op.operands.all (opdOk P) = true ∧
    ((isCall i = false ∧ compOp P gs o = some i) ∨ (∃ x, o.op = .panic x ∧ i = .pan x) ∨ (∃ c f, o.op = .call c ∧ c.callee = .value f ∧ i = .call f c.args.toList)) := by
  unfold compFull at h
  split at h
  · rename_i h0
    refine ⟨h0, ?_⟩
    split at h
    · rename_i x hop; cases h; exact .inr (.inl ⟨x, hop, rfl⟩)
    · rename_i c hop
      split at h
      · rename_i f hf; cases h; exact .inr (.inr ⟨c, f, hop, hf, rfl⟩)
      · exact .inl (plainOp_spec h)
    · exact .inl (plainOp_spec h)
  · cases h

/-- How a call of the model stands to what the deterministic machine says of it. -/
def OutRel (α : Al) (w0 : World) : Out → Ending → World → Prop
  | .ret v H, e, w => ∃ α' v', α.le α' ∧ e = .returned v' ∧ VR α' v v' ∧ Sim α' w0 H w
  | .pan v H, e, w => ∃ α' v', α.le α' ∧ e = .panicked [{ v := v', recovered := false }] ∧ VR α' v v' ∧ Sim α' w0 H w

/-- A call, entered or done at once. -/
def CallSem (P : Program) (f : FuncId) (args : Array Value) (w : World) (R : Ending → World → Prop) : Prop :=
  ((callFunc f args).run P w = .ok (.enter f args) w ∧ Calls P f args w R) ∨ ∃ v w', (callFunc f args).run P w = .ok (.value v) w' ∧ R (.returned v) w'

def CallOk (P : Program) (T : Tab) (E : C → Env → Heap → Option (Ex × Env × Heap)) : Prop :=
  ∀ f args H out, evCall T E f args H = some out → ∀ α w0 w args', (∀ g, g < P.globals.size → α g = some (g, 0)) → Sim α w0 H w → VRs α args args' → CallSem P f ⟨args'⟩ w (OutRel α w0 out)

/-- The states of the two machines. -/
structure St (P : Program) (D : List Deferred) (α : Al) (w0 : World) (env : Env) (H : Heap) (a : Act) (w : World) : Prop where
  env : VRs α env a.tmps.toList
  sim : Sim α w0 H w
  glob : ∀ g, g < P.globals.size → α g = some (g, 0)
  defs : a.defers = D

section
variable {P : Program} {D : List Deferred} {α : Al} {env : Env} {w0 w : World} {H : Heap} {a : Act} {T : Tab} {E : C → Env → Heap → Option (Ex × Env × Heap)}

theorem VRs.getD {l l' : List Value} (h : VRs α l l') (t : Nat) : VR α (l.getD t undef) (l'.getD t undef) := by
  rw [List.getD_eq_getElem?_getD, List.getD_eq_getElem?_getD]
  cases e : l[t]? with
  | none =>
    have : l'[t]? = none := by
      rw [List.getElem?_eq_none_iff] at e ⊢
      rw [h.length]; exact e
    rw [this]; exact VR.undef α
  | some v =>
    obtain ⟨v', e', hr⟩ := h.get e
    rw [e']; exact hr

theorem getD_list (x : Array Value) (t : Nat) : x.getD t undef = x.toList.getD t undef := by
  rw [List.getD_eq_getElem?_getD, Array.getElem?_toList, Array.getD_eq_getD_getElem?]

theorem litOk_rel {v : Value} (h : litOk v = true) : VR α v v := by
  cases v with
  | agg cs => obtain ⟨l⟩ := cs; exact .agg (VRs.lits (by simpa [litOk] using h))
  | _ => exact VR.lit (by simpa [litOk] using h)

theorem rd_rel (he : VRs α env a.tmps.toList) (hg : ∀ g, g < P.globals.size → α g = some (g, 0)) {x : Operand} (hx : opdOk P x = true) : VR α (rd env x) (a.eval x) := by
  cases x with
  | tmp t =>
    simp only [rd, Act.eval, getD_list]
    exact he.getD t
  | const v => exact litOk_rel hx
  | global g => exact .ptr0 (hg g (by simpa [opdOk] using hx))
  | func f => exact .func _ rfl .nil .nil

/-- One operation, in the model's own words. -/
theorem op_wp (hk : CallOk P T E) {gs : Bool} {o : Oper} {i : I} (hc : compFull P gs o = some i) (hρ : ∀ x ∈ o.op.operands, VR α (rd env x) (a.eval x)) (hs : Sim α w0 H w) (hg : ∀ g, g < P.globals.size → α g = some (g, 0)) {out : Out} (he : evOp T E env H i = some out)
    {next : Act → World → Prop} {Q : Exit → Act → World → Prop}
    (h1 : ∀ v H', out = .ret v H' → ∀ α' v' w', α.le α' → VR α' v v' → Sim α' w0 H' w' → next (a.put o.dst v') w')
    (h2 : ∀ v H', out = .pan v H' → ∀ α' v' w', α.le α' → VR α' v v' → Sim α' w0 H' w' → Q (.panic [{ v := v', recovered := false }]) a w') :
    o.wp P a w next Q := by
  obtain ⟨h0, h | ⟨x, hop, rfl⟩ | ⟨c, f, hop, hf, rfl⟩⟩ := compFull_spec hc
  · obtain ⟨hkk, hcc⟩ := h
    have he' : evI env H i = some out := by
      cases i <;> first | exact he | cases hkk
    have fin : ∀ v' w', Done ((execOp a.eval o).run P w) v' w' → ∀ α' v H', out = .ret v H' → α.le α' → VR α' v v' → Sim α' w0 H' w' → o.wp P a w next Q := by
      intro v' w' hd α' v H' ho hl hv hs'
      have := h1 v H' ho α' v' w' hl hv hs'
      unfold Oper.wp
      rcases hd with hd | ⟨hd, rfl⟩
      · rw [hd]; exact this
      · rw [hd]; exact this
    by_cases hq : isQuiet i = true
    · obtain ⟨v, v', ho, _, hv, hd⟩ := quiet_sound hcc hq hρ H out he'
      exact fin v' w (hd w) α v H ho (Al.le_refl _) hv hs
    · obtain ⟨α', v, v', H', w', ho, hl, hv, hs', hd⟩ := loud_sound hcc (by simpa using hq) hkk hρ hs he'
      exact fin v' w' hd α' v H' ho hl hv hs'
  · obtain ⟨v, v', ho, hv, hrun⟩ := pan_sound (w := w) hop hρ he
    unfold Oper.wp
    rw [hrun]
    exact h2 v H ho α v' w (Al.le_refl _) hv hs
  · simp only [evOp] at he
    split at he
    · rename_i g first captured hfv
      have hr := hρ f (by simp [hop, Op.operands, Call.operands, hf])
      rw [hfv] at hr
      have hargs : ∀ x ∈ c.args.toList, VR α (rd env x) (a.eval x) := fun x hx => hρ x (by simp [hop, Op.operands, Call.operands]; exact .inr (by simpa using hx))
      generalize hrf : a.eval f = rf at hr
      obtain ⟨first⟩ := first
      obtain ⟨captured⟩ := captured
      cases hr with
      | func _ hfn ha hcap =>
        rename_i fa ca
        have hall := (ha.append (VRs.map hargs)).append hcap
        have hsem := hk g _ H out he α w0 w _ hg hs hall
        have hrun : (execOp a.eval o).run P w = (callFunc g ⟨fa ++ c.args.toList.map a.eval ++ ca⟩).run P w := by
          simp only [execOp, hop, resolve, hf, hrf, Deferred.ofValue, Sem.run_bind, Sem.run_pure, Result.andThen_ok, invoke]
          congr 2
          apply Array.ext'; simp
        unfold Oper.wp
        rw [hrun]
        rcases hsem with ⟨hen, hcalls⟩ | ⟨v', w', hen, hR⟩
        · rw [hen]
          show Calls P g _ w _
          refine hcalls.mono fun e w' hR => ?_
          cases out with
          | ret v H' =>
            obtain ⟨α', v', hl, rfl, hv, hs'⟩ := hR
            exact h1 v H' rfl α' v' w' hl hv hs'
          | pan v H' =>
            obtain ⟨α', v', hl, rfl, hv, hs'⟩ := hR
            exact h2 v H' rfl α' v' w' hl hv hs'
        · rw [hen]
          cases out with
          | ret v H' =>
            obtain ⟨α', v'', hl, hee, hv, hs'⟩ := hR
            cases hee
            exact h1 v H' rfl α' v' w' hl hv hs'
          | pan v H' =>
            obtain ⟨α', v'', hl, hee, hv, hs'⟩ := hR
            cases hee
    · cases he

def guardOf (ops : Array Oper) : Option (Nat × Bool) → Option (Option (Nat × Bool))
  | none => some none
  | some (j, want) =>
    match (ops[j]?).bind (·.dst) with
    | some d => some (some (d, want))
    | none => none

/-- Is a row's slice made for an append alone? -/
def forAppend (ops : Array Oper) (o : Oper) : Bool :=
  match o.dst with
  | some t => ops.toList.any fun q =>
    match q.op with
    | .call c => (match c.callee, c.args.toList with | .builtin .append, [_, .tmp t'] => t == t' | _, _ => false)
    | _ => false
  | none => false

def compIO (P : Program) (ops : Array Oper) (o : Oper) : Option IOper :=
  match compFull P (forAppend ops o) o, guardOf ops o.guard with
  | some i, some g => some ⟨o.dst, i, g⟩
  | _, _ => none

def compIOs (P : Program) (ops : Array Oper) : List Oper → Option (List IOper)
  | [] => some []
  | o :: r => match compIO P ops o, compIOs P ops r with | some i, some l => some (i :: l) | _, _ => none

theorem wanted_rel {ops : Array Oper} {o : Oper} {g : Option (Nat × Bool)} (hg : guardOf ops o.guard = some g) (hv : ∀ t w, g = some (t, w) → VR α (env.getD t undef) (a.tmps.toList.getD t undef)) {b : Bool} (hw : wanted env g = some b) :
    Region.wanted o (yielded ops a.tmps) = b := by
  unfold guardOf at hg
  unfold Region.wanted
  split at hg
  · rename_i e
    cases hg
    simp [wanted] at hw
    rw [e, ← hw]
  · rename_i j want e
    rw [e]
    split at hg
    · rename_i d hd
      cases hg
      have hr := hv d want rfl
      simp only [wanted] at hw
      have hy : ∀ v, a.tmps.toList.getD d undef = v → yielded ops a.tmps j = (match v with | .bool b => some b | _ => none) := by
        intro v hv
        unfold yielded
        rw [hd]
        simp only [Option.bind_some]
        rw [List.getD_eq_getElem?_getD, Array.getElem?_toList] at hv
        cases e2 : a.tmps[d]? with
        | none => rw [e2] at hv; simp at hv; rw [← hv]; rfl
        | some u => rw [e2] at hv; simp at hv; rw [← hv]; cases u <;> rfl
      split at hw
      · rename_i q e2
        rw [e2] at hr
        have := hy _ hr.bool_inv
        simp only [this]
        simp only [Option.some.injEq] at hw
        rw [← hw]
        cases q <;> cases want <;> rfl
      · rename_i e2
        rw [e2] at hr
        have hu : a.tmps.toList.getD d undef = .tuple ⟨[]⟩ := by
          generalize a.tmps.toList.getD d undef = r at hr
          cases hr with
          | tup h => cases h; rfl
        have := hy _ hu
        simp only [this]
        simp only [Option.some.injEq] at hw
        rw [← hw]
        rfl
      · cases hw
    · cases hg

theorem put_rel (he : VRs α env a.tmps.toList) {v v' : Value} (hv : VR α v v') (d : Option Nat) : VRs α (put env d v) (a.put d v').tmps.toList := by
  cases d with
  | none => exact he
  | some d =>
    simp only [put, Act.put]
    have := VRs.set hv d he
    simpa using this

theorem put_defs (d : Option Nat) (v : Value) : (a.put d v).defers = a.defers := by cases d <;> rfl

/-- What lies behind a run of code. -/
def ExRel (α : Al) : Ex → Exit → Prop
  | .norm, e => e = .normal
  | .exit id, e => e = .exit id
  | .ret, e => e = .ret
  | .pan v, e => ∃ v', e = .panic [{ v := v', recovered := false }] ∧ VR α v v'

def Post (P : Program) (D : List Deferred) (α : Al) (w0 : World) (r : Ex × Env × Heap) (Q : Exit → Act → World → Prop) : Prop :=
  ∀ α' e a' w', α.le α' → ExRel α' r.1 e → St P D α' w0 r.2.1 r.2.2 a' w' → Q e a' w'

theorem Post.mono {β : Al} {r : Ex × Env × Heap} {Q : Exit → Act → World → Prop} (h : Post P D α w0 r Q) (hl : α.le β) : Post P D β w0 r Q :=
  fun α' e a' w' hl' he hs => h α' e a' w' (Al.le_trans hl hl') he hs

theorem glob_mono {β : Al} (hg : ∀ g, g < P.globals.size → α g = some (g, 0)) (hl : α.le β) : ∀ g, g < P.globals.size → β g = some (g, 0) := fun g h => (hl.at' g _ (hg g h)).1

theorem compIO_spec {ops : Array Oper} {o : Oper} {io : IOper} (h : compIO P ops o = some io) : compFull P (forAppend ops o) o = some io.op ∧ guardOf ops o.guard = some io.guard ∧ io.dst = o.dst := by
  unfold compIO at h
  split at h
  · rename_i i g e1 e2; cases h; exact ⟨e1, e2, rfl⟩
  · cases h

/-- Operations in the text's order. -/
theorem ops_sound (hk : CallOk P T E) {ops : Array Oper} {Q : Exit → Act → World → Prop} : ∀ (rest : List Oper) (k : Nat) (l : List IOper), ops.toList.drop k = rest → compIOs P ops rest = some l →
    ∀ (α : Al) (env : Env) (H : Heap) (a : Act) (w : World) (r : Ex × Env × Heap), St P D α w0 env H a w → evOps T E l env H = some r → Post P D α w0 r Q → wpOps P ops Q (List.range' k rest.length) a w
  | [], k, l, hr, hl, α, env, H, a, w, r, hst, he, hQ => by
    simp only [compIOs, Option.some.injEq] at hl
    subst hl
    simp only [evOps, Option.some.injEq] at he
    subst he
    simp only [List.length_nil, List.range'_zero, wpOps]
    exact hQ α .normal a w (Al.le_refl _) rfl hst
  | o :: rest, k, l, hr, hl, α, env, H, a, w, r, hst, he, hQ => by
    unfold compIOs at hl
    split at hl
    · rename_i io l' e1 e2
      cases hl
      obtain ⟨hc, hg, hdst⟩ := compIO_spec e1
      have hget : ops[k]? = some o := by
        have : (ops.toList.drop k)[0]? = some o := by rw [hr]; rfl
        rw [List.getElem?_drop] at this
        simpa using this
      have hdrop : ops.toList.drop (k + 1) = rest := by
        have : (ops.toList.drop k).drop 1 = rest := by rw [hr]; rfl
        rw [List.drop_drop] at this
        exact this
      have ih := ops_sound hk (Q := Q) rest (k + 1) l' hdrop e2
      simp only [List.length_cons, List.range'_succ, wpOps, hget]
      unfold evOps at he
      have hwv : ∀ t w', io.guard = some (t, w') → VR α (env.getD t undef) (a.tmps.toList.getD t undef) := fun t _ _ => hst.env.getD t
      split at he
      · rename_i hw
        rw [if_pos (wanted_rel hg hwv hw)]
        refine .inl ?_
        have hρ : ∀ x ∈ o.op.operands, VR α (rd env x) (a.eval x) := fun x hx => rd_rel hst.env hst.glob (by
          have := (compFull_spec hc).1
          simp only [Array.all_eq_true'] at this
          exact this x hx)
        split at he
        · rename_i v H' hev
          refine op_wp hk hc hρ hst.sim hst.glob hev ?_ ?_
          · intro v2 H2 ho α' v' w' hle hv hs'
            cases ho
            refine ih α' _ _ _ w' r ⟨?_, hs', glob_mono hst.glob hle, by rw [put_defs]; exact hst.defs⟩ he (hQ.mono hle)
            rw [hdst]
            exact put_rel (hst.env.mono hle) hv _
          · intro v2 H2 ho; cases ho
        · rename_i v H' hev
          simp only [Option.some.injEq] at he
          subst he
          refine op_wp hk hc hρ hst.sim hst.glob hev ?_ ?_
          · intro v2 H2 ho; cases ho
          · intro v2 H2 ho α' v' w' hle hv hs'
            cases ho
            exact hQ α' _ a w' hle ⟨v', rfl, hv⟩ ⟨hst.env.mono hle, hs', glob_mono hst.glob hle, hst.defs⟩
        · cases he
      · rename_i hw
        rw [if_neg (by rw [wanted_rel hg hwv hw]; simp)]
        refine ih α _ H _ w r ⟨?_, hst.sim, hst.glob, by rw [put_defs]; exact hst.defs⟩ he hQ
        rw [hdst]
        exact put_rel hst.env (VR.undef α) _
      · cases he
    · cases hl

end
end Ve
end Go.Proofs.YtnociodpfmlglaaGreatDoor
