/-
  Functions that defer one closure, which recovers; and the model's own entries.
-/
import Derived.Test.YtnociodpfmlglaaGreatDoorVe15
import Derived.Recover
import Derived.Laws.Externs
import Derived.Lib.Bytealg
set_option linter.unusedVariables false
set_option linter.unusedSimpArgs false
namespace Go.Proofs.YtnociodpfmlglaaGreatDoor
namespace Ve
open Go Go.RowKit

/-- What a function does, in the deterministic machine's words. -/
def XOk (P : Program) (f : FuncId) (x : List Value → Heap → Option Out) : Prop :=
  ∀ args H out, x args H = some out → ∀ α w0 w args', (∀ g, g < P.globals.size → α g = some (g, 0)) → Sim α w0 H w → VRs α args args' → CallSem P f ⟨args'⟩ w (OutRel α w0 out)

def IntrOk (P : Program) (T : Tab) : Prop :=
  ∀ f args H out, T.code f = none → T.dfn f = none → T.intr f args H = some out → ∀ α w0 w args', (∀ g, g < P.globals.size → α g = some (g, 0)) → Sim α w0 H w → VRs α args args' → CallSem P f ⟨args'⟩ w (OutRel α w0 out)

/-- Code that defers a closure at its outermost level. -/
inductive IsD (P : Program) : Code → List C → Nat → FuncId → List Operand → C → Prop
  | here {id : Nat} {ops : Array Oper} {rest : Code} {t : Nat} {g : FuncId} {caps : Array Operand} {ts : Array TypeId} {mk df : Oper} (ho : ops = #[mk, df]) (h1 : mk.op = .makeFunc (.func g) #[] caps) (h2 : mk.dst = some t) (h3 : mk.guard = none)
      (h4 : df.op = .defer ⟨.value (.tmp t), #[], ts⟩) (h5 : df.dst = none) (h6 : df.guard = none) (hc : caps.toList.all (opdOk P) = true) : IsD P (.seq (.region id ops false) rest) [] t g caps.toList (compC P rest []).1
  | there {a rest : Code} {pre : List C} {t : Nat} {g : FuncId} {caps : List Operand} {r : C} (h : IsD P rest pre t g caps r) : IsD P (.seq a rest) ((compC P a []).1 :: pre) t g caps r

/-- A closure that first asks what has been thrown. -/
def IsClo (P : Program) (G : Func) (u v : Nat) (crest : C) : Prop :=
  ∃ id rc asg c0 ts, G.body = some (.seq (.region id #[rc, asg] false) c0) ∧ rc.op = .call ⟨.builtin .recover, #[], ts⟩ ∧ rc.dst = some u ∧ rc.guard = none ∧ asg.op = .assign (.tmp u) ∧ asg.dst = some v ∧ asg.guard = none ∧
    (compC P c0 []).1 = crest ∧ G.results = #[] ∧ (G.name == "runtime.NumGoroutine") = false ∧ u < G.ntmps

def DTabOk (P : Program) (T : Tab) : Prop :=
  ∀ f d, T.dfn f = some d → ∃ F G c, P.funcs[f]? = some F ∧ F.body = some c ∧ (F.name == "runtime.NumGoroutine") = false ∧ F.ntmps = d.ntmps ∧ compRes P F.results.toList = some d.results ∧ IsD P c d.pre d.t d.g d.caps d.rest ∧
    P.funcs[d.g]? = some G ∧ IsClo P G d.u d.v d.crest ∧ G.ntmps = d.gtmps

section
variable {P : Program} {D : List Deferred} {T : Tab} {E : C → Env → Heap → Option (Ex × Env × Heap)}

theorem results_sound {γ : Al} {w0 w : World} {H : Heap} {env : Env} {tmps : Array Value} {F : Func} {rs : List RV} {v : Value} (he : VRs γ env tmps.toList) (hs : Sim γ w0 H w) (hrs : compRes P F.results.toList = some rs)
    (hv : Ve.results rs env H = some v) : ∃ v', (Go.results F tmps).run P w = .ok v' w ∧ VR γ v v' := by
  unfold Ve.results at hv
  have key : ∀ vs, resVs env H rs = some vs → ∃ vs', (Go.results F tmps).run P w = .ok (if h : (⟨vs'⟩ : Array Value).size = 1 then (⟨vs'⟩ : Array Value)[0] else .tuple ⟨vs'⟩) w ∧ VRs γ vs vs' := by
    intro vs hvs
    obtain ⟨vs', g1, g2⟩ := results_run (a := { tmps := tmps, defers := [] }) he hs hrs hvs
    refine ⟨vs', ?_, g2⟩
    unfold Go.results
    rw [Array.mapM_eq_mapM_toList]
    change Sem.run P (do let vs ← (List.toArray <$> List.mapM (resCell tmps) F.results.toList); pure (if h : vs.size = 1 then vs[0] else .tuple vs)) w = _
    simp only [Sem.run_bind, Sem.run_map, g1, Result.andThen_ok, Sem.run_pure]
  split at hv
  · rename_i v1 hvs
    cases hv
    obtain ⟨vs', g1, g2⟩ := key _ hvs
    cases g2 with
    | cons hv2 hs2 =>
      cases hs2
      exact ⟨_, g1, hv2⟩
  · rename_i vs hne hvs
    cases hv
    obtain ⟨vs', g1, g2⟩ := key _ hvs
    have hsz : ¬ ((⟨vs'⟩ : Array Value).size = 1) := by
      have : (⟨vs'⟩ : Array Value).size = vs.length := g2.length
      rw [this]
      intro h1
      match vs, h1 with
      | [x], _ => exact hne x rfl
    rw [dif_neg hsz] at g1
    exact ⟨_, g1, .tup g2⟩
  · cases hv

theorem put_toList (a : Act) (t : Nat) (v : Value) : (a.put (some t) v).tmps.toList = a.tmps.toList.set t v := by
  show (a.tmps.setIfInBounds t v).toList = _
  simp

theorem isD_wp (hE : CodeOk P E) {c : Code} {pre : List C} {t : Nat} {g : FuncId} {caps : List Operand} {rest : C} (h : IsD P c pre t g caps rest) {Q : Exit → Act → World → Prop} : ∀ (α : Al) (w0 : World) (env : Env) (H : Heap) (a : Act) (w : World) (e1 : Ex) (env1 : Env) (H1 : Heap),
    St P [] α w0 env H a w → evPre E pre env H = some (e1, env1, H1) →
    (e1 ≠ .norm → Post P [] α w0 (e1, env1, H1) Q) →
    (e1 = .norm → t < env1.length ∧ ∃ r2, E rest (env1.set t (.func (.func g) ⟨[]⟩ ⟨caps.map (rd env1)⟩)) H1 = some r2 ∧ ∀ β cl', α.le β → VRs β (caps.map (rd env1)) cl' → Post P [⟨.fn (.func g) ⟨cl'⟩, #[]⟩] β w0 r2 Q) →
    c.wp P Q a w := by
  induction h with
  | @here id ops rest t g caps ts mk df ho h1 h2 h3 h4 h5 h6 hc =>
    intro α w0 env H a w e1 env1 H1 hst he hQ1 hQ2
    simp only [evPre, Option.some.injEq, Prod.mk.injEq] at he
    obtain ⟨rfl, rfl, rfl⟩ := he
    obtain ⟨hlt, r2, hr, hQ⟩ := hQ2 rfl
    refine wp_seq (wp_region ?_)
    subst ho
    have hw1 : ∀ y, Region.wanted mk y = true := fun y => by simp [Region.wanted, h3]
    have hw2 : ∀ y, Region.wanted df y = true := fun y => by simp [Region.wanted, h6]
    have hclr : VRs α (caps.toList.map (rd env)) (caps.toList.map a.eval) := VRs.map fun x hx => rd_rel hst.env hst.glob (List.all_eq_true.1 hc x hx)
    have e0 : (execOp a.eval mk).run P w = .ok (.value (.func (.func g) #[] ⟨caps.toList.map a.eval⟩)) w := by
      obtain ⟨caps⟩ := caps
      simp [execOp, h1, Instr.makeFunc]
    show wpOps P #[mk, df] _ [0, 1] a w
    simp only [wpOps, List.getElem?_toArray, List.getElem?_cons_zero, hw1, if_true]
    left
    unfold Oper.wp
    rw [e0, Oper.upon_value]
    have hsz : t < a.tmps.size := by
      have := hst.env.length
      rw [Array.length_toList] at this
      omega
    have e1 : (execOp (a.put mk.dst (.func (.func g) #[] ⟨caps.toList.map a.eval⟩)).eval df).run P w = .ok (.defer ⟨.fn (.func g) ⟨caps.toList.map a.eval⟩, #[]⟩) w := by
      have : (a.put mk.dst (.func (.func g) #[] ⟨caps.toList.map a.eval⟩)).eval (.tmp t) = .func (.func g) #[] ⟨caps.toList.map a.eval⟩ := by
        rw [h2]
        simp [Act.eval, Act.put, hsz]
      simp [execOp, h4, resolve, this, Deferred.ofValue]
    simp only [List.getElem?_cons_succ, List.getElem?_cons_zero, hw2, if_true, Oper.wp]
    left
    rw [e1, Oper.upon_defer]
    show rest.wp P Q _ w
    refine hE.1 [⟨.fn (.func g) ⟨caps.toList.map a.eval⟩, #[]⟩] rest [] α w0 _ H _ w r2 Q ?_ hr (hQ α _ (Al.le_refl α) hclr)
    refine ⟨?_, hst.sim, hst.glob, ?_⟩
    · rw [h2, h5]
      show VRs α _ (a.put (some t) _).tmps.toList
      rw [put_toList]
      exact hst.env.set (.func _ rfl .nil hclr) t
    · rw [h5, h2]
      show _ :: (a.put (some t) _).defers = _
      rw [put_defs, hst.defs]
  | @there a0 rest pre t g caps r h ih =>
    intro α w0 env H a w e1 env1 H1 hst he hQ1 hQ2
    refine wp_seq ?_
    unfold evPre at he
    cases hx : E (compC P a0 []).1 env H with
    | none => rw [hx] at he; cases he
    | some r0 =>
      rw [hx] at he
      obtain ⟨ex, envx, Hx⟩ := r0
      refine hE.1 [] a0 [] α w0 env H a w _ _ hst hx ?_
      intro β e a1 w1 hle hex hst1
      cases ex with
      | norm =>
        simp only [ExRel] at hex
        subst hex
        simp only at he
        exact ih β w0 envx Hx a1 w1 e1 env1 H1 hst1 he (fun hn => (hQ1 hn).mono hle) (fun hn => by
          obtain ⟨hlt, r2, g1, g2⟩ := hQ2 hn
          exact ⟨hlt, r2, g1, fun γ cl' hγ => g2 γ cl' (Al.le_trans hle hγ)⟩)
      | exit id =>
        simp only [ExRel] at hex
        subst hex
        simp only [Option.some.injEq, Prod.mk.injEq] at he
        obtain ⟨rfl, rfl, rfl⟩ := he
        exact hQ1 (fun e => nomatch e) β _ a1 w1 hle rfl hst1
      | ret =>
        simp only [ExRel] at hex
        subst hex
        simp only [Option.some.injEq, Prod.mk.injEq] at he
        obtain ⟨rfl, rfl, rfl⟩ := he
        exact hQ1 (fun e => nomatch e) β _ a1 w1 hle rfl hst1
      | pan v =>
        obtain ⟨v', rfl, hv⟩ := hex
        simp only [Option.some.injEq, Prod.mk.injEq] at he
        obtain ⟨rfl, rfl, rfl⟩ := he
        exact hQ1 (fun e => nomatch e) β _ a1 w1 hle ⟨v', rfl, hv⟩ hst1

theorem env_start {α : Al} {args args' : List Value} (ha : VRs α args args') (n : Nat) : VRs α (args ++ List.replicate (n - args.length) undef) ((⟨args'⟩ : Array Value) ++ Array.replicate (n - (⟨args'⟩ : Array Value).size) undef).toList := by
  simp only [Array.toList_append, Array.toList_replicate]
  refine ha.append ?_
  have : (⟨args'⟩ : Array Value).size = args.length := ha.length
  rw [this]
  generalize n - args.length = m
  induction m with
  | zero => exact .nil
  | succ n ih => exact .cons (VR.undef α) ih

/-- The closure's call, while the function is left. -/
theorem clo_calls (hE : CodeOk P E) {F G : Func} {d : DFn} (hG : P.funcs[d.g]? = some G) (hclo : IsClo P G d.u d.v d.crest) (hn : G.ntmps = d.gtmps) (hrs : compRes P F.results.toList = some d.results)
    {α β : Al} {w0 w : World} {cl cl' : List Value} {rv rv' : Value} {env : Env} {tmps : Array Value} {H : Heap} {out : Out} {u : FrameMode} (hl : α.le β) (hglob : ∀ g, g < P.globals.size → β g = some (g, 0))
    (hs : Sim β w0 H w) (henv : VRs β env tmps.toList) (hcl : VRs β cl cl') (hrv : VR β rv rv') (he : evClo E d cl rv env H = some out)
    (hrec : ∀ (c₀ : Frame) (cs : List Frame), c₀.mode = u → ∃ u', settle u' = .returning ∧
      ((recoverD (c₀ :: cs) = some (rv', { c₀ with mode := u' } :: cs)) ∨ (recoverD (c₀ :: cs) = none ∧ rv' = .nilIface ∧ u' = u))) :
    CallsD P d.g ⟨cl'⟩ u w fun
      | .returned _, u', w' => Leaves P F tmps (OutRel α w0 out) [] (settle u') w'
      | .panicked chain, u', w' => Leaves P F tmps (OutRel α w0 out) [] (raised u' chain) w'
      | .outgrown, _, w' => OutRel α w0 out .outgrown w' := by
  obtain ⟨id, rc, asg, c0, ts, hb, r1, r2, r3, a1, a2, a3, hcomp, hres, hname, hu⟩ := hclo
  refine callsD_of_wpS hG hb ?_
  intro c₀ cs hc0
  refine wpS_seq (wpS_region ?_)
  obtain ⟨u', hset, hrec2⟩ := hrec c₀ cs hc0
  have hw1 : ∀ y, Region.wanted rc y = true := fun y => by simp [Region.wanted, r3]
  have hw2 : ∀ y, Region.wanted asg y = true := fun y => by simp [Region.wanted, a3]
  have hx1 : ∀ ρ, (execOp ρ rc).run P w = .ok .recover w := by
    intro ρ
    simp [execOp, r1, resolve, invoke, Go.builtin]
  have hx2 : ∀ ρ, (execOp ρ asg).run P w = .ok (.value (ρ (.tmp d.u))) w := by
    intro ρ
    simp [execOp, a1]
  -- behind the region
  unfold evClo at he
  have key : ∀ (cs' : List Frame), cs' = { c₀ with mode := u' } :: cs → wpOpsS P #[rc, asg] (Exit.thenS (c0.wpS P (bodyPostS P G c₀ cs fun
      | .returned _, u', w' => Leaves P F tmps (OutRel α w0 out) [] (settle u') w'
      | .panicked chain, u', w' => Leaves P F tmps (OutRel α w0 out) [] (raised u' chain) w'
      | .outgrown, _, w' => OutRel α w0 out .outgrown w')) (bodyPostS P G c₀ cs fun
      | .returned _, u', w' => Leaves P F tmps (OutRel α w0 out) [] (settle u') w'
      | .panicked chain, u', w' => Leaves P F tmps (OutRel α w0 out) [] (raised u' chain) w'
      | .outgrown, _, w' => OutRel α w0 out .outgrown w')) [1]
        ((({ tmps := (⟨cl'⟩ : Array Value) ++ Array.replicate (G.ntmps - (⟨cl'⟩ : Array Value).size) undef, defers := [] } : Act)).put rc.dst rv') cs' w := by
    intro cs' hcs
    subst hcs
    simp only [wpOpsS, List.getElem?_toArray, List.getElem?_cons_succ, List.getElem?_cons_zero, hw2, if_true, hx2, Oper.upon_value]
    show c0.wpS P _ _ _ _
    refine wpS_of_wp ?_
    have hst : St P [] β w0 (((cl ++ List.replicate (d.gtmps - cl.length) undef).set d.u rv).set d.v rv) H
        (((({ tmps := (⟨cl'⟩ : Array Value) ++ Array.replicate (G.ntmps - (⟨cl'⟩ : Array Value).size) undef, defers := [] } : Act)).put rc.dst rv').put asg.dst
          ((({ tmps := (⟨cl'⟩ : Array Value) ++ Array.replicate (G.ntmps - (⟨cl'⟩ : Array Value).size) undef, defers := [] } : Act).put rc.dst rv').eval (.tmp d.u))) w := by
      have h0 := env_start hcl G.ntmps
      rw [hn] at h0
      have hsz : d.u < ((⟨cl'⟩ : Array Value) ++ Array.replicate (G.ntmps - (⟨cl'⟩ : Array Value).size) undef).size := by
        simp only [Array.size_append, Array.size_replicate]
        omega
      have hev : (({ tmps := (⟨cl'⟩ : Array Value) ++ Array.replicate (G.ntmps - (⟨cl'⟩ : Array Value).size) undef, defers := [] } : Act).put rc.dst rv').eval (.tmp d.u) = rv' := by
        rw [r2]
        show (Array.setIfInBounds _ d.u rv').getD d.u undef = rv'
        simp only [Array.getD_eq_getD_getElem?, Array.getElem?_setIfInBounds_self_of_lt hsz, Option.getD_some]
      rw [hev, r2, a2]
      refine ⟨?_, hs, hglob, by rw [put_defs, put_defs]⟩
      rw [put_toList, put_toList, hn]
      exact (h0.set hrv d.u).set hrv d.v
    cases hx : E d.crest (((cl ++ List.replicate (d.gtmps - cl.length) undef).set d.u rv).set d.v rv) H with
    | none => rw [hx] at he; cases he
    | some r =>
      rw [hx] at he
      obtain ⟨e3, env3, H3⟩ := r
      rw [← hcomp] at hx
      refine hE.1 [] c0 [] β w0 _ H _ w _ _ hst hx ?_
      have fin : ∀ γ a3 w3, β.le γ → St P [] γ w0 env3 H3 a3 w3 → ((Ve.results d.results env H3).map fun v => Out.ret v H3) = some out →
          a3.defers = [] ∧ ∃ u'', ({ c₀ with mode := u' } :: cs : List Frame) = { c₀ with mode := u'' } :: cs ∧ ∃ v, (Go.results G a3.tmps).run P w3 = .ok v w3 ∧ Leaves P F tmps (OutRel α w0 out) [] (settle u'') w3 := by
        intro γ a3 w3 hle hst3 ho
        simp only [Option.map_eq_some_iff] at ho
        obtain ⟨v, hv, rfl⟩ := ho
        obtain ⟨v', g1, g2⟩ := results_sound (henv.mono hle) hst3.sim hrs hv
        refine ⟨hst3.defs, u', rfl, .tuple #[], ?_, ?_⟩
        · unfold Go.results
          simp [hres]
        · rw [hset]
          exact ⟨v', g1, γ, v', Al.le_trans hl hle, rfl, g2, hst3.sim⟩
      intro γ e a3 w3 hle hex hst3
      cases e3 with
      | norm =>
        simp only [ExRel] at hex
        subst hex
        exact fin γ a3 w3 hle hst3 he
      | ret =>
        simp only [ExRel] at hex
        subst hex
        exact fin γ a3 w3 hle hst3 he
      | exit id => simp only at he; cases he
      | pan v => simp only at he; cases he
  show wpOpsS P #[rc, asg] _ [0, 1] _ _ _
  rw [wpOpsS]
  simp only [List.getElem?_toArray, List.getElem?_cons_zero, hw1, if_true, hx1]
  rcases hrec2 with h | ⟨h, h2, h3⟩
  · rw [h]
    exact key _ rfl
  · rw [h]
    rw [← h2]
    refine key _ ?_
    rw [h3, ← hc0]

/-- A function that defers a closure. -/
theorem d_sound (hE : CodeOk P E) {f : FuncId} {F G : Func} {c : Code} {d : DFn} (hF : P.funcs[f]? = some F) (hb : F.body = some c) (hname : (F.name == "runtime.NumGoroutine") = false) (hnt : F.ntmps = d.ntmps)
    (hrs : compRes P F.results.toList = some d.results) (hD : IsD P c d.pre d.t d.g d.caps d.rest) (hG : P.funcs[d.g]? = some G) (hclo : IsClo P G d.u d.v d.crest) (hn : G.ntmps = d.gtmps) : XOk P f (evDfn E d) := by
  intro args H out he α w0 w args' hg hs ha
  left
  have hen : (callFunc f ⟨args'⟩).run P w = .ok (.enter f ⟨args'⟩) w := by
    simp only [callFunc, Sem.run_bind, run_program, Result.andThen_ok, hF]
    rw [if_neg (by simpa using hname)]
    rw [hb]
    rfl
  refine ⟨hen, ?_⟩
  refine calls_of_wp_defers hF hb ?_
  have h0 := env_start ha F.ntmps
  rw [hnt] at h0
  have hst : St P [] α w0 (args ++ List.replicate (d.ntmps - args.length) undef) H { tmps := (⟨args'⟩ : Array Value) ++ Array.replicate (F.ntmps - (⟨args'⟩ : Array Value).size) undef, defers := [] } w := by
    refine ⟨?_, hs, hg, rfl⟩
    rw [hnt]; exact h0
  unfold evDfn at he
  cases hp : evPre E d.pre (args ++ List.replicate (d.ntmps - args.length) undef) H with
  | none => rw [hp] at he; cases he
  | some r =>
    obtain ⟨e1, env1, H1⟩ := r
    rw [hp] at he
    refine isD_wp hE hD α w0 _ H _ w e1 env1 H1 hst hp ?_ ?_
    · intro hne β e a1 w1 hle hex hst1
      cases e1 with
      | norm => exact absurd rfl hne
      | exit id => cases he
      | ret =>
        simp only [ExRel] at hex
        subst hex
        simp only [Option.map_eq_some_iff] at he
        obtain ⟨v, hv, rfl⟩ := he
        obtain ⟨v', g1, g2⟩ := results_sound hst1.env hst1.sim hrs hv
        show Leaves P F a1.tmps _ a1.defers .returning w1
        rw [hst1.defs]
        exact ⟨v', g1, β, v', hle, rfl, g2, hst1.sim⟩
      | pan v =>
        obtain ⟨v', rfl, hv⟩ := hex
        simp only [Option.some.injEq] at he
        subst he
        show Leaves P F a1.tmps _ a1.defers (.panicking _) w1
        rw [hst1.defs]
        exact ⟨β, v', hle, rfl, hv, hst1.sim⟩
    · intro hnorm
      subst hnorm
      simp only at he
      split at he
      · cases he
      · rename_i hlt
        have hlt' : d.t < env1.length := by simpa using hlt
        refine ⟨hlt', ?_⟩
        cases hr : E d.rest (env1.set d.t (.func (.func d.g) ⟨[]⟩ ⟨d.caps.map (rd env1)⟩)) H1 with
        | none => rw [hr] at he; cases he
        | some r2 =>
          obtain ⟨e2, env2, H2⟩ := r2
          rw [hr] at he
          refine ⟨_, rfl, ?_⟩
          intro β cl' hβ hcl γ e a2 w2 hle hex hst2
          have hinv : (invoke (.fn (.func d.g) ⟨cl'⟩) #[]).run P w2 = .ok (.enter d.g ⟨cl'⟩) w2 := by
            obtain ⟨id, rc, asg, c0, ts, hbG, _, _, _, _, _, _, _, _, hnG, _⟩ := hclo
            simp only [invoke, Array.empty_append, callFunc, Sem.run_bind, run_program, Result.andThen_ok, hG]
            rw [if_neg (by simpa using hnG), hbG]
            rfl
          have hle' := Al.le_trans hβ hle
          have fin : ∀ (rv rv' : Value) (u : FrameMode), u ≠ .run → VR γ rv rv' → evClo E d (d.caps.map (rd env1)) rv env2 H2 = some out →
              (∀ (c₀ : Frame) (cs : List Frame), c₀.mode = u → ∃ u', settle u' = .returning ∧ ((recoverD (c₀ :: cs) = some (rv', { c₀ with mode := u' } :: cs)) ∨ (recoverD (c₀ :: cs) = none ∧ rv' = .nilIface ∧ u' = u))) →
              Leaves P F a2.tmps (OutRel α w0 out) a2.defers u w2 := by
            intro rv rv' u hu hrv hev hrec
            rw [hst2.defs]
            refine leaves_cons hu hinv ?_
            exact clo_calls hE hG hclo hn hrs hle' hst2.glob hst2.sim hst2.env (hcl.mono hle) hrv hev hrec
          cases e2 with
          | norm =>
            simp only [ExRel] at hex
            subst hex
            refine fin .nilIface .nilIface .returning (fun e => nomatch e) (.nilI) he ?_
            intro c₀ cs hc
            refine ⟨.returning, rfl, .inr ⟨?_, rfl, rfl⟩⟩
            simp [recoverD, hc]
          | ret =>
            simp only [ExRel] at hex
            subst hex
            refine fin .nilIface .nilIface .returning (fun e => nomatch e) (.nilI) he ?_
            intro c₀ cs hc
            refine ⟨.returning, rfl, .inr ⟨?_, rfl, rfl⟩⟩
            simp [recoverD, hc]
          | exit id => cases he
          | pan v =>
            obtain ⟨v', rfl, hv⟩ := hex
            refine fin v v' (.panicking [{ v := v', recovered := false }]) (fun e => nomatch e) hv he ?_
            intro c₀ cs hc
            refine ⟨.panicking [{ v := v', recovered := true }], rfl, .inl ?_⟩
            simp [recoverD, hc]

/-- A function without a body: what the model's entry answers. -/
theorem x_sound {f : FuncId} {F : Func} {e : Array Value → Sem Value} {x : List Value → Heap → Option Out} (hF : P.funcs[f]? = some F) (hname : (F.name == "runtime.NumGoroutine") = false) (hb : F.body.isNone = true) (hn : Extern.findNext F = none) (hf : Extern.find F = some e)
    (h : ∀ args H out, x args H = some out → ∃ v, out = .ret v H ∧ ∀ (α : Al) args', VRs α args args' → ∃ v', VR α v v' ∧ ∀ w, (e ⟨args'⟩).run P w = .ok v' w) : XOk P f x := by
  intro args H out he α w0 w args' hg hs ha
  obtain ⟨v, rfl, h2⟩ := h args H out he
  obtain ⟨v', hv, hr⟩ := h2 α args' ha
  right
  refine ⟨v', w, ?_, α, v', Al.le_refl α, rfl, hv, hs⟩
  rw [run_callFunc_extern hF hname hb hn hf, hr]
  rfl

def xIndexByte : List Value → Heap → Option Out
  | [.string s, .int .u8 c], H => some (.ret (.int .i64 (Lib.indexByte (bytesOf s) c.toNat.toUInt8)) H)
  | _, _ => none

def xCompare : List Value → Heap → Option Out
  | [.string a, .string b], H => some (.ret (.int .i64 (Lib.compareBytes (bytesOf a) (bytesOf b))) H)
  | _, _ => none

def xCount : List Value → Heap → Option Out
  | [.string s, .int .u8 c], H => some (.ret (.int .i64 (Lib.countByte (bytesOf s) c.toNat.toUInt8 : Nat)) H)
  | _, _ => none

def xSame : List Value → Heap → Option Out
  | [v], H => some (.ret v H)
  | _, _ => none

theorem xIndexByte_ok {f : FuncId} {F : Func} (hF : P.funcs[f]? = some F) (hname : (F.name == "runtime.NumGoroutine") = false) (hb : F.body.isNone = true) (hn : Extern.findNext F = none) (hf : Extern.find F = some Extern.BytealgIndexByte.indexByte) : XOk P f xIndexByte := by
  refine x_sound hF hname hb hn hf ?_
  intro args H out he
  unfold xIndexByte at he
  split at he
  · cases he
    refine ⟨_, rfl, fun α args' ha => ?_⟩
    cases ha with
    | cons h1 hs => cases hs with
      | cons h2 hs => cases hs; rw [h1.str_inv, h2.int_inv]; exact ⟨_, .int _ _, fun w => Lib.run_indexByteString _ _ w⟩
  · cases he

theorem xCompare_ok {f : FuncId} {F : Func} (hF : P.funcs[f]? = some F) (hname : (F.name == "runtime.NumGoroutine") = false) (hb : F.body.isNone = true) (hn : Extern.findNext F = none) (hf : Extern.find F = some Extern.BytealgCompare.compare) : XOk P f xCompare := by
  refine x_sound hF hname hb hn hf ?_
  intro args H out he
  unfold xCompare at he
  split at he
  · cases he
    refine ⟨_, rfl, fun α args' ha => ?_⟩
    cases ha with
    | cons h1 hs => cases hs with
      | cons h2 hs => cases hs; rw [h1.str_inv, h2.str_inv]; exact ⟨_, .int _ _, fun w => Lib.run_compareString _ _ w⟩
  · cases he

theorem xCount_ok {f : FuncId} {F : Func} (hF : P.funcs[f]? = some F) (hname : (F.name == "runtime.NumGoroutine") = false) (hb : F.body.isNone = true) (hn : Extern.findNext F = none) (hf : Extern.find F = some Extern.BytealgCount.count) : XOk P f xCount := by
  refine x_sound hF hname hb hn hf ?_
  intro args H out he
  unfold xCount at he
  split at he
  · cases he
    refine ⟨_, rfl, fun α args' ha => ?_⟩
    cases ha with
    | cons h1 hs => cases hs with
      | cons h2 hs => cases hs; rw [h1.str_inv, h2.int_inv]; exact ⟨_, .int _ _, fun w => Lib.run_countString _ _ w⟩
  · cases he

theorem xSame_ok {f : FuncId} {F : Func} (hF : P.funcs[f]? = some F) (hname : (F.name == "runtime.NumGoroutine") = false) (hb : F.body.isNone = true) (hn : Extern.findNext F = none) (hf : Extern.find F = some Extern.AbiNoEscape.same) : XOk P f xSame := by
  refine x_sound hF hname hb hn hf ?_
  intro args H out he
  unfold xSame at he
  split at he
  · cases he
    refine ⟨_, rfl, fun α args' ha => ?_⟩
    cases ha with
    | cons h1 hs => cases hs; exact ⟨_, h1, fun w => rfl⟩
  · cases he

theorem call_sound (hT : TabOk P T) (hD : DTabOk P T) (hI : IntrOk P T) (hE : CodeOk P E) : CallOk P T E := by
  intro f args H out he α w0 w args' hg hs ha
  unfold evCall at he
  cases hc : T.code f with
  | none =>
    rw [hc] at he
    simp only at he
    cases hd : T.dfn f with
    | none => rw [hd] at he; exact hI f args H out hc hd he α w0 w args' hg hs ha
    | some d =>
      rw [hd] at he
      obtain ⟨F, G, c, hF, hb, hname, hnt, hrs, hDs, hG, hclo, hn⟩ := hD f d hd
      exact d_sound hE hF hb hname hnt hrs hDs hG hclo hn args H out he α w0 w args' hg hs ha
  | some fn =>
    rw [hc] at he
    simp only at he
    obtain ⟨F, g, hF, hcf⟩ := hT f fn hc
    unfold compFn at hcf
    split at hcf
    · rename_i c rs hb hrs
      split at hcf
      · cases hcf
      · rename_i hname
        cases hcf
        left
        have hen : (callFunc f ⟨args'⟩).run P w = .ok (.enter f ⟨args'⟩) w := by
          simp only [callFunc, Sem.run_bind, run_program, Result.andThen_ok, hF]
          rw [if_neg (by simpa using hname)]
          rw [hb]
          rfl
        refine ⟨hen, ?_⟩
        refine calls_of_wp hF hb ?_
        have hlen := ha.length
        have henv : VRs α (args ++ List.replicate (F.ntmps - args.length) undef) ((⟨args'⟩ : Array Value) ++ Array.replicate (F.ntmps - (⟨args'⟩ : Array Value).size) undef).toList := by
          simp only [Array.toList_append, Array.toList_replicate]
          refine ha.append ?_
          have : (⟨args'⟩ : Array Value).size = args.length := hlen
          rw [this]
          generalize F.ntmps - args.length = n
          induction n with
          | zero => exact .nil
          | succ n ih => exact .cons (VR.undef α) ih
        have hst : St P [] α w0 (args ++ List.replicate (F.ntmps - args.length) undef) H { tmps := (⟨args'⟩ : Array Value) ++ Array.replicate (F.ntmps - (⟨args'⟩ : Array Value).size) undef, defers := [] } w := ⟨henv, hs, hg, rfl⟩
        cases hx : E (compC P c g).1 (args ++ List.replicate (F.ntmps - args.length) undef) H with
        | none => rw [hx] at he; cases he
        | some r =>
          rw [hx] at he
          obtain ⟨e1, env1, H1⟩ := r
          refine hE.1 [] c g α w0 _ H _ w _ _ hst hx ?_
          have fin : ∀ β a1 w1, α.le β → St P [] β w0 env1 H1 a1 w1 → ((Ve.results rs env1 H1).map fun v => Out.ret v H1) = some out → a1.defers = [] ∧ ∃ v, (Go.results F a1.tmps).run P w1 = .ok v w1 ∧ OutRel α w0 out (.returned v) w1 := by
            intro β a1 w1 hle hst1 ho
            refine ⟨hst1.defs, ?_⟩
            simp only [Option.map_eq_some_iff] at ho
            obtain ⟨v, hv, rfl⟩ := ho
            unfold Ve.results at hv
            have key : ∀ vs, resVs env1 H1 rs = some vs → ∃ vs', (Go.results F a1.tmps).run P w1 = .ok (if h : (⟨vs'⟩ : Array Value).size = 1 then (⟨vs'⟩ : Array Value)[0] else .tuple ⟨vs'⟩) w1 ∧ VRs β vs vs' := by
              intro vs hvs
              obtain ⟨vs', g1, g2⟩ := results_run hst1.env hst1.sim hrs hvs
              refine ⟨vs', ?_, g2⟩
              unfold Go.results
              rw [Array.mapM_eq_mapM_toList]
              change Sem.run P (do let vs ← (List.toArray <$> List.mapM (resCell a1.tmps) F.results.toList); pure (if h : vs.size = 1 then vs[0] else .tuple vs)) w1 = _
              simp only [Sem.run_bind, Sem.run_map, g1, Result.andThen_ok, Sem.run_pure]
            split at hv
            · rename_i v1 hvs
              cases hv
              obtain ⟨vs', g1, g2⟩ := key _ hvs
              cases g2 with
              | cons hv2 hs2 =>
                cases hs2
                refine ⟨_, g1, β, _, hle, rfl, ?_, hst1.sim⟩
                exact hv2
            · rename_i vs hne hvs
              cases hv
              obtain ⟨vs', g1, g2⟩ := key _ hvs
              have hsz : ¬ ((⟨vs'⟩ : Array Value).size = 1) := by
                have : (⟨vs'⟩ : Array Value).size = vs.length := g2.length
                rw [this]
                intro h1
                match vs, h1 with
                | [x], _ => exact hne x rfl
              rw [dif_neg hsz] at g1
              exact ⟨_, g1, β, _, hle, rfl, .tup g2, hst1.sim⟩
            · cases hv
          intro β e a1 w1 hle hex hst1
          cases e1 with
          | norm =>
            simp only [ExRel] at hex
            subst hex
            exact fin β a1 w1 hle hst1 he
          | ret =>
            simp only [ExRel] at hex
            subst hex
            exact fin β a1 w1 hle hst1 he
          | exit id => simp only at he; cases he
          | pan v =>
            obtain ⟨v', rfl, hv⟩ := hex
            simp only [Option.some.injEq] at he
            subst he
            exact ⟨hst1.defs, β, v', hle, rfl, hv, hst1.sim⟩
    · cases hcf

theorem all_sound (hT : TabOk P T) (hD : DTabOk P T) (hI : IntrOk P T) : ∀ n, CodeOk P (evN T n)
  | 0 => ⟨fun D c g α w0 env H a w r Q hst he => by simp [evN] at he, fun D c g gone α w0 env H a w r Q hst he => by simp [evN] at he⟩
  | n + 1 => by
    have ih := all_sound hT hD hI n
    have hk := call_sound hT hD hI ih
    exact ⟨fun D c g α w0 env H a w r Q hst he hQ => evC_wp ih hk c g α w0 env H a w r Q hst he hQ, fun D c g gone α w0 env H a w r Q hst he hQ => evC_loop ih hk c g gone α w0 env H a w r Q hst he hQ⟩

/-- What the deterministic machine says of a call, the model does. -/
theorem run_sound (hT : TabOk P T) (hD : DTabOk P T) (hI : IntrOk P T) {n : Nat} {f : FuncId} {args : List Value} {H : Heap} {out : Out} (h : Ve.run T n f args H = some out) {α : Al} {w0 w : World} {args' : List Value}
    (hg : ∀ g, g < P.globals.size → α g = some (g, 0)) (hs : Sim α w0 H w) (ha : VRs α args args') : CallSem P f ⟨args'⟩ w (OutRel α w0 out) :=
  call_sound hT hD hI (all_sound hT hD hI n) f args H out h α w0 w args' hg hs ha

end
end Ve
end Go.Proofs.YtnociodpfmlglaaGreatDoor
