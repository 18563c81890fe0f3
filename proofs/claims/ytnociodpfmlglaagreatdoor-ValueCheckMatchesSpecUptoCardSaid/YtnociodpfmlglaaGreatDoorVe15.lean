/-
  Code, functions, and the whole: what the deterministic machine says of a call, the model does.
-/
import Derived.Test.YtnociodpfmlglaaGreatDoorVe14
set_option linter.unusedVariables false
set_option linter.unusedSimpArgs false
namespace Go.Proofs.YtnociodpfmlglaaGreatDoor
namespace Ve
open Go Go.RowKit

/-- Code; the lists say which temporaries a loop's head forgets. -/
def compC (P : Program) : Code → List (List Nat) → C × List (List Nat)
  | .skip, g => (.skip, g)
  | .label _, g => (.skip, g)
  | .region _ ops false, g => ((match compIOs P ops ops.toList with | some l => .ops l | none => .stuck), g)
  | .region _ ops true, g => ((match compD P ops with | some l => .dops l | none => .stuck), g)
  | .seq a b, g =>
    match compC P a g with
    | (a', g1) => match compC P b g1 with | (b', g2) => (.seq a' b', g2)
  | .cond x a b, g =>
    match compC P a g with
    | (a', g1) => match compC P b g1 with | (b', g2) => (if opdOk P x then .cond x a' b' else .stuck, g2)
  | .block id c, g => match compC P c g with | (c', g1) => (.block id c', g1)
  | .loop c, g => match compC P c g.tail with | (c', g1) => (.loop (g.headD []) c', g1)
  | .exit id, g => (.exit id, g)
  | .ret, g => (.ret, g)
  | _, g => (.stuck, g)

def compRes (P : Program) : List ResultVar → Option (List RV)
  | [] => some []
  | .tmp t :: r => (compRes P r).map (.tmp t :: ·)
  | .cell a t :: r => match shapeOf P t, compRes P r with | some n, some l => some (.cell a n :: l) | _, _ => none

/-- A function, read by the deterministic machine. -/
def compFn (P : Program) (F : Func) (g : List (List Nat)) : Option IFun :=
  match F.body, compRes P F.results.toList with
  | some c, some rs => if F.name == "runtime.NumGoroutine" then none else some ⟨F.ntmps, (compC P c g).1, rs⟩
  | _, _ => none

def TabOk (P : Program) (T : Tab) : Prop := ∀ f fn, T.code f = some fn → ∃ F g, P.funcs[f]? = some F ∧ compFn P F g = some fn

def LoopOk (P : Program) (α : Al) (w0 : World) (c : Code) (a : Act) (w : World) (Q : Exit → Act → World → Prop) : Prop :=
  ∀ (b : Frame) (k : List Item) (cs : List Frame), ∃ e a' w', Q e a' w' ∧ Arrives P (lone (b.at a (.code c :: .inLoop c :: k)) cs w) b k cs e a' w'

def CodeOk (P : Program) (E : C → Env → Heap → Option (Ex × Env × Heap)) : Prop :=
  (∀ D c g α w0 env H a w r Q, St P D α w0 env H a w → E (compC P c g).1 env H = some r → Post P D α w0 r Q → c.wp P Q a w) ∧
  (∀ D c g gone α w0 env H a w r Q, St P D α w0 env H a w → E (.loop gone (compC P c g).1) env H = some r → Post P D α w0 r Q → LoopOk P α w0 c a w Q)

section
variable {P : Program} {D : List Deferred} {T : Tab} {E : C → Env → Heap → Option (Ex × Env × Heap)}

theorem VRs.forget {α : Al} : ∀ (gone : List Nat) {env : Env} {l : List Value}, VRs α env l → VRs α (Ve.forget gone env) l
  | [], env, l, h => h
  | t :: r, env, l, h => by
    refine VRs.forget r ?_
    have gen : ∀ {env l : List Value} (t : Nat), VRs α env l → VRs α (env.set t unk) l := by
      intro env l t h
      induction h using VRs.rec (motive_1 := fun _ _ _ => True) generalizing t with
      | nil => exact .nil
      | cons hv hs _ ih =>
        cases t with
        | zero => exact .cons (.unk _) hs
        | succ t => exact .cons hv (ih t)
      | _ => trivial
    exact gen t h

theorem range_eq (n : Nat) : List.range n = List.range' 0 n := by rw [List.range_eq_range']

theorem evC_wp (hE : CodeOk P E) (hk : CallOk P T E) : ∀ (c : Code) (g : List (List Nat)) (α : Al) (w0 : World) (env : Env) (H : Heap) (a : Act) (w : World) (r : Ex × Env × Heap) (Q : Exit → Act → World → Prop),
    St P D α w0 env H a w → evC T E (compC P c g).1 env H = some r → Post P D α w0 r Q → c.wp P Q a w := by
  intro c
  induction c with
  | skip =>
    intro g α w0 env H a w r Q hst he hQ
    simp only [compC, evC, Option.some.injEq] at he
    subst he
    exact wp_skip (hQ α .normal a w (Al.le_refl α) rfl hst)
  | label l =>
    intro g α w0 env H a w r Q hst he hQ
    simp only [compC, evC, Option.some.injEq] at he
    subst he
    exact wp_label (hQ α .normal a w (Al.le_refl α) rfl hst)
  | exit id =>
    intro g α w0 env H a w r Q hst he hQ
    simp only [compC, evC, Option.some.injEq] at he
    subst he
    exact wp_exit (hQ α (.exit id) a w (Al.le_refl α) rfl hst)
  | ret =>
    intro g α w0 env H a w r Q hst he hQ
    simp only [compC, evC, Option.some.injEq] at he
    subst he
    exact wp_ret (hQ α .ret a w (Al.le_refl α) rfl hst)
  | region id ops draw =>
    intro g α w0 env H a w r Q hst he hQ
    cases draw with
    | false =>
      simp only [compC] at he
      cases hl : compIOs P ops ops.toList with
      | none => rw [hl] at he; cases he
      | some l =>
        rw [hl] at he
        simp only [evC] at he
        refine wp_region ?_
        rw [range_eq]
        have := ops_sound hk (Q := Q) ops.toList 0 l (by simp) hl α env H a w r hst he hQ
        simpa using this
    | true =>
      simp only [compC] at he
      cases hl : compD P ops with
      | none => rw [hl] at he; cases he
      | some l =>
        rw [hl] at he
        simp only [evC] at he
        exact dops_sound hk hl hst he hQ
  | seq x y ihx ihy =>
    intro g α w0 env H a w r Q hst he hQ
    simp only [compC, evC] at he
    refine wp_seq ?_
    cases hx : evC T E (compC P x g).1 env H with
    | none => rw [hx] at he; cases he
    | some r1 =>
      rw [hx] at he
      obtain ⟨e1, env1, H1⟩ := r1
      refine ihx g α w0 env H a w _ _ hst hx ?_
      intro β e a1 w1 hle hex hst1
      cases e1 with
      | norm =>
        simp only [ExRel] at hex
        subst hex
        simp only at he
        exact ihy _ β w0 env1 H1 a1 w1 r Q hst1 he (hQ.mono hle)
      | exit id =>
        simp only [ExRel] at hex
        subst hex
        simp only [Option.some.injEq] at he
        subst he
        exact hQ β _ a1 w1 hle rfl hst1
      | ret =>
        simp only [ExRel] at hex
        subst hex
        simp only [Option.some.injEq] at he
        subst he
        exact hQ β _ a1 w1 hle rfl hst1
      | pan v =>
        obtain ⟨v', rfl, hv⟩ := hex
        simp only [Option.some.injEq] at he
        subst he
        exact hQ β _ a1 w1 hle ⟨v', rfl, hv⟩ hst1
  | cond x y z ihy ihz =>
    intro g α w0 env H a w r Q hst he hQ
    simp only [compC] at he
    by_cases hx : opdOk P x = true
    · rw [if_pos hx] at he
      simp only [evC] at he
      have hr := rd_rel hst.env hst.glob hx
      split at he
      · rename_i e
        rw [e] at hr
        exact wp_cond_true hr.bool_inv (ihy g α w0 env H a w r Q hst he hQ)
      · rename_i e
        rw [e] at hr
        exact wp_cond_false hr.bool_inv (ihz _ α w0 env H a w r Q hst he hQ)
      · cases he
    · rw [if_neg hx] at he
      cases he
  | block id c ih =>
    intro g α w0 env H a w r Q hst he hQ
    simp only [compC, evC] at he
    refine wp_block ?_
    cases hx : evC T E (compC P c g).1 env H with
    | none => rw [hx] at he; cases he
    | some r1 =>
      rw [hx] at he
      obtain ⟨e1, env1, H1⟩ := r1
      refine ih g α w0 env H a w _ _ hst hx ?_
      intro β e a1 w1 hle hex hst1
      cases e1 with
      | norm =>
        simp only [ExRel] at hex
        subst hex
        simp only [Option.some.injEq] at he
        subst he
        exact hQ β _ a1 w1 hle rfl hst1
      | exit j =>
        simp only [ExRel] at hex
        subst hex
        simp only at he
        by_cases hj : j = id
        · rw [if_pos hj] at he
          simp only [Option.some.injEq] at he
          subst he
          simp only [Exit.inBlock, if_pos hj]
          exact hQ β _ a1 w1 hle rfl hst1
        · rw [if_neg hj] at he
          simp only [Option.some.injEq] at he
          subst he
          simp only [Exit.inBlock, if_neg hj]
          exact hQ β _ a1 w1 hle rfl hst1
      | ret =>
        simp only [ExRel] at hex
        subst hex
        simp only [Option.some.injEq] at he
        subst he
        exact hQ β _ a1 w1 hle rfl hst1
      | pan v =>
        obtain ⟨v', rfl, hv⟩ := hex
        simp only [Option.some.injEq] at he
        subst he
        exact hQ β _ a1 w1 hle ⟨v', rfl, hv⟩ hst1
  | loop c ih =>
    intro g α w0 env H a w r Q hst he hQ
    simp only [compC] at he
    -- the rounds, from the body's head on
    have hloop : LoopOk P α w0 c a w Q := by
      intro b k cs
      simp only [evC] at he
      have hst' : St P D α w0 (forget (g.headD []) env) H a w := ⟨hst.env.forget _, hst.sim, hst.glob, hst.defs⟩
      cases hx : evC T E (compC P c g.tail).1 (forget (g.headD []) env) H with
      | none => rw [hx] at he; cases he
      | some r1 =>
        rw [hx] at he
        obtain ⟨e1, env1, H1⟩ := r1
        have hbody := ih g.tail α w0 _ H a w _ (Exit.then (fun a' w' => LoopOk P α w0 c a' w' Q) Q) hst' hx (by
          intro β e a1 w1 hle hex hst1
          cases e1 with
          | norm =>
            simp only [ExRel] at hex
            subst hex
            simp only at he
            exact hE.2 D c g.tail _ β w0 env1 H1 a1 w1 r Q hst1 he (hQ.mono hle)
          | exit id =>
            simp only [ExRel] at hex
            subst hex
            simp only [Option.some.injEq] at he
            subst he
            exact hQ β _ a1 w1 hle rfl hst1
          | ret =>
            simp only [ExRel] at hex
            subst hex
            simp only [Option.some.injEq] at he
            subst he
            exact hQ β _ a1 w1 hle rfl hst1
          | pan v =>
            obtain ⟨v', rfl, hv⟩ := hex
            simp only [Option.some.injEq] at he
            subst he
            exact hQ β _ a1 w1 hle ⟨v', rfl, hv⟩ hst1)
        obtain ⟨e, a₁, w₁, hq, harr⟩ := hbody b (.inLoop c :: k) cs
        cases e with
        | normal =>
          obtain ⟨e₂, a₂, w₂, hq₂, harr₂⟩ := hq b k cs
          exact ⟨e₂, a₂, w₂, hq₂, .of_steps (Steps.trans harr (.one step_inLoop)) harr₂⟩
        | exit id => exact ⟨_, a₁, w₁, hq, .pass (x := .inLoop c) rfl (fun _ _ => .inl (by simp)) harr⟩
        | goto l => exact ⟨_, a₁, w₁, hq, .pass (x := .inLoop c) rfl (fun _ _ => .inl (by simp)) harr⟩
        | ret => exact ⟨_, a₁, w₁, hq, .pass (x := .inLoop c) rfl (fun _ _ => .inl (by simp)) harr⟩
        | panic ch => exact ⟨_, a₁, w₁, hq, .pass (x := .inLoop c) rfl (fun _ _ => .inl (by simp)) harr⟩
        | outgrown => exact ⟨_, a₁, w₁, hq, .pass (x := .inLoop c) rfl (fun _ _ => .inl (by simp)) harr⟩
    intro b k cs
    obtain ⟨e, a', w', hq, harr⟩ := hloop b k cs
    exact ⟨e, a', w', hq, .of_steps (.one step_loop) harr⟩
  | _ =>
    intro g α w0 env H a w r Q hst he hQ
    simp [compC, evC] at he

theorem evC_loop (hE : CodeOk P E) (hk : CallOk P T E) (c : Code) (g : List (List Nat)) (gone : List Nat) (α : Al) (w0 : World) (env : Env) (H : Heap) (a : Act) (w : World) (r : Ex × Env × Heap) (Q : Exit → Act → World → Prop)
    (hst : St P D α w0 env H a w) (he : evC T E (.loop gone (compC P c g).1) env H = some r) (hQ : Post P D α w0 r Q) : LoopOk P α w0 c a w Q := by
  intro b k cs
  simp only [evC] at he
  have hst' : St P D α w0 (forget gone env) H a w := ⟨hst.env.forget _, hst.sim, hst.glob, hst.defs⟩
  cases hx : evC T E (compC P c g).1 (forget gone env) H with
  | none => rw [hx] at he; cases he
  | some r1 =>
    rw [hx] at he
    obtain ⟨e1, env1, H1⟩ := r1
    have hbody := evC_wp hE hk c g α w0 _ H a w _ (Exit.then (fun a' w' => LoopOk P α w0 c a' w' Q) Q) hst' hx (by
      intro β e a1 w1 hle hex hst1
      cases e1 with
      | norm =>
        simp only [ExRel] at hex
        subst hex
        simp only at he
        exact hE.2 D c g _ β w0 env1 H1 a1 w1 r Q hst1 he (hQ.mono hle)
      | exit id =>
        simp only [ExRel] at hex
        subst hex
        simp only [Option.some.injEq] at he
        subst he
        exact hQ β _ a1 w1 hle rfl hst1
      | ret =>
        simp only [ExRel] at hex
        subst hex
        simp only [Option.some.injEq] at he
        subst he
        exact hQ β _ a1 w1 hle rfl hst1
      | pan v =>
        obtain ⟨v', rfl, hv⟩ := hex
        simp only [Option.some.injEq] at he
        subst he
        exact hQ β _ a1 w1 hle ⟨v', rfl, hv⟩ hst1)
    obtain ⟨e, a₁, w₁, hq, harr⟩ := hbody b (.inLoop c :: k) cs
    cases e with
    | normal =>
      obtain ⟨e₂, a₂, w₂, hq₂, harr₂⟩ := hq b k cs
      exact ⟨e₂, a₂, w₂, hq₂, .of_steps (Steps.trans harr (.one step_inLoop)) harr₂⟩
    | exit id => exact ⟨_, a₁, w₁, hq, .pass (x := .inLoop c) rfl (fun _ _ => .inl (by simp)) harr⟩
    | goto l => exact ⟨_, a₁, w₁, hq, .pass (x := .inLoop c) rfl (fun _ _ => .inl (by simp)) harr⟩
    | ret => exact ⟨_, a₁, w₁, hq, .pass (x := .inLoop c) rfl (fun _ _ => .inl (by simp)) harr⟩
    | panic ch => exact ⟨_, a₁, w₁, hq, .pass (x := .inLoop c) rfl (fun _ _ => .inl (by simp)) harr⟩
    | outgrown => exact ⟨_, a₁, w₁, hq, .pass (x := .inLoop c) rfl (fun _ _ => .inl (by simp)) harr⟩

/-- One result of a function, read as the model reads it. -/
def resCell (tm : Array Value) (r : ResultVar) : Sem Value :=
  match r with
  | ResultVar.tmp t => pure (tm.getD t undef)
  | ResultVar.cell x t => do loadVar t (← asAddr (tm.getD x undef))

theorem results_run {α : Al} {w0 w : World} {H : Heap} {env : Env} {a : Act} (he : VRs α env a.tmps.toList) (hs : Sim α w0 H w) : ∀ {rs : List ResultVar} {l : List RV} {vs : List Value}, compRes P rs = some l → resVs env H l = some vs →
    ∃ vs', (rs.mapM (resCell a.tmps)).run P w = Result.ok vs' w ∧ VRs α vs vs'
  | [], l, vs, hc, hv => by
    simp [compRes] at hc; subst hc
    simp [resVs] at hv; subst hv
    exact ⟨[], rfl, .nil⟩
  | .tmp t :: rs, l, vs, hc, hv => by
    simp only [compRes, Option.map_eq_some_iff] at hc
    obtain ⟨l', h1, rfl⟩ := hc
    simp only [resVs, resV, Option.map_eq_some_iff] at hv
    obtain ⟨vs1, h2, rfl⟩ := hv
    obtain ⟨vs', g1, g2⟩ := results_run he hs h1 h2
    refine ⟨a.tmps.getD t undef :: vs', ?_, .cons (by rw [getD_list]; exact VRs.getD he t) g2⟩
    simp only [List.mapM_cons, resCell, Sem.run_bind, Sem.run_pure, Result.andThen_ok, g1]
  | .cell x t :: rs, l, vs, hc, hv => by
    unfold compRes at hc
    split at hc
    · rename_i n l' hn h1
      cases hc
      unfold resVs at hv
      split at hv
      · rename_i v hld
        simp only [Option.map_eq_some_iff] at hv
        obtain ⟨vs1, h2, rfl⟩ := hv
        obtain ⟨vs', g1, g2⟩ := results_run he hs h1 h2
        have hx := VRs.getD he x
        simp only [resV] at hld
        have hrun' : ∃ v', VR α v v' ∧ (do loadVar t (← asAddr (a.tmps.getD x undef)) : Sem Value).run P w = .ok v' w := by
          rw [getD_list]
          obtain ⟨v', hr, hrun⟩ := ldv_run (P := P) hs hn hx hld
          refine ⟨v', hr, ?_⟩
          clear hn
          revert hx hld hrun
          generalize a.tmps.toList.getD x undef = av
          generalize env.getD x undef = ev
          intro hld hx hrun
          unfold ldv at hld
          cases hx <;> first | (simp [unk] at hld; done) | (simp only [Instr.loadAt, Instr.sureAddr, asAddr] at hrun ⊢; exact hrun)
        obtain ⟨v', hr, hrun'⟩ := hrun'
        refine ⟨v' :: vs', ?_, .cons hr g2⟩
        simp only [List.mapM_cons, resCell, Sem.run_bind, g1]
        simp only [Sem.run_bind] at hrun'
        rw [hrun']
        simp only [Result.andThen_ok, g1, Sem.run_pure]
      · cases hv
    · cases hc

end
end Ve
end Go.Proofs.YtnociodpfmlglaaGreatDoor
