/-
  All operations but calls of functions.
-/
import Derived.Test.YtnociodpfmlglaaGreatDoorVe9c
set_option linter.unusedVariables false
set_option linter.unusedSimpArgs false
namespace Go.Proofs.YtnociodpfmlglaaGreatDoor
namespace Ve
open Go Go.RowKit

/-- Operations that neither look at memory nor turn it. -/
def isQuiet : I → Bool
  | .new _ _ | .box _ _ | .bslice _ _ _ | .gsl _ _ _ | .ld _ _ | .st _ _ _ | .s2b _ | .b2s _ | .mksl _ _ _ _ | .append _ _ _ _ _ | .copy _ _ _ | .uslice _ | .ustr _ _ _ | .uof _ | .upt _ _ | .mkmap _ | .mlook _ _ _ _ | .mput _ _ _ | .call _ _ | .pan _ => false
  | _ => true

section
variable {P : Program} {gs : Bool} {α : Al} {ρ : Operand → Value} {env : Env} {w0 w : World} {H : Heap} {o : Oper} {i : I}

theorem bin_sound {op : BinOp} {t ty : TypeId} {x y : Operand} (ho : o.op = .binOp op t x y ty) (hc : compBin P op t x y = some i) (hx : VR α (rd env x) (ρ x)) (hy : VR α (rd env y) (ρ y)) : Quiet P α o ρ env i := by
  unfold compBin at hc
  split at hc
  case h_1 h => cases hc; exact q_eqb (neg := false) ho h hx hy
  case h_2 h => cases hc; exact q_eqb (neg := true) ho h hx hy
  case h_3 h => simp only [Option.map_eq_some_iff] at hc; obtain ⟨j, hj, rfl⟩ := hc; exact q_eqp (neg := false) ho h hj hx hy
  case h_4 h => simp only [Option.map_eq_some_iff] at hc; obtain ⟨j, hj, rfl⟩ := hc; exact q_eqp (neg := true) ho h hj hx hy
  case h_5 h => cases hc; exact q_eqn (neg := false) ho h rfl (fun e => by cases e) hx hy
  case h_6 h => cases hc; exact q_eqn (neg := true) ho h rfl (fun e => by cases e) hx hy
  case h_7 h => cases hc; exact q_eqn (neg := false) ho h rfl (fun e => by cases e) hx hy
  case h_8 h => cases hc; exact q_eqn (neg := true) ho h rfl (fun e => by cases e) hx hy
  case h_9 h => cases hc; exact q_eqn (neg := false) ho h rfl (fun e => by cases e) hx hy
  case h_10 h => cases hc; exact q_eqn (neg := true) ho h rfl (fun e => by cases e) hx hy
  case h_11 h =>
    split at hc
    · cases hc; exact q_eqn (neg := false) ho h rfl (fun _ => ⟨_, rfl⟩) hx hy
    · cases hc
  case h_12 h =>
    split at hc
    · cases hc; exact q_eqn (neg := true) ho h rfl (fun _ => ⟨_, rfl⟩) hx hy
    · cases hc
  case h_13 h =>
    cases e : flat P t with
    | none => rw [e] at hc; cases hc
    | some ks => rw [e] at hc; cases hc; exact q_eqs (neg := false) ho e hx hy
  case h_14 h =>
    cases e : flat P t with
    | none => rw [e] at hc; cases hc
    | some ks => rw [e] at hc; cases hc; exact q_eqs (neg := true) ho e hx hy
  case h_15 => cases hc; exact q_bin ho hx hy
  case h_16 => cases hc; exact q_bin ho hx hy
  case h_17 => cases hc

theorem mem_opt {l : Option Operand} {y : Operand} (h : l = some y) : y ∈ l.toArray := by subst h; simp

theorem quiet_sound (hc : compOp P gs o = some i) (hq : isQuiet i = true) (hρ : ∀ x ∈ o.op.operands, VR α (rd env x) (ρ x)) : Quiet P α o ρ env i := by
  cases hop : o.op with
  | move x => simp only [compOp, hop, Option.some.injEq] at hc; subst hc; exact q_mov (.inl hop) (hρ x (by simp [hop, Op.operands]))
  | assign x => simp only [compOp, hop, Option.some.injEq] at hc; subst hc; exact q_mov (.inr hop) (hρ x (by simp [hop, Op.operands]))
  | pick c a b => simp only [compOp, hop, Option.some.injEq] at hc; subst hc; exact q_pick hop (hρ c (by simp [hop, Op.operands])) (hρ a (by simp [hop, Op.operands])) (hρ b (by simp [hop, Op.operands]))
  | alloc t => simp only [compOp, hop] at hc; cases e : zeroCells P t <;> rw [e] at hc <;> cases hc; cases hq
  | box t x => simp only [compOp, hop, Option.some.injEq] at hc; subst hc; cases hq
  | build t parts =>
    simp only [compOp, hop] at hc
    have hx : ∀ x ∈ parts.toList.map (·.2), VR α (rd env x) (ρ x) := fun x hx => hρ x (by simp only [hop, Op.operands]; simpa using hx)
    split at hc
    · rename_i z fs hz ht
      cases e1 : placesOf P fs.toList with
      | none => rw [e1] at hc; cases hc
      | some pl =>
        rw [e1] at hc
        simp only [Option.bind_some] at hc
        cases e2 : partsOf (fun i => pl[i]?) parts.toList with
        | none => rw [e2] at hc; cases hc
        | some ps => rw [e2] at hc; cases hc; exact q_build_struct hop hz ht e1 e2 hx
    · rename_i z k e hz ht
      cases e1 : cells? P e with
      | none => rw [e1] at hc; cases hc
      | some n =>
        rw [e1] at hc
        simp only [Option.bind_some] at hc
        cases e2 : partsOf (fun i => some (i * n, n)) parts.toList with
        | none => rw [e2] at hc; cases hc
        | some ps => rw [e2] at hc; cases hc; exact q_build_array hop hz ht e1 e2 hx
    · cases hc
  | buildSlice t len parts =>
    simp only [compOp, hop] at hc
    split at hc
    · split at hc
      · split at hc
        · rename_i ps _
          simp only [Option.map_eq_some_iff] at hc
          obtain ⟨_, _, rfl⟩ := hc
          cases gs <;> cases hq
        · cases hc
      · cases hc
    · cases hc
  | load t a => simp only [compOp, hop, Option.map_eq_some_iff] at hc; obtain ⟨_, _, rfl⟩ := hc; cases hq
  | store t a x => simp only [compOp, hop, Option.map_eq_some_iff] at hc; obtain ⟨_, _, rfl⟩ := hc; cases hq
  | nilCheck x => simp only [compOp, hop, Option.some.injEq] at hc; subst hc; exact q_nilck hop (hρ x (by simp [hop, Op.operands]))
  | binOp op t x y ty => simp only [compOp, hop] at hc; exact bin_sound hop hc (hρ x (by simp [hop, Op.operands])) (hρ y (by simp [hop, Op.operands]))
  | unOp op t x => simp only [compOp, hop, Option.some.injEq] at hc; subst hc; exact q_un hop (hρ x (by simp [hop, Op.operands]))
  | convert s d x =>
    simp only [compOp, hop, compConv] at hc
    have hx := hρ x (by simp [hop, Op.operands])
    split at hc
    · rename_i h1 h2; cases hc; exact q_toint hop h1 h2 hx
    · rename_i h1 h2; cases hc; exact q_tostr hop h1 h2 hx
    · split at hc
      · cases hc; cases hq
      · cases hc
    · split at hc
      · cases hc; cases hq
      · cases hc
    · split at hc
      · cases hc; cases hq
      · cases hc
    · simp only [Option.map_eq_some_iff] at hc; obtain ⟨_, _, rfl⟩ := hc; cases hq
    · cases hc
  | makeInterface t x =>
    simp only [compOp, hop] at hc
    split at hc
    · cases hc
    · rename_i d hne hd
      cases hc
      exact q_mkif hop hd (fun m e => hne m (by rw [← e])) (hρ x (by simp [hop, Op.operands]))
    · cases hc
  | makeFunc fn a c =>
    simp only [compOp, hop, Option.some.injEq] at hc
    subst hc
    exact q_mkfn hop (fun x hx => hρ x (by simp [hop, Op.operands, hx])) (fun x hx => hρ x (by simp [hop, Op.operands, hx]))
  | makeSlice t l c =>
    simp only [compOp, hop] at hc
    split at hc
    · split at hc
      · split at hc
        · cases hc; cases hq
        · cases hc
      · cases hc
    · cases hc
  | slice t x lo hi mx =>
    have hx := hρ x (by simp [hop, Op.operands])
    have hlo : ∀ y, lo = some y → VR α (rd env y) (ρ y) := fun y e => hρ y (by subst e; simp [hop, Op.operands])
    have hhi : ∀ y, hi = some y → VR α (rd env y) (ρ y) := fun y e => hρ y (by subst e; simp [hop, Op.operands])
    have hmx : ∀ y, mx = some y → VR α (rd env y) (ρ y) := fun y e => hρ y (by subst e; simp [hop, Op.operands])
    simp only [compOp, hop] at hc
    split at hc
    · rename_i ht
      split at hc
      · rename_i hm
        cases hc
        have hm' : mx = none := by simpa using hm
        subst hm'
        exact q_slstr hop ht hx hlo hhi
      · cases hc
    · rename_i e ht
      simp only [Option.map_eq_some_iff] at hc
      obtain ⟨n, hn, rfl⟩ := hc
      exact q_slsl hop ht hn hx hlo hhi hmx
    · rename_i n e ht
      split at hc
      · rename_i hm
        simp only [Option.map_eq_some_iff] at hc
        obtain ⟨k, hk, rfl⟩ := hc
        have hm' : mx = none := by simpa using hm
        subst hm'
        exact q_slarr hop ht hk hx hlo hhi
      · cases hc
    · cases hc
  | fieldAddr s x k =>
    simp only [compOp, hop] at hc
    cases e : fieldOf P s k with
    | none => rw [e] at hc; cases hc
    | some f =>
      rw [e] at hc
      simp only [Option.bind_some] at hc
      split at hc
      · rename_i n hn
        cases hc
        exact q_faddr hop e hn (hρ x (by simp [hop, Op.operands]))
      · cases hc
  | field s x k =>
    simp only [compOp, hop] at hc
    cases e : fieldOf P s k with
    | none => rw [e] at hc; cases hc
    | some f =>
      rw [e] at hc
      simp only [Option.bind_some, Option.map_eq_some_iff] at hc
      obtain ⟨n, hn, rfl⟩ := hc
      exact q_field hop e hn (hρ x (by simp [hop, Op.operands]))
  | indexAddr t x ix =>
    have hx := hρ x (by simp [hop, Op.operands])
    have hi := hρ ix (by simp [hop, Op.operands])
    simp only [compOp, hop] at hc
    split at hc
    · rename_i e ht
      simp only [Option.map_eq_some_iff] at hc
      obtain ⟨n, hn, rfl⟩ := hc
      exact q_iaddr hop ht hn hx hi
    · rename_i len e ht
      split at hc
      · simp only [Option.map_eq_some_iff] at hc
        obtain ⟨n, hn, rfl⟩ := hc
        exact q_iarr hop ht hn hx hi
      · cases hc
    · cases hc
  | index t x ix =>
    have hx := hρ x (by simp [hop, Op.operands])
    have hi := hρ ix (by simp [hop, Op.operands])
    simp only [compOp, hop] at hc
    split at hc
    · rename_i ht
      cases hc
      exact q_ixstr hop ht hx hi
    · rename_i len e ht
      cases e1 : cells? P e with
      | none => rw [e1] at hc; cases hc
      | some n =>
        rw [e1] at hc
        simp only [Option.bind_some, Option.map_eq_some_iff] at hc
        obtain ⟨k, hk, rfl⟩ := hc
        exact q_ixagg hop ht e1 hk hx hi
    · cases hc
  | extract t k => simp only [compOp, hop, Option.some.injEq] at hc; subst hc; exact q_ext hop (hρ t (by simp [hop, Op.operands]))
  | call c =>
    have hargs : ∀ x ∈ c.args.toList, VR α (rd env x) (ρ x) := fun x hx => hρ x (by simp [hop, Op.operands, Call.operands]; exact .inr (by simpa using hx))
    simp only [compOp, hop, compCall] at hc
    split at hc
    · cases hc; cases hq
    · rename_i hb
      split at hc
      · rename_i x ht ha
        cases hc
        exact q_lens hop hb ha ht (hargs x (by rw [ha]; simp))
      · rename_i e x ht ha
        cases hc
        exact q_lena hop hb ha ht (hargs x (by rw [ha]; simp))
      · cases hc
    · rename_i hb
      split at hc
      · rename_i e x ht ha
        cases hc
        exact q_cap hop hb ha ht (hargs x (by rw [ha]; simp))
      · cases hc
    · rename_i hb
      cases hc
      exact q_minmax (mx := false) hop hb hargs
    · rename_i hb
      cases hc
      exact q_minmax (mx := true) hop hb hargs
    · split at hc
      · simp only [Option.bind_eq_some_iff] at hc
        obtain ⟨_, _, h⟩ := hc
        split at h <;> cases h
        cases hq
      · simp only [Option.bind_eq_some_iff] at hc
        obtain ⟨_, _, h⟩ := hc
        split at h <;> cases h
        cases hq
      · cases hc
    · split at hc
      · simp only [Option.map_eq_some_iff] at hc; obtain ⟨_, _, rfl⟩ := hc; cases hq
      · cases hc
    · split at hc
      · cases hc; cases hq
      · cases hc
    · split at hc
      · split at hc
        · cases hc; cases hq
        · cases hc
      · cases hc
    · cases hc
  | panic x => simp only [compOp, hop, Option.some.injEq] at hc; subst hc; cases hq
  | makeMap t r => simp only [compOp, hop] at hc; split at hc <;> cases hc; cases hq
  | lookup t x k ok =>
    simp only [compOp, hop] at hc
    split at hc
    · split at hc
      · split at hc <;> cases hc; cases hq
      · cases hc
    · cases hc
  | mapUpdate t x k v =>
    simp only [compOp, hop] at hc
    split at hc
    · split at hc <;> cases hc; cases hq
    · cases hc
  | typeAssert x xt t ok =>
    simp only [compOp, hop] at hc
    split at hc
    · cases hc
    · rename_i d z hd ht hz
      split at hc
      · rename_i hl
        cases hc
        refine q_tass hop ht (fun m e => hd m e) hz ?_ (hρ x (by simp [hop, Op.operands]))
        simp only [Bool.or_eq_true, Bool.and_eq_true] at hl
        rcases hl with hl | ⟨hl, ha⟩
        · exact VR.lit hl
        · cases z with
          | agg cs => obtain ⟨l⟩ := cs; exact .agg (VRs.lits (by simpa [Value.cells] using hl))
          | _ => cases ha
      · cases hc
    · cases hc
  | _ => simp [compOp, hop] at hc

/-- Is it a call of a function, or a panic? -/
def isCall : I → Bool
  | .call _ _ | .pan _ => true
  | _ => false

theorem loud_sound {out : Out} (hc : compOp P gs o = some i) (hq : isQuiet i = false) (hk : isCall i = false) (hρ : ∀ x ∈ o.op.operands, VR α (rd env x) (ρ x)) (hs : Sim α w0 H w) (he : evI env H i = some out) : Loud P α w0 w o ρ out := by
  cases hop : o.op with
  | alloc t =>
    simp only [compOp, hop, Option.map_eq_some_iff] at hc
    obtain ⟨z, hz, rfl⟩ := hc
    exact l_new hop hz hs he
  | box t x =>
    simp only [compOp, hop, Option.some.injEq] at hc
    subst hc
    exact l_box hop (hρ x (by simp [hop, Op.operands])) hs he
  | buildSlice t len parts =>
    have hx : ∀ x ∈ parts.toList.map (·.2), VR α (rd env x) (ρ x) := fun x hx => hρ x (by simp only [hop, Op.operands]; simpa using hx)
    simp only [compOp, hop] at hc
    split at hc
    · rename_i e ht
      split at hc
      · rename_i n z hn hz
        split at hc
        · rename_i hcnd
          simp only [Option.map_eq_some_iff] at hc
          obtain ⟨ps, hps, rfl⟩ := hc
          cases gs
          · exact l_bslice hop ht hn hz hcnd hps hx hs he
          · exact l_gsl hop ht hn hz hcnd hps hx hs he
        · cases hc
      · cases hc
    · cases hc
  | load t a =>
    simp only [compOp, hop, Option.map_eq_some_iff] at hc
    obtain ⟨n, hn, rfl⟩ := hc
    exact l_ld hop hn (hρ a (by simp [hop, Op.operands])) hs he
  | store t a x =>
    simp only [compOp, hop, Option.map_eq_some_iff] at hc
    obtain ⟨n, hn, rfl⟩ := hc
    exact l_st hop hn (hρ a (by simp [hop, Op.operands])) (hρ x (by simp [hop, Op.operands])) hs he
  | convert s d x =>
    simp only [compOp, hop, compConv] at hc
    have hx := hρ x (by simp [hop, Op.operands])
    split at hc
    · cases hc; cases hq
    · cases hc; cases hq
    · rename_i h1 h2
      split at hc
      · rename_i hu; cases hc; exact l_s2b hop h1 h2 hu hx hs he
      · cases hc
    · rename_i h1 h2
      split at hc
      · rename_i hu; cases hc; exact l_b2s hop h1 h2 hu hx hs he
      · cases hc
    · rename_i h1 h2
      split at hc
      · rename_i n hn; cases hc; exact l_uof hop h1 h2 hn hx hs he
      · cases hc
    · rename_i h1 h2
      simp only [Option.map_eq_some_iff] at hc
      obtain ⟨j, hj, rfl⟩ := hc
      exact l_upt hop h1 h2 hj hx hs he
    · cases hc
  | makeSlice t l c =>
    simp only [compOp, hop] at hc
    split at hc
    · rename_i e ht
      split at hc
      · rename_i ti z hti hz
        split at hc
        · rename_i hcnd
          cases hc
          exact l_mksl hop ht hti hz hcnd (hρ l (by simp [hop, Op.operands])) (hρ c (by simp [hop, Op.operands])) hs he
        · cases hc
      · cases hc
    · cases hc
  | call c =>
    have hargs : ∀ x ∈ c.args.toList, VR α (rd env x) (ρ x) := fun x hx => hρ x (by simp [hop, Op.operands, Call.operands]; exact .inr (by simpa using hx))
    simp only [compOp, hop, compCall] at hc
    split at hc
    · cases hc; cases hk
    · split at hc <;> cases hc <;> cases hq
    · split at hc <;> cases hc; cases hq
    · cases hc; cases hq
    · cases hc; cases hq
    · rename_i hb
      have key : ∀ e s x, (c.argTypes[0]?).bind P.underlying = some (.slice e) → (∃ d, (c.argTypes[1]?).bind P.underlying = some d ∧ ((∃ e, d = .slice e) ∨ d = .string)) → c.args.toList = [s, x] →
          ((P.info? e).bind fun i => if (i.zero.map fun z => z.cells.size) = some i.size then some (I.append e i.size i.bytes s x) else none) = some i → Loud P α w0 w o ρ out := by
        intro e s x h0 ⟨d, h1, hd⟩ ha h
        simp only [Option.bind_eq_some_iff] at h
        obtain ⟨ti, hti, h⟩ := h
        split at h
        · rename_i hz
          cases h
          simp only [Option.map_eq_some_iff] at hz
          obtain ⟨z, hz1, hz2⟩ := hz
          obtain ⟨t0, g1, g2⟩ := argType h0
          obtain ⟨t1, g3, g4⟩ := argType h1
          exact l_append hop hb ha ⟨⟨t0, g1, g2⟩, ⟨t1, d, g3, g4, hd⟩, hti, hz1, hz2⟩ (hargs s (by rw [ha]; simp)) (hargs x (by rw [ha]; simp)) hs he
        · cases h
      split at hc
      · rename_i e e' s x h0 h1 ha
        exact key e s x h0 ⟨_, h1, .inl ⟨_, rfl⟩⟩ ha hc
      · rename_i e s x h0 h1 ha
        exact key e s x h0 ⟨_, h1, .inr rfl⟩ ha hc
      · cases hc
    · rename_i hb
      split at hc
      · rename_i e d x h0 ha
        simp only [Option.map_eq_some_iff] at hc
        obtain ⟨n, hn, rfl⟩ := hc
        exact l_copy (t := 0) hop hb ha h0 hn (hargs d (by rw [ha]; simp)) (hargs x (by rw [ha]; simp)) hs he
      · cases hc
    · rename_i hb
      split at hc
      · rename_i x ha
        cases hc
        exact l_uslice hop hb ha (hargs x (by rw [ha]; simp)) hs he
      · cases hc
    · rename_i hb
      split at hc
      · rename_i e p n h0 ha
        split at hc
        · rename_i hc1
          cases hc
          exact l_ustr hop hb ha h0 hc1 (hargs p (by rw [ha]; simp)) (hargs n (by rw [ha]; simp)) hs he
        · cases hc
      · cases hc
    · cases hc
  | panic x => simp only [compOp, hop, Option.some.injEq] at hc; subst hc; cases hk
  | binOp op t x y ty =>
    simp only [compOp, hop, compBin] at hc
    split at hc
    all_goals first
      | (cases hc; done)
      | (cases hc; cases hq; done)
      | (split at hc <;> first | (cases hc; done) | (cases hc; cases hq; done))
      | (simp only [Option.map_eq_some_iff] at hc; obtain ⟨_, _, rfl⟩ := hc; cases hq)
  | build t parts =>
    simp only [compOp, hop] at hc
    split at hc
    · simp only [Option.map_eq_some_iff, Option.bind_eq_some_iff] at hc; obtain ⟨_, _, _, _, rfl⟩ := hc; cases hq
    · simp only [Option.map_eq_some_iff, Option.bind_eq_some_iff] at hc; obtain ⟨_, _, _, _, rfl⟩ := hc; cases hq
    · cases hc
  | slice t x lo hi mx =>
    simp only [compOp, hop] at hc
    split at hc
    · split at hc <;> cases hc; cases hq
    · simp only [Option.map_eq_some_iff] at hc; obtain ⟨_, _, rfl⟩ := hc; cases hq
    · split at hc
      · simp only [Option.map_eq_some_iff] at hc; obtain ⟨_, _, rfl⟩ := hc; cases hq
      · cases hc
    · cases hc
  | makeInterface t x =>
    simp only [compOp, hop] at hc
    split at hc <;> cases hc; cases hq
  | fieldAddr s x k =>
    simp only [compOp, hop, Option.bind_eq_some_iff] at hc
    obtain ⟨_, _, hc⟩ := hc
    split at hc <;> cases hc; cases hq
  | field s x k =>
    simp only [compOp, hop, Option.bind_eq_some_iff, Option.map_eq_some_iff] at hc
    obtain ⟨_, _, _, _, rfl⟩ := hc; cases hq
  | indexAddr t x ix =>
    simp only [compOp, hop] at hc
    split at hc
    · simp only [Option.map_eq_some_iff] at hc; obtain ⟨_, _, rfl⟩ := hc; cases hq
    · split at hc
      · simp only [Option.map_eq_some_iff] at hc; obtain ⟨_, _, rfl⟩ := hc; cases hq
      · cases hc
    · cases hc
  | index t x ix =>
    simp only [compOp, hop] at hc
    split at hc
    · cases hc; cases hq
    · simp only [Option.map_eq_some_iff, Option.bind_eq_some_iff] at hc; obtain ⟨_, _, _, _, rfl⟩ := hc; cases hq
    · cases hc
  | move x => simp only [compOp, hop, Option.some.injEq] at hc; subst hc; cases hq
  | assign x => simp only [compOp, hop, Option.some.injEq] at hc; subst hc; cases hq
  | pick c a b => simp only [compOp, hop, Option.some.injEq] at hc; subst hc; cases hq
  | nilCheck x => simp only [compOp, hop, Option.some.injEq] at hc; subst hc; cases hq
  | unOp op t x => simp only [compOp, hop, Option.some.injEq] at hc; subst hc; cases hq
  | makeFunc fn a c => simp only [compOp, hop, Option.some.injEq] at hc; subst hc; cases hq
  | extract t k => simp only [compOp, hop, Option.some.injEq] at hc; subst hc; cases hq
  | makeMap t r =>
    simp only [compOp, hop] at hc
    split at hc
    · rename_i k e ht
      cases hc
      exact l_mkmap hop ht (fun x h => hρ x (by subst h; simp [hop, Op.operands])) hs he
    · cases hc
  | lookup t x k ok =>
    simp only [compOp, hop] at hc
    split at hc
    · rename_i kt e ht
      split at hc
      · rename_i z hkt hz
        split at hc
        · rename_i hl
          cases hc
          exact l_mlook hop ht hkt hz hl (hρ x (by simp [hop, Op.operands])) (hρ k (by simp [hop, Op.operands])) hs he
        · cases hc
      · cases hc
    · cases hc
  | mapUpdate t x k v =>
    simp only [compOp, hop] at hc
    split at hc
    · rename_i kt e ht
      split at hc
      · rename_i hkt
        cases hc
        exact l_mput hop ht hkt (hρ x (by simp [hop, Op.operands])) (hρ k (by simp [hop, Op.operands])) (hρ v (by simp [hop, Op.operands])) hs he
      · cases hc
    · cases hc
  | typeAssert x xt t ok =>
    simp only [compOp, hop] at hc
    split at hc
    · cases hc
    · split at hc <;> cases hc; cases hq
    · cases hc
  | _ => simp [compOp, hop] at hc

theorem pan_sound {x : Operand} {out : Out} (hop : o.op = .panic x) (hρ : ∀ x ∈ o.op.operands, VR α (rd env x) (ρ x)) (he : evI env H (.pan x) = some out) : ∃ v v', out = .pan v H ∧ VR α v v' ∧ (execOp ρ o).run P w = .halt (.panic v') w := by
  simp only [evI] at he
  split at he
  · rename_i t v e
    cases he
    have hx := hρ x (by simp [hop, Op.operands])
    rw [e] at hx
    refine ⟨_, ρ x, rfl, hx, ?_⟩
    generalize hr : ρ x = r at hx
    cases hx
    simp only [execOp, hop, hr, Instr.panic, Sem.run_bind, run_goPanic, Result.andThen_halt]
  · cases he

end
end Ve
end Go.Proofs.YtnociodpfmlglaaGreatDoor
