/-
  Operations that don't look at memory: what the deterministic machine computes, the model does, in whatever memory.
-/
import Derived.Test.YtnociodpfmlglaaGreatDoorVe3
import Derived.Lib.Strings
set_option linter.unusedVariables false
set_option linter.unusedSimpArgs false
namespace Go.Proofs.YtnociodpfmlglaaGreatDoor
namespace Ve
open Go Go.RowKit

/-- What an operation that doesn't look at memory owes. -/
def Quiet (P : Program) (α : Al) (o : Oper) (ρ : Operand → Value) (env : Env) (i : I) : Prop :=
  ∀ H out, evI env H i = some out → ∃ v v', out = .ret v H ∧ (∀ H2, evI env H2 i = some (.ret v H2)) ∧ VR α v v' ∧ ∀ w, Done ((execOp ρ o).run P w) v' w

theorem quiet_of {P : Program} {α : Al} {o : Oper} {ρ : Operand → Value} {env : Env} {i : I} {r : Option Value} (h1 : ∀ H, evI env H i = ret H r)
    (h2 : ∀ v, r = some v → ∃ v', VR α v v' ∧ ∀ w, (execOp ρ o).run P w = .ok (.value v') w) : Quiet P α o ρ env i := by
  intro H out he
  rw [h1] at he
  cases e : r with
  | none => rw [e] at he; simp [ret] at he
  | some v =>
    rw [e] at he
    simp only [ret, Option.map_some, Option.some.injEq] at he
    obtain ⟨v', a, b⟩ := h2 v e
    exact ⟨v, v', he.symm, fun H2 => by rw [h1, e]; rfl, a, fun w => .inl (b w)⟩

section
variable {P : Program} {α : Al} {ρ : Operand → Value} {env : Env}

theorem q_mov {o : Oper} {x : Operand} (ho : o.op = .move x ∨ o.op = .assign x) (hx : VR α (rd env x) (ρ x)) : Quiet P α o ρ env (.mov x) := by
  refine quiet_of (r := some (rd env x)) (fun H => rfl) fun v hv => ⟨ρ x, by cases hv; exact hx, fun w => ?_⟩
  rcases ho with ho | ho <;> simp [execOp, ho]

theorem q_pick {o : Oper} {c a b : Operand} (ho : o.op = .pick c a b) (hc : VR α (rd env c) (ρ c)) (ha : VR α (rd env a) (ρ a)) (hb : VR α (rd env b) (ρ b)) : Quiet P α o ρ env (.pick c a b) := by
  cases e : rd env c with
  | bool t =>
    refine quiet_of (r := some (if t then rd env a else rd env b)) (fun H => by simp [evI, e, ret]) fun v hv => ⟨if t then ρ a else ρ b, ?_, fun w => ?_⟩
    · cases hv; cases t <;> simpa
    · rw [e] at hc
      simp [execOp, ho, hc.bool_inv, asBool]
  | _ => intro H out he; simp [evI, e] at he

theorem q_nilck {o : Oper} {x : Operand} (ho : o.op = .nilCheck x) (hx : VR α (rd env x) (ρ x)) : Quiet P α o ρ env (.nilck x) := by
  intro H out he
  simp only [evI] at he
  split at he
  · rename_i a e
    rw [e] at hx
    simp only [Option.some.injEq] at he
    refine ⟨_, ρ x, he.symm, fun H2 => by simp [evI, e], hx, fun w => .inl ?_⟩
    simp only [execOp, ho]
    generalize ρ x = r at hx
    cases hx
    simp
  · rename_i f a b e
    rw [e] at hx
    simp only [Option.some.injEq] at he
    refine ⟨_, ρ x, he.symm, fun H2 => by simp [evI, e], hx, fun w => .inl ?_⟩
    simp only [execOp, ho]
    generalize ρ x = r at hx
    cases hx
    simp
  · cases he

theorem isNil_rel {k : NK} {v v' : Value} {b : Bool} (h : VR α v v') (hn : isNil k v = some b) : isNil k v' = some b := by
  cases h <;> cases k <;> simp_all [isNil, isFn, unk]

theorem bytesOf_toList (s : ByteArray) : s.toList = bytesOf s := Lib.toList_data s

theorem less_eq : ∀ x y : List UInt8, Op.bytesLess x y = less x y
  | _, [] => by simp [Op.bytesLess, less]
  | [], _ :: _ => by simp [Op.bytesLess, less]
  | a :: x, b :: y => by simp [Op.bytesLess, less, less_eq x y]

theorem append_bytes (a b : ByteArray) : a ++ b = ⟨⟨bytesOf a ++ bytesOf b⟩⟩ := by
  apply ByteArray.ext
  show (a ++ b).data = _
  rw [ByteArray.data_append]
  unfold bytesOf
  cases ha : a.data; cases hb : b.data; simp

theorem binInt_run {op : BinOp} {k : IntKind} {a b : Int} {v : Value} (h : binInt op k a b = some v) (w : World) (h1 : op ≠ .shl) (h2 : op ≠ .shr) (t : TypeId) :
    (Go.binOp op t (.int k a) (.int k b)).run P w = .ok v w := by
  cases op <;> simp [binInt] at h <;>
    first
      | (subst h; simp [Go.binOp, Op.intArith, Op.intBits, Op.intCmp]; done)
      | (obtain ⟨hb, rfl⟩ := h; simp [Go.binOp, Op.intDiv, hb]; done)
      | exact absurd rfl h1
      | exact absurd rfl h2

theorem binStr_run {op : BinOp} {a b : ByteArray} {v : Value} (h : binStr op a b = some v) (w : World) (t : TypeId) :
    (Go.binOp op t (.string a) (.string b)).run P w = .ok v w := by
  cases op <;> simp [binStr] at h <;>
    first
      | (subst h; simp [Go.binOp, Op.stringOp, bytesOf_toList, less_eq]; done)
      | (obtain ⟨hb, rfl⟩ := h
         have : ¬ (((a.size + b.size : Nat) : Int) > IntKind.i64.max) := by
           have e : IntKind.i64.max = 9223372036854775807 := by decide
           rw [e]; omega
         simp only [Go.binOp, Op.stringOp]
         rw [if_neg this]
         simp [strOf, append_bytes]
         done)

theorem bin_lit {op : BinOp} {x y v : Value} (h : bin op x y = some v) : isLit v = true := by
  unfold bin at h
  split at h
  · split at h <;> cases h; rfl
  · split at h <;> cases h; rfl
  · split at h
    · rename_i o _ _ _ _ _ _ _ _
      unfold binInt at h
      split at h <;> first | (cases h; done) | (cases h; rfl) | (split at h <;> first | (cases h; done) | (cases h; rfl))
    · cases h
  · unfold binStr at h
    split at h <;> first | (cases h; done) | (cases h; rfl) | (split at h <;> first | (cases h; done) | (cases h; rfl))
  · cases h

theorem eqGuard_int {op : BinOp} {t : TypeId} {x y : Operand} {k k' : IntKind} {a b : Int} (w : World) : (eqGuard op t x y (.int k a) (.int k' b)).run P w = .ok () w := by
  unfold eqGuard; cases op <;> simp
theorem eqGuard_str {op : BinOp} {t : TypeId} {x y : Operand} {a b : ByteArray} (w : World) : (eqGuard op t x y (.string a) (.string b)).run P w = .ok () w := by
  unfold eqGuard; cases op <;> simp
theorem eqGuard_bool {op : BinOp} {t : TypeId} {x y : Operand} {a b : Bool} (w : World) : (eqGuard op t x y (.bool a) (.bool b)).run P w = .ok () w := by
  unfold eqGuard; cases op <;> simp

theorem bin_run {op : BinOp} {t : TypeId} {x y : Operand} {a b v : Value} (h : bin op a b = some v) (w : World) :
    (do eqGuard op t x y a b; Go.binOp op t a b).run P w = .ok v w := by
  unfold bin at h
  split at h
  · rename_i k a b
    split at h
    · cases h
    · rename_i hb
      cases h
      simp [eqGuard_int, Go.binOp, Op.shift, hb]
  · rename_i k a b
    split at h
    · cases h
    · rename_i hb
      cases h
      simp [eqGuard_int, Go.binOp, Op.shift, hb]
  · rename_i h1 h2
    split at h
    · rename_i e
      subst e
      simp only [Sem.run_bind, eqGuard_int, Result.andThen_ok]
      refine binInt_run h w ?_ ?_ t
      · rintro rfl; simp at h1
      · rintro rfl; simp at h2
    · cases h
  · simp only [Sem.run_bind, eqGuard_str, Result.andThen_ok]
    exact binStr_run h w t
  · cases h

theorem lit_eq {v v' : Value} (h : VR α v v') (hi : (∃ k n, v = .int k n) ∨ (∃ s, v = .string s)) : v' = v := by
  rcases hi with ⟨k, n, rfl⟩ | ⟨s, rfl⟩
  · exact h.int_inv
  · exact h.str_inv

theorem bin_args {op : BinOp} {a b v : Value} (h : bin op a b = some v) : ((∃ k n, a = .int k n) ∨ (∃ s, a = .string s)) ∧ ((∃ k n, b = .int k n) ∨ (∃ s, b = .string s)) := by
  unfold bin at h
  split at h
  · exact ⟨.inl ⟨_, _, rfl⟩, .inl ⟨_, _, rfl⟩⟩
  · exact ⟨.inl ⟨_, _, rfl⟩, .inl ⟨_, _, rfl⟩⟩
  · exact ⟨.inl ⟨_, _, rfl⟩, .inl ⟨_, _, rfl⟩⟩
  · exact ⟨.inr ⟨_, rfl⟩, .inr ⟨_, rfl⟩⟩
  · cases h

theorem q_bin {o : Oper} {op : BinOp} {t ty : TypeId} {x y : Operand} (ho : o.op = .binOp op t x y ty) (hx : VR α (rd env x) (ρ x)) (hy : VR α (rd env y) (ρ y)) : Quiet P α o ρ env (.bin op x y) := by
  refine quiet_of (r := bin op (rd env x) (rd env y)) (fun H => rfl) fun v hv => ?_
  obtain ⟨ha, hb⟩ := bin_args hv
  refine ⟨v, .lit (bin_lit hv), fun w => ?_⟩
  have e1 := lit_eq hx ha
  have e2 := lit_eq hy hb
  have := bin_run (P := P) (t := t) (x := x) (y := y) hv w
  rw [← e1, ← e2] at this
  simp only [execOp, ho, Sem.run_bind] at this ⊢
  rw [this]; rfl


theorem equal_step : ∃ d, ∀ (t : TypeId) (x y : Value), Op.equal t x y = Op.equalIn (d + 1) t x y := ⟨9999, fun _ _ _ => rfl⟩

theorem q_eqb {o : Oper} {neg : Bool} {t ty : TypeId} {x y : Operand} (ho : o.op = .binOp (if neg then .neq else .eql) t x y ty) (ht : P.underlying t = some .bool) (hx : VR α (rd env x) (ρ x)) (hy : VR α (rd env y) (ρ y)) :
    Quiet P α o ρ env (.eqb neg x y) := by
  intro H out he
  simp only [evI] at he
  split at he
  · rename_i a b e1 e2
    simp only [Option.some.injEq] at he
    rw [e1] at hx; rw [e2] at hy
    refine ⟨_, _, he.symm, fun H2 => by simp [evI, e1, e2], .bool _, fun w => .inl ?_⟩
    simp only [execOp, ho, hx.bool_inv, hy.bool_inv]
    obtain ⟨d, hd⟩ := equal_step
    cases neg <;> simp only [Bool.false_eq_true, if_true, if_false, Sem.run_bind, eqGuard_bool, Result.andThen_ok, Go.binOp, hd, Op.equalIn, run_und ht] <;> cases a <;> cases b <;> rfl
  · cases he

theorem eqGuard_other {op : BinOp} {t : TypeId} {x y : Operand} {a b : Value} (w : World) (h : (∀ c d, ¬ (a = .agg c ∧ b = .agg d))) (h2 : a = .nilIface → b = .nilIface → ∃ v, y = .const v) :
    (eqGuard op t x y a b).run P w = .ok () w := by
  unfold eqGuard
  cases a with
  | agg c => cases b with
    | agg d => exact absurd ⟨rfl, rfl⟩ (h _ _)
    | _ => cases op <;> rfl
  | nilIface => cases b with
    | nilIface =>
      obtain ⟨v, rfl⟩ := h2 rfl rfl
      cases op <;> simp
    | _ => cases op <;> rfl
  | _ => cases op <;> rfl

/-- The kinds that can be held against nil. -/
def nkOf : NK → TypeDesc → Bool
  | .ptr, .pointer _ => true
  | .sl, .slice _ => true
  | .mp, .map _ _ => true
  | .fn, .func _ _ _ => true
  | .ifc, .interface _ => true
  | _, _ => false

theorem equal_nil {k : NK} {t : TypeId} {d : TypeDesc} (ht : P.underlying t = some d) (hd : nkOf k d = true) {a b : Value} {p q : Bool} (ha : isNil k a = some p) (hb : isNil k b = some q) (hpq : p = true ∨ q = true) (w : World) :
    (Op.equal t a b).run P w = .ok (p && q) w := by
  obtain ⟨D, hD⟩ := equal_step
  rw [hD]
  cases k with
  | ptr =>
    cases d <;> simp only [nkOf, Bool.false_eq_true] at hd
    cases a <;> simp only [isNil, Option.some.injEq, reduceCtorEq] at ha
    cases b <;> simp only [isNil, Option.some.injEq, reduceCtorEq] at hb
    rename_i x y
    subst ha; subst hb
    simp only [Op.equalIn, Sem.run_bind, run_und ht, Result.andThen_ok]
    cases x <;> cases y <;> first | rfl | simp at hpq
  | sl =>
    cases d <;> simp only [nkOf, Bool.false_eq_true] at hd
    cases a <;> simp only [isNil, Option.some.injEq, reduceCtorEq] at ha
    cases b <;> simp only [isNil, Option.some.injEq, reduceCtorEq] at hb
    rename_i x _ _ y _ _
    subst ha; subst hb
    simp only [Op.equalIn, Sem.run_bind, run_und ht, Result.andThen_ok]
    cases x <;> cases y <;> first | rfl | simp at hpq
  | mp =>
    cases d <;> simp only [nkOf, Bool.false_eq_true] at hd
    cases a <;> simp only [isNil, Option.some.injEq, reduceCtorEq] at ha
    cases b <;> simp only [isNil, Option.some.injEq, reduceCtorEq] at hb
    rename_i x y
    subst ha; subst hb
    simp only [Op.equalIn, Sem.run_bind, run_und ht, Result.andThen_ok]
    cases x <;> cases y <;> first | rfl | simp at hpq
  | fn =>
    have hfn : ∀ {f : Fn} {p : Bool}, (if isFn f = true then some false else none) = some p → false = p := by
      intro f p h
      split at h
      · exact Option.some.inj h
      · cases h
    cases d <;> simp only [nkOf, Bool.false_eq_true] at hd
    cases a <;> simp only [isNil, Option.some.injEq, reduceCtorEq] at ha <;> (try replace ha := hfn ha) <;> cases b <;> simp only [isNil, Option.some.injEq, reduceCtorEq] at hb <;> (try replace hb := hfn hb) <;> subst ha <;> subst hb <;>
      simp only [Op.equalIn, Sem.run_bind, run_und ht, Result.andThen_ok] <;> first | rfl | simp at hpq
  | ifc =>
    cases d <;> simp only [nkOf, Bool.false_eq_true] at hd
    cases a <;> simp only [isNil, Option.some.injEq, reduceCtorEq] at ha <;> cases b <;> simp only [isNil, Option.some.injEq, reduceCtorEq] at hb <;> subst ha <;> subst hb <;>
      simp only [Op.equalIn, Sem.run_bind, run_und ht, Result.andThen_ok] <;> first | rfl | simp at hpq

theorem q_eqn {o : Oper} {neg : Bool} {k : NK} {t ty : TypeId} {x y : Operand} {d : TypeDesc} (ho : o.op = .binOp (if neg then .neq else .eql) t x y ty) (ht : P.underlying t = some d) (hd : nkOf k d = true) (hc : k = .ifc → ∃ v, y = .const v)
    (hx : VR α (rd env x) (ρ x)) (hy : VR α (rd env y) (ρ y)) : Quiet P α o ρ env (.eqn neg k x y) := by
  have key : ∀ p q, isNil k (rd env x) = some p → isNil k (rd env y) = some q → (p = true ∨ q = true) → ∀ w, (execOp ρ o).run P w = .ok (.value (.bool ((p && q) != neg))) w := by
    intro p q ha hb hpq w
    have ha' := isNil_rel hx ha
    have hb' := isNil_rel hy hb
    have hg : ∀ op, (eqGuard op t x y (ρ x) (ρ y)).run P w = .ok () w := by
      intro op
      refine eqGuard_other w ?_ ?_
      · rintro c d ⟨h1, h2⟩; rw [h1] at ha'; cases k <;> simp [isNil] at ha'
      · intro h1 h2; rw [h1] at ha'; refine hc ?_; cases k <;> simp [isNil] at ha' ⊢
    have he := equal_nil ht hd ha' hb' hpq w
    have hnot : ∀ op, op = .eql ∨ op = .neq → Go.binOp op t (ρ x) (ρ y) = (if op = .eql then (do pure (.bool (← Op.equal t (ρ x) (ρ y)))) else (do pure (.bool (!(← Op.equal t (ρ x) (ρ y)))))) := by
      intro op hop
      generalize ρ x = a at ha'
      generalize ρ y = b at hb'
      cases k <;> cases a <;> simp [isNil] at ha' <;> cases b <;> simp [isNil] at hb' <;> rcases hop with rfl | rfl <;> simp [Go.binOp]
    simp only [execOp, ho, Sem.run_bind, hg, Result.andThen_ok]
    rw [hnot _ (by cases neg <;> simp)]
    cases neg <;> simp [he] <;> cases p <;> cases q <;> rfl
  intro H out he
  simp only [evI] at he
  split at he
  · rename_i a e1 e2
    simp only [Option.some.injEq] at he
    refine ⟨_, _, he.symm, fun H2 => by simp [evI, e1, e2], .bool _, fun w => .inl ?_⟩
    rw [key _ _ e1 e2 (.inr rfl) w]; simp
  · rename_i b hne e1 e2
    simp only [Option.some.injEq] at he
    refine ⟨_, _, he.symm, fun H2 => ?_, .bool _, fun w => .inl ?_⟩
    · simp only [evI, e1, e2]
    · rw [key _ _ e1 e2 (.inl rfl) w]; simp
  · cases he

theorem q_un {o : Oper} {op : UnOp} {t : TypeId} {x : Operand} (ho : o.op = .unOp op t x) (hx : VR α (rd env x) (ρ x)) : Quiet P α o ρ env (.un op x) := by
  intro H out he
  simp only [evI] at he
  split at he
  · rename_i k n e
    rw [e] at hx
    simp only [Option.some.injEq] at he
    exact ⟨_, _, he.symm, fun H2 => by simp [evI, e], .int _ _, fun w => .inl (by simp [execOp, ho, hx.int_inv, Op.unary, Op.intArith])⟩
  · rename_i k n e
    rw [e] at hx
    simp only [binInt, ret, Option.map_some, Option.some.injEq] at he
    exact ⟨_, _, he.symm, fun H2 => by simp [evI, e, binInt, ret], .int _ _, fun w => .inl (by simp [execOp, ho, hx.int_inv, Op.unary, Op.intBits])⟩
  · rename_i b e
    rw [e] at hx
    simp only [Option.some.injEq] at he
    exact ⟨_, _, he.symm, fun H2 => by simp [evI, e], .bool _, fun w => .inl (by simp [execOp, ho, hx.bool_inv, Op.unary])⟩
  · cases he

theorem q_toint {o : Oper} {s d : TypeId} {k k0 : IntKind} {x : Operand} (ho : o.op = .convert s d x) (hs : P.underlying s = some (.int k0)) (hd : P.underlying d = some (.int k)) (hx : VR α (rd env x) (ρ x)) : Quiet P α o ρ env (.toint k x) := by
  intro H out he
  simp only [evI] at he
  split at he
  · rename_i k' n e
    rw [e] at hx
    simp only [Option.some.injEq] at he
    exact ⟨_, _, he.symm, fun H2 => by simp [evI, e], .int _ _, fun w => .inl (by simp [execOp, ho, hx.int_inv, Go.convert, run_und hs, run_und hd, Conv.intToInt])⟩
  · cases he

theorem q_tostr {o : Oper} {s d : TypeId} {x : Operand} (ho : o.op = .convert s d x) (hs : P.underlying s = some .string) (hd : P.underlying d = some .string) (hx : VR α (rd env x) (ρ x)) : Quiet P α o ρ env (.tostr x) := by
  intro H out he
  simp only [evI] at he
  split at he
  · rename_i n e
    rw [e] at hx
    simp only [Option.some.injEq] at he
    exact ⟨_, _, he.symm, fun H2 => by simp [evI, e], .str _, fun w => .inl (by simp [execOp, ho, hx.str_inv, Go.convert, run_und hs, run_und hd])⟩
  · cases he

theorem q_mkif {o : Oper} {t : TypeId} {d : TypeDesc} {x : Operand} (ho : o.op = .makeInterface t x) (ht : P.underlying t = some d) (hd : ∀ m, d ≠ .interface m) (hx : VR α (rd env x) (ρ x)) : Quiet P α o ρ env (.mkif t x) := by
  intro H out he
  simp only [evI, Option.some.injEq] at he
  refine ⟨_, _, he.symm, fun H2 => rfl, .iface t hx, fun w => .inl ?_⟩
  simp only [execOp, ho, Instr.makeInterface, Sem.run_bind, run_und ht, Result.andThen_ok]
  cases d <;> first | rfl | exact absurd rfl (hd _)

theorem VRs.map : ∀ {l : List Operand}, (∀ x ∈ l, VR α (rd env x) (ρ x)) → VRs α (l.map (rd env)) (l.map ρ)
  | [], _ => .nil
  | x :: l, h => .cons (h x (by simp)) (VRs.map fun y hy => h y (by simp [hy]))

theorem q_mkfn {o : Oper} {fn : Fn} {a c : Array Operand} (ho : o.op = .makeFunc fn a c) (ha : ∀ x ∈ a, VR α (rd env x) (ρ x)) (hc : ∀ x ∈ c, VR α (rd env x) (ρ x)) : Quiet P α o ρ env (.mkfn fn a.toList c.toList) := by
  intro H out he
  simp only [evI] at he
  split at he
  case isFalse => cases he
  rename_i hf
  simp only [Option.some.injEq] at he
  refine ⟨_, _, he.symm, fun H2 => by simp only [evI, if_pos hf], .func fn hf (VRs.map fun x hx => ha x (by simpa using hx)) (VRs.map fun x hx => hc x (by simpa using hx)), fun w => .inl ?_⟩
  obtain ⟨a⟩ := a; obtain ⟨c⟩ := c
  simp [execOp, ho, Instr.makeFunc]

theorem q_ext {o : Oper} {k : Nat} {x : Operand} (ho : o.op = .extract x k) (hx : VR α (rd env x) (ρ x)) : Quiet P α o ρ env (.ext k x) := by
  intro H out he
  simp only [evI] at he
  split at he
  · rename_i vs e
    rw [e] at hx
    cases hv : vs.toList[k]? with
    | none => rw [hv] at he; cases he
    | some v =>
      rw [hv] at he
      simp only [ret, Option.map_some, Option.some.injEq] at he
      simp only [execOp, ho]
      generalize ρ x = r at hx
      cases hx with
      | tup h =>
        obtain ⟨v', hv', hr⟩ := h.get hv
        refine ⟨_, v', he.symm, fun H2 => by simp only [evI, e]; rw [hv]; rfl, hr, fun w => .inl ?_⟩
        simp [Instr.extract, hv']
  · cases he

end
end Ve
end Go.Proofs.YtnociodpfmlglaaGreatDoor
