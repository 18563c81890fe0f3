/-
  The operations of the deterministic machine as rewriting rules.
-/
import Derived.Test.YtnociodpfmlglaaGreatDoorVe20
import Derived.IntWalk
set_option linter.unusedVariables false
set_option linter.unusedSimpArgs false
namespace Go.Proofs.YtnociodpfmlglaaGreatDoor
namespace Ve
open Go

/-! temporaries -/
def gt (env : Env) (t : Nat) : Value := env.getD t undef
def gtp (env : Env) (d : Nat) (v : Value) : Value := if d < env.length then v else undef
section
variable {env : Env} {H : Heap}
@[go_sem] theorem rd_tmp {t : Nat} : rd env (.tmp t) = gt env t := rfl
@[go_sem] theorem rd_const {v : Value} : rd env (.const v) = v := rfl
@[go_sem] theorem rd_global {g : Nat} : rd env (.global g) = .pointer (some ⟨g, 0, none⟩) := rfl
@[go_sem] theorem rd_func {f : FuncId} : rd env (.func f) = .func (.func f) #[] #[] := rfl
@[go_sem] theorem put_none {v : Value} : put env none v = env := rfl
@[go_sem] theorem gt_put {d t : Nat} {v : Value} : gt (put env (some d) v) t = if d = t then gtp env d v else gt env t := by
  unfold gt gtp put
  simp only [List.getD_eq_getElem?_getD, List.getElem?_set]
  split
  · rename_i h; subst h; split <;> simp
  · rfl
theorem gtp_in {d : Nat} {v : Value} (h : d < env.length) : gtp env d v = v := by simp [gtp, h]
theorem length_put {d : Option Nat} {v : Value} : (put env d v).length = env.length := by cases d <;> simp [put]
attribute [go_sem] length_put
theorem forget_length : ∀ {g : List Nat} {env : Env}, (forget g env).length = env.length
  | [], env => rfl
  | t :: g, env => by
    have := forget_length (g := g) (env := env.set t unk)
    simp only [forget, List.foldl_cons] at this ⊢
    rw [this]; simp
attribute [go_sem] forget_length
@[go_sem] theorem forget_nil : forget [] env = env := rfl
theorem gt_forget : ∀ {g : List Nat} {env : Env} {t : Nat}, t ∉ g → gt (forget g env) t = gt env t
  | [], env, t, h => rfl
  | x :: g, env, t, h => by
    have h1 : x ≠ t := fun e => h (by simp [e])
    have h2 : t ∉ g := fun e => h (by simp [e])
    have := gt_forget (g := g) (env := env.set x unk) h2
    simp only [forget, List.foldl_cons] at this ⊢
    rw [this]
    simp [gt, List.getD_eq_getElem?_getD, List.getElem?_set, h1]
/-- The temporaries at the beginning. -/
def ent (args : List Value) (n : Nat) : Env := args ++ List.replicate (n - args.length) undef
theorem ent_length {args : List Value} {n : Nat} (h : args.length ≤ n) : (ent args n).length = n := by simp [ent]; omega
@[go_sem] theorem ent_len {args : List Value} {n : Nat} : (ent args n).length = args.length + (n - args.length) := by simp [ent]
@[go_sem] theorem gt_ent {args : List Value} {n t : Nat} : gt (ent args n) t = args.getD t undef := by
  simp only [gt, ent, List.getD_eq_getElem?_getD, List.getElem?_append, List.getElem?_replicate]
  split
  · rfl
  · rename_i h
    rw [List.getElem?_eq_none (by omega)]
    split <;> rfl
theorem Cl_ent {T : Tab} {f : FuncId} {fn : IFun} {args : List Value} {Q : Out → Prop} (hf : T.code f = some fn) (h : EvK T fn.body [] (ent args fn.ntmps) H (finO fn.results Q)) : Cl T f args H Q := Cl_of hf h

/-! texts -/
attribute [go_sem] List.getD_cons_zero List.getD_cons_succ List.getD_nil
@[go_sem] theorem str_of (l : List UInt8) : Value.string ⟨⟨l⟩⟩ = strOf l := rfl
@[go_sem] theorem bytesOf_mk {l : List UInt8} : bytesOf ⟨⟨l⟩⟩ = l := rfl
theorem size_mk {l : List UInt8} : (⟨⟨l⟩⟩ : ByteArray).size = l.length := rfl
@[go_sem] theorem one_str {l : List UInt8} : one (strOf l) = true := rfl
@[go_sem] theorem one_bool {b : Bool} : one (.bool b) = true := rfl
@[go_sem] theorem one_int {k : IntKind} {n : Int} : one (.int k n) = true := rfl
@[go_sem] theorem one_ptr {a : Option Addr} : one (.pointer a) = true := rfl
@[go_sem] theorem one_slice {a : Option Addr} {l c : Nat} : one (.slice a l c) = true := rfl
@[go_sem] theorem one_map {a : Option Nat} : one (.map a) = true := rfl
@[go_sem] theorem one_func {f : Fn} {a b : Array Value} : one (.func f a b) = true := rfl
@[go_sem] theorem one_nilf : one .nilFunc = true := rfl
@[go_sem] theorem one_nili : one .nilIface = true := rfl
@[go_sem] theorem one_iface {t : TypeId} {v : Value} : one (.iface t v) = true := rfl

/-! operations -/
@[go_sem] theorem EvOK_mov {T : Tab} {d : Option Nat} {x : Operand} {os : List IOper} {K : List Fr} {Q : Po} : EvOK T (⟨d, .mov x, none⟩ :: os) K env H Q = EvOK T os K (put env d (rd env x)) H Q := EvOK_op rfl
def pickO (c a b : Value) (H : Heap) : Option Out := match c with | .bool t => some (.ret (if t then a else b) H) | _ => none
@[go_sem] theorem evI_mov {x : Operand} : evI env H (.mov x) = some (.ret (rd env x) H) := rfl
@[go_sem] theorem evI_pick {c a b : Operand} : evI env H (.pick c a b) = pickO (rd env c) (rd env a) (rd env b) H := rfl
@[go_sem] theorem pickO_true {a b : Value} : pickO (.bool true) a b H = some (.ret a H) := rfl
@[go_sem] theorem pickO_false {a b : Value} : pickO (.bool false) a b H = some (.ret b H) := rfl
theorem pickO_bool {t a b : Bool} : pickO (.bool t) (.bool a) (.bool b) H = some (.ret (.bool (if t then a else b)) H) := by cases t <;> rfl
@[go_sem] theorem evI_new {t : Nat} {z : List Value} : evI env H (.new t z) = some (.ret (.pointer (some ⟨H.length, 0, none⟩)) (push H (.cells z (.fix (some t)) 0))) := rfl
def boxO (t : Nat) (H : Heap) : Option (List Value) → Option Out
  | some cs => some (.ret (.pointer (some ⟨H.length, 0, none⟩)) (push H (.cells cs (.fix (some t)) 0)))
  | none => none
@[go_sem] theorem evI_box {t : Nat} {x : Operand} : evI env H (.box t x) = boxO t H (cellsOf (rd env x)) := by
  simp only [evI, boxO]; split <;> rename_i h <;> rw [h]
@[go_sem] theorem boxO_some {t : Nat} {cs : List Value} : boxO t H (some cs) = some (.ret (.pointer (some ⟨H.length, 0, none⟩)) (push H (.cells cs (.fix (some t)) 0))) := rfl
@[go_sem] theorem cellsOf_agg {cs : List Value} : cellsOf (.agg ⟨cs⟩) = if cs.all one then some cs else none := rfl
@[go_sem] theorem cellsOf_bool {b : Bool} : cellsOf (.bool b) = some [.bool b] := rfl
@[go_sem] theorem cellsOf_int {k : IntKind} {n : Int} : cellsOf (.int k n) = some [.int k n] := rfl
@[go_sem] theorem cellsOf_str {l : List UInt8} : cellsOf (strOf l) = some [strOf l] := rfl
@[go_sem] theorem cellsOf_ptr {a : Option Addr} : cellsOf (.pointer a) = some [.pointer a] := rfl
@[go_sem] theorem cellsOf_slice {a : Option Addr} {l c : Nat} : cellsOf (.slice a l c) = some [.slice a l c] := rfl
@[go_sem] theorem cellsOf_map {a : Option Nat} : cellsOf (.map a) = some [.map a] := rfl
@[go_sem] theorem cellsOf_func {f : Fn} {a b : Array Value} : cellsOf (.func f a b) = some [.func f a b] := rfl
@[go_sem] theorem cellsOf_nilf : cellsOf .nilFunc = some [.nilFunc] := rfl
@[go_sem] theorem cellsOf_nili : cellsOf .nilIface = some [.nilIface] := rfl
@[go_sem] theorem cellsOf_iface {t : TypeId} {v : Value} : cellsOf (.iface t v) = some [.iface t v] := rfl
theorem cellsOf_one {v : Value} (h : one v = true) : cellsOf v = some [v] := by cases v <;> first | rfl | (simp [one] at h)
attribute [go_sem] List.all_cons List.all_nil Bool.and_true Bool.true_and Bool.and_self

def buildO (H : Heap) : Option (List Value) → Option Out
  | some l => some (.ret (.agg ⟨l⟩) H)
  | none => none
@[go_sem] theorem evI_build {z : List Value} {parts : List (Nat × Nat × Operand)} : evI env H (.build z parts) = buildO H (lay env z parts) := by
  simp only [evI]; cases lay env z parts <;> rfl
@[go_sem] theorem buildO_some {l : List Value} : buildO H (some l) = some (.ret (.agg ⟨l⟩) H) := rfl
def bsliceO (n : Nat) (H : Heap) : Option (List Value) → Option Out
  | some l => some (.ret (.slice (some ⟨H.length, 0, none⟩) n n) (push H (.cells l (.fix none) 0)))
  | none => none
@[go_sem] theorem evI_bslice {n : Nat} {z : List Value} {parts : List (Nat × Nat × Operand)} : evI env H (.bslice n z parts) = bsliceO n H (lay env z parts) := by
  simp only [evI]; cases lay env z parts <;> rfl
@[go_sem] theorem bsliceO_some {n : Nat} {l : List Value} : bsliceO n H (some l) = some (.ret (.slice (some ⟨H.length, 0, none⟩) n n) (push H (.cells l (.fix none) 0))) := rfl
def gslO (n : Nat) (H : Heap) : Option (List Value) → Option Out
  | some l => some (.ret (gslV n l) H)
  | none => none
@[go_sem] theorem evI_gsl {n : Nat} {z : List Value} {parts : List (Nat × Nat × Operand)} : evI env H (.gsl n z parts) = gslO n H (lay env z parts) := by
  simp only [evI]; cases lay env z parts <;> rfl
@[go_sem] theorem gslO_some {n : Nat} {l : List Value} : gslO n H (some l) = some (.ret (gslV n l) H) := rfl
@[go_sem] theorem lay_nil {z : List Value} : lay env z [] = some z := by simp only [lay]
def lay1 (env : Env) (z : List Value) (off size : Nat) (rest : List (Nat × Nat × Operand)) : Option (List Value) → Option (List Value)
  | some cs => if cs.length = size ∧ off + size ≤ z.length then lay env (splice z off cs) rest else none
  | none => none
@[go_sem] theorem lay_cons {z : List Value} {off size : Nat} {x : Operand} {rest : List (Nat × Nat × Operand)} : lay env z ((off, size, x) :: rest) = lay1 env z off size rest (cellsOf (rd env x)) := by
  simp only [lay, lay1]; split <;> rename_i h <;> rw [h]
@[go_sem] theorem lay1_some {z : List Value} {off size : Nat} {rest : List (Nat × Nat × Operand)} {cs : List Value} : lay1 env z off size rest (some cs) = if cs.length = size ∧ off + size ≤ z.length then lay env (splice z off cs) rest else none := rfl
@[go_sem] theorem splice_zero {c vs : List Value} : splice c 0 vs = vs ++ c.drop vs.length := by simp [splice]
@[go_sem] theorem splice_succ {a : Value} {c vs : List Value} {o : Nat} : splice (a :: c) (o + 1) vs = a :: splice c o vs := by
  simp [splice, Nat.add_right_comm]
theorem splice_set {c : List Value} {o : Nat} {v : Value} (h : o < c.length) : splice c o [v] = c.set o v := by
  simp only [splice, List.length_singleton]
  rw [List.set_eq_take_append_cons_drop, if_pos h]; simp
attribute [go_sem] List.take_succ_cons List.take_zero List.drop_succ_cons List.drop_zero List.take_nil List.drop_nil List.nil_append List.cons_append List.length_cons List.length_nil List.append_nil

def retO (H : Heap) : Option Value → Option Out
  | some v => some (.ret v H)
  | none => none
@[go_sem] theorem ret_def {v : Option Value} : ret H v = retO H v := by cases v <;> rfl
@[go_sem] theorem retO_some {v : Value} : retO H (some v) = some (.ret v H) := rfl
@[go_sem] theorem evI_ld {n : Option Nat} {a : Operand} : evI env H (.ld n a) = retO H (ldv H n (rd env a)) := ret_def
@[go_sem] theorem ldv_one {i o : Nat} {s : Option Nat} : ldv H none (.pointer (some ⟨i, o, s⟩)) = get1 H i o := rfl
def aggO : Option (List Value) → Option Value
  | some l => some (.agg ⟨l⟩)
  | none => none
@[go_sem] theorem aggO_some {l : List Value} : aggO (some l) = some (.agg ⟨l⟩) := rfl
@[go_sem] theorem ldv_many {i o n : Nat} {s : Option Nat} : ldv H (some n) (.pointer (some ⟨i, o, s⟩)) = aggO (getN H i o n) := by
  simp only [ldv]; cases getN H i o n <;> rfl
def stO1 (H : Heap) (n : Nat) (a : Value) (cs : Option (List Value)) : Option Out :=
  match a, cs with
  | .pointer (some ⟨i, o, _⟩), some cs => if cs.length = n then (putN H i o cs).map fun H' => .ret undef H' else none
  | _, _ => none
@[go_sem] theorem evI_st {n : Nat} {a x : Operand} : evI env H (.st n a x) = stO1 H n (rd env a) (cellsOf (rd env x)) := rfl
def putO : Option Heap → Option Out
  | some H => some (.ret undef H)
  | none => none
@[go_sem] theorem putO_some : putO (some H) = some (.ret undef H) := rfl
@[go_sem] theorem stO1_some {n i o : Nat} {s : Option Nat} {cs : List Value} : stO1 H n (.pointer (some ⟨i, o, s⟩)) (some cs) = if cs.length = n then putO (putN H i o cs) else none := by
  simp only [stO1]; congr 1; cases putN H i o cs <;> rfl
def nilckO (H : Heap) (v : Value) : Option Out := match v with | .pointer (some a) => some (.ret (.pointer (some a)) H) | .func (.func f) a b => some (.ret (.func (.func f) a b) H) | _ => none
@[go_sem] theorem evI_nilck {x : Operand} : evI env H (.nilck x) = nilckO H (rd env x) := rfl
@[go_sem] theorem nilckO_ptr {a : Addr} : nilckO H (.pointer (some a)) = some (.ret (.pointer (some a)) H) := rfl
@[go_sem] theorem nilckO_func {f : FuncId} {a b : Array Value} : nilckO H (.func (.func f) a b) = some (.ret (.func (.func f) a b) H) := rfl
@[go_sem] theorem evI_bin {op : BinOp} {x y : Operand} : evI env H (.bin op x y) = retO H (bin op (rd env x) (rd env y)) := ret_def
section
variable {k k' : IntKind} {a b : Int}
@[go_sem] theorem bin_add : bin .add (.int k a) (.int k b) = some (.int k (k.wrap (a + b))) := by simp [bin, binInt]
@[go_sem] theorem bin_sub : bin .sub (.int k a) (.int k b) = some (.int k (k.wrap (a - b))) := by simp [bin, binInt]
@[go_sem] theorem bin_mul : bin .mul (.int k a) (.int k b) = some (.int k (k.wrap (a * b))) := by simp [bin, binInt]
theorem bin_quo (h : b ≠ 0) : bin .quo (.int k a) (.int k b) = some (.int k (k.wrap (a.tdiv b))) := by simp [bin, binInt, h]
theorem bin_rem (h : b ≠ 0) : bin .rem (.int k a) (.int k b) = some (.int k (a.tmod b)) := by simp [bin, binInt, h]
theorem bin_quo_i64 (h : 0 < b) (h0 : 0 ≤ a) (h1 : a ≤ 9223372036854775807) : bin .quo (.int .i64 a) (.int .i64 b) = some (.int .i64 (a / b)) := by
  rw [bin_quo (by omega), IntWalk.i64_quo _ _ ⟨h0, h1, by omega⟩]
theorem bin_quo_u8 (h : 0 < b) (h0 : 0 ≤ a) (h1 : a ≤ 255) : bin .quo (.int .u8 a) (.int .u8 b) = some (.int .u8 (a / b)) := by
  rw [bin_quo (by omega), IntWalk.u8_quo _ _ ⟨h0, h1, by omega⟩]
theorem bin_quo_u64 (h : 0 < b) (h0 : 0 ≤ a) (h1 : a ≤ 18446744073709551615) : bin .quo (.int .u64 a) (.int .u64 b) = some (.int .u64 (a / b)) := by
  rw [bin_quo (by omega), IntWalk.u64_quo _ _ ⟨h0, h1, by omega⟩]
theorem bin_rem_pos (h : 0 < b) (h0 : 0 ≤ a) : bin .rem (.int k a) (.int k b) = some (.int k (a % b)) := by
  rw [bin_rem (by omega), Int.tmod_eq_emod_of_nonneg h0]
@[go_sem] theorem bin_eql : bin .eql (.int k a) (.int k b) = some (.bool (decide (a = b))) := by
  simp only [bin, binInt, if_true]; rfl
@[go_sem] theorem bin_neq : bin .neq (.int k a) (.int k b) = some (.bool (!decide (a = b))) := by
  simp only [bin, binInt, if_true]; rfl
@[go_sem] theorem bin_lss : bin .lss (.int k a) (.int k b) = some (.bool (decide (a < b))) := by simp [bin, binInt]
@[go_sem] theorem bin_leq : bin .leq (.int k a) (.int k b) = some (.bool (decide (a ≤ b))) := by simp [bin, binInt]
@[go_sem] theorem bin_gtr : bin .gtr (.int k a) (.int k b) = some (.bool (decide (b < a))) := by simp [bin, binInt]
@[go_sem] theorem bin_geq : bin .geq (.int k a) (.int k b) = some (.bool (decide (b ≤ a))) := by simp [bin, binInt]
theorem bin_shl (h : 0 ≤ b) : bin .shl (.int k a) (.int k' b) = some (.int k (k.wrap (a * 2 ^ min b.toNat k.bits))) := by
  have : ¬ b < 0 := by omega
  simp [bin, this]
theorem bin_shr (h : 0 ≤ b) : bin .shr (.int k a) (.int k' b) = some (.int k (a.fdiv (2 ^ min b.toNat k.bits))) := by
  have : ¬ b < 0 := by omega
  simp [bin, this]
@[go_sem] theorem bin_and : bin .and (.int k a) (.int k b) = some (.int k (k.wrap ((BitVec.ofInt k.bits a &&& BitVec.ofInt k.bits b).toNat))) := by simp [bin, binInt]
@[go_sem] theorem bin_or : bin .or (.int k a) (.int k b) = some (.int k (k.wrap ((BitVec.ofInt k.bits a ||| BitVec.ofInt k.bits b).toNat))) := by simp [bin, binInt]
@[go_sem] theorem bin_xor : bin .xor (.int k a) (.int k b) = some (.int k (k.wrap ((BitVec.ofInt k.bits a ^^^ BitVec.ofInt k.bits b).toNat))) := by simp [bin, binInt]
theorem wr_i64 (h0 : -9223372036854775808 ≤ a) (h1 : a ≤ 9223372036854775807) : IntKind.i64.wrap a = a := IntWalk.i64_in a ⟨h0, h1⟩
theorem wr_i32 (h0 : -2147483648 ≤ a) (h1 : a ≤ 2147483647) : IntKind.i32.wrap a = a := IntWalk.i32_in a ⟨h0, h1⟩
theorem wr_u8 (h0 : 0 ≤ a) (h1 : a ≤ 255) : IntKind.u8.wrap a = a := IntWalk.u8_in a ⟨h0, h1⟩
theorem wr_u64 (h0 : 0 ≤ a) (h1 : a ≤ 18446744073709551615) : IntKind.u64.wrap a = a := IntWalk.u64_in a ⟨h0, h1⟩
theorem wr_u32 (h0 : 0 ≤ a) (h1 : a ≤ 4294967295) : IntKind.u32.wrap a = a := IntWalk.u32_in a ⟨h0, h1⟩
end
section
variable {a b : List UInt8}
theorem beq_dec : (a == b) = decide (a = b) := by
  by_cases h : a = b
  · subst h; simp
  · rw [decide_eq_false h]; simpa using h
theorem bin_adds (h : a.length + b.length ≤ 4611686018427387904) : bin .add (strOf a) (strOf b) = some (strOf (a ++ b)) := by
  have : (⟨⟨a⟩⟩ : ByteArray).size + (⟨⟨b⟩⟩ : ByteArray).size ≤ 4611686018427387904 := h
  simp only [bin, binStr, strOf, this, if_true, bytesOf_mk]
@[go_sem] theorem bin_eqls : bin .eql (strOf a) (strOf b) = some (.bool (decide (a = b))) := by
  simp only [bin, binStr, strOf, bytesOf_mk, beq_dec]
@[go_sem] theorem bin_neqs : bin .neq (strOf a) (strOf b) = some (.bool (!decide (a = b))) := by
  simp only [bin, binStr, strOf, bytesOf_mk, beq_dec]
@[go_sem] theorem bin_lsss : bin .lss (strOf a) (strOf b) = some (.bool (less a b)) := rfl
@[go_sem] theorem bin_leqs : bin .leq (strOf a) (strOf b) = some (.bool (less a b || decide (a = b))) := by simp only [bin, binStr, strOf, bytesOf_mk, beq_dec]
@[go_sem] theorem bin_gtrs : bin .gtr (strOf a) (strOf b) = some (.bool (!(less a b || decide (a = b)))) := by simp only [bin, binStr, strOf, bytesOf_mk, beq_dec]
@[go_sem] theorem bin_geqs : bin .geq (strOf a) (strOf b) = some (.bool (!less a b)) := rfl
end
def eqnO (neg : Bool) (H : Heap) : Option Bool → Option Bool → Option Out
  | some a, some true => some (.ret (.bool (a != neg)) H)
  | some true, some b => some (.ret (.bool (b != neg)) H)
  | _, _ => none
@[go_sem] theorem evI_eqn {neg : Bool} {k : NK} {x y : Operand} : evI env H (.eqn neg k x y) = eqnO neg H (isNil k (rd env x)) (isNil k (rd env y)) := rfl
@[go_sem] theorem eqnO_r {neg a : Bool} : eqnO neg H (some a) (some true) = some (.ret (.bool (a != neg)) H) := by cases a <;> rfl
@[go_sem] theorem eqnO_l {neg b : Bool} : eqnO neg H (some true) (some b) = some (.ret (.bool (b != neg)) H) := by cases b <;> rfl
@[go_sem] theorem isNil_ptr_some {a : Addr} : isNil .ptr (.pointer (some a)) = some false := rfl
@[go_sem] theorem isNil_ptr_none : isNil .ptr (.pointer none) = some true := rfl
@[go_sem] theorem isNil_sl_some {a : Addr} {l c : Nat} : isNil .sl (.slice (some a) l c) = some false := rfl
@[go_sem] theorem isNil_sl_none {l c : Nat} : isNil .sl (.slice none l c) = some true := rfl
@[go_sem] theorem isNil_mp_some {a : Nat} : isNil .mp (.map (some a)) = some false := rfl
@[go_sem] theorem isNil_mp_none : isNil .mp (.map none) = some true := rfl
@[go_sem] theorem isNil_fn_some {f : FuncId} {a b : Array Value} : isNil .fn (.func (.func f) a b) = some false := rfl
@[go_sem] theorem isNil_fn_none : isNil .fn .nilFunc = some true := rfl
@[go_sem] theorem isNil_if_some {t : TypeId} {v : Value} : isNil .ifc (.iface t v) = some false := rfl
@[go_sem] theorem isNil_if_none : isNil .ifc .nilIface = some true := rfl
attribute [go_sem] Bool.bne_false Bool.bne_true Bool.true_bne Bool.false_bne bne_self_eq_false Bool.not_false Bool.not_true
def eqpO (neg : Bool) (H : Heap) (x y : Value) : Option Out :=
  match x, y with
  | .pointer (some ⟨i, o, none⟩), .pointer (some ⟨j, p, none⟩) => if i = j ∧ o = p then some (.ret (.bool (true != neg)) H) else none
  | .pointer a, .pointer none => some (.ret (.bool (a.isNone != neg)) H)
  | .pointer none, .pointer b => some (.ret (.bool (b.isNone != neg)) H)
  | _, _ => none
@[go_sem] theorem evI_eqp {neg : Bool} {x y : Operand} : evI env H (.eqp neg x y) = eqpO neg H (rd env x) (rd env y) := rfl
@[go_sem] theorem eqpO_same {neg : Bool} {i o : Nat} : eqpO neg H (.pointer (some ⟨i, o, none⟩)) (.pointer (some ⟨i, o, none⟩)) = some (.ret (.bool (true != neg)) H) := by simp [eqpO]
@[go_sem] theorem eqpO_nn {neg : Bool} : eqpO neg H (.pointer none) (.pointer none) = some (.ret (.bool (true != neg)) H) := rfl
@[go_sem] theorem eqpO_sn {neg : Bool} {a : Addr} : eqpO neg H (.pointer (some a)) (.pointer none) = some (.ret (.bool (false != neg)) H) := by
  obtain ⟨i, o, s⟩ := a; cases s <;> rfl
@[go_sem] theorem eqpO_ns {neg : Bool} {a : Addr} : eqpO neg H (.pointer none) (.pointer (some a)) = some (.ret (.bool (false != neg)) H) := rfl
def eqbO (neg : Bool) (H : Heap) (x y : Value) : Option Out := match x, y with | .bool a, .bool b => some (.ret (.bool ((a == b) != neg)) H) | _, _ => none
@[go_sem] theorem evI_eqb {neg : Bool} {x y : Operand} : evI env H (.eqb neg x y) = eqbO neg H (rd env x) (rd env y) := rfl
@[go_sem] theorem eqbO_bool {neg a b : Bool} : eqbO neg H (.bool a) (.bool b) = some (.ret (.bool ((a == b) != neg)) H) := rfl
def boolO (neg : Bool) (H : Heap) : Option Bool → Option Out
  | some t => some (.ret (.bool (t != neg)) H)
  | none => none
@[go_sem] theorem boolO_some {neg t : Bool} : boolO neg H (some t) = some (.ret (.bool (t != neg)) H) := rfl
def eqsO (neg : Bool) (ks : List SK) (H : Heap) (x y : Value) : Option Out :=
  match x, y with
  | .agg a, .agg b => if a.size = ks.length ∧ b.size = ks.length then (alike ks a.toList b.toList).map fun t => .ret (.bool (t != neg)) H else none
  | _, _ => none
@[go_sem] theorem evI_eqs {neg : Bool} {ks : List SK} {x y : Operand} : evI env H (.eqs neg ks x y) = eqsO neg ks H (rd env x) (rd env y) := rfl
@[go_sem] theorem eqsO_agg {neg : Bool} {ks : List SK} {a b : List Value} : eqsO neg ks H (.agg ⟨a⟩) (.agg ⟨b⟩) = if a.length = ks.length ∧ b.length = ks.length then boolO neg H (alike ks a b) else none := by
  show (if a.length = ks.length ∧ b.length = ks.length then (alike ks a b).map fun t => Out.ret (.bool (t != neg)) H else none) = _
  cases alike ks a b <;> rfl
@[go_sem] theorem alike_nil : alike [] [] [] = some true := by simp only [alike]
def andO (t : Bool) : Option Bool → Option Bool
  | some b => some (t && b)
  | none => none
def alikeB (t : Bool) (r : Option Bool) : Option Bool := if t then r else some false
@[go_sem] theorem alikeB_some {t b : Bool} : alikeB t (some b) = some (t && b) := by cases t <;> rfl
@[go_sem] theorem alike_b {ks : List SK} {a b : Bool} {x y : List Value} : alike (.b :: ks) (.bool a :: x) (.bool b :: y) = alikeB (a == b) (alike ks x y) := by simp only [alike, alikeB]
@[go_sem] theorem alike_i {ks : List SK} {k : IntKind} {a b : Int} {x y : List Value} : alike (.i :: ks) (.int k a :: x) (.int k b :: y) = alikeB (decide (a = b)) (alike ks x y) := by
  simp only [alike, alikeB, if_true, decide_eq_true_eq, beq_iff_eq]
@[go_sem] theorem alike_s {ks : List SK} {a b : List UInt8} {x y : List Value} : alike (.s :: ks) (strOf a :: x) (strOf b :: y) = alikeB (decide (a = b)) (alike ks x y) := by
  simp only [strOf, alike, alikeB, bytesOf_mk, decide_eq_true_eq, beq_iff_eq]
def unO (op : UnOp) (H : Heap) (x : Value) : Option Out :=
  match op, x with
  | .neg, .int k n => some (.ret (.int k (k.wrap (0 - n))) H)
  | .xor, .int k n => ret H (binInt .xor k (if k.signed then -1 else k.max) n)
  | .not, .bool b => some (.ret (.bool (!b)) H)
  | _, _ => none
@[go_sem] theorem evI_un {op : UnOp} {x : Operand} : evI env H (.un op x) = unO op H (rd env x) := rfl
@[go_sem] theorem unO_neg {k : IntKind} {n : Int} : unO .neg H (.int k n) = some (.ret (.int k (k.wrap (0 - n))) H) := rfl
@[go_sem] theorem unO_not {b : Bool} : unO .not H (.bool b) = some (.ret (.bool (!b)) H) := rfl
def tointO (k : IntKind) (H : Heap) (x : Value) : Option Out := match x with | .int _ n => some (.ret (.int k (k.wrap n)) H) | _ => none
@[go_sem] theorem evI_toint {k : IntKind} {x : Operand} : evI env H (.toint k x) = tointO k H (rd env x) := rfl
@[go_sem] theorem tointO_int {k k' : IntKind} {n : Int} : tointO k H (.int k' n) = some (.ret (.int k (k.wrap n)) H) := rfl
def tostrO (H : Heap) (x : Value) : Option Out := match x with | .string s => some (.ret (.string s) H) | _ => none
@[go_sem] theorem evI_tostr {x : Operand} : evI env H (.tostr x) = tostrO H (rd env x) := rfl
@[go_sem] theorem tostrO_str {l : List UInt8} : tostrO H (strOf l) = some (.ret (strOf l) H) := rfl
def s2bO (H : Heap) (x : Value) : Option Out :=
  match x with
  | .string s => if s.size ≤ 140737488355328 then some (.ret (.slice (some ⟨H.length, 0, some 1⟩) s.size s.size) (push H (.cells (byteCells (bytesOf s)) (.loose none) 0))) else none
  | _ => none
@[go_sem] theorem evI_s2b {x : Operand} : evI env H (.s2b x) = s2bO H (rd env x) := rfl
theorem s2bO_str {l : List UInt8} (h : l.length ≤ 140737488355328) : s2bO H (strOf l) = some (.ret (.slice (some ⟨H.length, 0, some 1⟩) l.length l.length) (push H (.cells (byteCells l) (.loose none) 0))) := if_pos h
def b2sO (H : Heap) (x : Value) : Option Out :=
  match x with
  | .slice none _ _ => some (.ret (strOf []) H)
  | .slice (some ⟨i, o, _⟩) len _ => if len = 0 then some (.ret (strOf []) H) else match getN H i o len with | some l => (toBytes l).map fun b => .ret (strOf b) H | none => none
  | _ => none
@[go_sem] theorem evI_b2s {x : Operand} : evI env H (.b2s x) = b2sO H (rd env x) := rfl
@[go_sem] theorem b2sO_nil {l c : Nat} : b2sO H (.slice none l c) = some (.ret (strOf []) H) := rfl
@[go_sem] theorem evI_mkif {t : TypeId} {x : Operand} : evI env H (.mkif t x) = some (.ret (.iface t (rd env x)) H) := rfl
@[go_sem] theorem evI_mkfn {f : FuncId} {first captured : List Operand} : evI env H (.mkfn (.func f) first captured) = some (.ret (.func (.func f) ⟨first.map (rd env)⟩ ⟨captured.map (rd env)⟩) H) := rfl
def mkslO (z : List Value) (bytes : Nat) (H : Heap) (x y : Value) : Option Out :=
  match x, y with
  | .int _ l, .int _ c =>
      if 0 ≤ l ∧ l ≤ c ∧ c ≤ 140737488355328 ∧ c.toNat * bytes ≤ 140737488355328 then
        some (.ret (.slice (some ⟨H.length, 0, none⟩) l.toNat c.toNat) (push H (.cells (List.replicate c.toNat z).flatten (.fix none) 0)))
      else none
  | _, _ => none
@[go_sem] theorem evI_mksl {z : List Value} {bytes : Nat} {len cap : Operand} : evI env H (.mksl z bytes len cap) = mkslO z bytes H (rd env len) (rd env cap) := rfl
theorem mkslO_int {z : List Value} {bytes : Nat} {k k' : IntKind} {l c : Int} (h0 : 0 ≤ l) (h1 : l ≤ c) (h2 : c ≤ 140737488355328) (h3 : c.toNat * bytes ≤ 140737488355328) :
    mkslO z bytes H (.int k l) (.int k' c) = some (.ret (.slice (some ⟨H.length, 0, none⟩) l.toNat c.toNat) (push H (.cells (List.replicate c.toNat z).flatten (.fix none) 0))) := if_pos ⟨h0, h1, h2, h3⟩
def slstrO (H : Heap) (env : Env) (x : Value) (lo hi : Option Operand) : Option Out := match x with | .string s => ret H (strCut s env lo hi) | _ => none
@[go_sem] theorem evI_slstr {x : Operand} {lo hi : Option Operand} : evI env H (.slstr x lo hi) = slstrO H env (rd env x) lo hi := rfl
/-- A part of a text. -/
def cutS (l : List UInt8) (lo hi : Value) : Option Value :=
  match asNat l.length hi with
  | none => none
  | some h => match asNat h lo with | none => none | some o => some (strOf ((l.take h).drop o))
@[go_sem] theorem slstrO_nn {l : List UInt8} : slstrO H env (strOf l) none none = some (.ret (strOf l) H) := by
  have : strCut ⟨⟨l⟩⟩ env none none = some (strOf l) := by
    simp only [strCut, bound, bytesOf_mk, List.drop_zero, size_mk, List.take_length]
  simp only [slstrO, strOf, ret, this, Option.map_some]
@[go_sem] theorem slstrO_ln {l : List UInt8} {lo : Operand} : slstrO H env (strOf l) (some lo) none = retO H (cutS l (rd env lo) (.int .i64 l.length)) := by
  have h1 : asNat l.length (.int .i64 l.length) = some l.length := by simp [asNat]
  simp only [slstrO, strOf, ret_def, strCut, bound, bytesOf_mk, cutS, size_mk, h1]
  rfl
@[go_sem] theorem slstrO_nh {l : List UInt8} {hi : Operand} : slstrO H env (strOf l) none (some hi) = retO H (cutS l (.int .i64 0) (rd env hi)) := by
  have h1 : ∀ h, asNat h (.int .i64 0) = some 0 := by intro h; simp [asNat]
  simp only [slstrO, strOf, ret_def, strCut, bound, bytesOf_mk, cutS, size_mk, h1]
  rfl
@[go_sem] theorem slstrO_lh {l : List UInt8} {lo hi : Operand} : slstrO H env (strOf l) (some lo) (some hi) = retO H (cutS l (rd env lo) (rd env hi)) := by
  simp only [slstrO, strOf, ret_def, strCut, bound, bytesOf_mk, cutS, size_mk]
  rfl
theorem cutS_int {l : List UInt8} {k k' : IntKind} {a b : Int} (h0 : 0 ≤ a) (h1 : a ≤ b) (h2 : b ≤ l.length) : cutS l (.int k a) (.int k' b) = some (strOf ((l.take b.toNat).drop a.toNat)) := by
  have e1 : asNat l.length (.int k' b) = some b.toNat := by simp only [asNat]; rw [if_pos ⟨by omega, h2⟩]
  have e2 : asNat b.toNat (.int k a) = some a.toNat := by simp only [asNat]; rw [if_pos ⟨h0, by omega⟩]
  simp only [cutS, e1, e2]
def faddrO (off : Nat) (H : Heap) (x : Value) : Option Out := match x with | .pointer (some ⟨i, o, _⟩) => some (.ret (.pointer (some ⟨i, o + off, none⟩)) H) | _ => none
@[go_sem] theorem evI_faddr {off : Nat} {x : Operand} : evI env H (.faddr off x) = faddrO off H (rd env x) := rfl
@[go_sem] theorem faddrO_ptr {off i o : Nat} {s : Option Nat} : faddrO off H (.pointer (some ⟨i, o, s⟩)) = some (.ret (.pointer (some ⟨i, o + off, none⟩)) H) := rfl
def fieldO (off : Nat) (n : Option Nat) (H : Heap) (x : Value) : Option Out := match x with | .agg cs => retO H (partV cs.toList off n) | _ => none
@[go_sem] theorem evI_field {off : Nat} {n : Option Nat} {x : Operand} : evI env H (.field off n x) = fieldO off n H (rd env x) := by
  simp only [evI, fieldO, ret_def]; rfl
@[go_sem] theorem fieldO_agg {off : Nat} {n : Option Nat} {cs : List Value} : fieldO off n H (.agg ⟨cs⟩) = retO H (partV cs off n) := rfl
@[go_sem] theorem partV_one {cs : List Value} {off : Nat} : partV cs off none = cs[off]? := rfl
@[go_sem] theorem partV_many {cs : List Value} {off n : Nat} : partV cs off (some n) = if off + n ≤ cs.length then some (.agg ⟨(cs.drop off).take n⟩) else none := rfl
attribute [go_sem] List.getElem?_cons_zero List.getElem?_cons_succ
def iaddrO (size : Nat) (H : Heap) (x i : Value) : Option Out :=
  match x, i with
  | .slice (some ⟨b, o, _⟩) len _, .int _ n => if 0 ≤ n ∧ n < (len : Int) then some (.ret (.pointer (some ⟨b, o + n.toNat * size, none⟩)) H) else none
  | _, _ => none
@[go_sem] theorem evI_iaddr {size : Nat} {x i : Operand} : evI env H (.iaddr size x i) = iaddrO size H (rd env x) (rd env i) := rfl
theorem iaddrO_in {size b o len c : Nat} {s : Option Nat} {k : IntKind} {n : Int} (h0 : 0 ≤ n) (h1 : n < (len : Int)) : iaddrO size H (.slice (some ⟨b, o, s⟩) len c) (.int k n) = some (.ret (.pointer (some ⟨b, o + n.toNat * size, none⟩)) H) := if_pos ⟨h0, h1⟩
def iarrO (len size : Nat) (H : Heap) (x i : Value) : Option Out :=
  match x, i with
  | .pointer (some ⟨b, o, _⟩), .int _ n => if 0 ≤ n ∧ n < (len : Int) then some (.ret (.pointer (some ⟨b, o + n.toNat * size, none⟩)) H) else none
  | _, _ => none
@[go_sem] theorem evI_iarr {len size : Nat} {x i : Operand} : evI env H (.iarr len size x i) = iarrO len size H (rd env x) (rd env i) := rfl
theorem iarrO_in {len size b o : Nat} {s : Option Nat} {k : IntKind} {n : Int} (h0 : 0 ≤ n) (h1 : n < (len : Int)) : iarrO len size H (.pointer (some ⟨b, o, s⟩)) (.int k n) = some (.ret (.pointer (some ⟨b, o + n.toNat * size, none⟩)) H) := if_pos ⟨h0, h1⟩
def ixstrO (H : Heap) (x i : Value) : Option Out :=
  match x, i with
  | .string s, .int _ n => if 0 ≤ n then ret H ((bytesOf s)[n.toNat]?.map fun b => .int .u8 b.toNat) else none
  | _, _ => none
@[go_sem] theorem evI_ixstr {x i : Operand} : evI env H (.ixstr x i) = ixstrO H (rd env x) (rd env i) := rfl
/-- A byte of a text, as a number. -/
def at8 (l : List UInt8) (n : Int) : Int := ((l.getD n.toNat 0).toNat : Int)
theorem ixstrO_in {l : List UInt8} {k : IntKind} {n : Int} (h0 : 0 ≤ n) (h1 : n < (l.length : Int)) : ixstrO H (strOf l) (.int k n) = some (.ret (.int .u8 (at8 l n)) H) := by
  have : n.toNat < l.length := by omega
  simp [ixstrO, strOf, h0, bytesOf_mk, List.getElem?_eq_getElem this, ret, at8, List.getD_eq_getElem?_getD]
@[go_sem] theorem at8_zero {c : UInt8} {l : List UInt8} : at8 (c :: l) 0 = (c.toNat : Int) := rfl
theorem at8_nonneg {l : List UInt8} {n : Int} : 0 ≤ at8 l n := by unfold at8; omega
theorem at8_le {l : List UInt8} {n : Int} : at8 l n ≤ 255 := by unfold at8; have := (l.getD n.toNat 0).toNat_lt; omega
def ixaggO (len size : Nat) (n : Option Nat) (H : Heap) (x i : Value) : Option Out :=
  match x, i with
  | .agg cs, .int _ k => if 0 ≤ k ∧ k < (len : Int) then ret H (partV cs.toList (k.toNat * size) n) else none
  | _, _ => none
@[go_sem] theorem evI_ixagg {len size : Nat} {n : Option Nat} {x i : Operand} : evI env H (.ixagg len size n x i) = ixaggO len size n H (rd env x) (rd env i) := rfl
def extO (k : Nat) (H : Heap) (x : Value) : Option Out := match x with | .tuple vs => retO H (vs.toList[k]?) | _ => none
@[go_sem] theorem evI_ext {k : Nat} {x : Operand} : evI env H (.ext k x) = extO k H (rd env x) := by
  simp only [evI, extO, ret_def]; rfl
@[go_sem] theorem extO_tup {k : Nat} {vs : List Value} : extO k H (.tuple ⟨vs⟩) = retO H (vs[k]?) := rfl
def lenO (str : Bool) (H : Heap) (x : Value) : Option Out :=
  match str, x with
  | true, .string s => some (.ret (.int .i64 s.size) H)
  | false, .slice _ n _ => some (.ret (.int .i64 n) H)
  | _, _ => none
@[go_sem] theorem evI_len {str : Bool} {x : Operand} : evI env H (.len str x) = lenO str H (rd env x) := rfl
@[go_sem] theorem lenO_str {l : List UInt8} : lenO true H (strOf l) = some (.ret (.int .i64 l.length) H) := rfl
@[go_sem] theorem lenO_sl {a : Option Addr} {n c : Nat} : lenO false H (.slice a n c) = some (.ret (.int .i64 n) H) := rfl
def capO (H : Heap) (x : Value) : Option Out := match x with | .slice none _ c => some (.ret (.int .i64 c) H) | .slice (some ⟨_, _, none⟩) _ c => some (.ret (.int .i64 c) H) | _ => none
@[go_sem] theorem evI_capx {x : Operand} : evI env H (.capx x) = capO H (rd env x) := rfl
@[go_sem] theorem capO_nil {l c : Nat} : capO H (.slice none l c) = some (.ret (.int .i64 c) H) := rfl
@[go_sem] theorem capO_sl {i o l c : Nat} : capO H (.slice (some ⟨i, o, none⟩) l c) = some (.ret (.int .i64 c) H) := rfl
def minmaxO (mx : Bool) (H : Heap) (xs : List Value) : Option Out := match xs with | .int k a :: r => (minInt mx a r).map fun n => .ret (.int k n) H | _ => none
@[go_sem] theorem evI_minmax {mx : Bool} {xs : List Operand} : evI env H (.minmax mx xs) = minmaxO mx H (xs.map (rd env)) := rfl
attribute [go_sem] List.map_cons List.map_nil
@[go_sem] theorem minmaxO_max {k k' : IntKind} {a b : Int} : minmaxO true H [.int k a, .int k' b] = some (.ret (.int k (max a b)) H) := by
  simp only [minmaxO, minInt, Option.map_some, if_true, Option.some.injEq, Out.ret.injEq, Value.int.injEq, true_and, and_true, gt_iff_lt]; split <;> omega
@[go_sem] theorem minmaxO_min {k k' : IntKind} {a b : Int} : minmaxO false H [.int k a, .int k' b] = some (.ret (.int k (min a b)) H) := by
  simp only [minmaxO, minInt, Option.map_some, Bool.false_eq_true, if_false, Option.some.injEq, Out.ret.injEq, Value.int.injEq, true_and, and_true]; split <;> omega
def panO (H : Heap) (x : Value) : Option Out := match x with | .iface t v => some (.pan (.iface t v) H) | _ => none
@[go_sem] theorem evI_pan {x : Operand} : evI env H (.pan x) = panO H (rd env x) := rfl
@[go_sem] theorem panO_if {t : TypeId} {v : Value} : panO H (.iface t v) = some (.pan (.iface t v) H) := rfl
def tassO (t : TypeId) (z : Value) (ok : Bool) (H : Heap) (x : Value) : Option Out :=
  match x with
  | .nilIface => if ok then some (.ret (.tuple ⟨[z, .bool false]⟩) H) else none
  | .iface t' v => if t' = t then some (.ret (if ok then .tuple ⟨[v, .bool true]⟩ else v) H) else if ok then some (.ret (.tuple ⟨[z, .bool false]⟩) H) else none
  | _ => none
@[go_sem] theorem evI_tass {t : TypeId} {z : Value} {ok : Bool} {x : Operand} : evI env H (.tass t z ok x) = tassO t z ok H (rd env x) := rfl
@[go_sem] theorem tassO_nil {t : TypeId} {z : Value} : tassO t z true H .nilIface = some (.ret (.tuple ⟨[z, .bool false]⟩) H) := rfl
@[go_sem] theorem tassO_same {t : TypeId} {z v : Value} : tassO t z true H (.iface t v) = some (.ret (.tuple ⟨[v, .bool true]⟩) H) := by simp [tassO]
def mkmapO (H : Heap) (x : Value) : Option Out := match x with | .int _ _ => some (.ret (.map (some H.length)) (push H (.mp []))) | _ => none
@[go_sem] theorem evI_mkmap : evI env H (.mkmap none) = some (.ret (.map (some H.length)) (push H (.mp []))) := rfl
@[go_sem] theorem evI_mkmap1 {x : Operand} : evI env H (.mkmap (some x)) = mkmapO H (rd env x) := rfl
@[go_sem] theorem mkmapO_int {k : IntKind} {n : Int} : mkmapO H (.int k n) = some (.ret (.map (some H.length)) (push H (.mp []))) := rfl

@[go_sem] theorem EvOK_pick {T : Tab} {d : Option Nat} {os : List IOper} {K : List Fr} {Q : Po} {a0} {a1} {a2} : EvOK T (⟨d, .pick a0 a1 a2, none⟩ :: os) K env H Q = stO T (evI env H (.pick a0 a1 a2)) d os K env Q := EvOK_op rfl
@[go_sem] theorem EvOK_new {T : Tab} {d : Option Nat} {os : List IOper} {K : List Fr} {Q : Po} {a0} {a1} : EvOK T (⟨d, .new a0 a1, none⟩ :: os) K env H Q = stO T (evI env H (.new a0 a1)) d os K env Q := EvOK_op rfl
@[go_sem] theorem EvOK_box {T : Tab} {d : Option Nat} {os : List IOper} {K : List Fr} {Q : Po} {a0} {a1} : EvOK T (⟨d, .box a0 a1, none⟩ :: os) K env H Q = stO T (evI env H (.box a0 a1)) d os K env Q := EvOK_op rfl
@[go_sem] theorem EvOK_build {T : Tab} {d : Option Nat} {os : List IOper} {K : List Fr} {Q : Po} {a0} {a1} : EvOK T (⟨d, .build a0 a1, none⟩ :: os) K env H Q = stO T (evI env H (.build a0 a1)) d os K env Q := EvOK_op rfl
@[go_sem] theorem EvOK_bslice {T : Tab} {d : Option Nat} {os : List IOper} {K : List Fr} {Q : Po} {a0} {a1} {a2} : EvOK T (⟨d, .bslice a0 a1 a2, none⟩ :: os) K env H Q = stO T (evI env H (.bslice a0 a1 a2)) d os K env Q := EvOK_op rfl
@[go_sem] theorem EvOK_gsl {T : Tab} {d : Option Nat} {os : List IOper} {K : List Fr} {Q : Po} {a0} {a1} {a2} : EvOK T (⟨d, .gsl a0 a1 a2, none⟩ :: os) K env H Q = stO T (evI env H (.gsl a0 a1 a2)) d os K env Q := EvOK_op rfl
@[go_sem] theorem EvOK_ld {T : Tab} {d : Option Nat} {os : List IOper} {K : List Fr} {Q : Po} {a0} {a1} : EvOK T (⟨d, .ld a0 a1, none⟩ :: os) K env H Q = stO T (evI env H (.ld a0 a1)) d os K env Q := EvOK_op rfl
@[go_sem] theorem EvOK_st {T : Tab} {d : Option Nat} {os : List IOper} {K : List Fr} {Q : Po} {a0} {a1} {a2} : EvOK T (⟨d, .st a0 a1 a2, none⟩ :: os) K env H Q = stO T (evI env H (.st a0 a1 a2)) d os K env Q := EvOK_op rfl
@[go_sem] theorem EvOK_nilck {T : Tab} {d : Option Nat} {os : List IOper} {K : List Fr} {Q : Po} {a0} : EvOK T (⟨d, .nilck a0, none⟩ :: os) K env H Q = stO T (evI env H (.nilck a0)) d os K env Q := EvOK_op rfl
@[go_sem] theorem EvOK_bin {T : Tab} {d : Option Nat} {os : List IOper} {K : List Fr} {Q : Po} {a0} {a1} {a2} : EvOK T (⟨d, .bin a0 a1 a2, none⟩ :: os) K env H Q = stO T (evI env H (.bin a0 a1 a2)) d os K env Q := EvOK_op rfl
@[go_sem] theorem EvOK_eqn {T : Tab} {d : Option Nat} {os : List IOper} {K : List Fr} {Q : Po} {a0} {a1} {a2} {a3} : EvOK T (⟨d, .eqn a0 a1 a2 a3, none⟩ :: os) K env H Q = stO T (evI env H (.eqn a0 a1 a2 a3)) d os K env Q := EvOK_op rfl
@[go_sem] theorem EvOK_eqp {T : Tab} {d : Option Nat} {os : List IOper} {K : List Fr} {Q : Po} {a0} {a1} {a2} : EvOK T (⟨d, .eqp a0 a1 a2, none⟩ :: os) K env H Q = stO T (evI env H (.eqp a0 a1 a2)) d os K env Q := EvOK_op rfl
@[go_sem] theorem EvOK_eqb {T : Tab} {d : Option Nat} {os : List IOper} {K : List Fr} {Q : Po} {a0} {a1} {a2} : EvOK T (⟨d, .eqb a0 a1 a2, none⟩ :: os) K env H Q = stO T (evI env H (.eqb a0 a1 a2)) d os K env Q := EvOK_op rfl
@[go_sem] theorem EvOK_eqs {T : Tab} {d : Option Nat} {os : List IOper} {K : List Fr} {Q : Po} {a0} {a1} {a2} {a3} : EvOK T (⟨d, .eqs a0 a1 a2 a3, none⟩ :: os) K env H Q = stO T (evI env H (.eqs a0 a1 a2 a3)) d os K env Q := EvOK_op rfl
@[go_sem] theorem EvOK_un {T : Tab} {d : Option Nat} {os : List IOper} {K : List Fr} {Q : Po} {a0} {a1} : EvOK T (⟨d, .un a0 a1, none⟩ :: os) K env H Q = stO T (evI env H (.un a0 a1)) d os K env Q := EvOK_op rfl
@[go_sem] theorem EvOK_toint {T : Tab} {d : Option Nat} {os : List IOper} {K : List Fr} {Q : Po} {a0} {a1} : EvOK T (⟨d, .toint a0 a1, none⟩ :: os) K env H Q = stO T (evI env H (.toint a0 a1)) d os K env Q := EvOK_op rfl
@[go_sem] theorem EvOK_tostr {T : Tab} {d : Option Nat} {os : List IOper} {K : List Fr} {Q : Po} {a0} : EvOK T (⟨d, .tostr a0, none⟩ :: os) K env H Q = stO T (evI env H (.tostr a0)) d os K env Q := EvOK_op rfl
@[go_sem] theorem EvOK_s2b {T : Tab} {d : Option Nat} {os : List IOper} {K : List Fr} {Q : Po} {a0} : EvOK T (⟨d, .s2b a0, none⟩ :: os) K env H Q = stO T (evI env H (.s2b a0)) d os K env Q := EvOK_op rfl
@[go_sem] theorem EvOK_b2s {T : Tab} {d : Option Nat} {os : List IOper} {K : List Fr} {Q : Po} {a0} : EvOK T (⟨d, .b2s a0, none⟩ :: os) K env H Q = stO T (evI env H (.b2s a0)) d os K env Q := EvOK_op rfl
@[go_sem] theorem EvOK_mkif {T : Tab} {d : Option Nat} {os : List IOper} {K : List Fr} {Q : Po} {a0} {a1} : EvOK T (⟨d, .mkif a0 a1, none⟩ :: os) K env H Q = stO T (evI env H (.mkif a0 a1)) d os K env Q := EvOK_op rfl
@[go_sem] theorem EvOK_mkfn {T : Tab} {d : Option Nat} {os : List IOper} {K : List Fr} {Q : Po} {a0} {a1} {a2} : EvOK T (⟨d, .mkfn a0 a1 a2, none⟩ :: os) K env H Q = stO T (evI env H (.mkfn a0 a1 a2)) d os K env Q := EvOK_op rfl
@[go_sem] theorem EvOK_mksl {T : Tab} {d : Option Nat} {os : List IOper} {K : List Fr} {Q : Po} {a0} {a1} {a2} {a3} : EvOK T (⟨d, .mksl a0 a1 a2 a3, none⟩ :: os) K env H Q = stO T (evI env H (.mksl a0 a1 a2 a3)) d os K env Q := EvOK_op rfl
@[go_sem] theorem EvOK_slstr {T : Tab} {d : Option Nat} {os : List IOper} {K : List Fr} {Q : Po} {a0} {a1} {a2} : EvOK T (⟨d, .slstr a0 a1 a2, none⟩ :: os) K env H Q = stO T (evI env H (.slstr a0 a1 a2)) d os K env Q := EvOK_op rfl
@[go_sem] theorem EvOK_slsl {T : Tab} {d : Option Nat} {os : List IOper} {K : List Fr} {Q : Po} {a0} {a1} {a2} {a3} {a4} : EvOK T (⟨d, .slsl a0 a1 a2 a3 a4, none⟩ :: os) K env H Q = stO T (evI env H (.slsl a0 a1 a2 a3 a4)) d os K env Q := EvOK_op rfl
@[go_sem] theorem EvOK_slarr {T : Tab} {d : Option Nat} {os : List IOper} {K : List Fr} {Q : Po} {a0} {a1} {a2} {a3} {a4} : EvOK T (⟨d, .slarr a0 a1 a2 a3 a4, none⟩ :: os) K env H Q = stO T (evI env H (.slarr a0 a1 a2 a3 a4)) d os K env Q := EvOK_op rfl
@[go_sem] theorem EvOK_faddr {T : Tab} {d : Option Nat} {os : List IOper} {K : List Fr} {Q : Po} {a0} {a1} : EvOK T (⟨d, .faddr a0 a1, none⟩ :: os) K env H Q = stO T (evI env H (.faddr a0 a1)) d os K env Q := EvOK_op rfl
@[go_sem] theorem EvOK_field {T : Tab} {d : Option Nat} {os : List IOper} {K : List Fr} {Q : Po} {a0} {a1} {a2} : EvOK T (⟨d, .field a0 a1 a2, none⟩ :: os) K env H Q = stO T (evI env H (.field a0 a1 a2)) d os K env Q := EvOK_op rfl
@[go_sem] theorem EvOK_iaddr {T : Tab} {d : Option Nat} {os : List IOper} {K : List Fr} {Q : Po} {a0} {a1} {a2} : EvOK T (⟨d, .iaddr a0 a1 a2, none⟩ :: os) K env H Q = stO T (evI env H (.iaddr a0 a1 a2)) d os K env Q := EvOK_op rfl
@[go_sem] theorem EvOK_iarr {T : Tab} {d : Option Nat} {os : List IOper} {K : List Fr} {Q : Po} {a0} {a1} {a2} {a3} : EvOK T (⟨d, .iarr a0 a1 a2 a3, none⟩ :: os) K env H Q = stO T (evI env H (.iarr a0 a1 a2 a3)) d os K env Q := EvOK_op rfl
@[go_sem] theorem EvOK_ixstr {T : Tab} {d : Option Nat} {os : List IOper} {K : List Fr} {Q : Po} {a0} {a1} : EvOK T (⟨d, .ixstr a0 a1, none⟩ :: os) K env H Q = stO T (evI env H (.ixstr a0 a1)) d os K env Q := EvOK_op rfl
@[go_sem] theorem EvOK_ixagg {T : Tab} {d : Option Nat} {os : List IOper} {K : List Fr} {Q : Po} {a0} {a1} {a2} {a3} {a4} : EvOK T (⟨d, .ixagg a0 a1 a2 a3 a4, none⟩ :: os) K env H Q = stO T (evI env H (.ixagg a0 a1 a2 a3 a4)) d os K env Q := EvOK_op rfl
@[go_sem] theorem EvOK_ext {T : Tab} {d : Option Nat} {os : List IOper} {K : List Fr} {Q : Po} {a0} {a1} : EvOK T (⟨d, .ext a0 a1, none⟩ :: os) K env H Q = stO T (evI env H (.ext a0 a1)) d os K env Q := EvOK_op rfl
@[go_sem] theorem EvOK_len {T : Tab} {d : Option Nat} {os : List IOper} {K : List Fr} {Q : Po} {a0} {a1} : EvOK T (⟨d, .len a0 a1, none⟩ :: os) K env H Q = stO T (evI env H (.len a0 a1)) d os K env Q := EvOK_op rfl
@[go_sem] theorem EvOK_capx {T : Tab} {d : Option Nat} {os : List IOper} {K : List Fr} {Q : Po} {a0} : EvOK T (⟨d, .capx a0, none⟩ :: os) K env H Q = stO T (evI env H (.capx a0)) d os K env Q := EvOK_op rfl
@[go_sem] theorem EvOK_minmax {T : Tab} {d : Option Nat} {os : List IOper} {K : List Fr} {Q : Po} {a0} {a1} : EvOK T (⟨d, .minmax a0 a1, none⟩ :: os) K env H Q = stO T (evI env H (.minmax a0 a1)) d os K env Q := EvOK_op rfl
@[go_sem] theorem EvOK_append {T : Tab} {d : Option Nat} {os : List IOper} {K : List Fr} {Q : Po} {a0} {a1} {a2} {a3} {a4} : EvOK T (⟨d, .append a0 a1 a2 a3 a4, none⟩ :: os) K env H Q = stO T (evI env H (.append a0 a1 a2 a3 a4)) d os K env Q := EvOK_op rfl
@[go_sem] theorem EvOK_copy {T : Tab} {d : Option Nat} {os : List IOper} {K : List Fr} {Q : Po} {a0} {a1} {a2} : EvOK T (⟨d, .copy a0 a1 a2, none⟩ :: os) K env H Q = stO T (evI env H (.copy a0 a1 a2)) d os K env Q := EvOK_op rfl
@[go_sem] theorem EvOK_uslice {T : Tab} {d : Option Nat} {os : List IOper} {K : List Fr} {Q : Po} {a0} : EvOK T (⟨d, .uslice a0, none⟩ :: os) K env H Q = stO T (evI env H (.uslice a0)) d os K env Q := EvOK_op rfl
@[go_sem] theorem EvOK_ustr {T : Tab} {d : Option Nat} {os : List IOper} {K : List Fr} {Q : Po} {a0} {a1} {a2} : EvOK T (⟨d, .ustr a0 a1 a2, none⟩ :: os) K env H Q = stO T (evI env H (.ustr a0 a1 a2)) d os K env Q := EvOK_op rfl
@[go_sem] theorem EvOK_uof {T : Tab} {d : Option Nat} {os : List IOper} {K : List Fr} {Q : Po} {a0} : EvOK T (⟨d, .uof a0, none⟩ :: os) K env H Q = stO T (evI env H (.uof a0)) d os K env Q := EvOK_op rfl
@[go_sem] theorem EvOK_upt {T : Tab} {d : Option Nat} {os : List IOper} {K : List Fr} {Q : Po} {a0} {a1} : EvOK T (⟨d, .upt a0 a1, none⟩ :: os) K env H Q = stO T (evI env H (.upt a0 a1)) d os K env Q := EvOK_op rfl
@[go_sem] theorem EvOK_mkmap {T : Tab} {d : Option Nat} {os : List IOper} {K : List Fr} {Q : Po} {a0} : EvOK T (⟨d, .mkmap a0, none⟩ :: os) K env H Q = stO T (evI env H (.mkmap a0)) d os K env Q := EvOK_op rfl
@[go_sem] theorem EvOK_mlook {T : Tab} {d : Option Nat} {os : List IOper} {K : List Fr} {Q : Po} {a0} {a1} {a2} {a3} : EvOK T (⟨d, .mlook a0 a1 a2 a3, none⟩ :: os) K env H Q = stO T (evI env H (.mlook a0 a1 a2 a3)) d os K env Q := EvOK_op rfl
@[go_sem] theorem EvOK_mput {T : Tab} {d : Option Nat} {os : List IOper} {K : List Fr} {Q : Po} {a0} {a1} {a2} : EvOK T (⟨d, .mput a0 a1 a2, none⟩ :: os) K env H Q = stO T (evI env H (.mput a0 a1 a2)) d os K env Q := EvOK_op rfl
@[go_sem] theorem EvOK_tass {T : Tab} {d : Option Nat} {os : List IOper} {K : List Fr} {Q : Po} {a0} {a1} {a2} {a3} : EvOK T (⟨d, .tass a0 a1 a2 a3, none⟩ :: os) K env H Q = stO T (evI env H (.tass a0 a1 a2 a3)) d os K env Q := EvOK_op rfl
@[go_sem] theorem EvOK_pan {T : Tab} {d : Option Nat} {os : List IOper} {K : List Fr} {Q : Po} {a0} : EvOK T (⟨d, .pan a0, none⟩ :: os) K env H Q = stO T (evI env H (.pan a0)) d os K env Q := EvOK_op rfl
end

end Ve
end Go.Proofs.YtnociodpfmlglaaGreatDoor
