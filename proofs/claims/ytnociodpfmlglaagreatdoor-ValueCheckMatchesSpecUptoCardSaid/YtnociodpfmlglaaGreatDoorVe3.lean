/-
  Operations: from the model's to the deterministic machine's, and that what the latter computes the former does. First part: operations that don't look at memory.
-/
import Derived.Test.YtnociodpfmlglaaGreatDoorVe2
set_option linter.unusedVariables false
set_option linter.unusedSimpArgs false
namespace Go.Proofs.YtnociodpfmlglaaGreatDoor
namespace Ve
open Go Go.RowKit

def cells? (P : Program) (t : TypeId) : Option Nat := (P.info? t).map (·.size)

/-- none: one cell; some n: an aggregate of n cells. -/
def shapeOf (P : Program) (t : TypeId) : Option (Option Nat) :=
  match P.underlying t with
  | some (.struct _) | some (.array _ _) => (cells? P t).map some
  | some _ => some none
  | none => none

def zeroCells (P : Program) (t : TypeId) : Option (List Value) :=
  match (P.info? t).bind (·.zero) with
  | some z => if z.cells.toList.all isLit then some z.cells.toList else none
  | none => none

def flatTy (P : Program) (t : TypeId) : Option SK :=
  match P.underlying t with
  | some (.int _) => some .i
  | some .string => some .s
  | some .bool => some .b
  | _ => none

def flatFields (P : Program) : List Field → Nat → Option (List SK)
  | [], _ => some []
  | f :: r, i =>
    match flatTy P f.type, flatFields P r (i + 1) with
    | some k, some l => if f.name != "_" && f.offset == i then some (k :: l) else none
    | _, _ => none

/-- A struct whose fields are numbers, texts and truths, none of them blank: their kinds. -/
def flat (P : Program) (t : TypeId) : Option (List SK) :=
  match P.underlying t with
  | some (.struct fs) => if !P.eqGuardType P.depth t && !P.stoodInHeld t then flatFields P fs.toList 0 else none
  | _ => none

def partsOf (places : Nat → Option (Nat × Nat)) : List (Nat × Operand) → Option (List (Nat × Nat × Operand))
  | [] => some []
  | (i, x) :: r =>
    match places i with
    | some (off, size) => (partsOf places r).map ((off, size, x) :: ·)
    | none => none

def placesOf (P : Program) : List Field → Option (List (Nat × Nat))
  | [] => some []
  | f :: r => match cells? P f.type, placesOf P r with | some n, some l => some ((f.offset, n) :: l) | _, _ => none

def isU8 (P : Program) (e : TypeId) : Bool := match P.underlying e with | some (.int .u8) => true | _ => false

def compBin (P : Program) (op : BinOp) (t : TypeId) (x y : Operand) : Option I :=
  match op, P.underlying t with
  | .eql, some .bool => some (.eqb false x y)
  | .neq, some .bool => some (.eqb true x y)
  | .eql, some (.pointer e) => (P.info? e).map fun _ => .eqp false x y
  | .neq, some (.pointer e) => (P.info? e).map fun _ => .eqp true x y
  | .eql, some (.slice _) => some (.eqn false .sl x y)
  | .neq, some (.slice _) => some (.eqn true .sl x y)
  | .eql, some (.map _ _) => some (.eqn false .mp x y)
  | .neq, some (.map _ _) => some (.eqn true .mp x y)
  | .eql, some (.func _ _ _) => some (.eqn false .fn x y)
  | .neq, some (.func _ _ _) => some (.eqn true .fn x y)
  | .eql, some (.interface _) => match y with | .const .nilIface => some (.eqn false .ifc x y) | _ => none
  | .neq, some (.interface _) => match y with | .const .nilIface => some (.eqn true .ifc x y) | _ => none
  | .eql, some (.struct _) => (flat P t).map fun ks => .eqs false ks x y
  | .neq, some (.struct _) => (flat P t).map fun ks => .eqs true ks x y
  | op, some (.int _) | op, some .string => some (.bin op x y)
  | _, _ => none

def compCall (P : Program) (c : Call) : Option I :=
  match c.callee with
  | .value f => some (.call f c.args.toList)
  | .builtin .len =>
    match (c.argTypes[0]?).bind P.underlying, c.args.toList with
    | some .string, [x] => some (.len true x)
    | some (.slice _), [x] => some (.len false x)
    | _, _ => none
  | .builtin .cap =>
    match (c.argTypes[0]?).bind P.underlying, c.args.toList with
    | some (.slice _), [x] => some (.capx x)
    | _, _ => none
  | .builtin .min => some (.minmax false c.args.toList)
  | .builtin .max => some (.minmax true c.args.toList)
  | .builtin .append =>
    match (c.argTypes[0]?).bind P.underlying, (c.argTypes[1]?).bind P.underlying, c.args.toList with
    | some (.slice e), some (.slice _), [s, x] | some (.slice e), some .string, [s, x] => (P.info? e).bind fun i => if (i.zero.map fun z => z.cells.size) = some i.size then some (.append e i.size i.bytes s x) else none
    | _, _, _ => none
  | .builtin .copy =>
    match (c.argTypes[0]?).bind P.underlying, c.args.toList with
    | some (.slice e), [d, x] => (cells? P e).map fun n => .copy n d x
    | _, _ => none
  | .builtin .unsafeSliceData => match c.args.toList with | [x] => some (.uslice x) | _ => none
  | .builtin .unsafeString =>
    match (c.argTypes[0]?).bind P.underlying, c.args.toList with
    | some (.pointer e), [p, n] => if P.cellsOf e = 1 then some (.ustr e p n) else none
    | _, _ => none
  | _ => none

/-- The types of one variable at whose head a variable of type u lies, and their sizes. -/
def typesAt (P : Program) (u : TypeId) : List (Nat × Nat) :=
  (List.range P.types.size).filterMap fun t => if 0 < P.cellsOf t ∧ liesAt P P.depth t 1 0 u 1 = true then some (t, P.cellsOf t) else none

def compConv (P : Program) (src dst : TypeId) (x : Operand) : Option I :=
  match P.underlying src, P.underlying dst with
  | some (.int _), some (.int k) => some (.toint k x)
  | some .string, some .string => some (.tostr x)
  | some .string, some (.slice e) => if isU8 P e then some (.s2b x) else none
  | some (.slice e), some .string => if isU8 P e then some (.b2s x) else none
  | some (.pointer t), some .unsafePointer => match cells? P t with | some (_ + 1) => some (.uof x) | _ => none
  | some .unsafePointer, some (.pointer u) => (P.info? u).map fun _ => .upt (typesAt P u) x
  | _, _ => none

def fieldOf (P : Program) (s : TypeId) (k : Nat) : Option Field :=
  match P.underlying s with
  | some (.struct fs) => fs[k]?
  | _ => none

def isAggV : Value → Bool | .agg _ => true | _ => false

def compOp (P : Program) (gs : Bool) (o : Oper) : Option I :=
  match o.op with
  | .move x | .assign x => some (.mov x)
  | .pick c a b => some (.pick c a b)
  | .alloc t => (zeroCells P t).map (.new t)
  | .box t x => some (.box t x)
  | .build t parts =>
    match zeroCells P t, P.underlying t with
    | some z, some (.struct fs) => (placesOf P fs.toList).bind fun pl => (partsOf (pl[·]?) parts.toList).map (.build z)
    | some z, some (.array _ e) => (cells? P e).bind fun n => (partsOf (fun i => some (i * n, n)) parts.toList).map (.build z)
    | _, _ => none
  | .buildSlice t len parts =>
    match P.underlying t with
    | some (.slice e) =>
      match cells? P e, zeroCells P e with
      | some n, some z => if len * n ≤ 2 ^ 24 ∧ 0 < n ∧ z.length = n then (partsOf (fun i => some (i * n, n)) parts.toList).map (if gs then .gsl len (List.replicate len z).flatten else .bslice len (List.replicate len z).flatten) else none
      | _, _ => none
    | _ => none
  | .load t a => (shapeOf P t).map fun n => .ld n a
  | .store t a x => (cells? P t).map fun n => .st n a x
  | .nilCheck x => some (.nilck x)
  | .binOp op t x y _ => compBin P op t x y
  | .unOp op _ x => some (.un op x)
  | .convert s d x => compConv P s d x
  | .makeInterface t x => match P.underlying t with | some (.interface _) => none | some _ => some (.mkif t x) | none => none
  | .makeFunc fn a c => some (.mkfn fn a.toList c.toList)
  | .makeSlice t l c =>
    match P.underlying t with
    | some (.slice e) =>
      match P.info? e, zeroCells P e with
      | some i, some z => if 0 < i.size ∧ z.length = i.size then some (.mksl z i.bytes l c) else none
      | _, _ => none
    | _ => none
  | .slice t x lo hi mx =>
    match P.underlying t with
    | some .string => if mx.isNone then some (.slstr x lo hi) else none
    | some (.slice e) => (cells? P e).map fun n => .slsl n x lo hi mx
    | some (.array n e) => if mx.isNone then (cells? P e).map fun k => .slarr n k x lo hi else none
    | _ => none
  | .fieldAddr s x k => (fieldOf P s k).bind fun f => match cells? P f.type with | some (_ + 1) => some (.faddr f.offset x) | _ => none
  | .field s x k => (fieldOf P s k).bind fun f => (shapeOf P f.type).map fun n => .field f.offset n x
  | .indexAddr t x i =>
    match P.underlying t with
    | some (.slice e) => (cells? P e).map fun n => .iaddr n x i
    | some (.array len e) => if 1 < len then (cells? P e).map fun n => .iarr len n x i else none
    | _ => none
  | .index t x i =>
    match P.underlying t with
    | some .string => some (.ixstr x i)
    | some (.array len e) => (cells? P e).bind fun n => (shapeOf P e).map fun k => .ixagg len n k x i
    | _ => none
  | .extract t k => some (.ext k t)
  | .call c => compCall P c
  | .makeMap t r => match P.underlying t with | some (.map _ _) => some (.mkmap r) | _ => none
  | .lookup t x k ok =>
    match P.underlying t with
    | some (.map kt e) =>
      match P.underlying kt, (P.info? e).bind (·.zero) with
      | some .string, some z => if isLit z then some (.mlook z ok x k) else none
      | _, _ => none
    | _ => none
  | .mapUpdate t x k v =>
    match P.underlying t with
    | some (.map kt _) => match P.underlying kt with | some .string => some (.mput x k v) | _ => none
    | _ => none
  | .typeAssert x _ t ok =>
    match P.underlying t, (P.info? t).bind (·.zero) with
    | some (.interface _), _ => none
    | some _, some z => if isLit z || z.cells.toList.all isLit && isAggV z then some (.tass t z ok x) else none
    | _, _ => none
  | .panic x => some (.pan x)
  | _ => none

/-- What an operation comes to. -/
def Done (r : Result Next) (v : Value) (w : World) : Prop := r = .ok (.value v) w ∨ (r = .ok .skip w ∧ v = undef)

section
variable {P : Program} {w : World}
theorem run_und {t : TypeId} {d : TypeDesc} (h : P.underlying t = some d) : (underlying t).run P w = .ok d w := by simp [underlying, h]
theorem run_info {t : TypeId} {i : TypeInfo} (h : P.info? t = some i) : (typeInfo t).run P w = .ok i w := by simp [typeInfo, h]
theorem run_size {t : TypeId} {n : Nat} (h : cells? P t = some n) : (sizeOf t).run P w = .ok n w := by
  unfold cells? at h
  cases e : P.info? t with
  | none => rw [e] at h; cases h
  | some i => rw [e] at h; cases h; simp [sizeOf, run_info e]
theorem run_isAgg_some {t : TypeId} {n : Nat} (h : shapeOf P t = some (some n)) : (isAgg t).run P w = .ok true w ∧ (sizeOf t).run P w = .ok n w := by
  unfold shapeOf at h
  split at h
  · rename_i fs e; 
    cases k : cells? P t with
    | none => rw [k] at h; cases h
    | some m => rw [k] at h; cases h; exact ⟨by simp [isAgg, run_und e], run_size k⟩
  · rename_i l e he; 
    cases k : cells? P t with
    | none => rw [k] at h; cases h
    | some m => rw [k] at h; cases h; exact ⟨by simp [isAgg, run_und he], run_size k⟩
  · cases h
  · cases h
theorem run_isAgg_none {t : TypeId} (h : shapeOf P t = some none) : (isAgg t).run P w = .ok false w := by
  unfold shapeOf at h
  split at h
  · cases k : cells? P t <;> rw [k] at h <;> cases h
  · cases k : cells? P t <;> rw [k] at h <;> cases h
  · rename_i d h1 h2 e
    have : (isAgg t).run P w = ((match d with | .struct _ => (pure true : Sem Bool) | .array _ _ => pure true | _ => pure false)).run P w := by
      simp only [isAgg, Sem.run_bind, run_und e, Result.andThen_ok]
    rw [this]
    cases d <;> first | rfl | exact absurd rfl (h1 _) | exact absurd rfl (h2 _ _)
  · cases h
theorem run_zero {t : TypeId} {z : List Value} (h : zeroCells P t = some z) : ∃ v, (zeroValue t).run P w = .ok v w ∧ v.cells = ⟨z⟩ ∧ z.all isLit = true := by
  unfold zeroCells at h
  cases e : P.info? t with
  | none => rw [e] at h; cases h
  | some i =>
    rw [e] at h
    simp only [Option.bind_some] at h
    cases ez : i.zero with
    | none => rw [ez] at h; cases h
    | some v =>
      rw [ez] at h
      simp only at h
      split at h
      · rename_i hl
        cases h
        exact ⟨v, by simp [zeroValue, run_info e, ez], rfl, hl⟩
      · cases h
end

theorem VR.bool_inv {α : Al} {b : Bool} {v : Value} (h : VR α (.bool b) v) : v = .bool b := by cases h; rfl
theorem VR.int_inv {α : Al} {k : IntKind} {n : Int} {v : Value} (h : VR α (.int k n) v) : v = .int k n := by cases h; rfl
theorem VR.str_inv {α : Al} {s : ByteArray} {v : Value} (h : VR α (.string s) v) : v = .string s := by cases h; rfl

end Ve
end Go.Proofs.YtnociodpfmlglaaGreatDoor
