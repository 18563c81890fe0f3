/-
  A deterministic machine for Go's loaded code: its values, its memory, its operations and its evaluator (definitions alone).
-/
import Derived.Calls
import Derived.Orders
import Derived.Below
import Derived.KernelRfl
set_option linter.unusedVariables false
namespace Go.Proofs.YtnociodpfmlglaaGreatDoor
namespace Ve
open Go

/-- The value of which nothing is known. -/
def unk : Value := .chan none

/-- A value of one cell that bears no address: related to itself alone. -/
def isLit : Value → Bool
  | .bool _ | .int _ _ | .string _ | .pointer none | .map none | .nilFunc | .nilIface | .slice none _ _ => true
  | _ => false

/-- A value that one cell can hold. -/
def one : Value → Bool
  | .agg _ | .tuple _ | .chan _ => false
  | _ => true

inductive Mode where
  | fix (t : Option Nat) | loose (t : Option Nat) | ro
  deriving DecidableEq

/-- A block: the cells that are known; how it may be used; of a block of the call's own: from which cell on it isn't frozen. -/
inductive Blk where
  | cells (c : List Value) (m : Mode) (fz : Nat)
  | siter (s : ByteArray) (pos : Nat)
  | mp (es : List (ByteArray × Value))
  | dead

abbrev Heap := List Blk
abbrev Env := List Value

def blkCells : Option Blk → Option (List Value)
  | some (.cells c _ _) => some c
  | _ => none

/-- n cells from cell o of block i on. -/
def getN (H : Heap) (i o n : Nat) : Option (List Value) :=
  match H[i]? with
  | some (.cells c _ _) => if o + n ≤ c.length then some ((c.drop o).take n) else none
  | _ => none

def get1 (H : Heap) (i o : Nat) : Option Value :=
  match H[i]? with
  | some (.cells c _ _) => c[o]?
  | _ => none

def splice (c : List Value) (o : Nat) (vs : List Value) : List Value := c.take o ++ vs ++ c.drop (o + vs.length)

/-- Store cells. -/
def putN (H : Heap) (i o : Nat) (vs : List Value) : Option Heap :=
  if vs.isEmpty then some H else
  match H[i]? with
  | some (.cells c m fz) => if m ≠ .ro ∧ fz ≤ o ∧ o + vs.length ≤ c.length ∧ vs.all one = true then some (H.set i (.cells (splice c o vs) m fz)) else none
  | _ => none

def push (H : Heap) (b : Blk) : Heap := H ++ [b]

/-- The cells of a value that is known whole. -/
def cellsOf (v : Value) : Option (List Value) :=
  match v with
  | .agg cs => if cs.toList.all one then some cs.toList else none
  | .tuple _ | .chan _ => none
  | v => some [v]

/-! operations -/
/-- What can be held against nil. -/
inductive NK where
  | ptr | sl | mp | fn | ifc

/-- The kinds of what a struct's cells hold. -/
inductive SK where
  | b | i | s

inductive I where
  | mov (x : Operand)
  | pick (c a b : Operand)
  | new (t : Nat) (z : List Value)
  | box (t : Nat) (x : Operand)
  | build (z : List Value) (parts : List (Nat × Nat × Operand))
  | bslice (n : Nat) (z : List Value) (parts : List (Nat × Nat × Operand))
  | gsl (n : Nat) (z : List Value) (parts : List (Nat × Nat × Operand))
  | ld (n : Option Nat) (a : Operand)
  | st (n : Nat) (a x : Operand)
  | nilck (x : Operand)
  | bin (op : BinOp) (x y : Operand)
  | eqn (neg : Bool) (k : NK) (x y : Operand)
  | eqp (neg : Bool) (x y : Operand)
  | eqb (neg : Bool) (x y : Operand)
  | eqs (neg : Bool) (ks : List SK) (x y : Operand)
  | un (op : UnOp) (x : Operand)
  | toint (k : IntKind) (x : Operand)
  | tostr (x : Operand)
  | s2b (x : Operand)
  | b2s (x : Operand)
  | mkif (t : TypeId) (x : Operand)
  | mkfn (fn : Fn) (first captured : List Operand)
  | mksl (z : List Value) (bytes : Nat) (len cap : Operand)
  | slstr (x : Operand) (lo hi : Option Operand)
  | slsl (size : Nat) (x : Operand) (lo hi mx : Option Operand)
  | slarr (len size : Nat) (x : Operand) (lo hi : Option Operand)
  | faddr (off : Nat) (x : Operand)
  | field (off : Nat) (n : Option Nat) (x : Operand)
  | iaddr (size : Nat) (x i : Operand)
  | iarr (len size : Nat) (x i : Operand)
  | ixstr (x i : Operand)
  | ixagg (len size : Nat) (n : Option Nat) (x i : Operand)
  | ext (k : Nat) (x : Operand)
  | len (str : Bool) (x : Operand)
  | capx (x : Operand)
  | minmax (mx : Bool) (xs : List Operand)
  | append (ty size bytes : Nat) (s x : Operand)
  | copy (size : Nat) (d x : Operand)
  | uslice (x : Operand)
  | ustr (ty : Nat) (p n : Operand)
  | uof (x : Operand)
  | upt (ts : List (Nat × Nat)) (x : Operand)
  | call (f : Operand) (args : List Operand)
  | mkmap (r : Option Operand)
  | mlook (z : Value) (ok : Bool) (x k : Operand)
  | mput (x k v : Operand)
  | tass (t : TypeId) (z : Value) (ok : Bool) (x : Operand)
  | pan (x : Operand)

structure IOper where
  dst : Option Nat
  op : I
  guard : Option (Nat × Bool)

/-- An operation of a statement whose order is open: loud: it may turn the memory; wins: the places (of loud operations, or the end) between which a load may come up. -/
structure DOper where
  o : IOper
  loud : Bool
  wins : List Nat

inductive C where
  | skip
  | ops (l : List IOper)
  | dops (l : List DOper)
  | seq (a b : C)
  | cond (x : Operand) (a b : C)
  | block (id : Nat) (c : C)
  | loop (gone : List Nat) (c : C)
  | exit (id : Nat)
  | ret
  | stuck

inductive RV where
  | tmp (t : Nat)
  | cell (t : Nat) (n : Option Nat)

structure IFun where
  ntmps : Nat
  body : C
  results : List RV

/-- How a call ends: it returns a value, or panics with one. -/
inductive Out where
  | ret (v : Value) (H : Heap)
  | pan (v : Value) (H : Heap)

inductive Ex where
  | norm
  | exit (id : Nat)
  | ret
  | pan (v : Value)

/-- A function that defers one closure, which first asks what has been thrown. -/
structure DFn where
  ntmps : Nat
  pre : List C
  t : Nat
  g : FuncId
  caps : List Operand
  rest : C
  results : List RV
  gtmps : Nat
  u : Nat
  v : Nat
  crest : C

structure Tab where
  code : FuncId → Option IFun
  dfn : FuncId → Option DFn
  intr : FuncId → List Value → Heap → Option Out

def rd (env : Env) : Operand → Value
  | .tmp t => env.getD t undef
  | .const v => v
  | .global g => .pointer (some ⟨g, 0, none⟩)
  | .func f => .func (.func f) #[] #[]

def ldv (H : Heap) (n : Option Nat) (a : Value) : Option Value :=
  match a, n with
  | .pointer (some ⟨i, o, _⟩), none => get1 H i o
  | .pointer (some ⟨i, o, _⟩), some n => (getN H i o n).map fun l => .agg ⟨l⟩
  | _, _ => none

/-- Lays the parts into a row of cells. -/
def lay (env : Env) : List Value → List (Nat × Nat × Operand) → Option (List Value)
  | z, [] => some z
  | z, (off, size, x) :: rest =>
    match cellsOf (rd env x) with
    | some cs => if cs.length = size ∧ off + size ≤ z.length then lay env (splice z off cs) rest else none
    | none => none

def bytesOf (s : ByteArray) : List UInt8 := s.data.toList
def strOf (l : List UInt8) : Value := .string ⟨⟨l⟩⟩
def byteCells (l : List UInt8) : List Value := l.map fun b => .int .u8 b.toNat

def toBytes : List Value → Option (List UInt8)
  | [] => some []
  | .int .u8 n :: r => (toBytes r).map (UInt8.ofNat n.toNat :: ·)
  | _ :: _ => none

def less : List UInt8 → List UInt8 → Bool
  | _, [] => false
  | [], _ :: _ => true
  | a :: x, b :: y => decide (a < b) || (a == b && less x y)

def binInt (op : BinOp) (k : IntKind) (a b : Int) : Option Value :=
  match op with
  | .add => some (.int k (k.wrap (a + b)))
  | .sub => some (.int k (k.wrap (a - b)))
  | .mul => some (.int k (k.wrap (a * b)))
  | .quo => if b = 0 then none else some (.int k (k.wrap (a.tdiv b)))
  | .rem => if b = 0 then none else some (.int k (a.tmod b))
  | .and => some (.int k (k.wrap ((BitVec.ofInt k.bits a &&& BitVec.ofInt k.bits b).toNat)))
  | .or => some (.int k (k.wrap ((BitVec.ofInt k.bits a ||| BitVec.ofInt k.bits b).toNat)))
  | .xor => some (.int k (k.wrap ((BitVec.ofInt k.bits a ^^^ BitVec.ofInt k.bits b).toNat)))
  | .andNot => some (.int k (k.wrap ((BitVec.ofInt k.bits a &&& ~~~(BitVec.ofInt k.bits b)).toNat)))
  | .eql => some (.bool (a == b))
  | .neq => some (.bool (a != b))
  | .lss => some (.bool (decide (a < b)))
  | .leq => some (.bool (decide (a ≤ b)))
  | .gtr => some (.bool (decide (a > b)))
  | .geq => some (.bool (decide (a ≥ b)))
  | _ => none

def binStr (op : BinOp) (a b : ByteArray) : Option Value :=
  match op with
  | .add => if a.size + b.size ≤ 4611686018427387904 then some (strOf (bytesOf a ++ bytesOf b)) else none
  | .eql => some (.bool (bytesOf a == bytesOf b))
  | .neq => some (.bool (!(bytesOf a == bytesOf b)))
  | .lss => some (.bool (less (bytesOf a) (bytesOf b)))
  | .leq => some (.bool (less (bytesOf a) (bytesOf b) || bytesOf a == bytesOf b))
  | .gtr => some (.bool (!(less (bytesOf a) (bytesOf b) || bytesOf a == bytesOf b)))
  | .geq => some (.bool (!less (bytesOf a) (bytesOf b)))
  | _ => none

def bin (op : BinOp) (x y : Value) : Option Value :=
  match op, x, y with
  | .shl, .int k a, .int _ b => if b < 0 then none else some (.int k (k.wrap (a * 2 ^ min b.toNat k.bits)))
  | .shr, .int k a, .int _ b => if b < 0 then none else some (.int k (a.fdiv (2 ^ min b.toNat k.bits)))
  | op, .int k a, .int k' b => if k = k' then binInt op k a b else none
  | op, .string a, .string b => binStr op a b
  | _, _, _ => none

def isFn : Fn → Bool | .func _ => true | _ => false

/-- Is it nil? -/
def isNil : NK → Value → Option Bool
  | .ptr, .pointer a => some a.isNone
  | .sl, .slice a _ _ => some a.isNone
  | .mp, .map a => some a.isNone
  | .fn, .nilFunc => some true
  | .fn, .func fn _ _ => if isFn fn then some false else none
  | .ifc, .nilIface => some true
  | .ifc, .iface _ _ => some false
  | _, _ => none

/-- Are two rows of numbers, texts and truths alike? -/
def alike : List SK → List Value → List Value → Option Bool
  | [], [], [] => some true
  | .b :: ks, .bool a :: x, .bool b :: y => if a == b then alike ks x y else some false
  | .i :: ks, .int k a :: x, .int k' b :: y => if k = k' then (if a == b then alike ks x y else some false) else none
  | .s :: ks, .string a :: x, .string b :: y => if bytesOf a == bytesOf b then alike ks x y else some false
  | _, _, _ => none

def asNat (y : Nat) : Value → Option Nat
  | .int _ n => if 0 ≤ n ∧ n ≤ (y : Int) then some n.toNat else none
  | _ => none

def bound (env : Env) (y dflt : Nat) : Option Operand → Option Nat
  | none => some dflt
  | some x => asNat y (rd env x)

/-- x[lo:hi:mx] of a slice; inexact slices bear a mark in their address. -/
def slslV (size : Nat) (x : Value) (env : Env) (lo hi mx : Option Operand) : Option Value :=
  match x with
  | .slice a len cap =>
    match bound env cap cap mx with
    | none => none
    | some m =>
      match bound env m (if mx.isSome then m + 1 else len) hi with
      | none => none
      | some h =>
        if m < h then none else
        match bound env h 0 lo with
        | none => none
        | some l =>
          match a with
          | none => some (.slice none (h - l) (m - l))
          | some ⟨i, o, none⟩ => some (.slice (some ⟨i, if m = l then o else o + l * size, none⟩) (h - l) (m - l))
          | some ⟨i, o, some s⟩ =>
            if mx.isSome then some (.slice (some ⟨i, if m = l then o else o + l * size, none⟩) (h - l) (m - l))
            else if s = size then some (.slice (some ⟨i, o + l * size, some s⟩) (h - l) (m - l)) else none
  | _ => none

def strCut (s : ByteArray) (env : Env) (lo hi : Option Operand) : Option Value :=
  match bound env s.size s.size hi with
  | none => none
  | some h =>
    match bound env h 0 lo with
    | none => none
    | some l => some (strOf (((bytesOf s).take h).drop l))

def minInt (mx : Bool) : Int → List Value → Option Int
  | a, [] => some a
  | a, .int _ b :: r => minInt mx (if mx then (if b > a then b else a) else (if b < a then b else a)) r
  | _, _ :: _ => none

/-- append(s, x): the new cells are at hand. -/
def appendV (ty size bytes : Nat) (H : Heap) (s : Value) (n : Nat) (new : List Value) : Option Out :=
  match s with
  | .slice base sLen sCap =>
    if sLen + n ≤ sCap then
      match base with
      | none => if new.isEmpty then some (.ret (.slice none (sLen + n) sCap) H) else none
      | some ⟨i, o, sp⟩ =>
        match putN H i (o + sLen * size) new with
        | some H' => some (.ret (.slice (some ⟨i, o, sp⟩) (sLen + n) sCap) H')
        | none => none
    else if (2 * (sLen + n) + 1024) * bytes ≤ 140737488355328 ∧ sLen + n ≤ 140737488355328 ∧ 0 < size ∧ new.all one = true then
      match base with
      | none => if sLen = 0 then some (.ret (.slice (some ⟨H.length, 0, some size⟩) n n) (push H (.cells new (.loose (some ty)) 0))) else none
      | some ⟨i, o, none⟩ =>
        match getN H i o (sLen * size) with
        | some old => some (.ret (.slice (some ⟨H.length, 0, some size⟩) (sLen + n) (sLen + n)) (push H (.cells (old ++ new) (.loose (some ty)) 0)))
        | none => none
      | some ⟨i, o, some s⟩ =>
        match H[i]? with
        | some (.cells c (.loose t) fz) =>
          if o + sLen * size = c.length ∧ s = size ∧ fz ≤ c.length then
            some (.ret (.slice (some ⟨H.length, 0, some size⟩) (sLen + n) (sLen + n)) (push (H.set i .dead) (.cells (c.drop o ++ new) (.loose (if t = some ty then some ty else none)) (fz - o))))
          else none
        | _ => none
    else none
  | _ => none

/-- The first n elements' cells of a slice, or a text's bytes. -/
def cellsIn (H : Heap) (size n : Nat) : Value → Option (List Value)
  | .slice none _ _ => if n = 0 then some [] else none
  | .slice (some ⟨i, o, _⟩) len _ => if n * size = 0 then some [] else if n ≤ len then getN H i o (n * size) else none
  | .string s => if size = 1 then some (byteCells ((bytesOf s).take n)) else none
  | .func (.method _) ⟨l⟩ _ => if l.length = n * size ∧ n * size ≠ 0 then some l else none
  | _ => none

/-- A slice over a row that nothing turns, by what it holds. -/
def gslV (n : Nat) (l : List Value) : Value := .func (.method "") ⟨l⟩ ⟨[.int .i64 n]⟩

def lenOf : Value → Option Nat
  | .func (.method _) _ ⟨[.int .i64 n]⟩ => some n.toNat
  | .slice _ n _ => some n
  | .string s => some s.size
  | _ => none

/-- A part of an aggregate: one cell, or n of them. -/
def partV (l : List Value) (off : Nat) : Option Nat → Option Value
  | none => l[off]?
  | some n => if off + n ≤ l.length then some (.agg ⟨(l.drop off).take n⟩) else none

def ret (H : Heap) (v : Option Value) : Option Out := v.map fun v => .ret v H

/-- A map's entry. -/
def mfind (s : ByteArray) : List (ByteArray × Value) → Option Value
  | [] => none
  | (k, v) :: r => if bytesOf s == bytesOf k then some v else mfind s r

def mset (s : ByteArray) (v : Value) : List (ByteArray × Value) → List (ByteArray × Value)
  | [] => [(s, v)]
  | (k, x) :: r => if bytesOf s == bytesOf k then (s, v) :: r else (k, x) :: mset s v r

/-- An operation that is no call. -/
def evI (env : Env) (H : Heap) : I → Option Out
  | .mov x => some (.ret (rd env x) H)
  | .pick c a b => match rd env c with | .bool t => some (.ret (if t then rd env a else rd env b) H) | _ => none
  | .new t z => some (.ret (.pointer (some ⟨H.length, 0, none⟩)) (push H (.cells z (.fix (some t)) 0)))
  | .box t x => match cellsOf (rd env x) with | some cs => some (.ret (.pointer (some ⟨H.length, 0, none⟩)) (push H (.cells cs (.fix (some t)) 0))) | none => none
  | .build z parts => (lay env z parts).map fun l => .ret (.agg ⟨l⟩) H
  | .bslice n z parts => (lay env z parts).map fun l => .ret (.slice (some ⟨H.length, 0, none⟩) n n) (push H (.cells l (.fix none) 0))
  | .gsl n z parts => (lay env z parts).map fun l => .ret (gslV n l) H
  | .ld n a => ret H (ldv H n (rd env a))
  | .st n a x =>
    match rd env a, cellsOf (rd env x) with
    | .pointer (some ⟨i, o, _⟩), some cs => if cs.length = n then (putN H i o cs).map fun H' => .ret undef H' else none
    | _, _ => none
  | .nilck x => match rd env x with | .pointer (some a) => some (.ret (.pointer (some a)) H) | .func (.func f) a b => some (.ret (.func (.func f) a b) H) | _ => none
  | .bin op x y => ret H (bin op (rd env x) (rd env y))
  | .eqn neg k x y =>
    match isNil k (rd env x), isNil k (rd env y) with
    | some a, some true => some (.ret (.bool (a != neg)) H)
    | some true, some b => some (.ret (.bool (b != neg)) H)
    | _, _ => none
  | .eqp neg x y =>
    match rd env x, rd env y with
    | .pointer (some ⟨i, o, none⟩), .pointer (some ⟨j, p, none⟩) => if i = j ∧ o = p then some (.ret (.bool (true != neg)) H) else none
    | .pointer a, .pointer none => some (.ret (.bool (a.isNone != neg)) H)
    | .pointer none, .pointer b => some (.ret (.bool (b.isNone != neg)) H)
    | _, _ => none
  | .eqb neg x y => match rd env x, rd env y with | .bool a, .bool b => some (.ret (.bool ((a == b) != neg)) H) | _, _ => none
  | .eqs neg ks x y =>
    match rd env x, rd env y with
    | .agg a, .agg b => if a.size = ks.length ∧ b.size = ks.length then (alike ks a.toList b.toList).map fun t => .ret (.bool (t != neg)) H else none
    | _, _ => none
  | .un op x =>
    match op, rd env x with
    | .neg, .int k n => some (.ret (.int k (k.wrap (0 - n))) H)
    | .xor, .int k n => ret H (binInt .xor k (if k.signed then -1 else k.max) n)
    | .not, .bool b => some (.ret (.bool (!b)) H)
    | _, _ => none
  | .toint k x => match rd env x with | .int _ n => some (.ret (.int k (k.wrap n)) H) | _ => none
  | .tostr x => match rd env x with | .string s => some (.ret (.string s) H) | _ => none
  | .s2b x =>
    match rd env x with
    | .string s => if s.size ≤ 140737488355328 then some (.ret (.slice (some ⟨H.length, 0, some 1⟩) s.size s.size) (push H (.cells (byteCells (bytesOf s)) (.loose none) 0))) else none
    | _ => none
  | .b2s x =>
    match rd env x with
    | .slice none _ _ => some (.ret (strOf []) H)
    | .slice (some ⟨i, o, _⟩) len _ => if len = 0 then some (.ret (strOf []) H) else match getN H i o len with | some l => (toBytes l).map fun b => .ret (strOf b) H | none => none
    | _ => none
  | .mkif t x => some (.ret (.iface t (rd env x)) H)
  | .mkfn fn first captured => if isFn fn then some (.ret (.func fn ⟨first.map (rd env)⟩ ⟨captured.map (rd env)⟩) H) else none
  | .mksl z bytes len cap =>
    match rd env len, rd env cap with
    | .int _ l, .int _ c =>
      if 0 ≤ l ∧ l ≤ c ∧ c ≤ 140737488355328 ∧ c.toNat * bytes ≤ 140737488355328 then
        some (.ret (.slice (some ⟨H.length, 0, none⟩) l.toNat c.toNat) (push H (.cells (List.replicate c.toNat z).flatten (.fix none) 0)))
      else none
    | _, _ => none
  | .slstr x lo hi => match rd env x with | .string s => ret H (strCut s env lo hi) | _ => none
  | .slsl size x lo hi mx => ret H (slslV size (rd env x) env lo hi mx)
  | .slarr len size x lo hi =>
    match rd env x with
    | .pointer (some ⟨i, o, _⟩) => ret H (slslV size (.slice (some ⟨i, o, none⟩) len len) env lo hi none)
    | _ => none
  | .faddr off x => match rd env x with | .pointer (some ⟨i, o, _⟩) => some (.ret (.pointer (some ⟨i, o + off, none⟩)) H) | _ => none
  | .field off n x => match rd env x with | .agg cs => ret H (partV cs.toList off n) | _ => none
  | .iaddr size x i =>
    match rd env x, rd env i with
    | .slice (some ⟨b, o, _⟩) len _, .int _ n => if 0 ≤ n ∧ n < (len : Int) then some (.ret (.pointer (some ⟨b, o + n.toNat * size, none⟩)) H) else none
    | _, _ => none
  | .iarr len size x i =>
    match rd env x, rd env i with
    | .pointer (some ⟨b, o, _⟩), .int _ n => if 0 ≤ n ∧ n < (len : Int) then some (.ret (.pointer (some ⟨b, o + n.toNat * size, none⟩)) H) else none
    | _, _ => none
  | .ixstr x i =>
    match rd env x, rd env i with
    | .string s, .int _ n => if 0 ≤ n then ret H ((bytesOf s)[n.toNat]?.map fun b => .int .u8 b.toNat) else none
    | _, _ => none
  | .ixagg len size n x i =>
    match rd env x, rd env i with
    | .agg cs, .int _ k => if 0 ≤ k ∧ k < (len : Int) then ret H (partV cs.toList (k.toNat * size) n) else none
    | _, _ => none
  | .ext k x => match rd env x with | .tuple vs => ret H (vs.toList[k]?) | _ => none
  | .len str x =>
    match str, rd env x with
    | true, .string s => some (.ret (.int .i64 s.size) H)
    | false, .slice _ n _ => some (.ret (.int .i64 n) H)
    | _, _ => none
  | .capx x => match rd env x with | .slice none _ c => some (.ret (.int .i64 c) H) | .slice (some ⟨_, _, none⟩) _ c => some (.ret (.int .i64 c) H) | _ => none
  | .minmax mx xs => match xs.map (rd env) with | .int k a :: r => (minInt mx a r).map fun n => .ret (.int k n) H | _ => none
  | .append ty size bytes s x =>
    match lenOf (rd env x) with
    | some n => match cellsIn H size n (rd env x) with | some new => appendV ty size bytes H (rd env s) n new | none => none
    | none => none
  | .copy size d x =>
    match rd env d, lenOf (rd env x) with
    | .slice base dl _, some n =>
      match cellsIn H size (Nat.min n dl) (rd env x) with
      | some cs =>
        match base with
        | none => if cs.isEmpty then some (.ret (.int .i64 (Nat.min n dl)) H) else none
        | some ⟨i, o, _⟩ => (putN H i o cs).map fun H' => .ret (.int .i64 (Nat.min n dl)) H'
      | none => none
    | _, _ => none
  | .pan x => match rd env x with | .iface t v => some (.pan (.iface t v) H) | _ => none
  | .uslice x =>
    match rd env x with
    | .slice none _ _ => some (.ret (.pointer none) H)
    | .slice (some ⟨i, o, _⟩) _ c => if c ≠ 0 then some (.ret (.pointer (some ⟨i, o, none⟩)) H) else none
    | _ => none
  | .ustr ty p n =>
    match rd env p, rd env n with
    | .pointer none, .int _ n => if n = 0 then some (.ret (strOf []) H) else none
    | .pointer (some ⟨i, o, _⟩), .int _ n =>
      if n = 0 then some (.ret (strOf []) H) else
      if n < 0 ∨ 140737488355328 < n then none else
      match H[i]? with
      | some (.cells c (.loose t) fz) =>
        if t = some ty ∧ o + n.toNat ≤ c.length then (toBytes ((c.drop o).take n.toNat)).map fun b => .ret (strOf b) (H.set i (.cells c (.loose t) (Nat.max fz (o + n.toNat)))) else none
      | _ => none
    | _, _ => none
  | .uof x =>
    match rd env x with
    | .pointer none => some (.ret (.pointer none) H)
    | .pointer (some ⟨i, o, _⟩) =>
      match H[i]? with
      | some (.cells c _ _) => if o < c.length then some (.ret (.pointer (some ⟨i, o, none⟩)) H) else none
      | _ => none
    | _ => none
  | .upt ts x =>
    match rd env x with
    | .pointer none => some (.ret (.pointer none) H)
    | .pointer (some ⟨i, 0, _⟩) =>
      match H[i]? with
      | some (.cells c (.fix (some t)) _) => if ts.contains (t, c.length) then some (.ret (.pointer (some ⟨i, 0, none⟩)) H) else none
      | _ => none
    | _ => none
  | .mkmap r =>
    match r with
    | none => some (.ret (.map (some H.length)) (push H (.mp [])))
    | some x => match rd env x with | .int _ _ => some (.ret (.map (some H.length)) (push H (.mp []))) | _ => none
  | .mlook z ok x k =>
    match rd env x, rd env k with
    | .map none, .string _ => some (.ret (if ok then .tuple ⟨[z, .bool false]⟩ else z) H)
    | .map (some i), .string s =>
      match H[i]? with
      | some (.mp es) =>
        match mfind s es with
        | some v => some (.ret (if ok then .tuple ⟨[v, .bool true]⟩ else v) H)
        | none => some (.ret (if ok then .tuple ⟨[z, .bool false]⟩ else z) H)
      | _ => none
    | _, _ => none
  | .mput x k v =>
    match rd env x, rd env k with
    | .map (some i), .string s =>
      match H[i]? with
      | some (.mp es) => some (.ret undef (H.set i (.mp (mset s (rd env v) es))))
      | _ => none
    | _, _ => none
  | .tass t z ok x =>
    match rd env x with
    | .nilIface => if ok then some (.ret (.tuple ⟨[z, .bool false]⟩) H) else none
    | .iface t' v => if t' = t then some (.ret (if ok then .tuple ⟨[v, .bool true]⟩ else v) H) else if ok then some (.ret (.tuple ⟨[z, .bool false]⟩) H) else none
    | _ => none
  | .call _ _ => none

def wanted (env : Env) : Option (Nat × Bool) → Option Bool
  | none => some true
  | some (t, want) =>
    match env.getD t undef with
    | .bool b => some (b == want)
    | .tuple ⟨[]⟩ => some false
    | _ => none

def put (env : Env) (d : Option Nat) (v : Value) : Env :=
  match d with
  | some d => env.set d v
  | none => env

def forget (gone : List Nat) (env : Env) : Env := gone.foldl (fun e t => e.set t unk) env

section
variable (T : Tab) (E : C → Env → Heap → Option (Ex × Env × Heap))

def resV (env : Env) (H : Heap) : RV → Option Value
  | .tmp t => some (env.getD t undef)
  | .cell t n => ldv H n (env.getD t undef)

def resVs (env : Env) (H : Heap) : List RV → Option (List Value)
  | [] => some []
  | r :: rs => match resV env H r with | some v => (resVs env H rs).map (v :: ·) | none => none

def results (rs : List RV) (env : Env) (H : Heap) : Option Value :=
  match resVs env H rs with
  | some [v] => some v
  | some vs => some (.tuple ⟨vs⟩)
  | none => none

def evPre : List C → Env → Heap → Option (Ex × Env × Heap)
  | [], env, H => some (.norm, env, H)
  | c :: r, env, H =>
    match E c env H with
    | some (.norm, env', H') => evPre r env' H'
    | x => x

/-- The closure's run, and what the function returns behind it. -/
def evClo (d : DFn) (cl : List Value) (rv : Value) (env : Env) (H : Heap) : Option Out :=
  match E d.crest (((cl ++ List.replicate (d.gtmps - cl.length) undef).set d.u rv).set d.v rv) H with
  | some (.norm, _, H') => (results d.results env H').map fun v => .ret v H'
  | some (.ret, _, H') => (results d.results env H').map fun v => .ret v H'
  | _ => none

def evDfn (d : DFn) (args : List Value) (H : Heap) : Option Out :=
  match evPre E d.pre (args ++ List.replicate (d.ntmps - args.length) undef) H with
  | some (.ret, env, H') => (results d.results env H').map fun v => .ret v H'
  | some (.pan v, _, H') => some (.pan v H')
  | some (.norm, env, H') =>
    if ¬ d.t < env.length then none else
    match E d.rest (env.set d.t (.func (.func d.g) ⟨[]⟩ ⟨d.caps.map (rd env)⟩)) H' with
    | some (.norm, env2, H2) => evClo E d (d.caps.map (rd env)) .nilIface env2 H2
    | some (.ret, env2, H2) => evClo E d (d.caps.map (rd env)) .nilIface env2 H2
    | some (.pan v, env2, H2) => evClo E d (d.caps.map (rd env)) v env2 H2
    | _ => none
  | _ => none

/-- A call of function f. -/
def evCall (f : FuncId) (args : List Value) (H : Heap) : Option Out :=
  match T.code f with
  | none => match T.dfn f with | some d => evDfn E d args H | none => T.intr f args H
  | some fn =>
    match E fn.body (args ++ List.replicate (fn.ntmps - args.length) undef) H with
    | some (.norm, env, H') | some (.ret, env, H') => (results fn.results env H').map fun v => .ret v H'
    | some (.pan v, _, H') => some (.pan v H')
    | _ => none

def evOp (env : Env) (H : Heap) : I → Option Out
  | .call f args =>
    match rd env f with
    | .func (.func f) first captured => evCall T E f (first.toList ++ args.map (rd env) ++ captured.toList) H
    | _ => none
  | i => evI env H i

def evOps : List IOper → Env → Heap → Option (Ex × Env × Heap)
  | [], env, H => some (.norm, env, H)
  | o :: os, env, H =>
    match wanted env o.guard with
    | some true =>
      match evOp T E env H o.op with
      | some (.ret v H') => evOps os (put env o.dst v) H'
      | some (.pan v H') => some (.pan v, env, H')
      | none => none
    | some false => evOps os (put env o.dst undef) H
    | none => none

def beqV : Value → Value → Bool
  | .bool a, .bool b => a == b
  | .int k a, .int k' b => decide (k = k') && a == b
  | .string a, .string b => bytesOf a == bytesOf b
  | .pointer none, .pointer none => true
  | .pointer (some ⟨a, b, c⟩), .pointer (some ⟨a', b', c'⟩) => a == a' && b == b' && decide (c = c')
  | .slice none n c, .slice none n' c' => n == n' && c == c'
  | .slice (some ⟨a, b, s⟩) n c, .slice (some ⟨a', b', s'⟩) n' c' => a == a' && b == b' && decide (s = s') && n == n' && c == c'
  | .nilFunc, .nilFunc => true
  | .nilIface, .nilIface => true
  | _, _ => false

def beqL : List Value → List Value → Bool
  | [], [] => true
  | a :: x, b :: y => beqV a b && beqL x y
  | _, _ => false

def beqA : Value → Value → Bool
  | .agg a, .agg b => beqL a.toList b.toList
  | a, b => beqV a b

/-- The memory at a place among the loud operations. -/
def stageAt : List (Nat × Heap) → Nat → Option Heap
  | [], _ => none
  | (k, H) :: r, j => if k = j then some H else stageAt r j

structure Pend where
  n : Option Nat
  a : Value
  v : Value
  wins : List Nat

def pendOk (st : List (Nat × Heap)) (p : Pend) : Bool :=
  p.wins.all fun j => match stageAt st j with | some H => (match ldv H p.n p.a with | some v => beqA v p.v | none => false) | none => false

def pendOf (env : Env) (o : DOper) (v : Value) (ps : List Pend) : List Pend :=
  match o.o.op, o.wins with
  | _, [] => ps
  | .ld n a, w => ⟨n, rd env a, v, w⟩ :: ps
  | _, _ => ps

def evD : List DOper → Nat → Env → Heap → List (Nat × Heap) → List Pend → Option (Ex × Env × Heap)
  | [], k, env, H, st, ps => if ps.all (pendOk ((k, H) :: st)) then some (.norm, env, H) else none
  | o :: os, k, env, H, st, ps =>
    match wanted env o.o.guard with
    | some true =>
      match evOp T E env H o.o.op with
      | some (.ret v H') => evD os (k + 1) (put env o.o.dst v) H' (if o.loud then (k, H) :: st else st) (pendOf env o v ps)
      | _ => none
    | some false => evD os (k + 1) (put env o.o.dst undef) H (if o.loud then (k, H) :: st else st) ps
    | none => none

/-- Code; E: the same at the fuel below (calls, and a loop's further rounds). -/
def evC : C → Env → Heap → Option (Ex × Env × Heap)
  | .skip, env, H => some (.norm, env, H)
  | .ops l, env, H => evOps T E l env H
  | .dops l, env, H => evD T E l 0 env H [] []
  | .seq a b, env, H =>
    match evC a env H with
    | some (.norm, env', H') => evC b env' H'
    | r => r
  | .cond x a b, env, H =>
    match rd env x with
    | .bool true => evC a env H
    | .bool false => evC b env H
    | _ => none
  | .block id c, env, H =>
    match evC c env H with
    | some (.exit j, env', H') => if j = id then some (.norm, env', H') else some (.exit j, env', H')
    | r => r
  | .loop gone c, env, H =>
    match evC c (forget gone env) H with
    | some (.norm, env', H') => E (.loop gone c) env' H'
    | r => r
  | .exit id, env, H => some (.exit id, env, H)
  | .ret, env, H => some (.ret, env, H)
  | .stuck, _, _ => none
end

/-- The evaluator at a fuel. -/
def evN (T : Tab) : Nat → C → Env → Heap → Option (Ex × Env × Heap)
  | 0 => fun _ _ _ => none
  | n + 1 => evC T (evN T n)

def run (T : Tab) (n : Nat) (f : FuncId) (args : List Value) (H : Heap) : Option Out := evCall T (evN T n) f args H

end Ve
end Go.Proofs.YtnociodpfmlglaaGreatDoor
