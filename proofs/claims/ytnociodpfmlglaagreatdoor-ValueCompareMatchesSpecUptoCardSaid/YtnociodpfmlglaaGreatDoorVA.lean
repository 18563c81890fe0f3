/-
  A deterministic machine for Go's loaded code: its values, its memory, its operations and its evaluator (definitions alone).
-/
import Derived.Calls
import Derived.Orders
import Derived.Below
import Derived.KernelRfl
import Derived.Laws.World
import Derived.Laws.Cells
import Derived.Laws.Sem
import Derived.Lib.Strings
set_option linter.unusedVariables false
namespace Go.Proofs.YtnociodpfmlglaaGreatDoor
namespace Ve
open Go

/-- The value of which nothing is known. -/
def unk : Value := .chan none

/-- A value of one cell that bears no address: related to itself alone. -/
def isLit : Value → Bool
  | .bool _ | .int _ _ | .string _ | .pointer none | .map none | .nilFunc | .nilIface | .slice none _ _ => true
  | _ => false

/-- A value that one cell can hold. -/
def one : Value → Bool
  | .agg _ | .tuple _ | .chan _ => false
  | _ => true

inductive Mode where
  | fix (t : Option Nat) | loose (t : Option Nat) | ro
  deriving DecidableEq

/-- A block: the cells that are known; how it may be used; of a block of the call's own: from which cell on it isn't frozen. -/
inductive Blk where
  | cells (c : List Value) (m : Mode) (fz : Nat)
  | siter (s : ByteArray) (pos : Nat)
  | mp (es : List (ByteArray × Value))
  | dead

abbrev Heap := List Blk
abbrev Env := List Value

def blkCells : Option Blk → Option (List Value)
  | some (.cells c _ _) => some c
  | _ => none

/-- n cells from cell o of block i on. -/
def getN (H : Heap) (i o n : Nat) : Option (List Value) :=
  match H[i]? with
  | some (.cells c _ _) => if o + n ≤ c.length then some ((c.drop o).take n) else none
  | _ => none

def get1 (H : Heap) (i o : Nat) : Option Value :=
  match H[i]? with
  | some (.cells c _ _) => c[o]?
  | _ => none

def splice (c : List Value) (o : Nat) (vs : List Value) : List Value := c.take o ++ vs ++ c.drop (o + vs.length)

/-- Store cells. -/
def putN (H : Heap) (i o : Nat) (vs : List Value) : Option Heap :=
  if vs.isEmpty then some H else
  match H[i]? with
  | some (.cells c m fz) => if m ≠ .ro ∧ fz ≤ o ∧ o + vs.length ≤ c.length ∧ vs.all one = true then some (H.set i (.cells (splice c o vs) m fz)) else none
  | _ => none

def push (H : Heap) (b : Blk) : Heap := H ++ [b]

/-- The cells of a value that is known whole. -/
def cellsOf (v : Value) : Option (List Value) :=
  match v with
  | .agg cs => if cs.toList.all one then some cs.toList else none
  | .tuple _ | .chan _ => none
  | v => some [v]

/-! operations -/
/-- What can be held against nil. -/
inductive NK where
  | ptr | sl | mp | fn | ifc

/-- The kinds of what a struct's cells hold. -/
inductive SK where
  | b | i | s

inductive I where
  | mov (x : Operand)
  | pick (c a b : Operand)
  | new (t : Nat) (z : List Value)
  | box (t : Nat) (x : Operand)
  | build (z : List Value) (parts : List (Nat × Nat × Operand))
  | bslice (n : Nat) (z : List Value) (parts : List (Nat × Nat × Operand))
  | gsl (n : Nat) (z : List Value) (parts : List (Nat × Nat × Operand))
  | ld (n : Option Nat) (a : Operand)
  | st (n : Nat) (a x : Operand)
  | nilck (x : Operand)
  | bin (op : BinOp) (x y : Operand)
  | eqn (neg : Bool) (k : NK) (x y : Operand)
  | eqp (neg : Bool) (x y : Operand)
  | eqb (neg : Bool) (x y : Operand)
  | eqs (neg : Bool) (ks : List SK) (x y : Operand)
  | un (op : UnOp) (x : Operand)
  | toint (k : IntKind) (x : Operand)
  | tostr (x : Operand)
  | s2b (x : Operand)
  | b2s (x : Operand)
  | mkif (t : TypeId) (x : Operand)
  | mkfn (fn : Fn) (first captured : List Operand)
  | mksl (z : List Value) (bytes : Nat) (len cap : Operand)
  | slstr (x : Operand) (lo hi : Option Operand)
  | slsl (size : Nat) (x : Operand) (lo hi mx : Option Operand)
  | slarr (len size : Nat) (x : Operand) (lo hi : Option Operand)
  | faddr (off : Nat) (x : Operand)
  | field (off : Nat) (n : Option Nat) (x : Operand)
  | iaddr (size : Nat) (x i : Operand)
  | iarr (len size : Nat) (x i : Operand)
  | ixstr (x i : Operand)
  | ixagg (len size : Nat) (n : Option Nat) (x i : Operand)
  | ext (k : Nat) (x : Operand)
  | len (str : Bool) (x : Operand)
  | capx (x : Operand)
  | minmax (mx : Bool) (xs : List Operand)
  | append (ty size bytes : Nat) (s x : Operand)
  | copy (size : Nat) (d x : Operand)
  | uslice (x : Operand)
  | ustr (ty : Nat) (p n : Operand)
  | uof (x : Operand)
  | upt (ts : List (Nat × Nat)) (x : Operand)
  | call (f : Operand) (args : List Operand)
  | mkmap (r : Option Operand)
  | mlook (z : Value) (ok : Bool) (x k : Operand)
  | mput (x k v : Operand)
  | tass (t : TypeId) (z : Value) (ok : Bool) (x : Operand)
  | pan (x : Operand)

structure IOper where
  dst : Option Nat
  op : I
  guard : Option (Nat × Bool)

/-- An operation of a statement whose order is open: loud: it may turn the memory; wins: the places (of loud operations, or the end) between which a load may come up. -/
structure DOper where
  o : IOper
  loud : Bool
  wins : List Nat

inductive C where
  | skip
  | ops (l : List IOper)
  | dops (l : List DOper)
  | seq (a b : C)
  | cond (x : Operand) (a b : C)
  | block (id : Nat) (c : C)
  | loop (gone : List Nat) (c : C)
  | exit (id : Nat)
  | ret
  | stuck

inductive RV where
  | tmp (t : Nat)
  | cell (t : Nat) (n : Option Nat)

structure IFun where
  ntmps : Nat
  body : C
  results : List RV

/-- How a call ends: it returns a value, or panics with one. -/
inductive Out where
  | ret (v : Value) (H : Heap)
  | pan (v : Value) (H : Heap)

inductive Ex where
  | norm
  | exit (id : Nat)
  | ret
  | pan (v : Value)

/-- A function that defers one closure, which first asks what has been thrown. -/
structure DFn where
  ntmps : Nat
  pre : List C
  t : Nat
  g : FuncId
  caps : List Operand
  rest : C
  results : List RV
  gtmps : Nat
  u : Nat
  v : Nat
  crest : C

structure Tab where
  code : FuncId → Option IFun
  dfn : FuncId → Option DFn
  intr : FuncId → List Value → Heap → Option Out

def rd (env : Env) : Operand → Value
  | .tmp t => env.getD t undef
  | .const v => v
  | .global g => .pointer (some ⟨g, 0, none⟩)
  | .func f => .func (.func f) #[] #[]

def ldv (H : Heap) (n : Option Nat) (a : Value) : Option Value :=
  match a, n with
  | .pointer (some ⟨i, o, _⟩), none => get1 H i o
  | .pointer (some ⟨i, o, _⟩), some n => (getN H i o n).map fun l => .agg ⟨l⟩
  | _, _ => none

/-- Lays the parts into a row of cells. -/
def lay (env : Env) : List Value → List (Nat × Nat × Operand) → Option (List Value)
  | z, [] => some z
  | z, (off, size, x) :: rest =>
    match cellsOf (rd env x) with
    | some cs => if cs.length = size ∧ off + size ≤ z.length then lay env (splice z off cs) rest else none
    | none => none

def bytesOf (s : ByteArray) : List UInt8 := s.data.toList
def strOf (l : List UInt8) : Value := .string ⟨⟨l⟩⟩
def byteCells (l : List UInt8) : List Value := l.map fun b => .int .u8 b.toNat

def toBytes : List Value → Option (List UInt8)
  | [] => some []
  | .int .u8 n :: r => (toBytes r).map (UInt8.ofNat n.toNat :: ·)
  | _ :: _ => none

def less : List UInt8 → List UInt8 → Bool
  | _, [] => false
  | [], _ :: _ => true
  | a :: x, b :: y => decide (a < b) || (a == b && less x y)

def binInt (op : BinOp) (k : IntKind) (a b : Int) : Option Value :=
  match op with
  | .add => some (.int k (k.wrap (a + b)))
  | .sub => some (.int k (k.wrap (a - b)))
  | .mul => some (.int k (k.wrap (a * b)))
  | .quo => if b = 0 then none else some (.int k (k.wrap (a.tdiv b)))
  | .rem => if b = 0 then none else some (.int k (a.tmod b))
  | .and => some (.int k (k.wrap ((BitVec.ofInt k.bits a &&& BitVec.ofInt k.bits b).toNat)))
  | .or => some (.int k (k.wrap ((BitVec.ofInt k.bits a ||| BitVec.ofInt k.bits b).toNat)))
  | .xor => some (.int k (k.wrap ((BitVec.ofInt k.bits a ^^^ BitVec.ofInt k.bits b).toNat)))
  | .andNot => some (.int k (k.wrap ((BitVec.ofInt k.bits a &&& ~~~(BitVec.ofInt k.bits b)).toNat)))
  | .eql => some (.bool (a == b))
  | .neq => some (.bool (a != b))
  | .lss => some (.bool (decide (a < b)))
  | .leq => some (.bool (decide (a ≤ b)))
  | .gtr => some (.bool (decide (a > b)))
  | .geq => some (.bool (decide (a ≥ b)))
  | _ => none

def binStr (op : BinOp) (a b : ByteArray) : Option Value :=
  match op with
  | .add => if a.size + b.size ≤ 4611686018427387904 then some (strOf (bytesOf a ++ bytesOf b)) else none
  | .eql => some (.bool (bytesOf a == bytesOf b))
  | .neq => some (.bool (!(bytesOf a == bytesOf b)))
  | .lss => some (.bool (less (bytesOf a) (bytesOf b)))
  | .leq => some (.bool (less (bytesOf a) (bytesOf b) || bytesOf a == bytesOf b))
  | .gtr => some (.bool (!(less (bytesOf a) (bytesOf b) || bytesOf a == bytesOf b)))
  | .geq => some (.bool (!less (bytesOf a) (bytesOf b)))
  | _ => none

def bin (op : BinOp) (x y : Value) : Option Value :=
  match op, x, y with
  | .shl, .int k a, .int _ b => if b < 0 then none else some (.int k (k.wrap (a * 2 ^ min b.toNat k.bits)))
  | .shr, .int k a, .int _ b => if b < 0 then none else some (.int k (a.fdiv (2 ^ min b.toNat k.bits)))
  | op, .int k a, .int k' b => if k = k' then binInt op k a b else none
  | op, .string a, .string b => binStr op a b
  | _, _, _ => none

def isFn : Fn → Bool | .func _ => true | _ => false

/-- Is it nil? -/
def isNil : NK → Value → Option Bool
  | .ptr, .pointer a => some a.isNone
  | .sl, .slice a _ _ => some a.isNone
  | .mp, .map a => some a.isNone
  | .fn, .nilFunc => some true
  | .fn, .func fn _ _ => if isFn fn then some false else none
  | .ifc, .nilIface => some true
  | .ifc, .iface _ _ => some false
  | _, _ => none

/-- Are two rows of numbers, texts and truths alike? -/
def alike : List SK → List Value → List Value → Option Bool
  | [], [], [] => some true
  | .b :: ks, .bool a :: x, .bool b :: y => if a == b then alike ks x y else some false
  | .i :: ks, .int k a :: x, .int k' b :: y => if k = k' then (if a == b then alike ks x y else some false) else none
  | .s :: ks, .string a :: x, .string b :: y => if bytesOf a == bytesOf b then alike ks x y else some false
  | _, _, _ => none

def asNat (y : Nat) : Value → Option Nat
  | .int _ n => if 0 ≤ n ∧ n ≤ (y : Int) then some n.toNat else none
  | _ => none

def bound (env : Env) (y dflt : Nat) : Option Operand → Option Nat
  | none => some dflt
  | some x => asNat y (rd env x)

/-- x[lo:hi:mx] of a slice; inexact slices bear a mark in their address. -/
def slslV (size : Nat) (x : Value) (env : Env) (lo hi mx : Option Operand) : Option Value :=
  match x with
  | .slice a len cap =>
    match bound env cap cap mx with
    | none => none
    | some m =>
      match bound env m (if mx.isSome then m + 1 else len) hi with
      | none => none
      | some h =>
        if m < h then none else
        match bound env h 0 lo with
        | none => none
        | some l =>
          match a with
          | none => some (.slice none (h - l) (m - l))
          | some ⟨i, o, none⟩ => some (.slice (some ⟨i, if m = l then o else o + l * size, none⟩) (h - l) (m - l))
          | some ⟨i, o, some s⟩ =>
            if mx.isSome then some (.slice (some ⟨i, if m = l then o else o + l * size, none⟩) (h - l) (m - l))
            else if s = size then some (.slice (some ⟨i, o + l * size, some s⟩) (h - l) (m - l)) else none
  | _ => none

def strCut (s : ByteArray) (env : Env) (lo hi : Option Operand) : Option Value :=
  match bound env s.size s.size hi with
  | none => none
  | some h =>
    match bound env h 0 lo with
    | none => none
    | some l => some (strOf (((bytesOf s).take h).drop l))

def minInt (mx : Bool) : Int → List Value → Option Int
  | a, [] => some a
  | a, .int _ b :: r => minInt mx (if mx then (if b > a then b else a) else (if b < a then b else a)) r
  | _, _ :: _ => none

/-- append(s, x): the new cells are at hand. -/
def appendV (ty size bytes : Nat) (H : Heap) (s : Value) (n : Nat) (new : List Value) : Option Out :=
  match s with
  | .slice base sLen sCap =>
    if sLen + n ≤ sCap then
      match base with
      | none => if new.isEmpty then some (.ret (.slice none (sLen + n) sCap) H) else none
      | some ⟨i, o, sp⟩ =>
        match putN H i (o + sLen * size) new with
        | some H' => some (.ret (.slice (some ⟨i, o, sp⟩) (sLen + n) sCap) H')
        | none => none
    else if (2 * (sLen + n) + 1024) * bytes ≤ 140737488355328 ∧ sLen + n ≤ 140737488355328 ∧ 0 < size ∧ new.all one = true then
      match base with
      | none => if sLen = 0 then some (.ret (.slice (some ⟨H.length, 0, some size⟩) n n) (push H (.cells new (.loose (some ty)) 0))) else none
      | some ⟨i, o, none⟩ =>
        match getN H i o (sLen * size) with
        | some old => some (.ret (.slice (some ⟨H.length, 0, some size⟩) (sLen + n) (sLen + n)) (push H (.cells (old ++ new) (.loose (some ty)) 0)))
        | none => none
      | some ⟨i, o, some s⟩ =>
        match H[i]? with
        | some (.cells c (.loose t) fz) =>
          if o + sLen * size = c.length ∧ s = size ∧ fz ≤ c.length then
            some (.ret (.slice (some ⟨H.length, 0, some size⟩) (sLen + n) (sLen + n)) (push (H.set i .dead) (.cells (c.drop o ++ new) (.loose (if t = some ty then some ty else none)) (fz - o))))
          else none
        | _ => none
    else none
  | _ => none

/-- The first n elements' cells of a slice, or a text's bytes. -/
def cellsIn (H : Heap) (size n : Nat) : Value → Option (List Value)
  | .slice none _ _ => if n = 0 then some [] else none
  | .slice (some ⟨i, o, _⟩) len _ => if n * size = 0 then some [] else if n ≤ len then getN H i o (n * size) else none
  | .string s => if size = 1 then some (byteCells ((bytesOf s).take n)) else none
  | .func (.method _) ⟨l⟩ _ => if l.length = n * size ∧ n * size ≠ 0 then some l else none
  | _ => none

/-- A slice over a row that nothing turns, by what it holds. -/
def gslV (n : Nat) (l : List Value) : Value := .func (.method "") ⟨l⟩ ⟨[.int .i64 n]⟩

def lenOf : Value → Option Nat
  | .func (.method _) _ ⟨[.int .i64 n]⟩ => some n.toNat
  | .slice _ n _ => some n
  | .string s => some s.size
  | _ => none

/-- A part of an aggregate: one cell, or n of them. -/
def partV (l : List Value) (off : Nat) : Option Nat → Option Value
  | none => l[off]?
  | some n => if off + n ≤ l.length then some (.agg ⟨(l.drop off).take n⟩) else none

def ret (H : Heap) (v : Option Value) : Option Out := v.map fun v => .ret v H

/-- A map's entry. -/
def mfind (s : ByteArray) : List (ByteArray × Value) → Option Value
  | [] => none
  | (k, v) :: r => if bytesOf s == bytesOf k then some v else mfind s r

def mset (s : ByteArray) (v : Value) : List (ByteArray × Value) → List (ByteArray × Value)
  | [] => [(s, v)]
  | (k, x) :: r => if bytesOf s == bytesOf k then (s, v) :: r else (k, x) :: mset s v r

/-- An operation that is no call. -/
def evI (env : Env) (H : Heap) : I → Option Out
  | .mov x => some (.ret (rd env x) H)
  | .pick c a b => match rd env c with | .bool t => some (.ret (if t then rd env a else rd env b) H) | _ => none
  | .new t z => some (.ret (.pointer (some ⟨H.length, 0, none⟩)) (push H (.cells z (.fix (some t)) 0)))
  | .box t x => match cellsOf (rd env x) with | some cs => some (.ret (.pointer (some ⟨H.length, 0, none⟩)) (push H (.cells cs (.fix (some t)) 0))) | none => none
  | .build z parts => (lay env z parts).map fun l => .ret (.agg ⟨l⟩) H
  | .bslice n z parts => (lay env z parts).map fun l => .ret (.slice (some ⟨H.length, 0, none⟩) n n) (push H (.cells l (.fix none) 0))
  | .gsl n z parts => (lay env z parts).map fun l => .ret (gslV n l) H
  | .ld n a => ret H (ldv H n (rd env a))
  | .st n a x =>
    match rd env a, cellsOf (rd env x) with
    | .pointer (some ⟨i, o, _⟩), some cs => if cs.length = n then (putN H i o cs).map fun H' => .ret undef H' else none
    | _, _ => none
  | .nilck x => match rd env x with | .pointer (some a) => some (.ret (.pointer (some a)) H) | .func (.func f) a b => some (.ret (.func (.func f) a b) H) | _ => none
  | .bin op x y => ret H (bin op (rd env x) (rd env y))
  | .eqn neg k x y =>
    match isNil k (rd env x), isNil k (rd env y) with
    | some a, some true => some (.ret (.bool (a != neg)) H)
    | some true, some b => some (.ret (.bool (b != neg)) H)
    | _, _ => none
  | .eqp neg x y =>
    match rd env x, rd env y with
    | .pointer (some ⟨i, o, none⟩), .pointer (some ⟨j, p, none⟩) => if i = j ∧ o = p then some (.ret (.bool (true != neg)) H) else none
    | .pointer a, .pointer none => some (.ret (.bool (a.isNone != neg)) H)
    | .pointer none, .pointer b => some (.ret (.bool (b.isNone != neg)) H)
    | _, _ => none
  | .eqb neg x y => match rd env x, rd env y with | .bool a, .bool b => some (.ret (.bool ((a == b) != neg)) H) | _, _ => none
  | .eqs neg ks x y =>
    match rd env x, rd env y with
    | .agg a, .agg b => if a.size = ks.length ∧ b.size = ks.length then (alike ks a.toList b.toList).map fun t => .ret (.bool (t != neg)) H else none
    | _, _ => none
  | .un op x =>
    match op, rd env x with
    | .neg, .int k n => some (.ret (.int k (k.wrap (0 - n))) H)
    | .xor, .int k n => ret H (binInt .xor k (if k.signed then -1 else k.max) n)
    | .not, .bool b => some (.ret (.bool (!b)) H)
    | _, _ => none
  | .toint k x => match rd env x with | .int _ n => some (.ret (.int k (k.wrap n)) H) | _ => none
  | .tostr x => match rd env x with | .string s => some (.ret (.string s) H) | _ => none
  | .s2b x =>
    match rd env x with
    | .string s => if s.size ≤ 140737488355328 then some (.ret (.slice (some ⟨H.length, 0, some 1⟩) s.size s.size) (push H (.cells (byteCells (bytesOf s)) (.loose none) 0))) else none
    | _ => none
  | .b2s x =>
    match rd env x with
    | .slice none _ _ => some (.ret (strOf []) H)
    | .slice (some ⟨i, o, _⟩) len _ => if len = 0 then some (.ret (strOf []) H) else match getN H i o len with | some l => (toBytes l).map fun b => .ret (strOf b) H | none => none
    | _ => none
  | .mkif t x => some (.ret (.iface t (rd env x)) H)
  | .mkfn fn first captured => if isFn fn then some (.ret (.func fn ⟨first.map (rd env)⟩ ⟨captured.map (rd env)⟩) H) else none
  | .mksl z bytes len cap =>
    match rd env len, rd env cap with
    | .int _ l, .int _ c =>
      if 0 ≤ l ∧ l ≤ c ∧ c ≤ 140737488355328 ∧ c.toNat * bytes ≤ 140737488355328 then
        some (.ret (.slice (some ⟨H.length, 0, none⟩) l.toNat c.toNat) (push H (.cells (List.replicate c.toNat z).flatten (.fix none) 0)))
      else none
    | _, _ => none
  | .slstr x lo hi => match rd env x with | .string s => ret H (strCut s env lo hi) | _ => none
  | .slsl size x lo hi mx => ret H (slslV size (rd env x) env lo hi mx)
  | .slarr len size x lo hi =>
    match rd env x with
    | .pointer (some ⟨i, o, _⟩) => ret H (slslV size (.slice (some ⟨i, o, none⟩) len len) env lo hi none)
    | _ => none
  | .faddr off x => match rd env x with | .pointer (some ⟨i, o, _⟩) => some (.ret (.pointer (some ⟨i, o + off, none⟩)) H) | _ => none
  | .field off n x => match rd env x with | .agg cs => ret H (partV cs.toList off n) | _ => none
  | .iaddr size x i =>
    match rd env x, rd env i with
    | .slice (some ⟨b, o, _⟩) len _, .int _ n => if 0 ≤ n ∧ n < (len : Int) then some (.ret (.pointer (some ⟨b, o + n.toNat * size, none⟩)) H) else none
    | _, _ => none
  | .iarr len size x i =>
    match rd env x, rd env i with
    | .pointer (some ⟨b, o, _⟩), .int _ n => if 0 ≤ n ∧ n < (len : Int) then some (.ret (.pointer (some ⟨b, o + n.toNat * size, none⟩)) H) else none
    | _, _ => none
  | .ixstr x i =>
    match rd env x, rd env i with
    | .string s, .int _ n => if 0 ≤ n then ret H ((bytesOf s)[n.toNat]?.map fun b => .int .u8 b.toNat) else none
    | _, _ => none
  | .ixagg len size n x i =>
    match rd env x, rd env i with
    | .agg cs, .int _ k => if 0 ≤ k ∧ k < (len : Int) then ret H (partV cs.toList (k.toNat * size) n) else none
    | _, _ => none
  | .ext k x => match rd env x with | .tuple vs => ret H (vs.toList[k]?) | _ => none
  | .len str x =>
    match str, rd env x with
    | true, .string s => some (.ret (.int .i64 s.size) H)
    | false, .slice _ n _ => some (.ret (.int .i64 n) H)
    | _, _ => none
  | .capx x => match rd env x with | .slice none _ c => some (.ret (.int .i64 c) H) | .slice (some ⟨_, _, none⟩) _ c => some (.ret (.int .i64 c) H) | _ => none
  | .minmax mx xs => match xs.map (rd env) with | .int k a :: r => (minInt mx a r).map fun n => .ret (.int k n) H | _ => none
  | .append ty size bytes s x =>
    match lenOf (rd env x) with
    | some n => match cellsIn H size n (rd env x) with | some new => appendV ty size bytes H (rd env s) n new | none => none
    | none => none
  | .copy size d x =>
    match rd env d, lenOf (rd env x) with
    | .slice base dl _, some n =>
      match cellsIn H size (Nat.min n dl) (rd env x) with
      | some cs =>
        match base with
        | none => if cs.isEmpty then some (.ret (.int .i64 (Nat.min n dl)) H) else none
        | some ⟨i, o, _⟩ => (putN H i o cs).map fun H' => .ret (.int .i64 (Nat.min n dl)) H'
      | none => none
    | _, _ => none
  | .pan x => match rd env x with | .iface t v => some (.pan (.iface t v) H) | _ => none
  | .uslice x =>
    match rd env x with
    | .slice none _ _ => some (.ret (.pointer none) H)
    | .slice (some ⟨i, o, _⟩) _ c => if c ≠ 0 then some (.ret (.pointer (some ⟨i, o, none⟩)) H) else none
    | _ => none
  | .ustr ty p n =>
    match rd env p, rd env n with
    | .pointer none, .int _ n => if n = 0 then some (.ret (strOf []) H) else none
    | .pointer (some ⟨i, o, _⟩), .int _ n =>
      if n = 0 then some (.ret (strOf []) H) else
      if n < 0 ∨ 140737488355328 < n then none else
      match H[i]? with
      | some (.cells c (.loose t) fz) =>
        if t = some ty ∧ o + n.toNat ≤ c.length then (toBytes ((c.drop o).take n.toNat)).map fun b => .ret (strOf b) (H.set i (.cells c (.loose t) (Nat.max fz (o + n.toNat)))) else none
      | _ => none
    | _, _ => none
  | .uof x =>
    match rd env x with
    | .pointer none => some (.ret (.pointer none) H)
    | .pointer (some ⟨i, o, _⟩) =>
      match H[i]? with
      | some (.cells c _ _) => if o < c.length then some (.ret (.pointer (some ⟨i, o, none⟩)) H) else none
      | _ => none
    | _ => none
  | .upt ts x =>
    match rd env x with
    | .pointer none => some (.ret (.pointer none) H)
    | .pointer (some ⟨i, 0, _⟩) =>
      match H[i]? with
      | some (.cells c (.fix (some t)) _) => if ts.contains (t, c.length) then some (.ret (.pointer (some ⟨i, 0, none⟩)) H) else none
      | _ => none
    | _ => none
  | .mkmap r =>
    match r with
    | none => some (.ret (.map (some H.length)) (push H (.mp [])))
    | some x => match rd env x with | .int _ _ => some (.ret (.map (some H.length)) (push H (.mp []))) | _ => none
  | .mlook z ok x k =>
    match rd env x, rd env k with
    | .map none, .string _ => some (.ret (if ok then .tuple ⟨[z, .bool false]⟩ else z) H)
    | .map (some i), .string s =>
      match H[i]? with
      | some (.mp es) =>
        match mfind s es with
        | some v => some (.ret (if ok then .tuple ⟨[v, .bool true]⟩ else v) H)
        | none => some (.ret (if ok then .tuple ⟨[z, .bool false]⟩ else z) H)
      | _ => none
    | _, _ => none
  | .mput x k v =>
    match rd env x, rd env k with
    | .map (some i), .string s =>
      match H[i]? with
      | some (.mp es) => some (.ret undef (H.set i (.mp (mset s (rd env v) es))))
      | _ => none
    | _, _ => none
  | .tass t z ok x =>
    match rd env x with
    | .nilIface => if ok then some (.ret (.tuple ⟨[z, .bool false]⟩) H) else none
    | .iface t' v => if t' = t then some (.ret (if ok then .tuple ⟨[v, .bool true]⟩ else v) H) else if ok then some (.ret (.tuple ⟨[z, .bool false]⟩) H) else none
    | _ => none
  | .call _ _ => none

def wanted (env : Env) : Option (Nat × Bool) → Option Bool
  | none => some true
  | some (t, want) =>
    match env.getD t undef with
    | .bool b => some (b == want)
    | .tuple ⟨[]⟩ => some false
    | _ => none

def put (env : Env) (d : Option Nat) (v : Value) : Env :=
  match d with
  | some d => env.set d v
  | none => env

def forget (gone : List Nat) (env : Env) : Env := gone.foldl (fun e t => e.set t unk) env

section
variable (T : Tab) (E : C → Env → Heap → Option (Ex × Env × Heap))

def resV (env : Env) (H : Heap) : RV → Option Value
  | .tmp t => some (env.getD t undef)
  | .cell t n => ldv H n (env.getD t undef)

def resVs (env : Env) (H : Heap) : List RV → Option (List Value)
  | [] => some []
  | r :: rs => match resV env H r with | some v => (resVs env H rs).map (v :: ·) | none => none

def results (rs : List RV) (env : Env) (H : Heap) : Option Value :=
  match resVs env H rs with
  | some [v] => some v
  | some vs => some (.tuple ⟨vs⟩)
  | none => none

def evPre : List C → Env → Heap → Option (Ex × Env × Heap)
  | [], env, H => some (.norm, env, H)
  | c :: r, env, H =>
    match E c env H with
    | some (.norm, env', H') => evPre r env' H'
    | x => x

/-- The closure's run, and what the function returns behind it. -/
def evClo (d : DFn) (cl : List Value) (rv : Value) (env : Env) (H : Heap) : Option Out :=
  match E d.crest (((cl ++ List.replicate (d.gtmps - cl.length) undef).set d.u rv).set d.v rv) H with
  | some (.norm, _, H') => (results d.results env H').map fun v => .ret v H'
  | some (.ret, _, H') => (results d.results env H').map fun v => .ret v H'
  | _ => none

def evDfn (d : DFn) (args : List Value) (H : Heap) : Option Out :=
  match evPre E d.pre (args ++ List.replicate (d.ntmps - args.length) undef) H with
  | some (.ret, env, H') => (results d.results env H').map fun v => .ret v H'
  | some (.pan v, _, H') => some (.pan v H')
  | some (.norm, env, H') =>
    if ¬ d.t < env.length then none else
    match E d.rest (env.set d.t (.func (.func d.g) ⟨[]⟩ ⟨d.caps.map (rd env)⟩)) H' with
    | some (.norm, env2, H2) => evClo E d (d.caps.map (rd env)) .nilIface env2 H2
    | some (.ret, env2, H2) => evClo E d (d.caps.map (rd env)) .nilIface env2 H2
    | some (.pan v, env2, H2) => evClo E d (d.caps.map (rd env)) v env2 H2
    | _ => none
  | _ => none

/-- A call of function f. -/
def evCall (f : FuncId) (args : List Value) (H : Heap) : Option Out :=
  match T.code f with
  | none => match T.dfn f with | some d => evDfn E d args H | none => T.intr f args H
  | some fn =>
    match E fn.body (args ++ List.replicate (fn.ntmps - args.length) undef) H with
    | some (.norm, env, H') | some (.ret, env, H') => (results fn.results env H').map fun v => .ret v H'
    | some (.pan v, _, H') => some (.pan v H')
    | _ => none

def evOp (env : Env) (H : Heap) : I → Option Out
  | .call f args =>
    match rd env f with
    | .func (.func f) first captured => evCall T E f (first.toList ++ args.map (rd env) ++ captured.toList) H
    | _ => none
  | i => evI env H i

def evOps : List IOper → Env → Heap → Option (Ex × Env × Heap)
  | [], env, H => some (.norm, env, H)
  | o :: os, env, H =>
    match wanted env o.guard with
    | some true =>
      match evOp T E env H o.op with
      | some (.ret v H') => evOps os (put env o.dst v) H'
      | some (.pan v H') => some (.pan v, env, H')
      | none => none
    | some false => evOps os (put env o.dst undef) H
    | none => none

def beqV : Value → Value → Bool
  | .bool a, .bool b => a == b
  | .int k a, .int k' b => decide (k = k') && a == b
  | .string a, .string b => bytesOf a == bytesOf b
  | .pointer none, .pointer none => true
  | .pointer (some ⟨a, b, c⟩), .pointer (some ⟨a', b', c'⟩) => a == a' && b == b' && decide (c = c')
  | .slice none n c, .slice none n' c' => n == n' && c == c'
  | .slice (some ⟨a, b, s⟩) n c, .slice (some ⟨a', b', s'⟩) n' c' => a == a' && b == b' && decide (s = s') && n == n' && c == c'
  | .nilFunc, .nilFunc => true
  | .nilIface, .nilIface => true
  | _, _ => false

def beqL : List Value → List Value → Bool
  | [], [] => true
  | a :: x, b :: y => beqV a b && beqL x y
  | _, _ => false

def beqA : Value → Value → Bool
  | .agg a, .agg b => beqL a.toList b.toList
  | a, b => beqV a b

/-- The memory at a place among the loud operations. -/
def stageAt : List (Nat × Heap) → Nat → Option Heap
  | [], _ => none
  | (k, H) :: r, j => if k = j then some H else stageAt r j

structure Pend where
  n : Option Nat
  a : Value
  v : Value
  wins : List Nat

def pendOk (st : List (Nat × Heap)) (p : Pend) : Bool :=
  p.wins.all fun j => match stageAt st j with | some H => (match ldv H p.n p.a with | some v => beqA v p.v | none => false) | none => false

def pendOf (env : Env) (o : DOper) (v : Value) (ps : List Pend) : List Pend :=
  match o.o.op, o.wins with
  | _, [] => ps
  | .ld n a, w => ⟨n, rd env a, v, w⟩ :: ps
  | _, _ => ps

def evD : List DOper → Nat → Env → Heap → List (Nat × Heap) → List Pend → Option (Ex × Env × Heap)
  | [], k, env, H, st, ps => if ps.all (pendOk ((k, H) :: st)) then some (.norm, env, H) else none
  | o :: os, k, env, H, st, ps =>
    match wanted env o.o.guard with
    | some true =>
      match evOp T E env H o.o.op with
      | some (.ret v H') => evD os (k + 1) (put env o.o.dst v) H' (if o.loud then (k, H) :: st else st) (pendOf env o v ps)
      | _ => none
    | some false => evD os (k + 1) (put env o.o.dst undef) H (if o.loud then (k, H) :: st else st) ps
    | none => none

/-- Code; E: the same at the fuel below (calls, and a loop's further rounds). -/
def evC : C → Env → Heap → Option (Ex × Env × Heap)
  | .skip, env, H => some (.norm, env, H)
  | .ops l, env, H => evOps T E l env H
  | .dops l, env, H => evD T E l 0 env H [] []
  | .seq a b, env, H =>
    match evC a env H with
    | some (.norm, env', H') => evC b env' H'
    | r => r
  | .cond x a b, env, H =>
    match rd env x with
    | .bool true => evC a env H
    | .bool false => evC b env H
    | _ => none
  | .block id c, env, H =>
    match evC c env H with
    | some (.exit j, env', H') => if j = id then some (.norm, env', H') else some (.exit j, env', H')
    | r => r
  | .loop gone c, env, H =>
    match evC c (forget gone env) H with
    | some (.norm, env', H') => E (.loop gone c) env' H'
    | r => r
  | .exit id, env, H => some (.exit id, env, H)
  | .ret, env, H => some (.ret, env, H)
  | .stuck, _, _ => none
end

/-- The evaluator at a fuel. -/
def evN (T : Tab) : Nat → C → Env → Heap → Option (Ex × Env × Heap)
  | 0 => fun _ _ _ => none
  | n + 1 => evC T (evN T n)

def run (T : Tab) (n : Nat) (f : FuncId) (args : List Value) (H : Heap) : Option Out := evCall T (evN T n) f args H

end Ve
end Go.Proofs.YtnociodpfmlglaaGreatDoor

/-
  How the deterministic machine's values and memory stand to the model's: relation and lemmas.
-/
set_option linter.unusedVariables false
set_option linter.unusedSimpArgs false
namespace Go.Proofs.YtnociodpfmlglaaGreatDoor
namespace Ve
open Go Go.RowKit

/-- Where the blocks lie (block and place), and how many cells the model's blocks have. -/
structure Al where
  at_ : Nat → Option (Nat × Nat)
  tot : Nat → Nat
  gh : List (Nat × Obj)
instance : CoeFun Al (fun _ => Nat → Option (Nat × Nat)) := ⟨Al.at_⟩
structure Al.le (a b : Al) : Prop where
  at' : ∀ i p, a i = some p → b i = some p ∧ b.tot p.1 = a.tot p.1
  gh' : ∀ x, x ∈ a.gh → x ∈ b.gh
theorem Al.le_refl (a : Al) : a.le a := ⟨fun _ _ h => ⟨h, rfl⟩, fun _ h => h⟩
theorem Al.le_trans {a b c : Al} (h : a.le b) (k : b.le c) : a.le c := ⟨fun i p hp => ⟨(k.at' i p (h.at' i p hp).1).1, ((k.at' i p (h.at' i p hp).1).2).trans (h.at' i p hp).2⟩, fun x hx => k.gh' x (h.gh' x hx)⟩

mutual
inductive VR (α : Al) : Value → Value → Prop
  | unk (v : Value) : VR α unk v
  | bool (b : Bool) : VR α (.bool b) (.bool b)
  | int (k : IntKind) (n : Int) : VR α (.int k n) (.int k n)
  | str (s : ByteArray) : VR α (.string s) (.string s)
  | pnil : VR α (.pointer none) (.pointer none)
  | ptr {i o b sh : Nat} (h : α i = some (b, sh)) : VR α (.pointer (some ⟨i, o, none⟩)) (.pointer (some ⟨b, sh + o, none⟩))
  | snil (n c : Nat) : VR α (.slice none n c) (.slice none n c)
  | slx {i o b sh o' n c : Nat} (h : α i = some (b, sh)) (hn : n ≤ c) (ho : o' = sh + o ∨ c = 0) : VR α (.slice (some ⟨i, o, none⟩) n c) (.slice (some ⟨b, o', none⟩) n c)
  | slz (a : Addr) : VR α (.slice (some ⟨0, 0, none⟩) 0 0) (.slice (some a) 0 0)
  | sli {i o s b sh o' n c c' : Nat} (h : α i = some (b, sh)) (hn : n ≤ c) (hc : c ≤ c') (ho : o' = sh + o ∨ c' = 0) (ht : o' + c' * s ≤ α.tot b) :
      VR α (.slice (some ⟨i, o, some s⟩) n c) (.slice (some ⟨b, o', none⟩) n c')
  | gsl {l l' : List Value} {n b : Nat} {ty : TypeId} (h : (b, Obj.cells ⟨l'⟩ ty) ∈ α.gh) (hr : VRs α l l') : VR α (.func (.method "") ⟨l⟩ ⟨[.int .i64 (n : Nat)]⟩) (.slice (some ⟨b, 0, none⟩) n n)
  | mnil : VR α (.map none) (.map none)
  | map {i b : Nat} (h : α i = some (b, 0)) : VR α (.map (some i)) (.map (some b))
  | nilF : VR α .nilFunc .nilFunc
  | nilI : VR α .nilIface .nilIface
  | func (fn : Fn) {a a' c c' : List Value} (hf : isFn fn = true) (ha : VRs α a a') (hc : VRs α c c') : VR α (.func fn ⟨a⟩ ⟨c⟩) (.func fn ⟨a'⟩ ⟨c'⟩)
  | iface (t : TypeId) {v v' : Value} (h : VR α v v') : VR α (.iface t v) (.iface t v')
  | agg {l l' : List Value} (h : VRs α l l') : VR α (.agg ⟨l⟩) (.agg ⟨l'⟩)
  | tup {l l' : List Value} (h : VRs α l l') : VR α (.tuple ⟨l⟩) (.tuple ⟨l'⟩)
inductive VRs (α : Al) : List Value → List Value → Prop
  | nil : VRs α [] []
  | cons {v v' : Value} {l l' : List Value} (h : VR α v v') (hs : VRs α l l') : VRs α (v :: l) (v' :: l')
end

mutual
theorem VR.mono {α β : Al} (hl : α.le β) : ∀ {v v' : Value}, VR α v v' → VR β v v'
  | _, _, .unk v => .unk v
  | _, _, .bool b => .bool b
  | _, _, .int k n => .int k n
  | _, _, .str s => .str s
  | _, _, .pnil => .pnil
  | _, _, .ptr h => .ptr (hl.at' _ _ h).1
  | _, _, .snil n c => .snil n c
  | _, _, .slx h hn ho => .slx (hl.at' _ _ h).1 hn ho
  | _, _, .slz a => .slz a
  | _, _, .sli h hn hc ho ht => .sli (hl.at' _ _ h).1 hn hc ho (by rw [(hl.at' _ _ h).2]; exact ht)
  | _, _, .gsl h hr => .gsl (hl.gh' _ h) (VRs.mono hl hr)
  | _, _, .mnil => .mnil
  | _, _, .map h => .map (hl.at' _ _ h).1
  | _, _, .nilF => .nilF
  | _, _, .nilI => .nilI
  | _, _, .func fn hf ha hc => .func fn hf (VRs.mono hl ha) (VRs.mono hl hc)
  | _, _, .iface t h => .iface t (VR.mono hl h)
  | _, _, .agg h => .agg (VRs.mono hl h)
  | _, _, .tup h => .tup (VRs.mono hl h)
theorem VRs.mono {α β : Al} (hl : α.le β) : ∀ {v v' : List Value}, VRs α v v' → VRs β v v'
  | _, _, .nil => .nil
  | _, _, .cons h hs => .cons (VR.mono hl h) (VRs.mono hl hs)
end

theorem VRs.length {α : Al} : ∀ {l l' : List Value}, VRs α l l' → l'.length = l.length
  | _, _, .nil => rfl
  | _, _, .cons _ hs => by simp [VRs.length hs]

theorem VRs.get {α : Al} : ∀ {l l' : List Value}, VRs α l l' → ∀ {i : Nat} {v : Value}, l[i]? = some v → ∃ v', l'[i]? = some v' ∧ VR α v v'
  | _, _, .nil, i, v, h => by simp at h
  | _, _, .cons (v := a) (v' := a') h hs, 0, v, e => by
    simp at e; subst e; exact ⟨a', by simp, h⟩
  | _, _, .cons h hs, i + 1, v, e => by
    simp at e
    obtain ⟨v', e', r⟩ := VRs.get hs e
    exact ⟨v', by simpa using e', r⟩

theorem VRs.take {α : Al} : ∀ {l l' : List Value} (n : Nat), VRs α l l' → VRs α (l.take n) (l'.take n)
  | _, _, 0, _ => by simpa using VRs.nil
  | _, _, n + 1, .nil => by simpa using VRs.nil
  | _, _, n + 1, .cons h hs => by simpa using VRs.cons h (VRs.take n hs)

theorem VRs.drop {α : Al} : ∀ {l l' : List Value} (n : Nat), VRs α l l' → VRs α (l.drop n) (l'.drop n)
  | _, _, 0, h => by simpa using h
  | _, _, n + 1, .nil => by simpa using VRs.nil
  | _, _, n + 1, .cons h hs => by simpa using VRs.drop n hs

theorem VRs.append {α : Al} : ∀ {l l' m m' : List Value}, VRs α l l' → VRs α m m' → VRs α (l ++ m) (l' ++ m')
  | _, _, _, _, .nil, k => by simpa using k
  | _, _, _, _, .cons h hs, k => .cons h (VRs.append hs k)

theorem VRs.set {α : Al} {v v' : Value} (hv : VR α v v') : ∀ {l l' : List Value} (n : Nat), VRs α l l' → VRs α (l.set n v) (l'.set n v')
  | _, _, _, .nil => by simpa using VRs.nil
  | _, _, 0, .cons h hs => by simpa using VRs.cons hv hs
  | _, _, n + 1, .cons h hs => by simpa using VRs.cons h (VRs.set hv n hs)

theorem VRs.splice {α : Al} {c c' vs vs' : List Value} (o : Nat) (h : VRs α c c') (k : VRs α vs vs') : VRs α (Ve.splice c o vs) (Ve.splice c' o vs') := by
  unfold Ve.splice
  rw [← k.length]
  exact ((h.take o).append k).append (h.drop _)

theorem VR.lit {α : Al} {v : Value} (h : isLit v = true) : VR α v v := by
  cases v with
  | bool b => exact .bool b
  | int k n => exact .int k n
  | string s => exact .str s
  | pointer a => cases a with | none => exact .pnil | some a => simp [isLit] at h
  | slice a n c => cases a with | none => exact .snil n c | some a => simp [isLit] at h
  | map r => cases r with | none => exact .mnil | some a => simp [isLit] at h
  | nilFunc => exact .nilF
  | nilIface => exact .nilI
  | _ => simp [isLit] at h

theorem VRs.lits {α : Al} : ∀ {l : List Value}, l.all isLit = true → VRs α l l
  | [], _ => .nil
  | v :: l, h => by simp at h; exact .cons (VR.lit h.1) (VRs.lits (by simpa using h.2))

theorem VR.undef (α : Al) : VR α Go.undef Go.undef := .tup .nil

theorem VR.one {α : Al} {v v' : Value} (h : VR α v v') (ho : Ve.one v = true) : Ve.one v' = true := by
  cases h <;> simp_all [Ve.one, Ve.unk]

theorem VRs.one {α : Al} : ∀ {l l' : List Value}, VRs α l l' → l.all Ve.one = true → l'.all Ve.one = true
  | _, _, .nil, _ => rfl
  | _, _, .cons h hs, k => by
    simp only [List.all_cons, Bool.and_eq_true] at k ⊢
    exact ⟨h.one k.1, hs.one k.2⟩

/-- The cells of a value that is known. -/
theorem cellsOf_rel {α : Al} {v v' : Value} {cs : List Value} (h : VR α v v') (hc : cellsOf v = some cs) :
    ∃ cs', v'.cells = ⟨cs'⟩ ∧ VRs α cs cs' ∧ cs.all one = true := by
  cases h with
  | agg h =>
    simp only [cellsOf] at hc
    split at hc
    · rename_i ho
      simp only [Option.some.injEq] at hc
      subst hc
      exact ⟨_, rfl, h, by simpa using ho⟩
    · simp at hc
  | unk v => simp [cellsOf, Ve.unk] at hc
  | tup h => simp [cellsOf] at hc
  | bool b => simp only [cellsOf, Option.some.injEq] at hc; subst hc; exact ⟨_, rfl, .cons (.bool b) .nil, rfl⟩
  | int k n => simp only [cellsOf, Option.some.injEq] at hc; subst hc; exact ⟨_, rfl, .cons (.int k n) .nil, rfl⟩
  | str s => simp only [cellsOf, Option.some.injEq] at hc; subst hc; exact ⟨_, rfl, .cons (.str s) .nil, rfl⟩
  | pnil => simp only [cellsOf, Option.some.injEq] at hc; subst hc; exact ⟨_, rfl, .cons .pnil .nil, rfl⟩
  | ptr h => simp only [cellsOf, Option.some.injEq] at hc; subst hc; exact ⟨_, rfl, .cons (.ptr h) .nil, rfl⟩
  | snil n c => simp only [cellsOf, Option.some.injEq] at hc; subst hc; exact ⟨_, rfl, .cons (.snil n c) .nil, rfl⟩
  | slx h hn ho => simp only [cellsOf, Option.some.injEq] at hc; subst hc; exact ⟨_, rfl, .cons (.slx h hn ho) .nil, rfl⟩
  | slz a => simp only [cellsOf, Option.some.injEq] at hc; subst hc; exact ⟨_, rfl, .cons (.slz a) .nil, rfl⟩
  | sli h hn hc' ho ht => simp only [cellsOf, Option.some.injEq] at hc; subst hc; exact ⟨_, rfl, .cons (.sli h hn hc' ho ht) .nil, rfl⟩
  | mnil => simp only [cellsOf, Option.some.injEq] at hc; subst hc; exact ⟨_, rfl, .cons .mnil .nil, rfl⟩
  | map h => simp only [cellsOf, Option.some.injEq] at hc; subst hc; exact ⟨_, rfl, .cons (.map h) .nil, rfl⟩
  | nilF => simp only [cellsOf, Option.some.injEq] at hc; subst hc; exact ⟨_, rfl, .cons .nilF .nil, rfl⟩
  | nilI => simp only [cellsOf, Option.some.injEq] at hc; subst hc; exact ⟨_, rfl, .cons .nilI .nil, rfl⟩
  | func fn hf ha hcc => simp only [cellsOf, Option.some.injEq] at hc; subst hc; exact ⟨_, rfl, .cons (.func fn hf ha hcc) .nil, rfl⟩
  | iface t h => simp only [cellsOf, Option.some.injEq] at hc; subst hc; exact ⟨_, rfl, .cons (.iface t h) .nil, rfl⟩
  | gsl h hr => simp only [cellsOf, Option.some.injEq] at hc; subst hc; exact ⟨_, rfl, .cons (.gsl h hr) .nil, rfl⟩

/-! memory -/
def own : Blk → Bool
  | .cells _ .ro _ => false
  | .cells _ _ _ => true
  | .siter _ _ => true
  | .mp _ => true
  | .dead => false

/-- A map's entries. -/
inductive KVs (α : Al) : List (ByteArray × Value) → List MapEntry → Prop
  | nil : KVs α [] []
  | cons {k : ByteArray} {v : Value} {e : MapEntry} {l : List (ByteArray × Value)} {l' : List MapEntry} (hk : e.key = .string k) (hv : VR α v e.val) (hs : KVs α l l') : KVs α ((k, v) :: l) (e :: l')

theorem KVs.mono {α β : Al} (hl : α.le β) : ∀ {l : List (ByteArray × Value)} {l' : List MapEntry}, KVs α l l' → KVs β l l'
  | _, _, .nil => .nil
  | _, _, .cons hk hv hs => .cons hk (hv.mono hl) (KVs.mono hl hs)

def BOk (α : Al) (w0 w : World) (i : Nat) : Blk → Prop
  | .dead => True
  | .siter s pos => ∃ b, α i = some (b, 0) ∧ w0.heap.size ≤ b ∧ w.heap[b]? = some (.stringIter s pos)
  | .mp es => ∃ b es' clk, α i = some (b, 0) ∧ w0.heap.size ≤ b ∧ w.heap[b]? = some (.map es' clk) ∧ KVs α es es'.toList
  | .cells c m fz => ∃ b sh pre c' post ty lo hi, α i = some (b, sh) ∧ w.heap[b]? = some (.cells ⟨pre ++ c' ++ post⟩ ty (lo, hi)) ∧ pre.length = sh ∧ VRs α c c' ∧
      (m = .ro → b < w0.heap.size) ∧ (m ≠ .ro → w0.heap.size ≤ b ∧ (∀ j, sh + fz ≤ j → j < sh + c.length + post.length → ¬ (lo ≤ j ∧ j < hi)) ∧ α.tot b = sh + c.length + post.length ∧ (∀ t, m = .loose (some t) → ty = t ∧ hi ≤ sh + fz) ∧ (∀ t, m = .fix (some t) → ty = t ∧ pre = [] ∧ post = []))

structure Sim (α : Al) (w0 : World) (H : Heap) (w : World) : Prop where
  lt : ∀ i p, α i = some p → p.1 < w.heap.size
  dom : ∀ i, H.length ≤ i → α i = none
  below : Below w0.heap.size w0 w
  blk : ∀ i b, H[i]? = some b → BOk α w0 w i b
  gh : ∀ b o, (b, o) ∈ α.gh → w0.heap.size ≤ b ∧ w.heap[b]? = some o ∧ ∀ i x p, H[i]? = some x → own x = true → α i = some p → p.1 ≠ b
  inj : ∀ i j bi bj p q, i ≠ j → H[i]? = some bi → H[j]? = some bj → own bi = true → own bj = true → α i = some p → α j = some q → p.1 ≠ q.1

theorem BOk.congr {α : Al} {w0 w w' : World} {i : Nat} {b : Blk} (h : BOk α w0 w i b) (hw : ∀ p, α i = some p → w'.heap[p.1]? = w.heap[p.1]?) : BOk α w0 w' i b := by
  cases b with
  | dead => trivial
  | siter s pos =>
    obtain ⟨b, h1, h2, h3⟩ := h
    exact ⟨b, h1, h2, by rw [hw _ h1]; exact h3⟩
  | mp es =>
    obtain ⟨b, es', clk, h1, h2, h3, h4⟩ := h
    exact ⟨b, es', clk, h1, h2, by rw [hw _ h1]; exact h3, h4⟩
  | cells c m fz =>
    obtain ⟨b, sh, pre, c', post, ty, lo, hi, h1, h2, h3⟩ := h
    exact ⟨b, sh, pre, c', post, ty, lo, hi, h1, by rw [hw _ h1]; exact h2, h3⟩

theorem BOk.mono {α β : Al} (hl : α.le β) {w0 w : World} {i : Nat} {b : Blk} (h : BOk α w0 w i b) : BOk β w0 w i b := by
  cases b with
  | dead => trivial
  | siter s pos =>
    obtain ⟨b, h1, h2, h3⟩ := h
    exact ⟨b, (hl.at' _ _ h1).1, h2, h3⟩
  | mp es =>
    obtain ⟨b, es', clk, h1, h2, h3, h4⟩ := h
    exact ⟨b, es', clk, (hl.at' _ _ h1).1, h2, h3, h4.mono hl⟩
  | cells c m fz =>
    obtain ⟨b, sh, pre, c', post, ty, lo, hi, h1, h2, h3, h4, h5, h6⟩ := h
    exact ⟨b, sh, pre, c', post, ty, lo, hi, (hl.at' _ _ h1).1, h2, h3, h4.mono hl, h5, fun hm => ⟨(h6 hm).1, (h6 hm).2.1, ((hl.at' _ _ h1).2).trans (h6 hm).2.2.1, (h6 hm).2.2.2⟩⟩

/-- A block that is the call's own lies from w0's end on. -/
theorem BOk.ge {α : Al} {w0 w : World} {i : Nat} {b : Blk} (h : BOk α w0 w i b) (ho : own b = true) {p : Nat × Nat} (hp : α i = some p) : w0.heap.size ≤ p.1 := by
  cases b with
  | dead => simp [own] at ho
  | siter s pos =>
    obtain ⟨b, h1, h2, h3⟩ := h
    rw [h1] at hp; cases hp; exact h2
  | mp es =>
    obtain ⟨b, es', clk, h1, h2, h3, h4⟩ := h
    rw [h1] at hp; cases hp; exact h2
  | cells c m fz =>
    obtain ⟨b, sh, pre, c', post, ty, lo, hi, h1, h2, h3, h4, h5, h6⟩ := h
    rw [h1] at hp; cases hp
    exact (h6 (by intro e; subst e; simp [own] at ho)).1

theorem BOk.lt {α : Al} {w0 w : World} {i : Nat} {b : Blk} (h : BOk α w0 w i b) (hb : b ≠ .dead) {p : Nat × Nat} (hp : α i = some p) : p.1 < w.heap.size := by
  cases b with
  | dead => simp at hb
  | siter s pos =>
    obtain ⟨b, h1, h2, h3⟩ := h
    rw [h1] at hp; cases hp
    exact (Array.getElem?_eq_some_iff.1 h3).1
  | mp es =>
    obtain ⟨b, es', clk, h1, h2, h3, h4⟩ := h
    rw [h1] at hp; cases hp
    exact (Array.getElem?_eq_some_iff.1 h3).1
  | cells c m fz =>
    obtain ⟨b, sh, pre, c', post, ty, lo, hi, h1, h2, _⟩ := h
    rw [h1] at hp; cases hp
    exact (Array.getElem?_eq_some_iff.1 h2).1

theorem Sim.drawn {α : Al} {w0 w : World} {H : Heap} (h : Sim α w0 H w) (n : Nat) : Sim α w0 H { w with drawn := n } :=
  ⟨h.lt, h.dom, ⟨h.below.os, h.below.tape, h.below.output, h.below.size, h.below.block⟩, fun i b e => (h.blk i b e).congr fun _ _ => rfl, h.gh, h.inj⟩

/-- New memory. -/
def Al.ext (α : Al) (i : Nat) (p : Nat × Nat) (t : Nat) : Al := ⟨fun j => if j = i then some p else α j, fun k => if k = p.1 then t else α.tot k, α.gh⟩
theorem Al.le_ext {α : Al} {i : Nat} {p : Nat × Nat} {t : Nat} (h : α i = none) (ht : ∀ j q, α j = some q → q.1 = p.1 → α.tot p.1 = t) : α.le (α.ext i p t) := by
  refine ⟨?_, fun _ h => h⟩
  intro j q hq
  constructor
  · show (if j = i then some p else α j) = some q
    split
    · rename_i e; subst e; rw [h] at hq; cases hq
    · exact hq
  · show (if q.1 = p.1 then t else α.tot q.1) = α.tot q.1
    split
    · rename_i e; rw [e]; exact (ht j q hq e).symm
    · rfl

theorem Al.ext_new (α : Al) (i : Nat) (p : Nat × Nat) (t : Nat) : (α.ext i p t) i = some p := by simp [Al.ext]
theorem Al.ext_old (α : Al) {i j : Nat} (p : Nat × Nat) (t : Nat) (h : j ≠ i) : (α.ext i p t) j = α j := by simp [Al.ext, h]
theorem Al.ext_tot (α : Al) (i : Nat) (p : Nat × Nat) (t : Nat) : (α.ext i p t).tot p.1 = t := by simp [Al.ext]

theorem heap_alloc_new (w : World) (o : Obj) : (w.alloc o).heap[w.heap.size]? = some o := by
  show (w.heap.push o)[w.heap.size]? = some o
  simp
theorem heap_alloc_lt (w : World) (o : Obj) {k : Nat} (h : k < w.heap.size) : (w.alloc o).heap[k]? = w.heap[k]? := by
  show (w.heap.push o)[k]? = _
  rw [Array.getElem?_push, if_neg (by omega)]

theorem push_get_lt {H : Heap} {b : Blk} {i : Nat} (h : i < H.length) : (push H b)[i]? = H[i]? := by
  simp [push, List.getElem?_append_left h]
theorem push_get_new {H : Heap} {b : Blk} : (push H b)[H.length]? = some b := by simp [push]
theorem push_get {H : Heap} {b x : Blk} {i : Nat} (h : (push H b)[i]? = some x) : (i < H.length ∧ H[i]? = some x) ∨ (i = H.length ∧ x = b) := by
  rcases Nat.lt_trichotomy i H.length with hl | hl | hl
  · exact .inl ⟨hl, by rwa [push_get_lt hl] at h⟩
  · subst hl; rw [push_get_new] at h; exact .inr ⟨rfl, by cases h; rfl⟩
  · have : (push H b)[i]? = none := by rw [List.getElem?_eq_none]; simp [push]; omega
    rw [this] at h; cases h

theorem Sim.le_ext {α : Al} {w0 w : World} {H : Heap} (h : Sim α w0 H w) (t : Nat) : α.le (α.ext H.length (w.heap.size, 0) t) :=
  Al.le_ext (h.dom _ (Nat.le_refl _)) fun j q hq e => absurd (h.lt j q hq) (by simp only at e; omega)

theorem Sim.grow {α : Al} {w0 w w' : World} {H : Heap} (h : Sim α w0 H w) {b : Blk} {t : Nat} (hB : Below w.heap.size w w') (hsz : w.heap.size < w'.heap.size)
    (hb : BOk (α.ext H.length (w.heap.size, 0) t) w0 w' H.length b) :
    Sim (α.ext H.length (w.heap.size, 0) t) w0 (push H b) w' := by
  have hle := h.le_ext t
  have hold : ∀ i x p, i < H.length → H[i]? = some x → x ≠ .dead → (α.ext H.length (w.heap.size, 0) t) i = some p → α i = some p ∧ p.1 < w.heap.size := by
    intro i x p hi hx hd hp
    rw [Al.ext_old α _ t (Nat.ne_of_lt hi)] at hp
    exact ⟨hp, h.lt i p hp⟩
  refine ⟨?_, ?_, ?_, ?_, ?_, ?_⟩
  · intro i p hp
    by_cases e : i = H.length
    · subst e; rw [Al.ext_new] at hp; cases hp; exact hsz
    · rw [Al.ext_old α _ t e] at hp
      have := h.lt i p hp; omega
  · intro i hi
    simp only [push, List.length_append, List.length_singleton] at hi
    rw [Al.ext_old α _ t (by omega)]
    exact h.dom i (by omega)
  · exact h.below.trans (hB.mono h.below.size)
  · intro i x hx
    rcases push_get hx with ⟨hi, hx⟩ | ⟨rfl, rfl⟩
    · by_cases hd : x = .dead
      · subst hd; trivial
      · refine ((h.blk i x hx).mono hle).congr ?_
        intro p hp
        exact hB.block _ (hold i x p hi hx hd hp).2
    · exact hb
  · intro bb oo hm
    obtain ⟨g1, g2, g3⟩ := h.gh bb oo hm
    have hlt : bb < w.heap.size := (Array.getElem?_eq_some_iff.1 g2).1
    refine ⟨g1, (hB.block bb hlt).trans g2, ?_⟩
    intro i x p hx ox hp
    rcases push_get hx with ⟨li, gi⟩ | ⟨rfl, rfl⟩
    · exact g3 i x p gi ox (hold i x p li gi (by rintro rfl; simp [own] at ox) hp).1
    · rw [Al.ext_new] at hp; cases hp
      simp only; omega
  · intro i j bi bj p q hij hi hj oi oj hp hq
    rcases push_get hi with ⟨li, gi⟩ | ⟨rfl, rfl⟩
    · rcases push_get hj with ⟨lj, gj⟩ | ⟨rfl, rfl⟩
      · exact h.inj i j bi bj p q hij gi gj oi oj (hold i bi p li gi (by rintro rfl; simp [own] at oi) hp).1 (hold j bj q lj gj (by rintro rfl; simp [own] at oj) hq).1
      · rw [Al.ext_new] at hq; cases hq
        have := (hold i bi p li gi (by rintro rfl; simp [own] at oi) hp).2
        simp only; omega
    · rcases push_get hj with ⟨lj, gj⟩ | ⟨rfl, rfl⟩
      · rw [Al.ext_new] at hp; cases hp
        have := (hold j bj q lj gj (by rintro rfl; simp [own] at oj) hq).2
        simp only; omega
      · exact absurd rfl hij

theorem below_alloc (w : World) (o : Obj) : Below w.heap.size w (w.alloc o) := (Below.refl _ w).alloc (Nat.le_refl _) o

/-- A new block of cells, whatever else has turned. -/
theorem Sim.grow_cells {α : Al} {w0 w w' : World} {H : Heap} (h : Sim α w0 H w) (hB : Below w.heap.size w w') {c c' post : List Value} (hc : VRs α c c') (m : Mode) (hm : m ≠ .ro) (fz : Nat) {ty : TypeId} {fr : Nat × Nat} (hmt : ∀ t, m = .loose (some t) → ty = t ∧ fr.2 ≤ fz) (hmf : ∀ t, m = .fix (some t) → ty = t ∧ post = [])
    (hw : w'.heap[w.heap.size]? = some (.cells ⟨c' ++ post⟩ ty fr)) (hfr : ∀ j, j < c.length + post.length → ¬ (fr.1 ≤ j ∧ j < fr.2)) :
    Sim (α.ext H.length (w.heap.size, 0) (c.length + post.length)) w0 (push H (.cells c m fz)) w' := by
  have hsz : w.heap.size < w'.heap.size := (Array.getElem?_eq_some_iff.1 hw).1
  refine h.grow hB hsz ?_
  refine ⟨w.heap.size, 0, [], c', post, ty, fr.1, fr.2, Al.ext_new _ _ _ _, ?_, rfl, hc.mono (h.le_ext _), fun e => absurd e hm, fun _ => ⟨h.below.size, ?_, ?_⟩⟩
  · rw [hw]; simp
  · intro j _ hj; exact hfr j (by omega)
  · rw [Al.ext_tot]; exact ⟨by omega, fun t ht => ⟨(hmt t ht).1, by simpa using (hmt t ht).2⟩, fun t ht => ⟨(hmf t ht).1, rfl, (hmf t ht).2⟩⟩

theorem Sim.alloc_cells {α : Al} {w0 w : World} {H : Heap} (h : Sim α w0 H w) {c c' : List Value} (hc : VRs α c c') (m : Mode) (hm : m ≠ .ro) (ty : TypeId) (hmt : ∀ t, m = .loose (some t) → ty = t) (hmf : ∀ t, m = .fix (some t) → ty = t) :
    Sim (α.ext H.length (w.heap.size, 0) c.length) w0 (push H (.cells c m 0)) (w.alloc (.cells ⟨c'⟩ ty)) := by
  have := h.grow_cells (below_alloc w (.cells ⟨c'⟩ ty)) hc m hm 0 (fr := (0, 0)) (fun t ht => ⟨hmt t ht, Nat.le_refl _⟩) (fun t ht => ⟨hmf t ht, rfl⟩) (post := []) (ty := ty) (by rw [heap_alloc_new]; simp) (by intro j _; omega)
  simpa using this

/-- Reading. -/
theorem cell?_of {w : World} {b k : Nat} {cs : List Value} {ty : TypeId} {fr : Nat × Nat} (h : w.heap[b]? = some (.cells ⟨cs⟩ ty fr)) : w.cell? ⟨b, k, none⟩ = cs[k]? := by
  simp [World.cell?, h]

theorem mid_get {pre c post : List Value} {o : Nat} (h : o < c.length) : (pre ++ c ++ post)[pre.length + o]? = c[o]? := by
  rw [List.append_assoc, List.getElem?_append_right (by omega)]
  rw [show pre.length + o - pre.length = o by omega]
  exact List.getElem?_append_left h

theorem Sim.cell {α : Al} {w0 w : World} {H : Heap} (h : Sim α w0 H w) {i o : Nat} {c : List Value} {m : Mode} {fz : Nat} (hb : H[i]? = some (.cells c m fz)) {v : Value} (hv : c[o]? = some v)
    {b sh : Nat} (ha : α i = some (b, sh)) : ∃ v', w.cell? ⟨b, sh + o, none⟩ = some v' ∧ VR α v v' := by
  obtain ⟨b', sh', pre, c', post, ty, lo, hi, h1, h2, h3, h4, _⟩ := h.blk i _ hb
  rw [ha] at h1; cases h1
  obtain ⟨v', hv', hr⟩ := h4.get hv
  refine ⟨v', ?_, hr⟩
  rw [cell?_of h2, ← h3, mid_get (List.getElem?_eq_some_iff.1 hv').1]
  exact hv'

theorem get1_cell {α : Al} {w0 w : World} {H : Heap} (h : Sim α w0 H w) {i o : Nat} {v : Value} (hv : get1 H i o = some v)
    {b sh : Nat} (ha : α i = some (b, sh)) : ∃ v', w.cell? ⟨b, sh + o, none⟩ = some v' ∧ VR α v v' := by
  unfold get1 at hv
  split at hv
  · rename_i c m fz hb; exact h.cell hb hv ha
  · simp at hv

theorem add_none (b k n : Nat) : (⟨b, k, none⟩ : Addr).add n = ⟨b, k + n, none⟩ := by
  unfold Addr.add; split
  · subst_vars; rfl
  · rfl

theorem getN_cells {α : Al} {w0 w : World} {H : Heap} (h : Sim α w0 H w) {i o n : Nat} {l : List Value} (hv : getN H i o n = some l)
    {b sh : Nat} (ha : α i = some (b, sh)) (P : Program) : ∃ l', (loadCells ⟨b, sh + o, none⟩ n).run P w = .ok ⟨l'⟩ w ∧ VRs α l l' ∧ l.length = n := by
  unfold getN at hv
  split at hv
  · rename_i c m fz hb
    split at hv
    · rename_i hle
      simp only [Option.some.injEq] at hv
      subst hv
      obtain ⟨b', sh', pre, c', post, ty, lo, hi, h1, h2, h3, h4, _⟩ := h.blk i _ hb
      rw [ha] at h1; cases h1
      have hlen := h4.length
      have hl : ((c'.drop o).take n).length = n := by simp; omega
      refine ⟨(c'.drop o).take n, ?_, (h4.drop o).take n, by simp; omega⟩
      have := run_loadCells_list (P := P) (w := w) ⟨b, sh + o, none⟩ ((c'.drop o).take n) (by
        intro j v hj
        have hjn : j < n := by
          have := (List.getElem?_eq_some_iff.1 hj).1
          omega
        rw [add_none, cell?_of h2, ← h3, Nat.add_assoc, mid_get (by omega)]
        rw [List.getElem?_take, if_pos hjn, List.getElem?_drop] at hj
        exact hj)
      rw [hl] at this
      exact this
    · simp at hv
  · simp at hv

/-- Writing. -/
theorem setCell_heap {w : World} {b k : Nat} {cs : List Value} {ty : TypeId} {fr : Nat × Nat} (h : w.heap[b]? = some (.cells ⟨cs⟩ ty fr)) (v : Value) :
    (w.setCell ⟨b, k, none⟩ v).heap[b]? = some (.cells ⟨cs.set k v⟩ ty fr) := by
  simp only [World.setCell, Array.getElem?_modify, if_true, h, Option.map_some]
  simp

theorem setCell_heap_ne {w : World} {b k j : Nat} (h : j ≠ b) (v : Value) : (w.setCell ⟨b, k, none⟩ v).heap[j]? = w.heap[j]? := by
  simp only [World.setCell, Array.getElem?_modify]
  rw [if_neg (fun e => h e.symm)]

theorem frozen?_of {w : World} {b k : Nat} {cs : List Value} {ty : TypeId} {lo hi : Nat} (h : w.heap[b]? = some (.cells ⟨cs⟩ ty (lo, hi))) : w.frozen? ⟨b, k, none⟩ = (decide (lo ≤ k) && decide (k < hi)) := by
  simp [World.frozen?, h]

theorem run_store {P : Program} {w : World} {b k : Nat} {cs : List Value} {ty : TypeId} {lo hi : Nat} (h : w.heap[b]? = some (.cells ⟨cs⟩ ty (lo, hi))) (hk : k < cs.length) (hf : ¬ (lo ≤ k ∧ k < hi))
    {v : Value} (hv : one v = true) : (store ⟨b, k, none⟩ v).run P w = .ok () (w.setCell ⟨b, k, none⟩ v) := by
  have h1 : w.cell? ⟨b, k, none⟩ = some cs[k] := by rw [cell?_of h]; simp [hk]
  have h2 : w.frozen? ⟨b, k, none⟩ = false := by
    rw [frozen?_of h]
    cases e : (decide (lo ≤ k) && decide (k < hi)) with
    | false => rfl
    | true => simp at e; exact absurd e hf
  cases v <;> simp [one] at hv <;> simp [store, Sem.run, h1, h2]

theorem run_storeCells {P : Program} {b : Nat} {ty : TypeId} {lo hi : Nat} : ∀ (vs : List Value) (k i : Nat) (cs : List Value) (w : World),
    w.heap[b]? = some (.cells ⟨cs⟩ ty (lo, hi)) → k + i + vs.length ≤ cs.length → (∀ j, k + i ≤ j → j < k + i + vs.length → ¬ (lo ≤ j ∧ j < hi)) → vs.all one = true →
    ∃ w', (storeCells ⟨b, k, none⟩ vs i).run P w = .ok () w' ∧ w'.heap[b]? = some (.cells ⟨splice cs (k + i) vs⟩ ty (lo, hi)) ∧ (∀ j, j ≠ b → w'.heap[j]? = w.heap[j]?) ∧
      w'.heap.size = w.heap.size ∧ w'.os = w.os ∧ w'.tape = w.tape ∧ w'.output = w.output
  | [], k, i, cs, w, h, hl, hf, hv => ⟨w, rfl, by simp [splice, h], fun _ _ => rfl, rfl, rfl, rfl, rfl⟩
  | v :: vs, k, i, cs, w, h, hl, hf, hv => by
    simp only [List.length_cons] at hl hf
    simp only [List.all_cons, Bool.and_eq_true] at hv
    have h1 := run_store (P := P) h (k := k + i) (by omega) (hf (k + i) (by omega) (by omega)) hv.1
    obtain ⟨w', r1, r2, r3, r4, r5, r6, r7⟩ := run_storeCells (P := P) vs k (i + 1) (cs.set (k + i) v) (w.setCell ⟨b, k + i, none⟩ v) (setCell_heap h v) (by simp; omega) (fun j a c => hf j (by omega) (by omega)) hv.2
    refine ⟨w', ?_, ?_, ?_, ?_, ?_, ?_, ?_⟩
    · simp only [storeCells, add_none]
      show Sem.run P (Sem.bind (store ⟨b, k + i, none⟩ v) fun _ => storeCells ⟨b, k, none⟩ vs (i + 1)) w = _
      rw [Sem.run_bind', h1]
      exact r1
    · rw [r2]
      congr 3
      unfold splice
      have e1 : (cs.set (k + i) v).take (k + (i + 1)) = cs.take (k + i) ++ [v] := by
        rw [show k + (i + 1) = (k + i) + 1 by omega, List.take_add_one]
        rw [List.take_set_of_le (Nat.le_refl _)]
        simp [List.getElem?_set]
        omega
      have e2 : (cs.set (k + i) v).drop (k + (i + 1) + vs.length) = cs.drop (k + i + (v :: vs).length) := by
        rw [List.drop_set_of_lt (by omega)]
        congr 1
        simp; omega
      rw [e1, e2]; simp
    · intro j hj; rw [r3 j hj, setCell_heap_ne hj]
    · rw [r4]; simp
    · rw [r5]; rfl
    · rw [r6]; rfl
    · rw [r7]; rfl

theorem splice_nil (c : List Value) (o : Nat) : splice c o [] = c := by simp [splice]
theorem splice_length {c vs : List Value} {o : Nat} (h : o + vs.length ≤ c.length) : (splice c o vs).length = c.length := by
  unfold splice; simp; omega

theorem splice_mid {pre c post vs : List Value} {o : Nat} (h : o + vs.length ≤ c.length) : splice (pre ++ c ++ post) (pre.length + o) vs = pre ++ splice c o vs ++ post := by
  unfold splice
  have e1 : (pre ++ c ++ post).take (pre.length + o) = pre ++ c.take o := by
    rw [List.append_assoc, List.take_append, List.take_of_length_le (by omega)]
    rw [show pre.length + o - pre.length = o by omega, List.take_append, show o - c.length = 0 by omega]
    simp
  have e2 : (pre ++ c ++ post).drop (pre.length + o + vs.length) = c.drop (o + vs.length) ++ post := by
    rw [List.append_assoc, List.drop_append, List.drop_of_length_le (by omega)]
    rw [show pre.length + o + vs.length - pre.length = o + vs.length by omega, List.drop_append, show o + vs.length - c.length = 0 by omega]
    simp
  rw [e1, e2]; simp

theorem Below.of_frame {w0 w w' : World} (h : Below w0.heap.size w0 w) {b : Nat} (hb : w0.heap.size ≤ b) (r3 : ∀ j, j ≠ b → w'.heap[j]? = w.heap[j]?) (r4 : w'.heap.size = w.heap.size) (r5 : w'.os = w.os) (r6 : w'.tape = w.tape)
    (r7 : w'.output = w.output) : Below w0.heap.size w0 w' :=
  ⟨r5.trans h.os, r6.trans h.tape, r7.trans h.output, by rw [r4]; exact h.size, fun k hk => (r3 k (by omega)).trans (h.block k hk)⟩

theorem set_get {H : Heap} {i j : Nat} {b x : Blk} (h : (H.set i b)[j]? = some x) : (j = i ∧ x = b) ∨ (j ≠ i ∧ H[j]? = some x) := by
  by_cases e : i = j
  · subst e
    left
    have hl : i < H.length := by have := (List.getElem?_eq_some_iff.1 h).1; simpa using this
    rw [List.getElem?_set_self hl] at h
    cases h; exact ⟨rfl, rfl⟩
  · right
    rw [List.getElem?_set_ne e] at h
    exact ⟨fun x => e x.symm, h⟩

/-- A block of the call's own is turned into another one, at the same place. -/
theorem Sim.turn {α : Al} {w0 w w' : World} {H : Heap} (h : Sim α w0 H w) {i : Nat} {x y : Blk} (hx : H[i]? = some x) (ox : own x = true) {b sh : Nat} (ha : α i = some (b, sh))
    (hy : BOk α w0 w' i y) (hB : Below w0.heap.size w0 w') (hsz : w'.heap.size = w.heap.size) (hw : ∀ j, j ≠ b → w'.heap[j]? = w.heap[j]?) : Sim α w0 (H.set i y) w' := by
  have hbge := (h.blk i x hx).ge ox ha
  refine ⟨fun j p hp => by rw [hsz]; exact h.lt j p hp, ?_, hB, ?_, ?_, ?_⟩
  · intro j hj; exact h.dom j (by simpa using hj)
  · intro j z hz
    rcases set_get hz with ⟨rfl, rfl⟩ | ⟨hne, hz⟩
    · exact hy
    · by_cases hd : z = .dead
      · subst hd; trivial
      · refine (h.blk j z hz).congr ?_
        intro p hp
        refine hw _ ?_
        by_cases oz : own z = true
        · exact h.inj j i z x p (b, sh) hne hz hx oz ox hp ha
        · intro e
          cases z with
          | dead => exact hd rfl
          | siter s q => simp [own] at oz
          | mp es => simp [own] at oz
          | cells c m fz =>
            have hm : m = .ro := by cases m <;> simp [own] at oz ⊢
            obtain ⟨b', sh', pre, c', post, ty, lo, hi, h1, h2, h3, h4, h5, _⟩ := h.blk j _ hz
            rw [hp] at h1; cases h1
            have := h5 hm
            simp only at e; omega
  · intro bb oo hm
    obtain ⟨g1, g2, g3⟩ := h.gh bb oo hm
    have hne : b ≠ bb := g3 i x (b, sh) hx ox ha
    refine ⟨g1, (hw bb (fun e => hne e.symm)).trans g2, ?_⟩
    intro j z p hz oz hp
    rcases set_get hz with ⟨rfl, rfl⟩ | ⟨hnj, hz⟩
    · rw [ha] at hp; cases hp; exact hne
    · exact g3 j z p hz oz hp
  · intro j k bj bk p q hjk hj hk oj ok hp hq
    rcases set_get hj with ⟨ej, ej'⟩ | ⟨hnj, gj⟩
    · rcases set_get hk with ⟨ek, ek'⟩ | ⟨hnk, gk⟩
      · exact absurd (ej.trans ek.symm) hjk
      · subst ej; exact h.inj j k x bk p q hjk hx gk ox ok hp hq
    · rcases set_get hk with ⟨ek, ek'⟩ | ⟨hnk, gk⟩
      · subst ek; exact h.inj j k bj x p q hjk gj hx oj ox hp hq
      · exact h.inj j k bj bk p q hjk gj gk oj ok hp hq

theorem Sim.put {α : Al} {w0 w : World} {H H' : Heap} (h : Sim α w0 H w) {i o : Nat} {vs vs' : List Value} (hp : putN H i o vs = some H') (hv : VRs α vs vs') (P : Program) {b sh : Nat} (ha : α i = some (b, sh)) :
    ∃ w', (storeCells ⟨b, sh + o, none⟩ vs').run P w = .ok () w' ∧ Sim α w0 H' w' := by
  unfold putN at hp
  split at hp
  · rename_i he
    simp only [Option.some.injEq] at hp
    subst hp
    have : vs = [] := by simpa using he
    subst this
    cases hv
    exact ⟨w, rfl, h⟩
  · split at hp
    · rename_i c m fz hb
      split at hp
      · rename_i hc
        obtain ⟨hm, hfz, hle, hone⟩ := hc
        simp only [Option.some.injEq] at hp
        subst hp
        obtain ⟨b', sh', pre, c', post, ty, lo, hi, h1, h2, h3, h4, h5, h6⟩ := h.blk i _ hb
        rw [ha] at h1; cases h1
        obtain ⟨h7, h8, h9, h10⟩ := h6 hm
        have hl := hv.length
        have hl' := h4.length
        obtain ⟨w', r1, r2, r3, r4, r5, r6, r7⟩ := run_storeCells (P := P) vs' (sh + o) 0 (pre ++ c' ++ post) w h2 (by simp; omega) (fun j hj1 hj2 => h8 j (by omega) (by omega)) (hv.one hone)
        refine ⟨w', r1, ?_⟩
        have hown : own (.cells c m fz) = true := by cases m <;> simp_all [own]
        refine h.turn hb hown ha ?_ (Below.of_frame h.below h7 r3 r4 r5 r6 r7) r4 r3
        refine ⟨b, sh, pre, splice c' o vs', post, ty, lo, hi, ha, ?_, h3, h4.splice o hv, fun e => absurd e hm, fun _ => ⟨h7, ?_, by rw [splice_length (by omega)]; exact h9, h10⟩⟩
        · rw [r2, Nat.add_zero, ← h3, splice_mid (by omega)]
        · intro j hj1 hj2
          rw [splice_length (by omega)] at hj2
          exact h8 j hj1 hj2
      · simp at hp
    · simp at hp

/-- A row that nobody turns. -/
def Al.ghost (α : Al) (b : Nat) (o : Obj) : Al := ⟨α.at_, α.tot, (b, o) :: α.gh⟩
theorem Al.le_ghost (α : Al) (b : Nat) (o : Obj) : α.le (α.ghost b o) := ⟨fun _ _ h => ⟨h, rfl⟩, fun _ h => List.mem_cons_of_mem _ h⟩
theorem Sim.ghost {α : Al} {w0 w : World} {H : Heap} (h : Sim α w0 H w) (o : Obj) : Sim (α.ghost w.heap.size o) w0 H (w.alloc o) := by
  have hB := below_alloc w o
  have hle := Al.le_ghost α w.heap.size o
  have hsz : w.heap.size < (w.alloc o).heap.size := by show w.heap.size < (w.heap.push o).size; simp
  refine ⟨fun i p hp => by have := h.lt i p hp; omega, h.dom, h.below.trans (hB.mono h.below.size), ?_, ?_, h.inj⟩
  · intro i b hb
    exact ((h.blk i b hb).mono hle).congr fun p hp => hB.block _ (h.lt i p hp)
  · intro bb oo hm
    rcases List.mem_cons.1 hm with e | hm
    · cases e
      refine ⟨h.below.size, heap_alloc_new w o, fun i x p hx ox hp => ?_⟩
      have := h.lt i p hp; omega
    · obtain ⟨g1, g2, g3⟩ := h.gh bb oo hm
      exact ⟨g1, (hB.block bb (Array.getElem?_eq_some_iff.1 g2).1).trans g2, g3⟩

end Ve
end Go.Proofs.YtnociodpfmlglaaGreatDoor

/-
  Operations: from the model's to the deterministic machine's, and that what the latter computes the former does. First part: operations that don't look at memory.
-/
set_option linter.unusedVariables false
set_option linter.unusedSimpArgs false
namespace Go.Proofs.YtnociodpfmlglaaGreatDoor
namespace Ve
open Go Go.RowKit

def cells? (P : Program) (t : TypeId) : Option Nat := (P.info? t).map (·.size)

/-- none: one cell; some n: an aggregate of n cells. -/
def shapeOf (P : Program) (t : TypeId) : Option (Option Nat) :=
  match P.underlying t with
  | some (.struct _) | some (.array _ _) => (cells? P t).map some
  | some _ => some none
  | none => none

def zeroCells (P : Program) (t : TypeId) : Option (List Value) :=
  match (P.info? t).bind (·.zero) with
  | some z => if z.cells.toList.all isLit then some z.cells.toList else none
  | none => none

def flatTy (P : Program) (t : TypeId) : Option SK :=
  match P.underlying t with
  | some (.int _) => some .i
  | some .string => some .s
  | some .bool => some .b
  | _ => none

def flatFields (P : Program) : List Field → Nat → Option (List SK)
  | [], _ => some []
  | f :: r, i =>
    match flatTy P f.type, flatFields P r (i + 1) with
    | some k, some l => if f.name != "_" && f.offset == i then some (k :: l) else none
    | _, _ => none

/-- A struct whose fields are numbers, texts and truths, none of them blank: their kinds. -/
def flat (P : Program) (t : TypeId) : Option (List SK) :=
  match P.underlying t with
  | some (.struct fs) => if !P.eqGuardType P.depth t && !P.stoodInHeld t then flatFields P fs.toList 0 else none
  | _ => none

def partsOf (places : Nat → Option (Nat × Nat)) : List (Nat × Operand) → Option (List (Nat × Nat × Operand))
  | [] => some []
  | (i, x) :: r =>
    match places i with
    | some (off, size) => (partsOf places r).map ((off, size, x) :: ·)
    | none => none

def placesOf (P : Program) : List Field → Option (List (Nat × Nat))
  | [] => some []
  | f :: r => match cells? P f.type, placesOf P r with | some n, some l => some ((f.offset, n) :: l) | _, _ => none

def isU8 (P : Program) (e : TypeId) : Bool := match P.underlying e with | some (.int .u8) => true | _ => false

def compBin (P : Program) (op : BinOp) (t : TypeId) (x y : Operand) : Option I :=
  match op, P.underlying t with
  | .eql, some .bool => some (.eqb false x y)
  | .neq, some .bool => some (.eqb true x y)
  | .eql, some (.pointer e) => (P.info? e).map fun _ => .eqp false x y
  | .neq, some (.pointer e) => (P.info? e).map fun _ => .eqp true x y
  | .eql, some (.slice _) => some (.eqn false .sl x y)
  | .neq, some (.slice _) => some (.eqn true .sl x y)
  | .eql, some (.map _ _) => some (.eqn false .mp x y)
  | .neq, some (.map _ _) => some (.eqn true .mp x y)
  | .eql, some (.func _ _ _) => some (.eqn false .fn x y)
  | .neq, some (.func _ _ _) => some (.eqn true .fn x y)
  | .eql, some (.interface _) => match y with | .const .nilIface => some (.eqn false .ifc x y) | _ => none
  | .neq, some (.interface _) => match y with | .const .nilIface => some (.eqn true .ifc x y) | _ => none
  | .eql, some (.struct _) => (flat P t).map fun ks => .eqs false ks x y
  | .neq, some (.struct _) => (flat P t).map fun ks => .eqs true ks x y
  | op, some (.int _) | op, some .string => some (.bin op x y)
  | _, _ => none

def compCall (P : Program) (c : Call) : Option I :=
  match c.callee with
  | .value f => some (.call f c.args.toList)
  | .builtin .len =>
    match (c.argTypes[0]?).bind P.underlying, c.args.toList with
    | some .string, [x] => some (.len true x)
    | some (.slice _), [x] => some (.len false x)
    | _, _ => none
  | .builtin .cap =>
    match (c.argTypes[0]?).bind P.underlying, c.args.toList with
    | some (.slice _), [x] => some (.capx x)
    | _, _ => none
  | .builtin .min => some (.minmax false c.args.toList)
  | .builtin .max => some (.minmax true c.args.toList)
  | .builtin .append =>
    match (c.argTypes[0]?).bind P.underlying, (c.argTypes[1]?).bind P.underlying, c.args.toList with
    | some (.slice e), some (.slice _), [s, x] | some (.slice e), some .string, [s, x] => (P.info? e).bind fun i => if (i.zero.map fun z => z.cells.size) = some i.size then some (.append e i.size i.bytes s x) else none
    | _, _, _ => none
  | .builtin .copy =>
    match (c.argTypes[0]?).bind P.underlying, c.args.toList with
    | some (.slice e), [d, x] => (cells? P e).map fun n => .copy n d x
    | _, _ => none
  | .builtin .unsafeSliceData => match c.args.toList with | [x] => some (.uslice x) | _ => none
  | .builtin .unsafeString =>
    match (c.argTypes[0]?).bind P.underlying, c.args.toList with
    | some (.pointer e), [p, n] => if P.cellsOf e = 1 then some (.ustr e p n) else none
    | _, _ => none
  | _ => none

/-- The types of one variable at whose head a variable of type u lies, and their sizes. -/
def typesAt (P : Program) (u : TypeId) : List (Nat × Nat) :=
  (List.range P.types.size).filterMap fun t => if 0 < P.cellsOf t ∧ liesAt P P.depth t 1 0 u 1 = true then some (t, P.cellsOf t) else none

def compConv (P : Program) (src dst : TypeId) (x : Operand) : Option I :=
  match P.underlying src, P.underlying dst with
  | some (.int _), some (.int k) => some (.toint k x)
  | some .string, some .string => some (.tostr x)
  | some .string, some (.slice e) => if isU8 P e then some (.s2b x) else none
  | some (.slice e), some .string => if isU8 P e then some (.b2s x) else none
  | some (.pointer t), some .unsafePointer => match cells? P t with | some (_ + 1) => some (.uof x) | _ => none
  | some .unsafePointer, some (.pointer u) => (P.info? u).map fun _ => .upt (typesAt P u) x
  | _, _ => none

def fieldOf (P : Program) (s : TypeId) (k : Nat) : Option Field :=
  match P.underlying s with
  | some (.struct fs) => fs[k]?
  | _ => none

def isAggV : Value → Bool | .agg _ => true | _ => false

def compOp (P : Program) (gs : Bool) (o : Oper) : Option I :=
  match o.op with
  | .move x | .assign x => some (.mov x)
  | .pick c a b => some (.pick c a b)
  | .alloc t => (zeroCells P t).map (.new t)
  | .box t x => some (.box t x)
  | .build t parts =>
    match zeroCells P t, P.underlying t with
    | some z, some (.struct fs) => (placesOf P fs.toList).bind fun pl => (partsOf (pl[·]?) parts.toList).map (.build z)
    | some z, some (.array _ e) => (cells? P e).bind fun n => (partsOf (fun i => some (i * n, n)) parts.toList).map (.build z)
    | _, _ => none
  | .buildSlice t len parts =>
    match P.underlying t with
    | some (.slice e) =>
      match cells? P e, zeroCells P e with
      | some n, some z => if len * n ≤ 2 ^ 24 ∧ 0 < n ∧ z.length = n then (partsOf (fun i => some (i * n, n)) parts.toList).map (if gs then .gsl len (List.replicate len z).flatten else .bslice len (List.replicate len z).flatten) else none
      | _, _ => none
    | _ => none
  | .load t a => (shapeOf P t).map fun n => .ld n a
  | .store t a x => (cells? P t).map fun n => .st n a x
  | .nilCheck x => some (.nilck x)
  | .binOp op t x y _ => compBin P op t x y
  | .unOp op _ x => some (.un op x)
  | .convert s d x => compConv P s d x
  | .makeInterface t x => match P.underlying t with | some (.interface _) => none | some _ => some (.mkif t x) | none => none
  | .makeFunc fn a c => some (.mkfn fn a.toList c.toList)
  | .makeSlice t l c =>
    match P.underlying t with
    | some (.slice e) =>
      match P.info? e, zeroCells P e with
      | some i, some z => if 0 < i.size ∧ z.length = i.size then some (.mksl z i.bytes l c) else none
      | _, _ => none
    | _ => none
  | .slice t x lo hi mx =>
    match P.underlying t with
    | some .string => if mx.isNone then some (.slstr x lo hi) else none
    | some (.slice e) => (cells? P e).map fun n => .slsl n x lo hi mx
    | some (.array n e) => if mx.isNone then (cells? P e).map fun k => .slarr n k x lo hi else none
    | _ => none
  | .fieldAddr s x k => (fieldOf P s k).bind fun f => match cells? P f.type with | some (_ + 1) => some (.faddr f.offset x) | _ => none
  | .field s x k => (fieldOf P s k).bind fun f => (shapeOf P f.type).map fun n => .field f.offset n x
  | .indexAddr t x i =>
    match P.underlying t with
    | some (.slice e) => (cells? P e).map fun n => .iaddr n x i
    | some (.array len e) => if 1 < len then (cells? P e).map fun n => .iarr len n x i else none
    | _ => none
  | .index t x i =>
    match P.underlying t with
    | some .string => some (.ixstr x i)
    | some (.array len e) => (cells? P e).bind fun n => (shapeOf P e).map fun k => .ixagg len n k x i
    | _ => none
  | .extract t k => some (.ext k t)
  | .call c => compCall P c
  | .makeMap t r => match P.underlying t with | some (.map _ _) => some (.mkmap r) | _ => none
  | .lookup t x k ok =>
    match P.underlying t with
    | some (.map kt e) =>
      match P.underlying kt, (P.info? e).bind (·.zero) with
      | some .string, some z => if isLit z then some (.mlook z ok x k) else none
      | _, _ => none
    | _ => none
  | .mapUpdate t x k v =>
    match P.underlying t with
    | some (.map kt _) => match P.underlying kt with | some .string => some (.mput x k v) | _ => none
    | _ => none
  | .typeAssert x _ t ok =>
    match P.underlying t, (P.info? t).bind (·.zero) with
    | some (.interface _), _ => none
    | some _, some z => if isLit z || z.cells.toList.all isLit && isAggV z then some (.tass t z ok x) else none
    | _, _ => none
  | .panic x => some (.pan x)
  | _ => none

/-- What an operation comes to. -/
def Done (r : Result Next) (v : Value) (w : World) : Prop := r = .ok (.value v) w ∨ (r = .ok .skip w ∧ v = undef)

section
variable {P : Program} {w : World}
theorem run_und {t : TypeId} {d : TypeDesc} (h : P.underlying t = some d) : (underlying t).run P w = .ok d w := by simp [underlying, h]
theorem run_info {t : TypeId} {i : TypeInfo} (h : P.info? t = some i) : (typeInfo t).run P w = .ok i w := by simp [typeInfo, h]
theorem run_size {t : TypeId} {n : Nat} (h : cells? P t = some n) : (sizeOf t).run P w = .ok n w := by
  unfold cells? at h
  cases e : P.info? t with
  | none => rw [e] at h; cases h
  | some i => rw [e] at h; cases h; simp [sizeOf, run_info e]
theorem run_isAgg_some {t : TypeId} {n : Nat} (h : shapeOf P t = some (some n)) : (isAgg t).run P w = .ok true w ∧ (sizeOf t).run P w = .ok n w := by
  unfold shapeOf at h
  split at h
  · rename_i fs e; 
    cases k : cells? P t with
    | none => rw [k] at h; cases h
    | some m => rw [k] at h; cases h; exact ⟨by simp [isAgg, run_und e], run_size k⟩
  · rename_i l e he; 
    cases k : cells? P t with
    | none => rw [k] at h; cases h
    | some m => rw [k] at h; cases h; exact ⟨by simp [isAgg, run_und he], run_size k⟩
  · cases h
  · cases h
theorem run_isAgg_none {t : TypeId} (h : shapeOf P t = some none) : (isAgg t).run P w = .ok false w := by
  unfold shapeOf at h
  split at h
  · cases k : cells? P t <;> rw [k] at h <;> cases h
  · cases k : cells? P t <;> rw [k] at h <;> cases h
  · rename_i d h1 h2 e
    have : (isAgg t).run P w = ((match d with | .struct _ => (pure true : Sem Bool) | .array _ _ => pure true | _ => pure false)).run P w := by
      simp only [isAgg, Sem.run_bind, run_und e, Result.andThen_ok]
    rw [this]
    cases d <;> first | rfl | exact absurd rfl (h1 _) | exact absurd rfl (h2 _ _)
  · cases h
theorem run_zero {t : TypeId} {z : List Value} (h : zeroCells P t = some z) : ∃ v, (zeroValue t).run P w = .ok v w ∧ v.cells = ⟨z⟩ ∧ z.all isLit = true := by
  unfold zeroCells at h
  cases e : P.info? t with
  | none => rw [e] at h; cases h
  | some i =>
    rw [e] at h
    simp only [Option.bind_some] at h
    cases ez : i.zero with
    | none => rw [ez] at h; cases h
    | some v =>
      rw [ez] at h
      simp only at h
      split at h
      · rename_i hl
        cases h
        exact ⟨v, by simp [zeroValue, run_info e, ez], rfl, hl⟩
      · cases h
end

theorem VR.bool_inv {α : Al} {b : Bool} {v : Value} (h : VR α (.bool b) v) : v = .bool b := by cases h; rfl
theorem VR.int_inv {α : Al} {k : IntKind} {n : Int} {v : Value} (h : VR α (.int k n) v) : v = .int k n := by cases h; rfl
theorem VR.str_inv {α : Al} {s : ByteArray} {v : Value} (h : VR α (.string s) v) : v = .string s := by cases h; rfl

end Ve
end Go.Proofs.YtnociodpfmlglaaGreatDoor

/-
  Operations that don't look at memory: what the deterministic machine computes, the model does, in whatever memory.
-/
set_option linter.unusedVariables false
set_option linter.unusedSimpArgs false
namespace Go.Proofs.YtnociodpfmlglaaGreatDoor
namespace Ve
open Go Go.RowKit

/-- What an operation that doesn't look at memory owes. -/
def Quiet (P : Program) (α : Al) (o : Oper) (ρ : Operand → Value) (env : Env) (i : I) : Prop :=
  ∀ H out, evI env H i = some out → ∃ v v', out = .ret v H ∧ (∀ H2, evI env H2 i = some (.ret v H2)) ∧ VR α v v' ∧ ∀ w, Done ((execOp ρ o).run P w) v' w

theorem quiet_of {P : Program} {α : Al} {o : Oper} {ρ : Operand → Value} {env : Env} {i : I} {r : Option Value} (h1 : ∀ H, evI env H i = ret H r)
    (h2 : ∀ v, r = some v → ∃ v', VR α v v' ∧ ∀ w, (execOp ρ o).run P w = .ok (.value v') w) : Quiet P α o ρ env i := by
  intro H out he
  rw [h1] at he
  cases e : r with
  | none => rw [e] at he; simp [ret] at he
  | some v =>
    rw [e] at he
    simp only [ret, Option.map_some, Option.some.injEq] at he
    obtain ⟨v', a, b⟩ := h2 v e
    exact ⟨v, v', he.symm, fun H2 => by rw [h1, e]; rfl, a, fun w => .inl (b w)⟩

section
variable {P : Program} {α : Al} {ρ : Operand → Value} {env : Env}

theorem q_mov {o : Oper} {x : Operand} (ho : o.op = .move x ∨ o.op = .assign x) (hx : VR α (rd env x) (ρ x)) : Quiet P α o ρ env (.mov x) := by
  refine quiet_of (r := some (rd env x)) (fun H => rfl) fun v hv => ⟨ρ x, by cases hv; exact hx, fun w => ?_⟩
  rcases ho with ho | ho <;> simp [execOp, ho]

theorem q_pick {o : Oper} {c a b : Operand} (ho : o.op = .pick c a b) (hc : VR α (rd env c) (ρ c)) (ha : VR α (rd env a) (ρ a)) (hb : VR α (rd env b) (ρ b)) : Quiet P α o ρ env (.pick c a b) := by
  cases e : rd env c with
  | bool t =>
    refine quiet_of (r := some (if t then rd env a else rd env b)) (fun H => by simp [evI, e, ret]) fun v hv => ⟨if t then ρ a else ρ b, ?_, fun w => ?_⟩
    · cases hv; cases t <;> simpa
    · rw [e] at hc
      simp [execOp, ho, hc.bool_inv, asBool]
  | _ => intro H out he; simp [evI, e] at he

theorem q_nilck {o : Oper} {x : Operand} (ho : o.op = .nilCheck x) (hx : VR α (rd env x) (ρ x)) : Quiet P α o ρ env (.nilck x) := by
  intro H out he
  simp only [evI] at he
  split at he
  · rename_i a e
    rw [e] at hx
    simp only [Option.some.injEq] at he
    refine ⟨_, ρ x, he.symm, fun H2 => by simp [evI, e], hx, fun w => .inl ?_⟩
    simp only [execOp, ho]
    generalize ρ x = r at hx
    cases hx
    simp
  · rename_i f a b e
    rw [e] at hx
    simp only [Option.some.injEq] at he
    refine ⟨_, ρ x, he.symm, fun H2 => by simp [evI, e], hx, fun w => .inl ?_⟩
    simp only [execOp, ho]
    generalize ρ x = r at hx
    cases hx
    simp
  · cases he

theorem isNil_rel {k : NK} {v v' : Value} {b : Bool} (h : VR α v v') (hn : isNil k v = some b) : isNil k v' = some b := by
  cases h <;> cases k <;> simp_all [isNil, isFn, unk]

theorem bytesOf_toList (s : ByteArray) : s.toList = bytesOf s := Lib.toList_data s

theorem less_eq : ∀ x y : List UInt8, Op.bytesLess x y = less x y
  | _, [] => by simp [Op.bytesLess, less]
  | [], _ :: _ => by simp [Op.bytesLess, less]
  | a :: x, b :: y => by simp [Op.bytesLess, less, less_eq x y]

theorem append_bytes (a b : ByteArray) : a ++ b = ⟨⟨bytesOf a ++ bytesOf b⟩⟩ := by
  apply ByteArray.ext
  show (a ++ b).data = _
  rw [ByteArray.data_append]
  unfold bytesOf
  cases ha : a.data; cases hb : b.data; simp

theorem binInt_run {op : BinOp} {k : IntKind} {a b : Int} {v : Value} (h : binInt op k a b = some v) (w : World) (h1 : op ≠ .shl) (h2 : op ≠ .shr) (t : TypeId) :
    (Go.binOp op t (.int k a) (.int k b)).run P w = .ok v w := by
  cases op <;> simp [binInt] at h <;>
    first
      | (subst h; simp [Go.binOp, Op.intArith, Op.intBits, Op.intCmp]; done)
      | (obtain ⟨hb, rfl⟩ := h; simp [Go.binOp, Op.intDiv, hb]; done)
      | exact absurd rfl h1
      | exact absurd rfl h2

theorem binStr_run {op : BinOp} {a b : ByteArray} {v : Value} (h : binStr op a b = some v) (w : World) (t : TypeId) :
    (Go.binOp op t (.string a) (.string b)).run P w = .ok v w := by
  cases op <;> simp [binStr] at h <;>
    first
      | (subst h; simp [Go.binOp, Op.stringOp, bytesOf_toList, less_eq]; done)
      | (obtain ⟨hb, rfl⟩ := h
         have : ¬ (((a.size + b.size : Nat) : Int) > IntKind.i64.max) := by
           have e : IntKind.i64.max = 9223372036854775807 := by decide
           rw [e]; omega
         simp only [Go.binOp, Op.stringOp]
         rw [if_neg this]
         simp [strOf, append_bytes]
         done)

theorem bin_lit {op : BinOp} {x y v : Value} (h : bin op x y = some v) : isLit v = true := by
  unfold bin at h
  split at h
  · split at h <;> cases h; rfl
  · split at h <;> cases h; rfl
  · split at h
    · rename_i o _ _ _ _ _ _ _ _
      unfold binInt at h
      split at h <;> first | (cases h; done) | (cases h; rfl) | (split at h <;> first | (cases h; done) | (cases h; rfl))
    · cases h
  · unfold binStr at h
    split at h <;> first | (cases h; done) | (cases h; rfl) | (split at h <;> first | (cases h; done) | (cases h; rfl))
  · cases h

theorem eqGuard_int {op : BinOp} {t : TypeId} {x y : Operand} {k k' : IntKind} {a b : Int} (w : World) : (eqGuard op t x y (.int k a) (.int k' b)).run P w = .ok () w := by
  unfold eqGuard; cases op <;> simp
theorem eqGuard_str {op : BinOp} {t : TypeId} {x y : Operand} {a b : ByteArray} (w : World) : (eqGuard op t x y (.string a) (.string b)).run P w = .ok () w := by
  unfold eqGuard; cases op <;> simp
theorem eqGuard_bool {op : BinOp} {t : TypeId} {x y : Operand} {a b : Bool} (w : World) : (eqGuard op t x y (.bool a) (.bool b)).run P w = .ok () w := by
  unfold eqGuard; cases op <;> simp

theorem bin_run {op : BinOp} {t : TypeId} {x y : Operand} {a b v : Value} (h : bin op a b = some v) (w : World) :
    (do eqGuard op t x y a b; Go.binOp op t a b).run P w = .ok v w := by
  unfold bin at h
  split at h
  · rename_i k a b
    split at h
    · cases h
    · rename_i hb
      cases h
      simp [eqGuard_int, Go.binOp, Op.shift, hb]
  · rename_i k a b
    split at h
    · cases h
    · rename_i hb
      cases h
      simp [eqGuard_int, Go.binOp, Op.shift, hb]
  · rename_i h1 h2
    split at h
    · rename_i e
      subst e
      simp only [Sem.run_bind, eqGuard_int, Result.andThen_ok]
      refine binInt_run h w ?_ ?_ t
      · rintro rfl; simp at h1
      · rintro rfl; simp at h2
    · cases h
  · simp only [Sem.run_bind, eqGuard_str, Result.andThen_ok]
    exact binStr_run h w t
  · cases h

theorem lit_eq {v v' : Value} (h : VR α v v') (hi : (∃ k n, v = .int k n) ∨ (∃ s, v = .string s)) : v' = v := by
  rcases hi with ⟨k, n, rfl⟩ | ⟨s, rfl⟩
  · exact h.int_inv
  · exact h.str_inv

theorem bin_args {op : BinOp} {a b v : Value} (h : bin op a b = some v) : ((∃ k n, a = .int k n) ∨ (∃ s, a = .string s)) ∧ ((∃ k n, b = .int k n) ∨ (∃ s, b = .string s)) := by
  unfold bin at h
  split at h
  · exact ⟨.inl ⟨_, _, rfl⟩, .inl ⟨_, _, rfl⟩⟩
  · exact ⟨.inl ⟨_, _, rfl⟩, .inl ⟨_, _, rfl⟩⟩
  · exact ⟨.inl ⟨_, _, rfl⟩, .inl ⟨_, _, rfl⟩⟩
  · exact ⟨.inr ⟨_, rfl⟩, .inr ⟨_, rfl⟩⟩
  · cases h

theorem q_bin {o : Oper} {op : BinOp} {t ty : TypeId} {x y : Operand} (ho : o.op = .binOp op t x y ty) (hx : VR α (rd env x) (ρ x)) (hy : VR α (rd env y) (ρ y)) : Quiet P α o ρ env (.bin op x y) := by
  refine quiet_of (r := bin op (rd env x) (rd env y)) (fun H => rfl) fun v hv => ?_
  obtain ⟨ha, hb⟩ := bin_args hv
  refine ⟨v, .lit (bin_lit hv), fun w => ?_⟩
  have e1 := lit_eq hx ha
  have e2 := lit_eq hy hb
  have := bin_run (P := P) (t := t) (x := x) (y := y) hv w
  rw [← e1, ← e2] at this
  simp only [execOp, ho, Sem.run_bind] at this ⊢
  rw [this]; rfl


theorem equal_step : ∃ d, ∀ (t : TypeId) (x y : Value), Op.equal t x y = Op.equalIn (d + 1) t x y := ⟨9999, fun _ _ _ => rfl⟩

theorem q_eqb {o : Oper} {neg : Bool} {t ty : TypeId} {x y : Operand} (ho : o.op = .binOp (if neg then .neq else .eql) t x y ty) (ht : P.underlying t = some .bool) (hx : VR α (rd env x) (ρ x)) (hy : VR α (rd env y) (ρ y)) :
    Quiet P α o ρ env (.eqb neg x y) := by
  intro H out he
  simp only [evI] at he
  split at he
  · rename_i a b e1 e2
    simp only [Option.some.injEq] at he
    rw [e1] at hx; rw [e2] at hy
    refine ⟨_, _, he.symm, fun H2 => by simp [evI, e1, e2], .bool _, fun w => .inl ?_⟩
    simp only [execOp, ho, hx.bool_inv, hy.bool_inv]
    obtain ⟨d, hd⟩ := equal_step
    cases neg <;> simp only [Bool.false_eq_true, if_true, if_false, Sem.run_bind, eqGuard_bool, Result.andThen_ok, Go.binOp, hd, Op.equalIn, run_und ht] <;> cases a <;> cases b <;> rfl
  · cases he

theorem eqGuard_other {op : BinOp} {t : TypeId} {x y : Operand} {a b : Value} (w : World) (h : (∀ c d, ¬ (a = .agg c ∧ b = .agg d))) (h2 : a = .nilIface → b = .nilIface → ∃ v, y = .const v) :
    (eqGuard op t x y a b).run P w = .ok () w := by
  unfold eqGuard
  cases a with
  | agg c => cases b with
    | agg d => exact absurd ⟨rfl, rfl⟩ (h _ _)
    | _ => cases op <;> rfl
  | nilIface => cases b with
    | nilIface =>
      obtain ⟨v, rfl⟩ := h2 rfl rfl
      cases op <;> simp
    | _ => cases op <;> rfl
  | _ => cases op <;> rfl

/-- The kinds that can be held against nil. -/
def nkOf : NK → TypeDesc → Bool
  | .ptr, .pointer _ => true
  | .sl, .slice _ => true
  | .mp, .map _ _ => true
  | .fn, .func _ _ _ => true
  | .ifc, .interface _ => true
  | _, _ => false

theorem equal_nil {k : NK} {t : TypeId} {d : TypeDesc} (ht : P.underlying t = some d) (hd : nkOf k d = true) {a b : Value} {p q : Bool} (ha : isNil k a = some p) (hb : isNil k b = some q) (hpq : p = true ∨ q = true) (w : World) :
    (Op.equal t a b).run P w = .ok (p && q) w := by
  obtain ⟨D, hD⟩ := equal_step
  rw [hD]
  cases k with
  | ptr =>
    cases d <;> simp only [nkOf, Bool.false_eq_true] at hd
    cases a <;> simp only [isNil, Option.some.injEq, reduceCtorEq] at ha
    cases b <;> simp only [isNil, Option.some.injEq, reduceCtorEq] at hb
    rename_i x y
    subst ha; subst hb
    simp only [Op.equalIn, Sem.run_bind, run_und ht, Result.andThen_ok]
    cases x <;> cases y <;> first | rfl | simp at hpq
  | sl =>
    cases d <;> simp only [nkOf, Bool.false_eq_true] at hd
    cases a <;> simp only [isNil, Option.some.injEq, reduceCtorEq] at ha
    cases b <;> simp only [isNil, Option.some.injEq, reduceCtorEq] at hb
    rename_i x _ _ y _ _
    subst ha; subst hb
    simp only [Op.equalIn, Sem.run_bind, run_und ht, Result.andThen_ok]
    cases x <;> cases y <;> first | rfl | simp at hpq
  | mp =>
    cases d <;> simp only [nkOf, Bool.false_eq_true] at hd
    cases a <;> simp only [isNil, Option.some.injEq, reduceCtorEq] at ha
    cases b <;> simp only [isNil, Option.some.injEq, reduceCtorEq] at hb
    rename_i x y
    subst ha; subst hb
    simp only [Op.equalIn, Sem.run_bind, run_und ht, Result.andThen_ok]
    cases x <;> cases y <;> first | rfl | simp at hpq
  | fn =>
    have hfn : ∀ {f : Fn} {p : Bool}, (if isFn f = true then some false else none) = some p → false = p := by
      intro f p h
      split at h
      · exact Option.some.inj h
      · cases h
    cases d <;> simp only [nkOf, Bool.false_eq_true] at hd
    cases a <;> simp only [isNil, Option.some.injEq, reduceCtorEq] at ha <;> (try replace ha := hfn ha) <;> cases b <;> simp only [isNil, Option.some.injEq, reduceCtorEq] at hb <;> (try replace hb := hfn hb) <;> subst ha <;> subst hb <;>
      simp only [Op.equalIn, Sem.run_bind, run_und ht, Result.andThen_ok] <;> first | rfl | simp at hpq
  | ifc =>
    cases d <;> simp only [nkOf, Bool.false_eq_true] at hd
    cases a <;> simp only [isNil, Option.some.injEq, reduceCtorEq] at ha <;> cases b <;> simp only [isNil, Option.some.injEq, reduceCtorEq] at hb <;> subst ha <;> subst hb <;>
      simp only [Op.equalIn, Sem.run_bind, run_und ht, Result.andThen_ok] <;> first | rfl | simp at hpq

theorem q_eqn {o : Oper} {neg : Bool} {k : NK} {t ty : TypeId} {x y : Operand} {d : TypeDesc} (ho : o.op = .binOp (if neg then .neq else .eql) t x y ty) (ht : P.underlying t = some d) (hd : nkOf k d = true) (hc : k = .ifc → ∃ v, y = .const v)
    (hx : VR α (rd env x) (ρ x)) (hy : VR α (rd env y) (ρ y)) : Quiet P α o ρ env (.eqn neg k x y) := by
  have key : ∀ p q, isNil k (rd env x) = some p → isNil k (rd env y) = some q → (p = true ∨ q = true) → ∀ w, (execOp ρ o).run P w = .ok (.value (.bool ((p && q) != neg))) w := by
    intro p q ha hb hpq w
    have ha' := isNil_rel hx ha
    have hb' := isNil_rel hy hb
    have hg : ∀ op, (eqGuard op t x y (ρ x) (ρ y)).run P w = .ok () w := by
      intro op
      refine eqGuard_other w ?_ ?_
      · rintro c d ⟨h1, h2⟩; rw [h1] at ha'; cases k <;> simp [isNil] at ha'
      · intro h1 h2; rw [h1] at ha'; refine hc ?_; cases k <;> simp [isNil] at ha' ⊢
    have he := equal_nil ht hd ha' hb' hpq w
    have hnot : ∀ op, op = .eql ∨ op = .neq → Go.binOp op t (ρ x) (ρ y) = (if op = .eql then (do pure (.bool (← Op.equal t (ρ x) (ρ y)))) else (do pure (.bool (!(← Op.equal t (ρ x) (ρ y)))))) := by
      intro op hop
      generalize ρ x = a at ha'
      generalize ρ y = b at hb'
      cases k <;> cases a <;> simp [isNil] at ha' <;> cases b <;> simp [isNil] at hb' <;> rcases hop with rfl | rfl <;> simp [Go.binOp]
    simp only [execOp, ho, Sem.run_bind, hg, Result.andThen_ok]
    rw [hnot _ (by cases neg <;> simp)]
    cases neg <;> simp [he] <;> cases p <;> cases q <;> rfl
  intro H out he
  simp only [evI] at he
  split at he
  · rename_i a e1 e2
    simp only [Option.some.injEq] at he
    refine ⟨_, _, he.symm, fun H2 => by simp [evI, e1, e2], .bool _, fun w => .inl ?_⟩
    rw [key _ _ e1 e2 (.inr rfl) w]; simp
  · rename_i b hne e1 e2
    simp only [Option.some.injEq] at he
    refine ⟨_, _, he.symm, fun H2 => ?_, .bool _, fun w => .inl ?_⟩
    · simp only [evI, e1, e2]
    · rw [key _ _ e1 e2 (.inl rfl) w]; simp
  · cases he

theorem q_un {o : Oper} {op : UnOp} {t : TypeId} {x : Operand} (ho : o.op = .unOp op t x) (hx : VR α (rd env x) (ρ x)) : Quiet P α o ρ env (.un op x) := by
  intro H out he
  simp only [evI] at he
  split at he
  · rename_i k n e
    rw [e] at hx
    simp only [Option.some.injEq] at he
    exact ⟨_, _, he.symm, fun H2 => by simp [evI, e], .int _ _, fun w => .inl (by simp [execOp, ho, hx.int_inv, Op.unary, Op.intArith])⟩
  · rename_i k n e
    rw [e] at hx
    simp only [binInt, ret, Option.map_some, Option.some.injEq] at he
    exact ⟨_, _, he.symm, fun H2 => by simp [evI, e, binInt, ret], .int _ _, fun w => .inl (by simp [execOp, ho, hx.int_inv, Op.unary, Op.intBits])⟩
  · rename_i b e
    rw [e] at hx
    simp only [Option.some.injEq] at he
    exact ⟨_, _, he.symm, fun H2 => by simp [evI, e], .bool _, fun w => .inl (by simp [execOp, ho, hx.bool_inv, Op.unary])⟩
  · cases he

theorem q_toint {o : Oper} {s d : TypeId} {k k0 : IntKind} {x : Operand} (ho : o.op = .convert s d x) (hs : P.underlying s = some (.int k0)) (hd : P.underlying d = some (.int k)) (hx : VR α (rd env x) (ρ x)) : Quiet P α o ρ env (.toint k x) := by
  intro H out he
  simp only [evI] at he
  split at he
  · rename_i k' n e
    rw [e] at hx
    simp only [Option.some.injEq] at he
    exact ⟨_, _, he.symm, fun H2 => by simp [evI, e], .int _ _, fun w => .inl (by simp [execOp, ho, hx.int_inv, Go.convert, run_und hs, run_und hd, Conv.intToInt])⟩
  · cases he

theorem q_tostr {o : Oper} {s d : TypeId} {x : Operand} (ho : o.op = .convert s d x) (hs : P.underlying s = some .string) (hd : P.underlying d = some .string) (hx : VR α (rd env x) (ρ x)) : Quiet P α o ρ env (.tostr x) := by
  intro H out he
  simp only [evI] at he
  split at he
  · rename_i n e
    rw [e] at hx
    simp only [Option.some.injEq] at he
    exact ⟨_, _, he.symm, fun H2 => by simp [evI, e], .str _, fun w => .inl (by simp [execOp, ho, hx.str_inv, Go.convert, run_und hs, run_und hd])⟩
  · cases he

theorem q_mkif {o : Oper} {t : TypeId} {d : TypeDesc} {x : Operand} (ho : o.op = .makeInterface t x) (ht : P.underlying t = some d) (hd : ∀ m, d ≠ .interface m) (hx : VR α (rd env x) (ρ x)) : Quiet P α o ρ env (.mkif t x) := by
  intro H out he
  simp only [evI, Option.some.injEq] at he
  refine ⟨_, _, he.symm, fun H2 => rfl, .iface t hx, fun w => .inl ?_⟩
  simp only [execOp, ho, Instr.makeInterface, Sem.run_bind, run_und ht, Result.andThen_ok]
  cases d <;> first | rfl | exact absurd rfl (hd _)

theorem VRs.map : ∀ {l : List Operand}, (∀ x ∈ l, VR α (rd env x) (ρ x)) → VRs α (l.map (rd env)) (l.map ρ)
  | [], _ => .nil
  | x :: l, h => .cons (h x (by simp)) (VRs.map fun y hy => h y (by simp [hy]))

theorem q_mkfn {o : Oper} {fn : Fn} {a c : Array Operand} (ho : o.op = .makeFunc fn a c) (ha : ∀ x ∈ a, VR α (rd env x) (ρ x)) (hc : ∀ x ∈ c, VR α (rd env x) (ρ x)) : Quiet P α o ρ env (.mkfn fn a.toList c.toList) := by
  intro H out he
  simp only [evI] at he
  split at he
  case isFalse => cases he
  rename_i hf
  simp only [Option.some.injEq] at he
  refine ⟨_, _, he.symm, fun H2 => by simp only [evI, if_pos hf], .func fn hf (VRs.map fun x hx => ha x (by simpa using hx)) (VRs.map fun x hx => hc x (by simpa using hx)), fun w => .inl ?_⟩
  obtain ⟨a⟩ := a; obtain ⟨c⟩ := c
  simp [execOp, ho, Instr.makeFunc]

theorem q_ext {o : Oper} {k : Nat} {x : Operand} (ho : o.op = .extract x k) (hx : VR α (rd env x) (ρ x)) : Quiet P α o ρ env (.ext k x) := by
  intro H out he
  simp only [evI] at he
  split at he
  · rename_i vs e
    rw [e] at hx
    cases hv : vs.toList[k]? with
    | none => rw [hv] at he; cases he
    | some v =>
      rw [hv] at he
      simp only [ret, Option.map_some, Option.some.injEq] at he
      simp only [execOp, ho]
      generalize ρ x = r at hx
      cases hx with
      | tup h =>
        obtain ⟨v', hv', hr⟩ := h.get hv
        refine ⟨_, v', he.symm, fun H2 => by simp only [evI, e]; rw [hv]; rfl, hr, fun w => .inl ?_⟩
        simp [Instr.extract, hv']
  · cases he

end
end Ve
end Go.Proofs.YtnociodpfmlglaaGreatDoor
