/-
  Documents in the machine's memory.
-/
import Derived.Test.YtnociodpfmlglaaGreatDoorVe23
set_option linter.unusedVariables false
set_option linter.unusedSimpArgs false
namespace Go.Proofs.YtnociodpfmlglaaGreatDoor
namespace Ve
open Go

abbrev Str := List UInt8
structure Num where
  neg : Bool
  dig : Str
  exp : Int
  deriving DecidableEq
inductive Doc where
  | mk (kind : Int) (b : Bool) (num : Num) (text : Str) (list : List Doc) (keys : List Str)

def Doc.kind : Doc → Int | .mk k _ _ _ _ _ => k
def Doc.b : Doc → Bool | .mk _ b _ _ _ _ => b
def Doc.num : Doc → Num | .mk _ _ n _ _ _ => n
def Doc.text : Doc → Str | .mk _ _ _ t _ _ => t
def Doc.list : Doc → List Doc | .mk _ _ _ _ l _ => l
def Doc.keys : Doc → List Str | .mk _ _ _ _ _ ks => ks

def i64 (n : Int) : Prop := -9223372036854775808 ≤ n ∧ n ≤ 9223372036854775807

/-- The cells of the k-th element, of n cells, of a slice. -/
def elAt (H : Heap) (n : Nat) (a : Option Addr) (k : Nat) : Option (List Value) := match a with | some ⟨i, o, _⟩ => getN H i (o + k * n) n | none => none

/-- A document's cells. -/
inductive DocAt (H : Heap) : List Value → Doc → Prop
  | mk (kind : Int) (b : Bool) (num : Num) (text : Str) (list : List Doc) (keys : List Str) (la : Option Addr) (lc : Nat) (ka : Option Addr) (kc : Nat) (cs : Nat → List Value)
      (hi : i64 kind ∧ i64 num.exp) (hk : ∀ k, (h : k < keys.length) → elAt H 1 ka k = some [strOf keys[k]])
      (hg : ∀ k, k < list.length → elAt H 8 la k = some (cs k)) (hd : ∀ k, (h : k < list.length) → DocAt H (cs k) list[k]) :
      DocAt H [.int .i64 kind, .bool b, .bool num.neg, strOf num.dig, .int .i64 num.exp, strOf text, .slice la list.length lc, .slice ka keys.length kc] (.mk kind b num text list keys)

theorem elAt_ext {H J : Heap} {n : Nat} {a : Option Addr} {k : Nat} {l : List Value} (h : elAt H n a k = some l) : elAt (H ++ J) n a k = some l := by
  cases a with
  | none => cases h
  | some a =>
    obtain ⟨i, o, s⟩ := a
    simp only [elAt] at h ⊢
    rw [getN_app_lt (getN_lt h)]; exact h

theorem DocAt.ext {H J : Heap} {cs : List Value} {d : Doc} (h : DocAt H cs d) : DocAt (H ++ J) cs d := by
  induction h with
  | mk kind b num text list keys la lc ka kc cs hi hk hg hd ih =>
    exact .mk kind b num text list keys la lc ka kc cs hi (fun k h => elAt_ext (hk k h)) (fun k h => elAt_ext (hg k h)) ih

theorem DocAt.cells {H : Heap} {cs : List Value} {d : Doc} (h : DocAt H cs d) : cs.all one = true ∧ cs.length = 8 ∧ cs.take 8 = cs := by
  obtain @⟨kind, b, num, text, list, keys, la, lc, ka, kc, cs, hi, hk, hg, hdl⟩ := h
  exact ⟨rfl, rfl, rfl⟩

theorem DocAt.beq {H : Heap} {cs : List Value} {d : Doc} (h : DocAt H cs d) : beqL cs cs = true := by
  obtain @⟨kind, b, num, text, list, keys, la, lc, ka, kc, cs, hi, hk, hg, hdl⟩ := h
  simp [go_sem]

mutual
def nodes : Doc → Nat
  | .mk _ _ _ _ list _ => 1 + nodesL list
def nodesL : List Doc → Nat
  | [] => 0
  | d :: l => nodes d + nodesL l
end
mutual
def levels : Doc → Nat
  | .mk _ _ _ _ list _ => levelsL list + 1
def levelsL : List Doc → Nat
  | [] => 0
  | d :: l => max (levels d) (levelsL l)
end
theorem nodesL_append : ∀ (a b : List Doc), nodesL (a ++ b) = nodesL a + nodesL b
  | [], b => by simp [nodesL]
  | d :: a, b => by simp only [List.cons_append, nodesL, nodesL_append a b]; omega
theorem levelsL_append : ∀ (a b : List Doc), levelsL (a ++ b) = max (levelsL a) (levelsL b)
  | [], b => by simp [levelsL]
  | d :: a, b => by simp only [List.cons_append, levelsL, levelsL_append a b]; omega
theorem take_snoc {α : Type} {l : List α} {k : Nat} (h : k < l.length) : l.take (k + 1) = l.take k ++ [l[k]] := by
  rw [List.take_succ_eq_append_getElem h]
theorem nodesL_take {l : List Doc} {k : Nat} (h : k < l.length) : nodesL (l.take (k + 1)) = nodesL (l.take k) + nodes l[k] := by
  rw [take_snoc h, nodesL_append]; try simp [nodesL]
theorem levelsL_take {l : List Doc} {k : Nat} (h : k < l.length) : levelsL (l.take (k + 1)) = max (levelsL (l.take k)) (levels l[k]) := by
  rw [take_snoc h, levelsL_append]; try simp [levelsL]
theorem nodesL_take_le (l : List Doc) (k : Nat) : nodesL (l.take k) ≤ nodesL l := by
  have := nodesL_append (l.take k) (l.drop k)
  rw [List.take_append_drop] at this
  omega
theorem nodes_le {l : List Doc} {k : Nat} (h : k < l.length) : nodes l[k] ≤ nodesL l := by
  have := nodesL_take h
  have := nodesL_take_le l (k + 1)
  omega
mutual
theorem levels_le : ∀ d : Doc, levels d ≤ nodes d
  | .mk _ _ _ _ list _ => by have := levelsL_le list; simp only [levels, nodes]; omega
theorem levelsL_le : ∀ l : List Doc, levelsL l ≤ nodesL l
  | [] => by simp [levelsL]
  | d :: l => by have := levels_le d; have := levelsL_le l; simp only [levelsL, nodesL]; omega
end
theorem length_le_nodesL : ∀ l : List Doc, l.length ≤ nodesL l
  | [] => by simp
  | d :: l => by
    have := length_le_nodesL l
    have h : 1 ≤ nodes d := by cases d; simp [nodes]
    simp only [List.length_cons, nodesL]; omega

mutual
def bulk : Doc → Nat
  | .mk _ _ num text list keys => 1 + num.dig.length + text.length + (keys.map fun k => 1 + k.length).sum + bulkL list
def bulkL : List Doc → Nat
  | [] => 0
  | d :: l => bulk d + bulkL l
end
mutual
theorem nodes_bulk : ∀ d : Doc, nodes d ≤ bulk d
  | .mk _ _ _ _ list _ => by have := nodesL_bulk list; simp only [nodes, bulk]; omega
theorem nodesL_bulk : ∀ l : List Doc, nodesL l ≤ bulkL l
  | [] => by simp [nodesL]
  | d :: l => by have := nodes_bulk d; have := nodesL_bulk l; simp only [nodesL, bulkL]; omega
end
theorem bulk_le : ∀ {l : List Doc} {k : Nat} (h : k < l.length), bulk l[k] ≤ bulkL l
  | d :: l, 0, h => by simp only [List.getElem_cons_zero, bulkL]; omega
  | d :: l, k + 1, h => by have := bulk_le (l := l) (k := k) (by simpa using h); simp only [List.getElem_cons_succ, bulkL]; omega
theorem length_le_sum : ∀ l : List Str, l.length ≤ (l.map fun k => 1 + k.length).sum
  | [] => by simp
  | k :: l => by have := length_le_sum l; simp only [List.length_cons, List.map_cons, List.sum_cons]; omega

/-- The address of a list that is not empty. -/
theorem elAt_some {H : Heap} {n : Nat} {a : Option Addr} {k : Nat} {l : List Value} (h : elAt H n a k = some l) : ∃ i o s, a = some ⟨i, o, s⟩ ∧ getN H i (o + k * n) n = some l := by
  cases a with
  | none => cases h
  | some a => obtain ⟨i, o, s⟩ := a; exact ⟨i, o, s, rfl, h⟩

end Ve
end Go.Proofs.YtnociodpfmlglaaGreatDoor
