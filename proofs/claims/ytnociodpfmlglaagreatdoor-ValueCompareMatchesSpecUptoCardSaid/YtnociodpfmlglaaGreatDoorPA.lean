
import Derived.Test.YtnociodpfmlglaaGreatDoorIrE
set_option linter.unusedVariables false
set_option linter.unusedSimpArgs false
namespace Go.Proofs.YtnociodpfmlglaaGreatDoor
namespace Ve
open Go

set_option maxHeartbeats 1000000 in
theorem f80 {cs : List Value} {d : Doc} {H : Heap} (hd : DocAt H cs d) (hb : nodes d ≤ 1000000000) {Q : Out → Prop} (q : ∀ J, Q (.ret (.tuple ⟨[.int .i64 (nodes d), .int .i64 (levels d)]⟩) (H ++ J))) : Cl tab 80 [.agg ⟨cs⟩] H Q := by
  suffices h : ∀ n d cs H, nodes d < n → DocAt H cs d → nodes d ≤ 1000000000 → ∀ Q : Out → Prop, (∀ J, Q (.ret (.tuple ⟨[.int .i64 (nodes d), .int .i64 (levels d)]⟩) (H ++ J))) → Cl tab 80 [.agg ⟨cs⟩] H Q from h (nodes d + 1) d cs H (by omega) hd hb Q q
  clear hd hb q Q cs d H
  intro n
  induction n with
  | zero => intro d cs H hn; omega
  | succ n ih =>
    intro d cs H hn hd hb Q q
    obtain @⟨kind, b, num, text, list, keys, la, lc, ka, kc, cs, hi, hk, hg, hdl⟩ := hd
    have hnd : nodes (.mk kind b num text list keys) = 1 + nodesL list := by simp only [nodes]
    have hlv : levels (.mk kind b num text list keys) = levelsL list + 1 := by simp only [levels]
    rw [hnd] at hn hb q
    rw [hlv] at q
    apply e80
    simp (disch := (first | decide | omega | (simp only [go_sem]; done) | (simp only [go_sem]; omega))) only [go_sem, ↓reduceIte, Nat.reduceEqDiff, Nat.reduceAdd, Nat.reduceSub, Nat.reduceMul, Nat.reduceLT, Nat.reduceLeDiff, Int.reduceEq, Int.reduceLT, Int.reduceLE, Int.reduceAdd, Int.reduceSub, Int.reduceMul, Int.reduceNeg, Int.reduceToNat, Int.reduceNe, reduceCtorEq]
    refine w80_7 (ι := Nat) 0 (fun k e h => ∃ J, h = H ++ J ∧ e.length = 30 ∧ k ≤ list.length ∧ gt e 2 = .int .i64 (1 + nodesL (list.take k) : Nat) ∧ gt e 3 = .int .i64 (levelsL (list.take k)) ∧ gt e 9 = .slice la list.length lc ∧ gt e 10 = .int .i64 list.length ∧ gt e 11 = .int .i64 k) (fun k => list.length - k) ?_ ?_
    · refine ⟨_, rfl, ?_⟩
      simp (disch := (first | decide | omega | (simp only [go_sem, nodesL, levelsL]; done) | (simp only [go_sem, nodesL, levelsL]; omega))) only [go_sem, ↓reduceIte, Nat.reduceEqDiff, Nat.reduceAdd, Nat.reduceSub, Nat.reduceMul, Nat.reduceLT, Nat.reduceLeDiff, Int.reduceEq, Int.reduceLT, Int.reduceLE, Int.reduceAdd, Int.reduceSub, Int.reduceMul, Int.reduceNeg, Int.reduceToNat, Int.reduceNe, reduceCtorEq, nodesL, levelsL]
      simp
    · rintro k e h ⟨J, rfl, he, hk1, e2, e3, e9, e10, e11⟩ ih2
      simp (disch := (first | decide | omega | (simp only [go_sem, e2, e3, e9, e10, e11]; done) | (simp only [go_sem, e2, e3, e9, e10, e11]; omega))) only [go_sem, ↓reduceIte, Nat.reduceEqDiff, Nat.reduceAdd, Nat.reduceSub, Nat.reduceMul, Nat.reduceLT, Nat.reduceLeDiff, Int.reduceEq, Int.reduceLT, Int.reduceLE, Int.reduceAdd, Int.reduceSub, Int.reduceMul, Int.reduceNeg, Int.reduceToNat, Int.reduceNe, reduceCtorEq, e2, e3, e9, e10, e11]
      refine brK_prop (fun h => ?_) (fun h => ?_)
      · have hlt : k < list.length := by omega
        obtain ⟨i, o, s, rfl⟩ : ∃ i o s, la = some ⟨i, o, s⟩ := by
          have := hg k hlt
          cases la with
          | none => cases this
          | some a => exact ⟨a.block, a.off, a.spot, rfl⟩
        have hgk := hg k hlt
        simp only [elAt] at hgk
        have hil := getN_lt hgk
        have hdk := hdl k hlt
        obtain ⟨c1, c2, c3⟩ := hdk.cells
        simp (disch := (first | decide | omega | (simp only [go_sem, e2, e3, e9, e10, e11, hgk, c1, c2, c3]; done) | (simp only [go_sem, e2, e3, e9, e10, e11, hgk, c1, c2, c3]; omega))) only [go_sem, ↓reduceIte, Nat.reduceEqDiff, Nat.reduceAdd, Nat.reduceSub, Nat.reduceMul, Nat.reduceLT, Nat.reduceLeDiff, Int.reduceEq, Int.reduceLT, Int.reduceLE, Int.reduceAdd, Int.reduceSub, Int.reduceMul, Int.reduceNeg, Int.reduceToNat, Int.reduceNe, reduceCtorEq, e2, e3, e9, e10, e11, hgk, c1, c2, c3]
        have hnk := nodes_le hlt
        have hll := length_le_nodesL list
        refine ih _ _ _ (by omega) hdk.ext (by omega) _ (fun J2 => ?_)
        have htk := nodesL_take hlt
        have hsk := nodesL_take_le list (k + 1)
        have hvk := levelsL_take hlt
        simp (disch := (first | decide | omega | (simp only [go_sem, e2, e3, e9, e10, e11]; done) | (simp only [go_sem, e2, e3, e9, e10, e11]; omega))) only [go_sem, ↓reduceIte, Nat.reduceEqDiff, Nat.reduceAdd, Nat.reduceSub, Nat.reduceMul, Nat.reduceLT, Nat.reduceLeDiff, Int.reduceEq, Int.reduceLT, Int.reduceLE, Int.reduceAdd, Int.reduceSub, Int.reduceMul, Int.reduceNeg, Int.reduceToNat, Int.reduceNe, reduceCtorEq, e2, e3, e9, e10, e11]
        refine ih2 (k + 1) _ _ (by omega) ⟨_, rfl, ?_⟩
        simp (disch := (first | decide | omega | (simp only [go_sem, e2, e3, e9, e10, e11]; done) | (simp only [go_sem, e2, e3, e9, e10, e11]; omega))) only [go_sem, ↓reduceIte, Nat.reduceEqDiff, Nat.reduceAdd, Nat.reduceSub, Nat.reduceMul, Nat.reduceLT, Nat.reduceLeDiff, Int.reduceEq, Int.reduceLT, Int.reduceLE, Int.reduceAdd, Int.reduceSub, Int.reduceMul, Int.reduceNeg, Int.reduceToNat, Int.reduceNe, reduceCtorEq, e2, e3, e9, e10, e11]
        refine ⟨he, by omega, ?_, ?_, ?_⟩ <;> (first | rfl | (congr 1; omega))
      · have hke : k = list.length := by omega
        subst hke
        have hlk := levelsL_le list
        simp only [List.take_length] at e2 e3
        simp (disch := (first | decide | omega | (simp only [go_sem, e2, e3]; done) | (simp only [go_sem, e2, e3]; omega))) only [go_sem, ↓reduceIte, Nat.reduceEqDiff, Nat.reduceAdd, Nat.reduceSub, Nat.reduceMul, Nat.reduceLT, Nat.reduceLeDiff, Int.reduceEq, Int.reduceLT, Int.reduceLE, Int.reduceAdd, Int.reduceSub, Int.reduceMul, Int.reduceNeg, Int.reduceToNat, Int.reduceNe, reduceCtorEq, e2, e3]
        simpa using q _
end Ve
end Go.Proofs.YtnociodpfmlglaaGreatDoor

/-
  Documents: what is counted and what is checked.
-/
set_option linter.unusedVariables false
set_option linter.unusedSimpArgs false
namespace Go.Proofs.YtnociodpfmlglaaGreatDoor
namespace Ve
open Go

def isDig (c : UInt8) : Bool := decide (48 ≤ (c.toNat : Int)) && decide ((c.toNat : Int) ≤ 57)
theorem at8_get {l : Str} {k : Nat} (h : k < l.length) : at8 l (k : Int) = (l[k].toNat : Int) := by
  simp only [at8, Int.toNat_natCast, List.getD_eq_getElem?_getD, List.getElem?_eq_getElem h, Option.getD_some]
theorem all_take {α : Type} {p : α → Bool} {l : List α} {k : Nat} (h : k < l.length) : (l.take (k + 1)).all p = ((l.take k).all p && p l[k]) := by
  rw [take_snoc h, List.all_append]; simp

def textFault (s : Str) : Int := if s.length ≤ 10000 then 0 else 3
theorem f18 {s : Str} {H : Heap} {Q : Out → Prop} (q : ∀ v H', v = .int .i64 (textFault s) → Ext H H' → Q (.ret v H')) : Cl tab 18 [strOf s] H Q := by
  apply e18
  simp (disch := (first | decide | omega | (simp only [go_sem]; done) | (simp only [go_sem]; omega))) only [go_sem, ↓reduceIte, Nat.reduceEqDiff, Nat.reduceAdd, Nat.reduceSub, Nat.reduceMul, Nat.reduceLT, Nat.reduceLeDiff, Int.reduceEq, Int.reduceLT, Int.reduceLE, Int.reduceAdd, Int.reduceSub, Int.reduceMul, Int.reduceNeg, Int.reduceToNat, Int.reduceNe, reduceCtorEq]
  refine brK_prop (fun h => ?_) (fun h => ?_) <;> simp (disch := (first | decide | omega | (simp only [go_sem]; done) | (simp only [go_sem]; omega))) only [go_sem, ↓reduceIte, Nat.reduceEqDiff, Nat.reduceAdd, Nat.reduceSub, Nat.reduceMul, Nat.reduceLT, Nat.reduceLeDiff, Int.reduceEq, Int.reduceLT, Int.reduceLE, Int.reduceAdd, Int.reduceSub, Int.reduceMul, Int.reduceNeg, Int.reduceToNat, Int.reduceNe, reduceCtorEq] <;> exact q _ _ (by first | rfl | (simp [textFault]; done) | grind [textFault]) (by first | exact Ext.refl | exact ⟨_, rfl⟩)
theorem f19 {s : Str} {H : Heap} {Q : Out → Prop} (q : ∀ v H', v = .int .i64 (textFault s) → Ext H H' → Q (.ret v H')) : Cl tab 19 [strOf s] H Q := by
  apply e19
  simp (disch := (first | decide | omega | (simp only [go_sem]; done) | (simp only [go_sem]; omega))) only [go_sem, ↓reduceIte, Nat.reduceEqDiff, Nat.reduceAdd, Nat.reduceSub, Nat.reduceMul, Nat.reduceLT, Nat.reduceLeDiff, Int.reduceEq, Int.reduceLT, Int.reduceLE, Int.reduceAdd, Int.reduceSub, Int.reduceMul, Int.reduceNeg, Int.reduceToNat, Int.reduceNe, reduceCtorEq]
  refine brK_prop (fun h => ?_) (fun h => ?_) <;> simp (disch := (first | decide | omega | (simp only [go_sem]; done) | (simp only [go_sem]; omega))) only [go_sem, ↓reduceIte, Nat.reduceEqDiff, Nat.reduceAdd, Nat.reduceSub, Nat.reduceMul, Nat.reduceLT, Nat.reduceLeDiff, Int.reduceEq, Int.reduceLT, Int.reduceLE, Int.reduceAdd, Int.reduceSub, Int.reduceMul, Int.reduceNeg, Int.reduceToNat, Int.reduceNe, reduceCtorEq] <;> exact q _ _ (by first | rfl | (simp [textFault]; done) | grind [textFault]) (by first | exact Ext.refl | exact ⟨_, rfl⟩)
theorem f74 {n : Int} {H : Heap} {Q : Out → Prop} (q : ∀ v H', v = .bool (decide (48 ≤ n) && decide (n ≤ 57)) → Ext H H' → Q (.ret v H')) : Cl tab 74 [.int .u8 n] H Q := by
  apply e74
  simp (disch := (first | decide | omega | (simp only [go_sem]; done) | (simp only [go_sem]; omega))) only [go_sem, ↓reduceIte, Nat.reduceEqDiff, Nat.reduceAdd, Nat.reduceSub, Nat.reduceMul, Nat.reduceLT, Nat.reduceLeDiff, Int.reduceEq, Int.reduceLT, Int.reduceLE, Int.reduceAdd, Int.reduceSub, Int.reduceMul, Int.reduceNeg, Int.reduceToNat, Int.reduceNe, reduceCtorEq]
  (repeat (refine guO_merge (fun hb => by (have hb' := hb; (try simp only [nrm] at hb'); have hc := hb; (try simp only [Bool.and_eq_true] at hc); first | (simp (disch := (first | decide | omega | (simp only [go_sem, hb]; done) | (simp only [go_sem, hb]; omega))) only [go_sem, ↓reduceIte, Nat.reduceEqDiff, Nat.reduceAdd, Nat.reduceSub, Nat.reduceMul, Nat.reduceLT, Nat.reduceLeDiff, Int.reduceEq, Int.reduceLT, Int.reduceLE, Int.reduceAdd, Int.reduceSub, Int.reduceMul, Int.reduceNeg, Int.reduceToNat, Int.reduceNe, reduceCtorEq, hb]; rfl) | (simp (disch := (first | decide | omega | (simp only [go_sem, hc]; done) | (simp only [go_sem, hc]; omega))) only [go_sem, ↓reduceIte, Nat.reduceEqDiff, Nat.reduceAdd, Nat.reduceSub, Nat.reduceMul, Nat.reduceLT, Nat.reduceLeDiff, Int.reduceEq, Int.reduceLT, Int.reduceLE, Int.reduceAdd, Int.reduceSub, Int.reduceMul, Int.reduceNeg, Int.reduceToNat, Int.reduceNe, reduceCtorEq, hc]; rfl))) rfl ?_; simp (disch := (first | decide | omega | (simp only [go_sem]; done) | (simp only [go_sem]; omega))) only [go_sem, ↓reduceIte, Nat.reduceEqDiff, Nat.reduceAdd, Nat.reduceSub, Nat.reduceMul, Nat.reduceLT, Nat.reduceLeDiff, Int.reduceEq, Int.reduceLT, Int.reduceLE, Int.reduceAdd, Int.reduceSub, Int.reduceMul, Int.reduceNeg, Int.reduceToNat, Int.reduceNe, reduceCtorEq]))
  exact q _ _ (by first | rfl | (simp []; done) | grind []) (by first | exact Ext.refl | exact ⟨_, rfl⟩)

def strangeB : Doc → Bool
  | .mk kind b num text list keys =>
    (b && !decide (kind = 2)) || (!(!num.neg && num.dig = [] && num.exp = 0) && !decide (kind = 3)) || (text ≠ [] && kind ≠ 4) || (0 < keys.length && kind ≠ 6) ||
    (if kind = 6 then keys.length ≠ list.length else 0 < list.length && kind ≠ 5)

theorem f237 {cs : List Value} {d : Doc} {H : Heap} (hd : DocAt H cs d) {Q : Out → Prop} (q : ∀ v H', v = .bool (strangeB d) → Ext H H' → Q (.ret v H')) : Cl tab 237 [.agg ⟨cs⟩] H Q := by
  obtain @⟨kind, b, num, text, list, keys, la, lc, ka, kc, cs, hi, hk, hg, hdl⟩ := hd
  apply e237
  simp (disch := (first | decide | omega | (simp only [go_sem]; done) | (simp only [go_sem]; omega))) only [go_sem, ↓reduceIte, Nat.reduceEqDiff, Nat.reduceAdd, Nat.reduceSub, Nat.reduceMul, Nat.reduceLT, Nat.reduceLeDiff, Int.reduceEq, Int.reduceLT, Int.reduceLE, Int.reduceAdd, Int.reduceSub, Int.reduceMul, Int.reduceNeg, Int.reduceToNat, Int.reduceNe, reduceCtorEq]
  (repeat (refine guO_merge (fun hb => by (have hb' := hb; (try simp only [nrm] at hb'); have hc := hb; (try simp only [Bool.and_eq_true] at hc); first | (simp (disch := (first | decide | omega | (simp only [go_sem, hb]; done) | (simp only [go_sem, hb]; omega))) only [go_sem, ↓reduceIte, Nat.reduceEqDiff, Nat.reduceAdd, Nat.reduceSub, Nat.reduceMul, Nat.reduceLT, Nat.reduceLeDiff, Int.reduceEq, Int.reduceLT, Int.reduceLE, Int.reduceAdd, Int.reduceSub, Int.reduceMul, Int.reduceNeg, Int.reduceToNat, Int.reduceNe, reduceCtorEq, hb]; rfl) | (simp (disch := (first | decide | omega | (simp only [go_sem, hc]; done) | (simp only [go_sem, hc]; omega))) only [go_sem, ↓reduceIte, Nat.reduceEqDiff, Nat.reduceAdd, Nat.reduceSub, Nat.reduceMul, Nat.reduceLT, Nat.reduceLeDiff, Int.reduceEq, Int.reduceLT, Int.reduceLE, Int.reduceAdd, Int.reduceSub, Int.reduceMul, Int.reduceNeg, Int.reduceToNat, Int.reduceNe, reduceCtorEq, hc]; rfl))) rfl ?_; simp (disch := (first | decide | omega | (simp only [go_sem]; done) | (simp only [go_sem]; omega))) only [go_sem, ↓reduceIte, Nat.reduceEqDiff, Nat.reduceAdd, Nat.reduceSub, Nat.reduceMul, Nat.reduceLT, Nat.reduceLeDiff, Int.reduceEq, Int.reduceLT, Int.reduceLE, Int.reduceAdd, Int.reduceSub, Int.reduceMul, Int.reduceNeg, Int.reduceToNat, Int.reduceNe, reduceCtorEq]))
  refine brK_of (fun h1 => ?_) (fun h1 => ?_)
  · simp (disch := (first | decide | omega | (simp only [go_sem]; done) | (simp only [go_sem]; omega))) only [go_sem, ↓reduceIte, Nat.reduceEqDiff, Nat.reduceAdd, Nat.reduceSub, Nat.reduceMul, Nat.reduceLT, Nat.reduceLeDiff, Int.reduceEq, Int.reduceLT, Int.reduceLE, Int.reduceAdd, Int.reduceSub, Int.reduceMul, Int.reduceNeg, Int.reduceToNat, Int.reduceNe, reduceCtorEq]
    exact q _ _ (by first | rfl | (simp [strangeB]; done) | grind [strangeB]) (by first | exact Ext.refl | exact ⟨_, rfl⟩)
  simp (disch := (first | decide | omega | (simp only [go_sem]; done) | (simp only [go_sem]; omega))) only [go_sem, ↓reduceIte, Nat.reduceEqDiff, Nat.reduceAdd, Nat.reduceSub, Nat.reduceMul, Nat.reduceLT, Nat.reduceLeDiff, Int.reduceEq, Int.reduceLT, Int.reduceLE, Int.reduceAdd, Int.reduceSub, Int.reduceMul, Int.reduceNeg, Int.reduceToNat, Int.reduceNe, reduceCtorEq]
  (repeat (refine guO_merge (fun hb => by (have hb' := hb; (try simp only [nrm] at hb'); have hc := hb; (try simp only [Bool.and_eq_true] at hc); first | (simp (disch := (first | decide | omega | (simp only [go_sem, hb]; done) | (simp only [go_sem, hb]; omega))) only [go_sem, ↓reduceIte, Nat.reduceEqDiff, Nat.reduceAdd, Nat.reduceSub, Nat.reduceMul, Nat.reduceLT, Nat.reduceLeDiff, Int.reduceEq, Int.reduceLT, Int.reduceLE, Int.reduceAdd, Int.reduceSub, Int.reduceMul, Int.reduceNeg, Int.reduceToNat, Int.reduceNe, reduceCtorEq, hb]; rfl) | (simp (disch := (first | decide | omega | (simp only [go_sem, hc]; done) | (simp only [go_sem, hc]; omega))) only [go_sem, ↓reduceIte, Nat.reduceEqDiff, Nat.reduceAdd, Nat.reduceSub, Nat.reduceMul, Nat.reduceLT, Nat.reduceLeDiff, Int.reduceEq, Int.reduceLT, Int.reduceLE, Int.reduceAdd, Int.reduceSub, Int.reduceMul, Int.reduceNeg, Int.reduceToNat, Int.reduceNe, reduceCtorEq, hc]; rfl))) rfl ?_; simp (disch := (first | decide | omega | (simp only [go_sem]; done) | (simp only [go_sem]; omega))) only [go_sem, ↓reduceIte, Nat.reduceEqDiff, Nat.reduceAdd, Nat.reduceSub, Nat.reduceMul, Nat.reduceLT, Nat.reduceLeDiff, Int.reduceEq, Int.reduceLT, Int.reduceLE, Int.reduceAdd, Int.reduceSub, Int.reduceMul, Int.reduceNeg, Int.reduceToNat, Int.reduceNe, reduceCtorEq]))
  refine brK_of (fun h2 => ?_) (fun h2 => ?_)
  · simp (disch := (first | decide | omega | (simp only [go_sem]; done) | (simp only [go_sem]; omega))) only [go_sem, ↓reduceIte, Nat.reduceEqDiff, Nat.reduceAdd, Nat.reduceSub, Nat.reduceMul, Nat.reduceLT, Nat.reduceLeDiff, Int.reduceEq, Int.reduceLT, Int.reduceLE, Int.reduceAdd, Int.reduceSub, Int.reduceMul, Int.reduceNeg, Int.reduceToNat, Int.reduceNe, reduceCtorEq]
    exact q _ _ (by first | rfl | (simp [strangeB]; done) | grind [strangeB]) (by first | exact Ext.refl | exact ⟨_, rfl⟩)
  simp (disch := (first | decide | omega | (simp only [go_sem]; done) | (simp only [go_sem]; omega))) only [go_sem, ↓reduceIte, Nat.reduceEqDiff, Nat.reduceAdd, Nat.reduceSub, Nat.reduceMul, Nat.reduceLT, Nat.reduceLeDiff, Int.reduceEq, Int.reduceLT, Int.reduceLE, Int.reduceAdd, Int.reduceSub, Int.reduceMul, Int.reduceNeg, Int.reduceToNat, Int.reduceNe, reduceCtorEq]
  (repeat (refine guO_merge (fun hb => by (have hb' := hb; (try simp only [nrm] at hb'); have hc := hb; (try simp only [Bool.and_eq_true] at hc); first | (simp (disch := (first | decide | omega | (simp only [go_sem, hb]; done) | (simp only [go_sem, hb]; omega))) only [go_sem, ↓reduceIte, Nat.reduceEqDiff, Nat.reduceAdd, Nat.reduceSub, Nat.reduceMul, Nat.reduceLT, Nat.reduceLeDiff, Int.reduceEq, Int.reduceLT, Int.reduceLE, Int.reduceAdd, Int.reduceSub, Int.reduceMul, Int.reduceNeg, Int.reduceToNat, Int.reduceNe, reduceCtorEq, hb]; rfl) | (simp (disch := (first | decide | omega | (simp only [go_sem, hc]; done) | (simp only [go_sem, hc]; omega))) only [go_sem, ↓reduceIte, Nat.reduceEqDiff, Nat.reduceAdd, Nat.reduceSub, Nat.reduceMul, Nat.reduceLT, Nat.reduceLeDiff, Int.reduceEq, Int.reduceLT, Int.reduceLE, Int.reduceAdd, Int.reduceSub, Int.reduceMul, Int.reduceNeg, Int.reduceToNat, Int.reduceNe, reduceCtorEq, hc]; rfl))) rfl ?_; simp (disch := (first | decide | omega | (simp only [go_sem]; done) | (simp only [go_sem]; omega))) only [go_sem, ↓reduceIte, Nat.reduceEqDiff, Nat.reduceAdd, Nat.reduceSub, Nat.reduceMul, Nat.reduceLT, Nat.reduceLeDiff, Int.reduceEq, Int.reduceLT, Int.reduceLE, Int.reduceAdd, Int.reduceSub, Int.reduceMul, Int.reduceNeg, Int.reduceToNat, Int.reduceNe, reduceCtorEq]))
  refine brK_of (fun h3 => ?_) (fun h3 => ?_)
  · simp (disch := (first | decide | omega | (simp only [go_sem]; done) | (simp only [go_sem]; omega))) only [go_sem, ↓reduceIte, Nat.reduceEqDiff, Nat.reduceAdd, Nat.reduceSub, Nat.reduceMul, Nat.reduceLT, Nat.reduceLeDiff, Int.reduceEq, Int.reduceLT, Int.reduceLE, Int.reduceAdd, Int.reduceSub, Int.reduceMul, Int.reduceNeg, Int.reduceToNat, Int.reduceNe, reduceCtorEq]
    exact q _ _ (by first | rfl | (simp [strangeB]; done) | grind [strangeB]) (by first | exact Ext.refl | exact ⟨_, rfl⟩)
  simp (disch := (first | decide | omega | (simp only [go_sem]; done) | (simp only [go_sem]; omega))) only [go_sem, ↓reduceIte, Nat.reduceEqDiff, Nat.reduceAdd, Nat.reduceSub, Nat.reduceMul, Nat.reduceLT, Nat.reduceLeDiff, Int.reduceEq, Int.reduceLT, Int.reduceLE, Int.reduceAdd, Int.reduceSub, Int.reduceMul, Int.reduceNeg, Int.reduceToNat, Int.reduceNe, reduceCtorEq]
  (repeat (refine guO_merge (fun hb => by (have hb' := hb; (try simp only [nrm] at hb'); have hc := hb; (try simp only [Bool.and_eq_true] at hc); first | (simp (disch := (first | decide | omega | (simp only [go_sem, hb]; done) | (simp only [go_sem, hb]; omega))) only [go_sem, ↓reduceIte, Nat.reduceEqDiff, Nat.reduceAdd, Nat.reduceSub, Nat.reduceMul, Nat.reduceLT, Nat.reduceLeDiff, Int.reduceEq, Int.reduceLT, Int.reduceLE, Int.reduceAdd, Int.reduceSub, Int.reduceMul, Int.reduceNeg, Int.reduceToNat, Int.reduceNe, reduceCtorEq, hb]; rfl) | (simp (disch := (first | decide | omega | (simp only [go_sem, hc]; done) | (simp only [go_sem, hc]; omega))) only [go_sem, ↓reduceIte, Nat.reduceEqDiff, Nat.reduceAdd, Nat.reduceSub, Nat.reduceMul, Nat.reduceLT, Nat.reduceLeDiff, Int.reduceEq, Int.reduceLT, Int.reduceLE, Int.reduceAdd, Int.reduceSub, Int.reduceMul, Int.reduceNeg, Int.reduceToNat, Int.reduceNe, reduceCtorEq, hc]; rfl))) rfl ?_; simp (disch := (first | decide | omega | (simp only [go_sem]; done) | (simp only [go_sem]; omega))) only [go_sem, ↓reduceIte, Nat.reduceEqDiff, Nat.reduceAdd, Nat.reduceSub, Nat.reduceMul, Nat.reduceLT, Nat.reduceLeDiff, Int.reduceEq, Int.reduceLT, Int.reduceLE, Int.reduceAdd, Int.reduceSub, Int.reduceMul, Int.reduceNeg, Int.reduceToNat, Int.reduceNe, reduceCtorEq]))
  refine brK_of (fun h4 => ?_) (fun h4 => ?_)
  · simp (disch := (first | decide | omega | (simp only [go_sem]; done) | (simp only [go_sem]; omega))) only [go_sem, ↓reduceIte, Nat.reduceEqDiff, Nat.reduceAdd, Nat.reduceSub, Nat.reduceMul, Nat.reduceLT, Nat.reduceLeDiff, Int.reduceEq, Int.reduceLT, Int.reduceLE, Int.reduceAdd, Int.reduceSub, Int.reduceMul, Int.reduceNeg, Int.reduceToNat, Int.reduceNe, reduceCtorEq]
    exact q _ _ (by first | rfl | (simp [strangeB]; done) | grind [strangeB]) (by first | exact Ext.refl | exact ⟨_, rfl⟩)
  simp (disch := (first | decide | omega | (simp only [go_sem]; done) | (simp only [go_sem]; omega))) only [go_sem, ↓reduceIte, Nat.reduceEqDiff, Nat.reduceAdd, Nat.reduceSub, Nat.reduceMul, Nat.reduceLT, Nat.reduceLeDiff, Int.reduceEq, Int.reduceLT, Int.reduceLE, Int.reduceAdd, Int.reduceSub, Int.reduceMul, Int.reduceNeg, Int.reduceToNat, Int.reduceNe, reduceCtorEq]
  refine brK_of (fun h5 => ?_) (fun h5 => ?_)
  · simp (disch := (first | decide | omega | (simp only [go_sem]; done) | (simp only [go_sem]; omega))) only [go_sem, ↓reduceIte, Nat.reduceEqDiff, Nat.reduceAdd, Nat.reduceSub, Nat.reduceMul, Nat.reduceLT, Nat.reduceLeDiff, Int.reduceEq, Int.reduceLT, Int.reduceLE, Int.reduceAdd, Int.reduceSub, Int.reduceMul, Int.reduceNeg, Int.reduceToNat, Int.reduceNe, reduceCtorEq]
    exact q _ _ (by first | rfl | (simp [strangeB]; done) | grind [strangeB]) (by first | exact Ext.refl | exact ⟨_, rfl⟩)
  · simp (disch := (first | decide | omega | (simp only [go_sem]; done) | (simp only [go_sem]; omega))) only [go_sem, ↓reduceIte, Nat.reduceEqDiff, Nat.reduceAdd, Nat.reduceSub, Nat.reduceMul, Nat.reduceLT, Nat.reduceLeDiff, Int.reduceEq, Int.reduceLT, Int.reduceLE, Int.reduceAdd, Int.reduceSub, Int.reduceMul, Int.reduceNeg, Int.reduceToNat, Int.reduceNe, reduceCtorEq]
    (repeat (refine guO_merge (fun hb => by (have hb' := hb; (try simp only [nrm] at hb'); have hc := hb; (try simp only [Bool.and_eq_true] at hc); first | (simp (disch := (first | decide | omega | (simp only [go_sem, hb]; done) | (simp only [go_sem, hb]; omega))) only [go_sem, ↓reduceIte, Nat.reduceEqDiff, Nat.reduceAdd, Nat.reduceSub, Nat.reduceMul, Nat.reduceLT, Nat.reduceLeDiff, Int.reduceEq, Int.reduceLT, Int.reduceLE, Int.reduceAdd, Int.reduceSub, Int.reduceMul, Int.reduceNeg, Int.reduceToNat, Int.reduceNe, reduceCtorEq, hb]; rfl) | (simp (disch := (first | decide | omega | (simp only [go_sem, hc]; done) | (simp only [go_sem, hc]; omega))) only [go_sem, ↓reduceIte, Nat.reduceEqDiff, Nat.reduceAdd, Nat.reduceSub, Nat.reduceMul, Nat.reduceLT, Nat.reduceLeDiff, Int.reduceEq, Int.reduceLT, Int.reduceLE, Int.reduceAdd, Int.reduceSub, Int.reduceMul, Int.reduceNeg, Int.reduceToNat, Int.reduceNe, reduceCtorEq, hc]; rfl))) rfl ?_; simp (disch := (first | decide | omega | (simp only [go_sem]; done) | (simp only [go_sem]; omega))) only [go_sem, ↓reduceIte, Nat.reduceEqDiff, Nat.reduceAdd, Nat.reduceSub, Nat.reduceMul, Nat.reduceLT, Nat.reduceLeDiff, Int.reduceEq, Int.reduceLT, Int.reduceLE, Int.reduceAdd, Int.reduceSub, Int.reduceMul, Int.reduceNeg, Int.reduceToNat, Int.reduceNe, reduceCtorEq]))
    exact q _ _ (by first | rfl | (simp [strangeB]; done) | grind [strangeB]) (by first | exact Ext.refl | exact ⟨_, rfl⟩)
end Ve
end Go.Proofs.YtnociodpfmlglaaGreatDoor

/-
  Texts without what stands at their ends.
-/
set_option linter.unusedVariables false
set_option linter.unusedSimpArgs false
namespace Go.Proofs.YtnociodpfmlglaaGreatDoor
namespace Ve
open Go

def trimL (p : UInt8 → Bool) (l : Str) : Str := l.dropWhile p
def trimR (p : UInt8 → Bool) (l : Str) : Str := (l.reverse.dropWhile p).reverse

theorem f233 {ai ao : Nat} {n : Int} {b : Bool} {H : Heap} (h0 : 0 ≤ n) (h1 : n < 256) (hg : get1 H ai (ao + n.toNat) = some (.bool b)) {Q : Out → Prop} (q : ∀ v H', v = .bool b → Ext H H' → Q (.ret v H')) : Cl tab 233 [.pointer (some ⟨ai, ao, none⟩), .int .u8 n] H Q := by
  apply e233
  simp (disch := (first | decide | omega | (simp only [go_sem, hg]; done) | (simp only [go_sem, hg]; omega))) only [go_sem, ↓reduceIte, Nat.reduceEqDiff, Nat.reduceAdd, Nat.reduceSub, Nat.reduceMul, Nat.reduceLT, Nat.reduceLeDiff, Int.reduceEq, Int.reduceLT, Int.reduceLE, Int.reduceAdd, Int.reduceSub, Int.reduceMul, Int.reduceNeg, Int.reduceToNat, Int.reduceNe, reduceCtorEq, hg]
  exact q _ _ (by first | rfl | (simp []; done) | grind []) (by first | exact Ext.refl | exact ⟨_, rfl⟩)

theorem f156 {ai ao : Nat} {P : Nat → Bool} {s : Str} {H : Heap} (hm : ∀ j < 256, get1 H ai (ao + j) = some (.bool (P j))) {Q : Out → Prop} (q : ∀ v H', v = strOf (trimL (fun c => P c.toNat) s) → Ext H H' → Q (.ret v H')) :
    Cl tab 156 [strOf s, .pointer (some ⟨ai, ao, none⟩)] H Q := by
  apply e156
  simp (disch := (first | decide | omega | (simp only [go_sem]; done) | (simp only [go_sem]; omega))) only [go_sem, ↓reduceIte, Nat.reduceEqDiff, Nat.reduceAdd, Nat.reduceSub, Nat.reduceMul, Nat.reduceLT, Nat.reduceLeDiff, Int.reduceEq, Int.reduceLT, Int.reduceLE, Int.reduceAdd, Int.reduceSub, Int.reduceMul, Int.reduceNeg, Int.reduceToNat, Int.reduceNe, reduceCtorEq]
  refine w156_3 (ι := Str) s (fun s' e h => Ext H h ∧ e.length = 16 ∧ gt e 0 = strOf s' ∧ gt e 1 = .pointer (some ⟨ai, ao, none⟩) ∧ trimL (fun c => P c.toNat) s' = trimL (fun c => P c.toNat) s) (fun s' => s'.length) ?_ ?_
  · refine ⟨Ext.refl, ?_⟩
    simp (disch := (first | decide | omega | (simp only [go_sem]; done) | (simp only [go_sem]; omega))) only [go_sem, ↓reduceIte, Nat.reduceEqDiff, Nat.reduceAdd, Nat.reduceSub, Nat.reduceMul, Nat.reduceLT, Nat.reduceLeDiff, Int.reduceEq, Int.reduceLT, Int.reduceLE, Int.reduceAdd, Int.reduceSub, Int.reduceMul, Int.reduceNeg, Int.reduceToNat, Int.reduceNe, reduceCtorEq]
  · rintro s' e h ⟨⟨J, rfl⟩, he, e0, e1, ht⟩ ih
    cases s' with
    | nil =>
      simp (disch := (first | decide | omega | (simp only [go_sem, e0, e1]; done) | (simp only [go_sem, e0, e1]; omega))) only [go_sem, ↓reduceIte, Nat.reduceEqDiff, Nat.reduceAdd, Nat.reduceSub, Nat.reduceMul, Nat.reduceLT, Nat.reduceLeDiff, Int.reduceEq, Int.reduceLT, Int.reduceLE, Int.reduceAdd, Int.reduceSub, Int.reduceMul, Int.reduceNeg, Int.reduceToNat, Int.reduceNe, reduceCtorEq, e0, e1]
      refine q _ _ ?_ (by first | exact Ext.refl | exact ⟨_, rfl⟩)
      rw [← ht]; rfl
    | cons c r =>
      have hc := c.toNat_lt
      have hgc : get1 (H ++ J) ai (ao + ((c.toNat : Int)).toNat) = some (.bool (P c.toNat)) := by
        rw [Int.toNat_natCast, get1_app_lt (get1_lt (hm c.toNat hc))]; exact hm c.toNat hc
      simp (disch := (first | decide | omega | (simp only [go_sem, e0, e1]; done) | (simp only [go_sem, e0, e1]; omega))) only [go_sem, ↓reduceIte, Nat.reduceEqDiff, Nat.reduceAdd, Nat.reduceSub, Nat.reduceMul, Nat.reduceLT, Nat.reduceLeDiff, Int.reduceEq, Int.reduceLT, Int.reduceLE, Int.reduceAdd, Int.reduceSub, Int.reduceMul, Int.reduceNeg, Int.reduceToNat, Int.reduceNe, reduceCtorEq, e0, e1]
      refine brK_prop (fun hh => ?_) (fun hh => by omega)
      simp (disch := (first | decide | omega | (simp only [go_sem, e0, e1]; done) | (simp only [go_sem, e0, e1]; omega))) only [go_sem, ↓reduceIte, Nat.reduceEqDiff, Nat.reduceAdd, Nat.reduceSub, Nat.reduceMul, Nat.reduceLT, Nat.reduceLeDiff, Int.reduceEq, Int.reduceLT, Int.reduceLE, Int.reduceAdd, Int.reduceSub, Int.reduceMul, Int.reduceNeg, Int.reduceToNat, Int.reduceNe, reduceCtorEq, e0, e1]
      refine f233 (by omega) (by omega) hgc ?_
      rintro _ _ rfl ⟨J2, rfl⟩
      simp (disch := (first | decide | omega | (simp only [go_sem, e0, e1]; done) | (simp only [go_sem, e0, e1]; omega))) only [go_sem, ↓reduceIte, Nat.reduceEqDiff, Nat.reduceAdd, Nat.reduceSub, Nat.reduceMul, Nat.reduceLT, Nat.reduceLeDiff, Int.reduceEq, Int.reduceLT, Int.reduceLE, Int.reduceAdd, Int.reduceSub, Int.reduceMul, Int.reduceNeg, Int.reduceToNat, Int.reduceNe, reduceCtorEq, e0, e1]
      cases hp : P c.toNat
      · simp (disch := (first | decide | omega | (simp only [go_sem, e0, e1]; done) | (simp only [go_sem, e0, e1]; omega))) only [go_sem, ↓reduceIte, Nat.reduceEqDiff, Nat.reduceAdd, Nat.reduceSub, Nat.reduceMul, Nat.reduceLT, Nat.reduceLeDiff, Int.reduceEq, Int.reduceLT, Int.reduceLE, Int.reduceAdd, Int.reduceSub, Int.reduceMul, Int.reduceNeg, Int.reduceToNat, Int.reduceNe, reduceCtorEq, e0, e1]
        refine q _ _ ?_ (by first | exact Ext.refl | exact ⟨_, rfl⟩)
        rw [← ht]
        simp [trimL, List.dropWhile_cons, hp]
      · simp (disch := (first | decide | omega | (simp only [go_sem, e0, e1]; done) | (simp only [go_sem, e0, e1]; omega))) only [go_sem, ↓reduceIte, Nat.reduceEqDiff, Nat.reduceAdd, Nat.reduceSub, Nat.reduceMul, Nat.reduceLT, Nat.reduceLeDiff, Int.reduceEq, Int.reduceLT, Int.reduceLE, Int.reduceAdd, Int.reduceSub, Int.reduceMul, Int.reduceNeg, Int.reduceToNat, Int.reduceNe, reduceCtorEq, e0, e1]
        refine ih r _ _ (by simp) ⟨(by first | exact Ext.refl | exact ⟨_, rfl⟩), ?_⟩
        simp (disch := (first | decide | omega | (simp only [go_sem, e0, e1, he]; done) | (simp only [go_sem, e0, e1, he]; omega))) only [go_sem, ↓reduceIte, Nat.reduceEqDiff, Nat.reduceAdd, Nat.reduceSub, Nat.reduceMul, Nat.reduceLT, Nat.reduceLeDiff, Int.reduceEq, Int.reduceLT, Int.reduceLE, Int.reduceAdd, Int.reduceSub, Int.reduceMul, Int.reduceNeg, Int.reduceToNat, Int.reduceNe, reduceCtorEq, e0, e1, he]
        rw [← ht]
        simp [trimL, List.dropWhile_cons, hp]

theorem at8_last {r : Str} {c : UInt8} : at8 (r ++ [c]) (r.length : Int) = (c.toNat : Int) := by
  simp [at8, List.getD_eq_getElem?_getD]
theorem f157 {ai ao : Nat} {P : Nat → Bool} {s : Str} {H : Heap} (hm : ∀ j < 256, get1 H ai (ao + j) = some (.bool (P j))) (hs : s.length ≤ 1000000000000) {Q : Out → Prop} (q : ∀ v H', v = strOf (trimR (fun c => P c.toNat) s) → Ext H H' → Q (.ret v H')) :
    Cl tab 157 [strOf s, .pointer (some ⟨ai, ao, none⟩)] H Q := by
  apply e157
  simp (disch := (first | decide | omega | (simp only [go_sem]; done) | (simp only [go_sem]; omega))) only [go_sem, ↓reduceIte, Nat.reduceEqDiff, Nat.reduceAdd, Nat.reduceSub, Nat.reduceMul, Nat.reduceLT, Nat.reduceLeDiff, Int.reduceEq, Int.reduceLT, Int.reduceLE, Int.reduceAdd, Int.reduceSub, Int.reduceMul, Int.reduceNeg, Int.reduceToNat, Int.reduceNe, reduceCtorEq]
  refine w157_3 (ι := Str) s (fun s' e h => Ext H h ∧ e.length = 22 ∧ s'.length ≤ s.length ∧ gt e 0 = strOf s' ∧ gt e 1 = .pointer (some ⟨ai, ao, none⟩) ∧ trimR (fun c => P c.toNat) s' = trimR (fun c => P c.toNat) s) (fun s' => s'.length) ?_ ?_
  · refine ⟨Ext.refl, ?_⟩
    simp (disch := (first | decide | omega | (simp only [go_sem]; done) | (simp only [go_sem]; omega))) only [go_sem, ↓reduceIte, Nat.reduceEqDiff, Nat.reduceAdd, Nat.reduceSub, Nat.reduceMul, Nat.reduceLT, Nat.reduceLeDiff, Int.reduceEq, Int.reduceLT, Int.reduceLE, Int.reduceAdd, Int.reduceSub, Int.reduceMul, Int.reduceNeg, Int.reduceToNat, Int.reduceNe, reduceCtorEq]
    simp
  · rintro s' e h ⟨⟨J, rfl⟩, he, hl, e0, e1, ht⟩ ih
    rcases List.eq_nil_or_concat s' with rfl | ⟨r, c, rfl⟩
    · simp (disch := (first | decide | omega | (simp only [go_sem, e0, e1]; done) | (simp only [go_sem, e0, e1]; omega))) only [go_sem, ↓reduceIte, Nat.reduceEqDiff, Nat.reduceAdd, Nat.reduceSub, Nat.reduceMul, Nat.reduceLT, Nat.reduceLeDiff, Int.reduceEq, Int.reduceLT, Int.reduceLE, Int.reduceAdd, Int.reduceSub, Int.reduceMul, Int.reduceNeg, Int.reduceToNat, Int.reduceNe, reduceCtorEq, e0, e1]
      refine q _ _ ?_ (by first | exact Ext.refl | exact ⟨_, rfl⟩)
      rw [← ht]; rfl
    · have hc := c.toNat_lt
      simp only [List.concat_eq_append, List.length_append, List.length_cons, List.length_nil] at *
      have hgc : get1 (H ++ J) ai (ao + ((c.toNat : Int)).toNat) = some (.bool (P c.toNat)) := by
        rw [Int.toNat_natCast, get1_app_lt (get1_lt (hm c.toNat hc))]; exact hm c.toNat hc
      simp (disch := (first | decide | omega | (simp only [go_sem, e0, e1]; done) | (simp only [go_sem, e0, e1]; omega))) only [go_sem, ↓reduceIte, Nat.reduceEqDiff, Nat.reduceAdd, Nat.reduceSub, Nat.reduceMul, Nat.reduceLT, Nat.reduceLeDiff, Int.reduceEq, Int.reduceLT, Int.reduceLE, Int.reduceAdd, Int.reduceSub, Int.reduceMul, Int.reduceNeg, Int.reduceToNat, Int.reduceNe, reduceCtorEq, e0, e1]
      refine brK_prop (fun hh => ?_) (fun hh => by omega)
      have hsub : ((r.length + 1 : Nat) : Int) - 1 = (r.length : Int) := by omega
      simp (disch := (first | decide | omega | (simp only [go_sem, e0, e1, hsub, at8_last]; done) | (simp only [go_sem, e0, e1, hsub, at8_last]; omega))) only [go_sem, ↓reduceIte, Nat.reduceEqDiff, Nat.reduceAdd, Nat.reduceSub, Nat.reduceMul, Nat.reduceLT, Nat.reduceLeDiff, Int.reduceEq, Int.reduceLT, Int.reduceLE, Int.reduceAdd, Int.reduceSub, Int.reduceMul, Int.reduceNeg, Int.reduceToNat, Int.reduceNe, reduceCtorEq, e0, e1, hsub, at8_last]
      refine f233 (by omega) (by omega) hgc ?_
      rintro _ _ rfl ⟨J2, rfl⟩
      simp (disch := (first | decide | omega | (simp only [go_sem, e0, e1]; done) | (simp only [go_sem, e0, e1]; omega))) only [go_sem, ↓reduceIte, Nat.reduceEqDiff, Nat.reduceAdd, Nat.reduceSub, Nat.reduceMul, Nat.reduceLT, Nat.reduceLeDiff, Int.reduceEq, Int.reduceLT, Int.reduceLE, Int.reduceAdd, Int.reduceSub, Int.reduceMul, Int.reduceNeg, Int.reduceToNat, Int.reduceNe, reduceCtorEq, e0, e1]
      cases hp : P c.toNat
      · simp (disch := (first | decide | omega | (simp only [go_sem, e0, e1]; done) | (simp only [go_sem, e0, e1]; omega))) only [go_sem, ↓reduceIte, Nat.reduceEqDiff, Nat.reduceAdd, Nat.reduceSub, Nat.reduceMul, Nat.reduceLT, Nat.reduceLeDiff, Int.reduceEq, Int.reduceLT, Int.reduceLE, Int.reduceAdd, Int.reduceSub, Int.reduceMul, Int.reduceNeg, Int.reduceToNat, Int.reduceNe, reduceCtorEq, e0, e1]
        refine q _ _ ?_ (by first | exact Ext.refl | exact ⟨_, rfl⟩)
        rw [← ht]
        simp [trimR, List.dropWhile_cons, hp]
      · simp (disch := (first | decide | omega | (simp only [go_sem, e0, e1, hsub, List.take_left]; done) | (simp only [go_sem, e0, e1, hsub, List.take_left]; omega))) only [go_sem, ↓reduceIte, Nat.reduceEqDiff, Nat.reduceAdd, Nat.reduceSub, Nat.reduceMul, Nat.reduceLT, Nat.reduceLeDiff, Int.reduceEq, Int.reduceLT, Int.reduceLE, Int.reduceAdd, Int.reduceSub, Int.reduceMul, Int.reduceNeg, Int.reduceToNat, Int.reduceNe, reduceCtorEq, e0, e1, hsub, List.take_left]
        refine ih r _ _ (by simp) ⟨(by first | exact Ext.refl | exact ⟨_, rfl⟩), ?_⟩
        simp (disch := (first | decide | omega | (simp only [go_sem, e0, e1, he]; done) | (simp only [go_sem, e0, e1, he]; omega))) only [go_sem, ↓reduceIte, Nat.reduceEqDiff, Nat.reduceAdd, Nat.reduceSub, Nat.reduceMul, Nat.reduceLT, Nat.reduceLeDiff, Int.reduceEq, Int.reduceLT, Int.reduceLE, Int.reduceAdd, Int.reduceSub, Int.reduceMul, Int.reduceNeg, Int.reduceToNat, Int.reduceNe, reduceCtorEq, e0, e1, he]
        refine ⟨by omega, ?_⟩
        rw [← ht]
        simp [trimR, List.dropWhile_cons, hp]

def inCut (cut : Str) (j : Nat) : Bool := cut.any fun c => c.toNat == j
def setC (f : Nat → Bool) : List Value := (List.range 256).map fun j => .bool (f j)
theorem setC_length (f : Nat → Bool) : (setC f).length = 256 := by simp [setC]
theorem setC_one (f : Nat → Bool) : (setC f).all one = true := by simp [setC, one]
theorem setC_take (f : Nat → Bool) : (setC f).take 256 = setC f := List.take_of_length_le (by simp [setC])
theorem setC_drop (f : Nat → Bool) : (setC f).drop 256 = [] := List.drop_of_length_le (by simp [setC])
theorem setC_get (f : Nat → Bool) {j : Nat} (h : j < 256) : (setC f)[j]? = some (.bool (f j)) := by simp [setC, h]
theorem setC_set (f : Nat → Bool) (n : Nat) : (setC f).set n (.bool true) = setC fun j => f j || n == j := by
  apply List.ext_getElem (by simp [setC])
  intro j h1 h2
  simp only [setC, List.getElem_set, List.getElem_map, List.getElem_range]
  split
  · rename_i h; simp [h]
  · rename_i h; simp [h]
theorem setC_none : setC (fun _ => false) = List.replicate 256 (.bool false) := by
  simp [setC, List.map_const']

set_option maxRecDepth 100000 in
theorem f155 {cut : Str} {H : Heap} (hc : ∀ c ∈ cut, c.toNat < 128) (hs : cut.length ≤ 1000000) {Q : Out → Prop} (q : ∀ v H', v = .tuple ⟨[.agg ⟨setC (inCut cut)⟩, .bool true]⟩ → Ext H H' → Q (.ret v H')) : Cl tab 155 [strOf cut] H Q := by
  apply e155
  simp (disch := (first | decide | omega | (simp only [go_sem]; done) | (simp only [go_sem]; omega))) only [go_sem, ↓reduceIte, Nat.reduceEqDiff, Nat.reduceAdd, Nat.reduceSub, Nat.reduceMul, Nat.reduceLT, Nat.reduceLeDiff, Int.reduceEq, Int.reduceLT, Int.reduceLE, Int.reduceAdd, Int.reduceSub, Int.reduceMul, Int.reduceNeg, Int.reduceToNat, Int.reduceNe, reduceCtorEq]
  refine w155_5 (ι := Nat) 0 (fun k e h => h = H ++ [.cells (setC (inCut (cut.take k))) (.fix (some 179)) 0] ∧ e.length = 21 ∧ k ≤ cut.length ∧ gt e 0 = strOf cut ∧ gt e 2 = .pointer (some ⟨H.length, 0, none⟩) ∧ gt e 4 = .int .i64 k) (fun k => cut.length - k) ?_ ?_
  · refine ⟨?_, ?_⟩
    · rw [show setC (inCut (cut.take 0)) = List.replicate 256 (.bool false) from setC_none]; rfl
    · simp (disch := (first | decide | omega | (simp only [go_sem]; done) | (simp only [go_sem]; omega))) only [go_sem, ↓reduceIte, Nat.reduceEqDiff, Nat.reduceAdd, Nat.reduceSub, Nat.reduceMul, Nat.reduceLT, Nat.reduceLeDiff, Int.reduceEq, Int.reduceLT, Int.reduceLE, Int.reduceAdd, Int.reduceSub, Int.reduceMul, Int.reduceNeg, Int.reduceToNat, Int.reduceNe, reduceCtorEq]
      simp
  · rintro k e h ⟨rfl, he, hk, e0, e2, e4⟩ ih
    simp (disch := (first | decide | omega | (simp only [go_sem, e0, e2, e4]; done) | (simp only [go_sem, e0, e2, e4]; omega))) only [go_sem, ↓reduceIte, Nat.reduceEqDiff, Nat.reduceAdd, Nat.reduceSub, Nat.reduceMul, Nat.reduceLT, Nat.reduceLeDiff, Int.reduceEq, Int.reduceLT, Int.reduceLE, Int.reduceAdd, Int.reduceSub, Int.reduceMul, Int.reduceNeg, Int.reduceToNat, Int.reduceNe, reduceCtorEq, e0, e2, e4]
    refine brK_prop (fun hh => ?_) (fun hh => ?_)
    · have hlt : k < cut.length := by omega
      have hk8 := hc cut[k] (List.getElem_mem hlt)
      have h8 := at8_get hlt
      simp (disch := (first | decide | omega | (simp only [go_sem, e0, e2, e4, h8]; done) | (simp only [go_sem, e0, e2, e4, h8]; omega))) only [go_sem, ↓reduceIte, Nat.reduceEqDiff, Nat.reduceAdd, Nat.reduceSub, Nat.reduceMul, Nat.reduceLT, Nat.reduceLeDiff, Int.reduceEq, Int.reduceLT, Int.reduceLE, Int.reduceAdd, Int.reduceSub, Int.reduceMul, Int.reduceNeg, Int.reduceToNat, Int.reduceNe, reduceCtorEq, e0, e2, e4, h8]
      refine brK_prop (fun hh => by omega) (fun hh => ?_)
      simp (disch := (first | decide | omega | (simp only [go_sem, e0, e2, e4, h8, setC_length]; done) | (simp only [go_sem, e0, e2, e4, h8, setC_length]; omega))) only [go_sem, ↓reduceIte, Nat.reduceEqDiff, Nat.reduceAdd, Nat.reduceSub, Nat.reduceMul, Nat.reduceLT, Nat.reduceLeDiff, Int.reduceEq, Int.reduceLT, Int.reduceLE, Int.reduceAdd, Int.reduceSub, Int.reduceMul, Int.reduceNeg, Int.reduceToNat, Int.reduceNe, reduceCtorEq, e0, e2, e4, h8, setC_length]
      refine ih (k + 1) _ _ (by omega) ⟨?_, ?_⟩
      · rw [setC_set]
        rw [show (fun j => inCut (cut.take k) j || cut[k].toNat == j) = inCut (cut.take (k + 1)) from ?_]
        funext j
        simp only [inCut, take_snoc hlt, List.any_append, List.any_cons, List.any_nil, Bool.or_false]
      · simp (disch := (first | decide | omega | (simp only [go_sem, e0, e2, e4]; done) | (simp only [go_sem, e0, e2, e4]; omega))) only [go_sem, ↓reduceIte, Nat.reduceEqDiff, Nat.reduceAdd, Nat.reduceSub, Nat.reduceMul, Nat.reduceLT, Nat.reduceLeDiff, Int.reduceEq, Int.reduceLT, Int.reduceLE, Int.reduceAdd, Int.reduceSub, Int.reduceMul, Int.reduceNeg, Int.reduceToNat, Int.reduceNe, reduceCtorEq, e0, e2, e4]
        refine ⟨he, by omega, ?_⟩
        rfl
    · have hke : k = cut.length := by omega
      subst hke
      rw [List.take_length]
      simp (disch := (first | decide | omega | (simp only [go_sem, e0, e2, e4, setC_length, setC_one, setC_take, setC_drop]; done) | (simp only [go_sem, e0, e2, e4, setC_length, setC_one, setC_take, setC_drop]; omega))) only [go_sem, ↓reduceIte, Nat.reduceEqDiff, Nat.reduceAdd, Nat.reduceSub, Nat.reduceMul, Nat.reduceLT, Nat.reduceLeDiff, Int.reduceEq, Int.reduceLT, Int.reduceLE, Int.reduceAdd, Int.reduceSub, Int.reduceMul, Int.reduceNeg, Int.reduceToNat, Int.reduceNe, reduceCtorEq, e0, e2, e4, setC_length, setC_one, setC_take, setC_drop]
      exact q _ _ (by first | rfl | (simp []; done) | grind []) (by first | exact Ext.refl | exact ⟨_, rfl⟩)

set_option maxRecDepth 100000 in
theorem f73 {s cut : Str} {H : Heap} (hc : ∀ c ∈ cut, c.toNat < 128) (h1 : 1 < cut.length) (hs : cut.length ≤ 1000000) (hss : s.length ≤ 1000000000000) {Q : Out → Prop} (q : ∀ v H', v = strOf (trimL (fun c => inCut cut c.toNat) (trimR (fun c => inCut cut c.toNat) s)) → Ext H H' → Q (.ret v H')) : Cl tab 73 [strOf s, strOf cut] H Q := by
  have hc0 : cut ≠ [] := by intro h; subst h; simp at h1
  apply e73
  by_cases hs0 : s = []
  · subst hs0
    simp (disch := (first | decide | omega | (simp only [go_sem]; done) | (simp only [go_sem]; omega))) only [go_sem, ↓reduceIte, Nat.reduceEqDiff, Nat.reduceAdd, Nat.reduceSub, Nat.reduceMul, Nat.reduceLT, Nat.reduceLeDiff, Int.reduceEq, Int.reduceLT, Int.reduceLE, Int.reduceAdd, Int.reduceSub, Int.reduceMul, Int.reduceNeg, Int.reduceToNat, Int.reduceNe, reduceCtorEq]
    exact q _ _ (by first | rfl | (simp []; done) | grind []) (by first | exact Ext.refl | exact ⟨_, rfl⟩)
  simp (disch := (first | decide | omega | (simp only [go_sem, hs0, hc0]; done) | (simp only [go_sem, hs0, hc0]; omega))) only [go_sem, ↓reduceIte, Nat.reduceEqDiff, Nat.reduceAdd, Nat.reduceSub, Nat.reduceMul, Nat.reduceLT, Nat.reduceLeDiff, Int.reduceEq, Int.reduceLT, Int.reduceLE, Int.reduceAdd, Int.reduceSub, Int.reduceMul, Int.reduceNeg, Int.reduceToNat, Int.reduceNe, reduceCtorEq, hs0, hc0]
  have hl1 : ¬ ((cut.length : Int) = 1) := by omega
  simp (disch := (first | decide | omega | (simp only [go_sem, hs0, hc0, hl1]; done) | (simp only [go_sem, hs0, hc0, hl1]; omega))) only [go_sem, ↓reduceIte, Nat.reduceEqDiff, Nat.reduceAdd, Nat.reduceSub, Nat.reduceMul, Nat.reduceLT, Nat.reduceLeDiff, Int.reduceEq, Int.reduceLT, Int.reduceLE, Int.reduceAdd, Int.reduceSub, Int.reduceMul, Int.reduceNeg, Int.reduceToNat, Int.reduceNe, reduceCtorEq, hs0, hc0, hl1]
  refine f155 hc hs ?_
  rintro _ _ rfl ⟨J, rfl⟩
  simp (disch := (first | decide | omega | (simp only [go_sem, setC_length, setC_one]; done) | (simp only [go_sem, setC_length, setC_one]; omega))) only [go_sem, ↓reduceIte, Nat.reduceEqDiff, Nat.reduceAdd, Nat.reduceSub, Nat.reduceMul, Nat.reduceLT, Nat.reduceLeDiff, Int.reduceEq, Int.reduceLT, Int.reduceLE, Int.reduceAdd, Int.reduceSub, Int.reduceMul, Int.reduceNeg, Int.reduceToNat, Int.reduceNe, reduceCtorEq, setC_length, setC_one]
  have hm : ∀ J2 : Heap, ∀ j < 256, get1 (H ++ (J ++ (.cells (setC (inCut cut)) (.fix (some 179)) 0 :: J2))) (H.length + J.length) (0 + j) = some (.bool (inCut cut j)) := by
    intro J2 j hj
    simp (disch := (first | decide | omega | (simp only [go_sem, setC_get _ hj]; done) | (simp only [go_sem, setC_get _ hj]; omega))) only [go_sem, ↓reduceIte, Nat.reduceEqDiff, Nat.reduceAdd, Nat.reduceSub, Nat.reduceMul, Nat.reduceLT, Nat.reduceLeDiff, Int.reduceEq, Int.reduceLT, Int.reduceLE, Int.reduceAdd, Int.reduceSub, Int.reduceMul, Int.reduceNeg, Int.reduceToNat, Int.reduceNe, reduceCtorEq, setC_get _ hj]
  refine f157 (hm []) hss ?_
  rintro _ _ rfl ⟨J2, rfl⟩
  simp (disch := (first | decide | omega | (simp only [go_sem]; done) | (simp only [go_sem]; omega))) only [go_sem, ↓reduceIte, Nat.reduceEqDiff, Nat.reduceAdd, Nat.reduceSub, Nat.reduceMul, Nat.reduceLT, Nat.reduceLeDiff, Int.reduceEq, Int.reduceLT, Int.reduceLE, Int.reduceAdd, Int.reduceSub, Int.reduceMul, Int.reduceNeg, Int.reduceToNat, Int.reduceNe, reduceCtorEq]
  refine f156 (P := inCut cut) (hm J2) ?_
  rintro _ _ rfl ⟨J3, rfl⟩
  simp (disch := (first | decide | omega | (simp only [go_sem]; done) | (simp only [go_sem]; omega))) only [go_sem, ↓reduceIte, Nat.reduceEqDiff, Nat.reduceAdd, Nat.reduceSub, Nat.reduceMul, Nat.reduceLT, Nat.reduceLeDiff, Int.reduceEq, Int.reduceLT, Int.reduceLE, Int.reduceAdd, Int.reduceSub, Int.reduceMul, Int.reduceNeg, Int.reduceToNat, Int.reduceNe, reduceCtorEq]
  exact q _ _ (by first | rfl | (simp []; done) | grind []) (by first | exact Ext.refl | exact ⟨_, rfl⟩)
end Ve
end Go.Proofs.YtnociodpfmlglaaGreatDoor

/-
  Numbers, nodes and documents: what is checked.
-/
set_option linter.unusedVariables false
set_option linter.unusedSimpArgs false
namespace Go.Proofs.YtnociodpfmlglaaGreatDoor
namespace Ve
open Go

def digits : Str := [48, 49, 50, 51, 52, 53, 54, 55, 56, 57]
theorem digits_in (c : UInt8) : inCut digits c.toNat = isDig c := by
  rw [Bool.eq_iff_iff]
  simp [inCut, digits, isDig]
  omega
theorem dropWhile_nil {p : UInt8 → Bool} : ∀ {l : Str}, l.dropWhile p = [] ↔ ∀ c ∈ l, p c = true
  | [] => by simp
  | a :: l => by
    rw [List.dropWhile_cons]
    cases h : p a <;> simp [h, dropWhile_nil (l := l)]
theorem trim_nil {p : UInt8 → Bool} {s : Str} : trimL p (trimR p s) = [] ↔ s.all p = true := by
  unfold trimL trimR
  rw [dropWhile_nil, List.all_eq_true]
  constructor
  · intro h c hc
    have hc' : c ∈ s.reverse := by simpa using hc
    rw [← List.takeWhile_append_dropWhile (p := p) (l := s.reverse)] at hc'
    rcases List.mem_append.1 hc' with h1 | h1
    · exact (List.all_eq_true.1 List.all_takeWhile) c h1
    · exact h c (by simpa using h1)
  · intro h c hc
    exact h c (by have := List.dropWhile_sublist (p := p) (l := s.reverse); have := this.subset (by simpa using hc : c ∈ s.reverse.dropWhile p); simpa using this)

def numFault (n : Num) : Int :=
  if n.dig = [] ∨ n.dig.all isDig = false then 2
  else if n.dig = [48] then (if n.neg = true ∨ n.exp ≠ 0 then 2 else 0)
  else if at8 n.dig 0 = 48 ∨ at8 n.dig (n.dig.length - 1) = 48 then 2
  else if 30 < n.dig.length ∨ n.exp < -30 ∨ 30 < n.exp then 3 else 0

theorem f16 {n : Num} {H : Heap} (hl : n.dig.length ≤ 1000000000000) {Q : Out → Prop} (q : ∀ v H', v = .int .i64 (numFault n) → Ext H H' → Q (.ret v H')) :
    Cl tab 16 [.agg ⟨[.bool n.neg, strOf n.dig, .int .i64 n.exp]⟩] H Q := by
  obtain ⟨neg, dig, exp⟩ := n
  simp only at hl ⊢
  apply e16
  by_cases h0 : dig = []
  · simp (disch := (first | decide | omega | (simp only [go_sem, h0]; done) | (simp only [go_sem, h0]; omega))) only [go_sem, ↓reduceIte, Nat.reduceEqDiff, Nat.reduceAdd, Nat.reduceSub, Nat.reduceMul, Nat.reduceLT, Nat.reduceLeDiff, Int.reduceEq, Int.reduceLT, Int.reduceLE, Int.reduceAdd, Int.reduceSub, Int.reduceMul, Int.reduceNeg, Int.reduceToNat, Int.reduceNe, reduceCtorEq, h0]
    subst h0
    exact q _ _ (by first | rfl | (simp [numFault]; done) | grind [numFault]) (by first | exact Ext.refl | exact ⟨_, rfl⟩)
  have hlen : 0 < dig.length := List.length_pos_iff.2 h0
  simp (disch := (first | decide | omega | (simp only [go_sem, h0]; done) | (simp only [go_sem, h0]; omega))) only [go_sem, ↓reduceIte, Nat.reduceEqDiff, Nat.reduceAdd, Nat.reduceSub, Nat.reduceMul, Nat.reduceLT, Nat.reduceLeDiff, Int.reduceEq, Int.reduceLT, Int.reduceLE, Int.reduceAdd, Int.reduceSub, Int.reduceMul, Int.reduceNeg, Int.reduceToNat, Int.reduceNe, reduceCtorEq, h0]
  refine f73 (cut := digits) (by simp [digits]) (by simp [digits]) (by simp [digits]) hl ?_
  rintro _ _ rfl ⟨J, rfl⟩
  simp only [digits_in]
  simp (disch := (first | decide | omega | (simp only [go_sem, h0, trim_nil]; done) | (simp only [go_sem, h0, trim_nil]; omega))) only [go_sem, ↓reduceIte, Nat.reduceEqDiff, Nat.reduceAdd, Nat.reduceSub, Nat.reduceMul, Nat.reduceLT, Nat.reduceLeDiff, Int.reduceEq, Int.reduceLT, Int.reduceLE, Int.reduceAdd, Int.reduceSub, Int.reduceMul, Int.reduceNeg, Int.reduceToNat, Int.reduceNe, reduceCtorEq, h0, trim_nil]
  refine brK_of (fun h1 => ?_) (fun h1 => ?_)
  · simp (disch := (first | decide | omega | (simp only [go_sem]; done) | (simp only [go_sem]; omega))) only [go_sem, ↓reduceIte, Nat.reduceEqDiff, Nat.reduceAdd, Nat.reduceSub, Nat.reduceMul, Nat.reduceLT, Nat.reduceLeDiff, Int.reduceEq, Int.reduceLT, Int.reduceLE, Int.reduceAdd, Int.reduceSub, Int.reduceMul, Int.reduceNeg, Int.reduceToNat, Int.reduceNe, reduceCtorEq]
    exact q _ _ (by first | rfl | (simp [numFault]; done) | grind [numFault]) (by first | exact Ext.refl | exact ⟨_, rfl⟩)
  simp (disch := (first | decide | omega | (simp only [go_sem]; done) | (simp only [go_sem]; omega))) only [go_sem, ↓reduceIte, Nat.reduceEqDiff, Nat.reduceAdd, Nat.reduceSub, Nat.reduceMul, Nat.reduceLT, Nat.reduceLeDiff, Int.reduceEq, Int.reduceLT, Int.reduceLE, Int.reduceAdd, Int.reduceSub, Int.reduceMul, Int.reduceNeg, Int.reduceToNat, Int.reduceNe, reduceCtorEq]
  (repeat (refine guO_merge (fun hb => by (have hb' := hb; (try simp only [nrm] at hb'); have hc := hb; (try simp only [Bool.and_eq_true] at hc); first | (simp (disch := (first | decide | omega | (simp only [go_sem, hb]; done) | (simp only [go_sem, hb]; omega))) only [go_sem, ↓reduceIte, Nat.reduceEqDiff, Nat.reduceAdd, Nat.reduceSub, Nat.reduceMul, Nat.reduceLT, Nat.reduceLeDiff, Int.reduceEq, Int.reduceLT, Int.reduceLE, Int.reduceAdd, Int.reduceSub, Int.reduceMul, Int.reduceNeg, Int.reduceToNat, Int.reduceNe, reduceCtorEq, hb]; rfl) | (simp (disch := (first | decide | omega | (simp only [go_sem, hc]; done) | (simp only [go_sem, hc]; omega))) only [go_sem, ↓reduceIte, Nat.reduceEqDiff, Nat.reduceAdd, Nat.reduceSub, Nat.reduceMul, Nat.reduceLT, Nat.reduceLeDiff, Int.reduceEq, Int.reduceLT, Int.reduceLE, Int.reduceAdd, Int.reduceSub, Int.reduceMul, Int.reduceNeg, Int.reduceToNat, Int.reduceNe, reduceCtorEq, hc]; rfl))) rfl ?_; simp (disch := (first | decide | omega | (simp only [go_sem]; done) | (simp only [go_sem]; omega))) only [go_sem, ↓reduceIte, Nat.reduceEqDiff, Nat.reduceAdd, Nat.reduceSub, Nat.reduceMul, Nat.reduceLT, Nat.reduceLeDiff, Int.reduceEq, Int.reduceLT, Int.reduceLE, Int.reduceAdd, Int.reduceSub, Int.reduceMul, Int.reduceNeg, Int.reduceToNat, Int.reduceNe, reduceCtorEq]))
  refine brK_of (fun h2 => ?_) (fun h2 => ?_)
  · simp (disch := (first | decide | omega | (simp only [go_sem]; done) | (simp only [go_sem]; omega))) only [go_sem, ↓reduceIte, Nat.reduceEqDiff, Nat.reduceAdd, Nat.reduceSub, Nat.reduceMul, Nat.reduceLT, Nat.reduceLeDiff, Int.reduceEq, Int.reduceLT, Int.reduceLE, Int.reduceAdd, Int.reduceSub, Int.reduceMul, Int.reduceNeg, Int.reduceToNat, Int.reduceNe, reduceCtorEq]
    exact q _ _ (by first | rfl | (simp [numFault]; done) | grind [numFault]) (by first | exact Ext.refl | exact ⟨_, rfl⟩)
  simp (disch := (first | decide | omega | (simp only [go_sem]; done) | (simp only [go_sem]; omega))) only [go_sem, ↓reduceIte, Nat.reduceEqDiff, Nat.reduceAdd, Nat.reduceSub, Nat.reduceMul, Nat.reduceLT, Nat.reduceLeDiff, Int.reduceEq, Int.reduceLT, Int.reduceLE, Int.reduceAdd, Int.reduceSub, Int.reduceMul, Int.reduceNeg, Int.reduceToNat, Int.reduceNe, reduceCtorEq]
  (repeat (refine guO_merge (fun hb => by (have hb' := hb; (try simp only [nrm] at hb'); have hc := hb; (try simp only [Bool.and_eq_true] at hc); first | (simp (disch := (first | decide | omega | (simp only [go_sem, hb]; done) | (simp only [go_sem, hb]; omega))) only [go_sem, ↓reduceIte, Nat.reduceEqDiff, Nat.reduceAdd, Nat.reduceSub, Nat.reduceMul, Nat.reduceLT, Nat.reduceLeDiff, Int.reduceEq, Int.reduceLT, Int.reduceLE, Int.reduceAdd, Int.reduceSub, Int.reduceMul, Int.reduceNeg, Int.reduceToNat, Int.reduceNe, reduceCtorEq, hb]; rfl) | (simp (disch := (first | decide | omega | (simp only [go_sem, hc]; done) | (simp only [go_sem, hc]; omega))) only [go_sem, ↓reduceIte, Nat.reduceEqDiff, Nat.reduceAdd, Nat.reduceSub, Nat.reduceMul, Nat.reduceLT, Nat.reduceLeDiff, Int.reduceEq, Int.reduceLT, Int.reduceLE, Int.reduceAdd, Int.reduceSub, Int.reduceMul, Int.reduceNeg, Int.reduceToNat, Int.reduceNe, reduceCtorEq, hc]; rfl))) rfl ?_; simp (disch := (first | decide | omega | (simp only [go_sem]; done) | (simp only [go_sem]; omega))) only [go_sem, ↓reduceIte, Nat.reduceEqDiff, Nat.reduceAdd, Nat.reduceSub, Nat.reduceMul, Nat.reduceLT, Nat.reduceLeDiff, Int.reduceEq, Int.reduceLT, Int.reduceLE, Int.reduceAdd, Int.reduceSub, Int.reduceMul, Int.reduceNeg, Int.reduceToNat, Int.reduceNe, reduceCtorEq]))
  refine brK_of (fun h3 => ?_) (fun h3 => ?_)
  · simp (disch := (first | decide | omega | (simp only [go_sem]; done) | (simp only [go_sem]; omega))) only [go_sem, ↓reduceIte, Nat.reduceEqDiff, Nat.reduceAdd, Nat.reduceSub, Nat.reduceMul, Nat.reduceLT, Nat.reduceLeDiff, Int.reduceEq, Int.reduceLT, Int.reduceLE, Int.reduceAdd, Int.reduceSub, Int.reduceMul, Int.reduceNeg, Int.reduceToNat, Int.reduceNe, reduceCtorEq]
    exact q _ _ (by first | rfl | (simp [numFault]; done) | grind [numFault]) (by first | exact Ext.refl | exact ⟨_, rfl⟩)
  simp (disch := (first | decide | omega | (simp only [go_sem]; done) | (simp only [go_sem]; omega))) only [go_sem, ↓reduceIte, Nat.reduceEqDiff, Nat.reduceAdd, Nat.reduceSub, Nat.reduceMul, Nat.reduceLT, Nat.reduceLeDiff, Int.reduceEq, Int.reduceLT, Int.reduceLE, Int.reduceAdd, Int.reduceSub, Int.reduceMul, Int.reduceNeg, Int.reduceToNat, Int.reduceNe, reduceCtorEq]
  (repeat (refine guO_merge (fun hb => by (have hb' := hb; (try simp only [nrm] at hb'); have hc := hb; (try simp only [Bool.and_eq_true] at hc); first | (simp (disch := (first | decide | omega | (simp only [go_sem, hb]; done) | (simp only [go_sem, hb]; omega))) only [go_sem, ↓reduceIte, Nat.reduceEqDiff, Nat.reduceAdd, Nat.reduceSub, Nat.reduceMul, Nat.reduceLT, Nat.reduceLeDiff, Int.reduceEq, Int.reduceLT, Int.reduceLE, Int.reduceAdd, Int.reduceSub, Int.reduceMul, Int.reduceNeg, Int.reduceToNat, Int.reduceNe, reduceCtorEq, hb]; rfl) | (simp (disch := (first | decide | omega | (simp only [go_sem, hc]; done) | (simp only [go_sem, hc]; omega))) only [go_sem, ↓reduceIte, Nat.reduceEqDiff, Nat.reduceAdd, Nat.reduceSub, Nat.reduceMul, Nat.reduceLT, Nat.reduceLeDiff, Int.reduceEq, Int.reduceLT, Int.reduceLE, Int.reduceAdd, Int.reduceSub, Int.reduceMul, Int.reduceNeg, Int.reduceToNat, Int.reduceNe, reduceCtorEq, hc]; rfl))) rfl ?_; simp (disch := (first | decide | omega | (simp only [go_sem]; done) | (simp only [go_sem]; omega))) only [go_sem, ↓reduceIte, Nat.reduceEqDiff, Nat.reduceAdd, Nat.reduceSub, Nat.reduceMul, Nat.reduceLT, Nat.reduceLeDiff, Int.reduceEq, Int.reduceLT, Int.reduceLE, Int.reduceAdd, Int.reduceSub, Int.reduceMul, Int.reduceNeg, Int.reduceToNat, Int.reduceNe, reduceCtorEq]))
  refine brK_of (fun h4 => ?_) (fun h4 => ?_)
  · simp (disch := (first | decide | omega | (simp only [go_sem]; done) | (simp only [go_sem]; omega))) only [go_sem, ↓reduceIte, Nat.reduceEqDiff, Nat.reduceAdd, Nat.reduceSub, Nat.reduceMul, Nat.reduceLT, Nat.reduceLeDiff, Int.reduceEq, Int.reduceLT, Int.reduceLE, Int.reduceAdd, Int.reduceSub, Int.reduceMul, Int.reduceNeg, Int.reduceToNat, Int.reduceNe, reduceCtorEq]
    exact q _ _ (by first | rfl | (simp [numFault]; done) | grind [numFault]) (by first | exact Ext.refl | exact ⟨_, rfl⟩)
  simp (disch := (first | decide | omega | (simp only [go_sem]; done) | (simp only [go_sem]; omega))) only [go_sem, ↓reduceIte, Nat.reduceEqDiff, Nat.reduceAdd, Nat.reduceSub, Nat.reduceMul, Nat.reduceLT, Nat.reduceLeDiff, Int.reduceEq, Int.reduceLT, Int.reduceLE, Int.reduceAdd, Int.reduceSub, Int.reduceMul, Int.reduceNeg, Int.reduceToNat, Int.reduceNe, reduceCtorEq]
  exact q _ _ (by first | rfl | (simp [numFault]; done) | grind [numFault]) (by first | exact Ext.refl | exact ⟨_, rfl⟩)

theorem f17 {n : Num} {H : Heap} (hl : n.dig.length ≤ 1000000000000) {Q : Out → Prop} (q : ∀ v H', v = .int .i64 (numFault n) → Ext H H' → Q (.ret v H')) :
    Cl tab 17 [.agg ⟨[.bool n.neg, strOf n.dig, .int .i64 n.exp]⟩] H Q := by
  obtain ⟨neg, dig, exp⟩ := n
  simp only at hl ⊢
  apply e17
  simp (disch := (first | decide | omega | (simp only [go_sem]; done) | (simp only [go_sem]; omega))) only [go_sem, ↓reduceIte, Nat.reduceEqDiff, Nat.reduceAdd, Nat.reduceSub, Nat.reduceMul, Nat.reduceLT, Nat.reduceLeDiff, Int.reduceEq, Int.reduceLT, Int.reduceLE, Int.reduceAdd, Int.reduceSub, Int.reduceMul, Int.reduceNeg, Int.reduceToNat, Int.reduceNe, reduceCtorEq]
  refine brK_of (fun h0 => ?_) (fun h0 => ?_)
  · simp (disch := (first | decide | omega | (simp only [go_sem]; done) | (simp only [go_sem]; omega))) only [go_sem, ↓reduceIte, Nat.reduceEqDiff, Nat.reduceAdd, Nat.reduceSub, Nat.reduceMul, Nat.reduceLT, Nat.reduceLeDiff, Int.reduceEq, Int.reduceLT, Int.reduceLE, Int.reduceAdd, Int.reduceSub, Int.reduceMul, Int.reduceNeg, Int.reduceToNat, Int.reduceNe, reduceCtorEq]
    exact q _ _ (by first | rfl | (simp [numFault]; done) | grind [numFault]) (by first | exact Ext.refl | exact ⟨_, rfl⟩)
  have h0 : dig ≠ [] := by simpa using h0
  have hlen : 0 < dig.length := List.length_pos_iff.2 h0
  simp (disch := (first | decide | omega | (simp only [go_sem]; done) | (simp only [go_sem]; omega))) only [go_sem, ↓reduceIte, Nat.reduceEqDiff, Nat.reduceAdd, Nat.reduceSub, Nat.reduceMul, Nat.reduceLT, Nat.reduceLeDiff, Int.reduceEq, Int.reduceLT, Int.reduceLE, Int.reduceAdd, Int.reduceSub, Int.reduceMul, Int.reduceNeg, Int.reduceToNat, Int.reduceNe, reduceCtorEq]
  refine w17_12 (ι := Nat) 0 (fun k e h => (∃ J, h = H ++ (.cells [.bool neg, strOf dig, .int .i64 exp] (.fix (some 23)) 0 :: J)) ∧ e.length = 53 ∧ k ≤ dig.length ∧ (dig.take k).all isDig = true ∧ gt e 1 = .pointer (some ⟨H.length, 0, none⟩) ∧ gt e 3 = strOf dig ∧ gt e 4 = .int .i64 k) (fun k => dig.length - k) ?_ ?_
  · refine ⟨⟨[], rfl⟩, ?_⟩
    simp (disch := (first | decide | omega | (simp only [go_sem]; done) | (simp only [go_sem]; omega))) only [go_sem, ↓reduceIte, Nat.reduceEqDiff, Nat.reduceAdd, Nat.reduceSub, Nat.reduceMul, Nat.reduceLT, Nat.reduceLeDiff, Int.reduceEq, Int.reduceLT, Int.reduceLE, Int.reduceAdd, Int.reduceSub, Int.reduceMul, Int.reduceNeg, Int.reduceToNat, Int.reduceNe, reduceCtorEq]
    simp
  · rintro k e h ⟨⟨J, rfl⟩, he, hk, ha, e1, e3, e4⟩ ih
    simp (disch := (first | decide | omega | (simp only [go_sem, e1, e3, e4]; done) | (simp only [go_sem, e1, e3, e4]; omega))) only [go_sem, ↓reduceIte, Nat.reduceEqDiff, Nat.reduceAdd, Nat.reduceSub, Nat.reduceMul, Nat.reduceLT, Nat.reduceLeDiff, Int.reduceEq, Int.reduceLT, Int.reduceLE, Int.reduceAdd, Int.reduceSub, Int.reduceMul, Int.reduceNeg, Int.reduceToNat, Int.reduceNe, reduceCtorEq, e1, e3, e4]
    refine brK_prop (fun hh => ?_) (fun hh => ?_)
    · have hlt : k < dig.length := by omega
      have h8 := at8_get hlt
      have htk := all_take (p := isDig) hlt
      simp (disch := (first | decide | omega | (simp only [go_sem, e1, e3, e4, h8]; done) | (simp only [go_sem, e1, e3, e4, h8]; omega))) only [go_sem, ↓reduceIte, Nat.reduceEqDiff, Nat.reduceAdd, Nat.reduceSub, Nat.reduceMul, Nat.reduceLT, Nat.reduceLeDiff, Int.reduceEq, Int.reduceLT, Int.reduceLE, Int.reduceAdd, Int.reduceSub, Int.reduceMul, Int.reduceNeg, Int.reduceToNat, Int.reduceNe, reduceCtorEq, e1, e3, e4, h8]
      refine f74 ?_
      rintro _ _ rfl ⟨J2, rfl⟩
      simp (disch := (first | decide | omega | (simp only [go_sem, e1, e3, e4, h8]; done) | (simp only [go_sem, e1, e3, e4, h8]; omega))) only [go_sem, ↓reduceIte, Nat.reduceEqDiff, Nat.reduceAdd, Nat.reduceSub, Nat.reduceMul, Nat.reduceLT, Nat.reduceLeDiff, Int.reduceEq, Int.reduceLT, Int.reduceLE, Int.reduceAdd, Int.reduceSub, Int.reduceMul, Int.reduceNeg, Int.reduceToNat, Int.reduceNe, reduceCtorEq, e1, e3, e4, h8]
      refine brK_of (fun h1 => ?_) (fun h1 => ?_)
      · simp (disch := (first | decide | omega | (simp only [go_sem]; done) | (simp only [go_sem]; omega))) only [go_sem, ↓reduceIte, Nat.reduceEqDiff, Nat.reduceAdd, Nat.reduceSub, Nat.reduceMul, Nat.reduceLT, Nat.reduceLeDiff, Int.reduceEq, Int.reduceLT, Int.reduceLE, Int.reduceAdd, Int.reduceSub, Int.reduceMul, Int.reduceNeg, Int.reduceToNat, Int.reduceNe, reduceCtorEq]
        have hf : dig.all isDig = false := by
          rw [List.all_eq_false]
          exact ⟨dig[k], List.getElem_mem hlt, by simp [isDig] at h1 ⊢; omega⟩
        exact q _ _ (by first | rfl | (simp [numFault]; done) | grind [numFault]) (by first | exact Ext.refl | exact ⟨_, rfl⟩)
      · simp (disch := (first | decide | omega | (simp only [go_sem, e1, e3, e4, he]; done) | (simp only [go_sem, e1, e3, e4, he]; omega))) only [go_sem, ↓reduceIte, Nat.reduceEqDiff, Nat.reduceAdd, Nat.reduceSub, Nat.reduceMul, Nat.reduceLT, Nat.reduceLeDiff, Int.reduceEq, Int.reduceLT, Int.reduceLE, Int.reduceAdd, Int.reduceSub, Int.reduceMul, Int.reduceNeg, Int.reduceToNat, Int.reduceNe, reduceCtorEq, e1, e3, e4, he]
        refine ih (k + 1) _ _ (by omega) ⟨⟨_, rfl⟩, ?_⟩
        simp (disch := (first | decide | omega | (simp only [go_sem, e1, e3, e4, he]; done) | (simp only [go_sem, e1, e3, e4, he]; omega))) only [go_sem, ↓reduceIte, Nat.reduceEqDiff, Nat.reduceAdd, Nat.reduceSub, Nat.reduceMul, Nat.reduceLT, Nat.reduceLeDiff, Int.reduceEq, Int.reduceLT, Int.reduceLE, Int.reduceAdd, Int.reduceSub, Int.reduceMul, Int.reduceNeg, Int.reduceToNat, Int.reduceNe, reduceCtorEq, e1, e3, e4, he]
        refine ⟨by omega, ?_, rfl⟩
        rw [htk, ha]; simp [isDig] at h1 ⊢; omega
    · have hke : k = dig.length := by omega
      subst hke
      rw [List.take_length] at ha
      simp (disch := (first | decide | omega | (simp only [go_sem, e1, e3, e4]; done) | (simp only [go_sem, e1, e3, e4]; omega))) only [go_sem, ↓reduceIte, Nat.reduceEqDiff, Nat.reduceAdd, Nat.reduceSub, Nat.reduceMul, Nat.reduceLT, Nat.reduceLeDiff, Int.reduceEq, Int.reduceLT, Int.reduceLE, Int.reduceAdd, Int.reduceSub, Int.reduceMul, Int.reduceNeg, Int.reduceToNat, Int.reduceNe, reduceCtorEq, e1, e3, e4]
      refine brK_of (fun h2 => ?_) (fun h2 => ?_)
      · simp (disch := (first | decide | omega | (simp only [go_sem, e1, e3, e4]; done) | (simp only [go_sem, e1, e3, e4]; omega))) only [go_sem, ↓reduceIte, Nat.reduceEqDiff, Nat.reduceAdd, Nat.reduceSub, Nat.reduceMul, Nat.reduceLT, Nat.reduceLeDiff, Int.reduceEq, Int.reduceLT, Int.reduceLE, Int.reduceAdd, Int.reduceSub, Int.reduceMul, Int.reduceNeg, Int.reduceToNat, Int.reduceNe, reduceCtorEq, e1, e3, e4]
        (repeat (refine guO_merge (fun hb => by (have hb' := hb; (try simp only [nrm] at hb'); have hc := hb; (try simp only [Bool.and_eq_true] at hc); first | (simp (disch := (first | decide | omega | (simp only [go_sem, hb, e1, e3, e4]; done) | (simp only [go_sem, hb, e1, e3, e4]; omega))) only [go_sem, ↓reduceIte, Nat.reduceEqDiff, Nat.reduceAdd, Nat.reduceSub, Nat.reduceMul, Nat.reduceLT, Nat.reduceLeDiff, Int.reduceEq, Int.reduceLT, Int.reduceLE, Int.reduceAdd, Int.reduceSub, Int.reduceMul, Int.reduceNeg, Int.reduceToNat, Int.reduceNe, reduceCtorEq, hb, e1, e3, e4]; rfl) | (simp (disch := (first | decide | omega | (simp only [go_sem, hc, e1, e3, e4]; done) | (simp only [go_sem, hc, e1, e3, e4]; omega))) only [go_sem, ↓reduceIte, Nat.reduceEqDiff, Nat.reduceAdd, Nat.reduceSub, Nat.reduceMul, Nat.reduceLT, Nat.reduceLeDiff, Int.reduceEq, Int.reduceLT, Int.reduceLE, Int.reduceAdd, Int.reduceSub, Int.reduceMul, Int.reduceNeg, Int.reduceToNat, Int.reduceNe, reduceCtorEq, hc, e1, e3, e4]; rfl))) rfl ?_; simp (disch := (first | decide | omega | (simp only [go_sem, e1, e3, e4]; done) | (simp only [go_sem, e1, e3, e4]; omega))) only [go_sem, ↓reduceIte, Nat.reduceEqDiff, Nat.reduceAdd, Nat.reduceSub, Nat.reduceMul, Nat.reduceLT, Nat.reduceLeDiff, Int.reduceEq, Int.reduceLT, Int.reduceLE, Int.reduceAdd, Int.reduceSub, Int.reduceMul, Int.reduceNeg, Int.reduceToNat, Int.reduceNe, reduceCtorEq, e1, e3, e4]))
        refine brK_of (fun h3 => ?_) (fun h3 => ?_)
        · simp (disch := (first | decide | omega | (simp only [go_sem]; done) | (simp only [go_sem]; omega))) only [go_sem, ↓reduceIte, Nat.reduceEqDiff, Nat.reduceAdd, Nat.reduceSub, Nat.reduceMul, Nat.reduceLT, Nat.reduceLeDiff, Int.reduceEq, Int.reduceLT, Int.reduceLE, Int.reduceAdd, Int.reduceSub, Int.reduceMul, Int.reduceNeg, Int.reduceToNat, Int.reduceNe, reduceCtorEq]
          exact q _ _ (by first | rfl | (simp [numFault]; done) | grind [numFault]) (by first | exact Ext.refl | exact ⟨_, rfl⟩)
        · simp (disch := (first | decide | omega | (simp only [go_sem]; done) | (simp only [go_sem]; omega))) only [go_sem, ↓reduceIte, Nat.reduceEqDiff, Nat.reduceAdd, Nat.reduceSub, Nat.reduceMul, Nat.reduceLT, Nat.reduceLeDiff, Int.reduceEq, Int.reduceLT, Int.reduceLE, Int.reduceAdd, Int.reduceSub, Int.reduceMul, Int.reduceNeg, Int.reduceToNat, Int.reduceNe, reduceCtorEq]
          exact q _ _ (by first | rfl | (simp [numFault]; done) | grind [numFault]) (by first | exact Ext.refl | exact ⟨_, rfl⟩)
      simp (disch := (first | decide | omega | (simp only [go_sem, e1, e3, e4]; done) | (simp only [go_sem, e1, e3, e4]; omega))) only [go_sem, ↓reduceIte, Nat.reduceEqDiff, Nat.reduceAdd, Nat.reduceSub, Nat.reduceMul, Nat.reduceLT, Nat.reduceLeDiff, Int.reduceEq, Int.reduceLT, Int.reduceLE, Int.reduceAdd, Int.reduceSub, Int.reduceMul, Int.reduceNeg, Int.reduceToNat, Int.reduceNe, reduceCtorEq, e1, e3, e4]
      (repeat (refine guO_merge (fun hb => by (have hb' := hb; (try simp only [nrm] at hb'); have hc := hb; (try simp only [Bool.and_eq_true] at hc); first | (simp (disch := (first | decide | omega | (simp only [go_sem, hb, e1, e3, e4]; done) | (simp only [go_sem, hb, e1, e3, e4]; omega))) only [go_sem, ↓reduceIte, Nat.reduceEqDiff, Nat.reduceAdd, Nat.reduceSub, Nat.reduceMul, Nat.reduceLT, Nat.reduceLeDiff, Int.reduceEq, Int.reduceLT, Int.reduceLE, Int.reduceAdd, Int.reduceSub, Int.reduceMul, Int.reduceNeg, Int.reduceToNat, Int.reduceNe, reduceCtorEq, hb, e1, e3, e4]; rfl) | (simp (disch := (first | decide | omega | (simp only [go_sem, hc, e1, e3, e4]; done) | (simp only [go_sem, hc, e1, e3, e4]; omega))) only [go_sem, ↓reduceIte, Nat.reduceEqDiff, Nat.reduceAdd, Nat.reduceSub, Nat.reduceMul, Nat.reduceLT, Nat.reduceLeDiff, Int.reduceEq, Int.reduceLT, Int.reduceLE, Int.reduceAdd, Int.reduceSub, Int.reduceMul, Int.reduceNeg, Int.reduceToNat, Int.reduceNe, reduceCtorEq, hc, e1, e3, e4]; rfl))) rfl ?_; simp (disch := (first | decide | omega | (simp only [go_sem, e1, e3, e4]; done) | (simp only [go_sem, e1, e3, e4]; omega))) only [go_sem, ↓reduceIte, Nat.reduceEqDiff, Nat.reduceAdd, Nat.reduceSub, Nat.reduceMul, Nat.reduceLT, Nat.reduceLeDiff, Int.reduceEq, Int.reduceLT, Int.reduceLE, Int.reduceAdd, Int.reduceSub, Int.reduceMul, Int.reduceNeg, Int.reduceToNat, Int.reduceNe, reduceCtorEq, e1, e3, e4]))
      refine brK_of (fun h3 => ?_) (fun h3 => ?_)
      · simp (disch := (first | decide | omega | (simp only [go_sem]; done) | (simp only [go_sem]; omega))) only [go_sem, ↓reduceIte, Nat.reduceEqDiff, Nat.reduceAdd, Nat.reduceSub, Nat.reduceMul, Nat.reduceLT, Nat.reduceLeDiff, Int.reduceEq, Int.reduceLT, Int.reduceLE, Int.reduceAdd, Int.reduceSub, Int.reduceMul, Int.reduceNeg, Int.reduceToNat, Int.reduceNe, reduceCtorEq]
        exact q _ _ (by first | rfl | (simp [numFault]; done) | grind [numFault]) (by first | exact Ext.refl | exact ⟨_, rfl⟩)
      simp (disch := (first | decide | omega | (simp only [go_sem, e1, e3, e4]; done) | (simp only [go_sem, e1, e3, e4]; omega))) only [go_sem, ↓reduceIte, Nat.reduceEqDiff, Nat.reduceAdd, Nat.reduceSub, Nat.reduceMul, Nat.reduceLT, Nat.reduceLeDiff, Int.reduceEq, Int.reduceLT, Int.reduceLE, Int.reduceAdd, Int.reduceSub, Int.reduceMul, Int.reduceNeg, Int.reduceToNat, Int.reduceNe, reduceCtorEq, e1, e3, e4]
      (repeat (refine guO_merge (fun hb => by (have hb' := hb; (try simp only [nrm] at hb'); have hc := hb; (try simp only [Bool.and_eq_true] at hc); first | (simp (disch := (first | decide | omega | (simp only [go_sem, hb, e1, e3, e4]; done) | (simp only [go_sem, hb, e1, e3, e4]; omega))) only [go_sem, ↓reduceIte, Nat.reduceEqDiff, Nat.reduceAdd, Nat.reduceSub, Nat.reduceMul, Nat.reduceLT, Nat.reduceLeDiff, Int.reduceEq, Int.reduceLT, Int.reduceLE, Int.reduceAdd, Int.reduceSub, Int.reduceMul, Int.reduceNeg, Int.reduceToNat, Int.reduceNe, reduceCtorEq, hb, e1, e3, e4]; rfl) | (simp (disch := (first | decide | omega | (simp only [go_sem, hc, e1, e3, e4]; done) | (simp only [go_sem, hc, e1, e3, e4]; omega))) only [go_sem, ↓reduceIte, Nat.reduceEqDiff, Nat.reduceAdd, Nat.reduceSub, Nat.reduceMul, Nat.reduceLT, Nat.reduceLeDiff, Int.reduceEq, Int.reduceLT, Int.reduceLE, Int.reduceAdd, Int.reduceSub, Int.reduceMul, Int.reduceNeg, Int.reduceToNat, Int.reduceNe, reduceCtorEq, hc, e1, e3, e4]; rfl))) rfl ?_; simp (disch := (first | decide | omega | (simp only [go_sem, e1, e3, e4]; done) | (simp only [go_sem, e1, e3, e4]; omega))) only [go_sem, ↓reduceIte, Nat.reduceEqDiff, Nat.reduceAdd, Nat.reduceSub, Nat.reduceMul, Nat.reduceLT, Nat.reduceLeDiff, Int.reduceEq, Int.reduceLT, Int.reduceLE, Int.reduceAdd, Int.reduceSub, Int.reduceMul, Int.reduceNeg, Int.reduceToNat, Int.reduceNe, reduceCtorEq, e1, e3, e4]))
      refine brK_of (fun h4 => ?_) (fun h4 => ?_)
      · simp (disch := (first | decide | omega | (simp only [go_sem]; done) | (simp only [go_sem]; omega))) only [go_sem, ↓reduceIte, Nat.reduceEqDiff, Nat.reduceAdd, Nat.reduceSub, Nat.reduceMul, Nat.reduceLT, Nat.reduceLeDiff, Int.reduceEq, Int.reduceLT, Int.reduceLE, Int.reduceAdd, Int.reduceSub, Int.reduceMul, Int.reduceNeg, Int.reduceToNat, Int.reduceNe, reduceCtorEq]
        exact q _ _ (by first | rfl | (simp [numFault]; done) | grind [numFault]) (by first | exact Ext.refl | exact ⟨_, rfl⟩)
      simp (disch := (first | decide | omega | (simp only [go_sem]; done) | (simp only [go_sem]; omega))) only [go_sem, ↓reduceIte, Nat.reduceEqDiff, Nat.reduceAdd, Nat.reduceSub, Nat.reduceMul, Nat.reduceLT, Nat.reduceLeDiff, Int.reduceEq, Int.reduceLT, Int.reduceLE, Int.reduceAdd, Int.reduceSub, Int.reduceMul, Int.reduceNeg, Int.reduceToNat, Int.reduceNe, reduceCtorEq]
      exact q _ _ (by first | rfl | (simp [numFault]; done) | grind [numFault]) (by first | exact Ext.refl | exact ⟨_, rfl⟩)

def leP (p : Option Str) (k : Str) : Bool := match p with | some p => less k p || decide (k = p) | none => false
def keysFrom (p : Option Str) : List Str → Int
  | [] => 0
  | k :: r => if textFault k ≠ 0 then textFault k else if leP p k = true then 10 else keysFrom (some k) r
def nodeFault : Doc → Int
  | d@(.mk kind b num text list keys) =>
    if kind < 1 ∨ 6 < kind then 7 else if strangeB d = true then 2 else if kind = 3 then numFault num else if kind = 4 then textFault text else keysFrom none keys
mutual
def nodesFault : Doc → Int
  | .mk kind b num text list keys => if nodeFault (.mk kind b num text list keys) ≠ 0 then nodeFault (.mk kind b num text list keys) else listFault list
def listFault : List Doc → Int
  | [] => 0
  | d :: l => if nodesFault d ≠ 0 then nodesFault d else listFault l
end
def prevKey (keys : List Str) (k : Nat) : Option Str := if k = 0 then none else keys[k-1]?
theorem keysFrom_step {keys : List Str} {k : Nat} (h : k < keys.length) : keysFrom (prevKey keys k) (keys.drop k) =
    if textFault keys[k] ≠ 0 then textFault keys[k] else if leP (prevKey keys k) keys[k] = true then 10 else keysFrom (prevKey keys (k + 1)) (keys.drop (k + 1)) := by
  rw [show prevKey keys (k + 1) = some keys[k] from by simp [prevKey, h], List.drop_eq_getElem_cons h, keysFrom]

/-- Sizes that no document passes. -/
def Fits (d : Doc) : Prop := d.num.dig.length ≤ 1000000000000 ∧ d.keys.length ≤ 1000000000000

theorem f160 {cs : List Value} {d : Doc} {H : Heap} (hd : DocAt H cs d) (hf : Fits d) {Q : Out → Prop} (q : ∀ v H', v = .int .i64 (nodeFault d) → Ext H H' → Q (.ret v H')) : Cl tab 160 [.agg ⟨cs⟩] H Q := by
  have hd0 := hd
  obtain @⟨kind, b, num, text, list, keys, la, lc, ka, kc, cs, hi, hk, hg, hdl⟩ := hd
  obtain ⟨hf1, hf2⟩ := hf
  simp only [Doc.num, Doc.keys] at hf1 hf2
  obtain ⟨c1, c2, c3⟩ := hd0.cells
  apply e160
  simp (disch := (first | decide | omega | (simp only [go_sem, c1, c2, c3]; done) | (simp only [go_sem, c1, c2, c3]; omega))) only [go_sem, ↓reduceIte, Nat.reduceEqDiff, Nat.reduceAdd, Nat.reduceSub, Nat.reduceMul, Nat.reduceLT, Nat.reduceLeDiff, Int.reduceEq, Int.reduceLT, Int.reduceLE, Int.reduceAdd, Int.reduceSub, Int.reduceMul, Int.reduceNeg, Int.reduceToNat, Int.reduceNe, reduceCtorEq, c1, c2, c3]
  (repeat (refine guO_merge (fun hb => by (have hb' := hb; (try simp only [nrm] at hb'); have hc := hb; (try simp only [Bool.and_eq_true] at hc); first | (simp (disch := (first | decide | omega | (simp only [go_sem, hb]; done) | (simp only [go_sem, hb]; omega))) only [go_sem, ↓reduceIte, Nat.reduceEqDiff, Nat.reduceAdd, Nat.reduceSub, Nat.reduceMul, Nat.reduceLT, Nat.reduceLeDiff, Int.reduceEq, Int.reduceLT, Int.reduceLE, Int.reduceAdd, Int.reduceSub, Int.reduceMul, Int.reduceNeg, Int.reduceToNat, Int.reduceNe, reduceCtorEq, hb]; rfl) | (simp (disch := (first | decide | omega | (simp only [go_sem, hc]; done) | (simp only [go_sem, hc]; omega))) only [go_sem, ↓reduceIte, Nat.reduceEqDiff, Nat.reduceAdd, Nat.reduceSub, Nat.reduceMul, Nat.reduceLT, Nat.reduceLeDiff, Int.reduceEq, Int.reduceLT, Int.reduceLE, Int.reduceAdd, Int.reduceSub, Int.reduceMul, Int.reduceNeg, Int.reduceToNat, Int.reduceNe, reduceCtorEq, hc]; rfl))) rfl ?_; simp (disch := (first | decide | omega | (simp only [go_sem]; done) | (simp only [go_sem]; omega))) only [go_sem, ↓reduceIte, Nat.reduceEqDiff, Nat.reduceAdd, Nat.reduceSub, Nat.reduceMul, Nat.reduceLT, Nat.reduceLeDiff, Int.reduceEq, Int.reduceLT, Int.reduceLE, Int.reduceAdd, Int.reduceSub, Int.reduceMul, Int.reduceNeg, Int.reduceToNat, Int.reduceNe, reduceCtorEq]))
  refine brK_of (fun h1 => ?_) (fun h1 => ?_)
  · simp (disch := (first | decide | omega | (simp only [go_sem]; done) | (simp only [go_sem]; omega))) only [go_sem, ↓reduceIte, Nat.reduceEqDiff, Nat.reduceAdd, Nat.reduceSub, Nat.reduceMul, Nat.reduceLT, Nat.reduceLeDiff, Int.reduceEq, Int.reduceLT, Int.reduceLE, Int.reduceAdd, Int.reduceSub, Int.reduceMul, Int.reduceNeg, Int.reduceToNat, Int.reduceNe, reduceCtorEq]
    exact q _ _ (by first | rfl | (simp [nodeFault]; done) | grind [nodeFault]) (by first | exact Ext.refl | exact ⟨_, rfl⟩)
  simp (disch := (first | decide | omega | (simp only [go_sem]; done) | (simp only [go_sem]; omega))) only [go_sem, ↓reduceIte, Nat.reduceEqDiff, Nat.reduceAdd, Nat.reduceSub, Nat.reduceMul, Nat.reduceLT, Nat.reduceLeDiff, Int.reduceEq, Int.reduceLT, Int.reduceLE, Int.reduceAdd, Int.reduceSub, Int.reduceMul, Int.reduceNeg, Int.reduceToNat, Int.reduceNe, reduceCtorEq]
  refine f237 hd0.ext ?_
  rintro _ _ rfl ⟨J, rfl⟩
  simp (disch := (first | decide | omega | (simp only [go_sem]; done) | (simp only [go_sem]; omega))) only [go_sem, ↓reduceIte, Nat.reduceEqDiff, Nat.reduceAdd, Nat.reduceSub, Nat.reduceMul, Nat.reduceLT, Nat.reduceLeDiff, Int.reduceEq, Int.reduceLT, Int.reduceLE, Int.reduceAdd, Int.reduceSub, Int.reduceMul, Int.reduceNeg, Int.reduceToNat, Int.reduceNe, reduceCtorEq]
  refine brK_of (fun h2 => ?_) (fun h2 => ?_)
  · simp (disch := (first | decide | omega | (simp only [go_sem]; done) | (simp only [go_sem]; omega))) only [go_sem, ↓reduceIte, Nat.reduceEqDiff, Nat.reduceAdd, Nat.reduceSub, Nat.reduceMul, Nat.reduceLT, Nat.reduceLeDiff, Int.reduceEq, Int.reduceLT, Int.reduceLE, Int.reduceAdd, Int.reduceSub, Int.reduceMul, Int.reduceNeg, Int.reduceToNat, Int.reduceNe, reduceCtorEq]
    exact q _ _ (by first | rfl | (simp [nodeFault]; done) | grind [nodeFault]) (by first | exact Ext.refl | exact ⟨_, rfl⟩)
  simp (disch := (first | decide | omega | (simp only [go_sem]; done) | (simp only [go_sem]; omega))) only [go_sem, ↓reduceIte, Nat.reduceEqDiff, Nat.reduceAdd, Nat.reduceSub, Nat.reduceMul, Nat.reduceLT, Nat.reduceLeDiff, Int.reduceEq, Int.reduceLT, Int.reduceLE, Int.reduceAdd, Int.reduceSub, Int.reduceMul, Int.reduceNeg, Int.reduceToNat, Int.reduceNe, reduceCtorEq]
  refine brK_of (fun h3 => ?_) (fun h3 => ?_)
  · simp (disch := (first | decide | omega | (simp only [go_sem]; done) | (simp only [go_sem]; omega))) only [go_sem, ↓reduceIte, Nat.reduceEqDiff, Nat.reduceAdd, Nat.reduceSub, Nat.reduceMul, Nat.reduceLT, Nat.reduceLeDiff, Int.reduceEq, Int.reduceLT, Int.reduceLE, Int.reduceAdd, Int.reduceSub, Int.reduceMul, Int.reduceNeg, Int.reduceToNat, Int.reduceNe, reduceCtorEq]
    refine f16 hf1 ?_
    rintro _ _ rfl ⟨J2, rfl⟩
    simp (disch := (first | decide | omega | (simp only [go_sem]; done) | (simp only [go_sem]; omega))) only [go_sem, ↓reduceIte, Nat.reduceEqDiff, Nat.reduceAdd, Nat.reduceSub, Nat.reduceMul, Nat.reduceLT, Nat.reduceLeDiff, Int.reduceEq, Int.reduceLT, Int.reduceLE, Int.reduceAdd, Int.reduceSub, Int.reduceMul, Int.reduceNeg, Int.reduceToNat, Int.reduceNe, reduceCtorEq]
    exact q _ _ (by first | rfl | (simp [nodeFault]; done) | grind [nodeFault]) (by first | exact Ext.refl | exact ⟨_, rfl⟩)
  simp (disch := (first | decide | omega | (simp only [go_sem]; done) | (simp only [go_sem]; omega))) only [go_sem, ↓reduceIte, Nat.reduceEqDiff, Nat.reduceAdd, Nat.reduceSub, Nat.reduceMul, Nat.reduceLT, Nat.reduceLeDiff, Int.reduceEq, Int.reduceLT, Int.reduceLE, Int.reduceAdd, Int.reduceSub, Int.reduceMul, Int.reduceNeg, Int.reduceToNat, Int.reduceNe, reduceCtorEq]
  refine brK_of (fun h4 => ?_) (fun h4 => ?_)
  · simp (disch := (first | decide | omega | (simp only [go_sem]; done) | (simp only [go_sem]; omega))) only [go_sem, ↓reduceIte, Nat.reduceEqDiff, Nat.reduceAdd, Nat.reduceSub, Nat.reduceMul, Nat.reduceLT, Nat.reduceLeDiff, Int.reduceEq, Int.reduceLT, Int.reduceLE, Int.reduceAdd, Int.reduceSub, Int.reduceMul, Int.reduceNeg, Int.reduceToNat, Int.reduceNe, reduceCtorEq]
    refine f18 ?_
    rintro _ _ rfl ⟨J2, rfl⟩
    simp (disch := (first | decide | omega | (simp only [go_sem]; done) | (simp only [go_sem]; omega))) only [go_sem, ↓reduceIte, Nat.reduceEqDiff, Nat.reduceAdd, Nat.reduceSub, Nat.reduceMul, Nat.reduceLT, Nat.reduceLeDiff, Int.reduceEq, Int.reduceLT, Int.reduceLE, Int.reduceAdd, Int.reduceSub, Int.reduceMul, Int.reduceNeg, Int.reduceToNat, Int.reduceNe, reduceCtorEq]
    exact q _ _ (by first | rfl | (simp [nodeFault]; done) | grind [nodeFault]) (by first | exact Ext.refl | exact ⟨_, rfl⟩)
  simp (disch := (first | decide | omega | (simp only [go_sem]; done) | (simp only [go_sem]; omega))) only [go_sem, ↓reduceIte, Nat.reduceEqDiff, Nat.reduceAdd, Nat.reduceSub, Nat.reduceMul, Nat.reduceLT, Nat.reduceLeDiff, Int.reduceEq, Int.reduceLT, Int.reduceLE, Int.reduceAdd, Int.reduceSub, Int.reduceMul, Int.reduceNeg, Int.reduceToNat, Int.reduceNe, reduceCtorEq]
  have hn : nodeFault (.mk kind b num text list keys) = keysFrom none keys := by grind [nodeFault]
  rw [hn] at q
  refine w160_26 (ι := Nat) 0 (fun k e h => (∃ J, h = H ++ (.cells [.int .i64 kind, .bool b, .bool num.neg, strOf num.dig, .int .i64 num.exp, strOf text, .slice la list.length lc, .slice ka keys.length kc] (.fix (some 27)) 0 :: J)) ∧ e.length = 58 ∧ k ≤ keys.length ∧ keysFrom none keys = keysFrom (prevKey keys k) (keys.drop k) ∧ gt e 1 = .pointer (some ⟨H.length, 0, none⟩) ∧ gt e 33 = .slice ka keys.length kc ∧ gt e 34 = .int .i64 keys.length ∧ gt e 35 = .int .i64 k) (fun k => keys.length - k) ?_ ?_
  · refine ⟨⟨_, rfl⟩, ?_⟩
    simp (disch := (first | decide | omega | (simp only [go_sem]; done) | (simp only [go_sem]; omega))) only [go_sem, ↓reduceIte, Nat.reduceEqDiff, Nat.reduceAdd, Nat.reduceSub, Nat.reduceMul, Nat.reduceLT, Nat.reduceLeDiff, Int.reduceEq, Int.reduceLT, Int.reduceLE, Int.reduceAdd, Int.reduceSub, Int.reduceMul, Int.reduceNeg, Int.reduceToNat, Int.reduceNe, reduceCtorEq]
    simp [prevKey]
  · rintro k e h ⟨⟨J2, rfl⟩, he, hk1, hkf, e1, e33, e34, e35⟩ ih
    simp (disch := (first | decide | omega | (simp only [go_sem, e1, e33, e34, e35]; done) | (simp only [go_sem, e1, e33, e34, e35]; omega))) only [go_sem, ↓reduceIte, Nat.reduceEqDiff, Nat.reduceAdd, Nat.reduceSub, Nat.reduceMul, Nat.reduceLT, Nat.reduceLeDiff, Int.reduceEq, Int.reduceLT, Int.reduceLE, Int.reduceAdd, Int.reduceSub, Int.reduceMul, Int.reduceNeg, Int.reduceToNat, Int.reduceNe, reduceCtorEq, e1, e33, e34, e35]
    refine brK_prop (fun hh => ?_) (fun hh => ?_)
    · have hlt : k < keys.length := by omega
      have hst := keysFrom_step hlt
      obtain ⟨i, o, s, rfl⟩ : ∃ i o s, ka = some ⟨i, o, s⟩ := by
        have := hk k hlt
        cases ka with
        | none => cases this
        | some a => exact ⟨a.block, a.off, a.spot, rfl⟩
      have hgk : get1 H i (o + k) = some (strOf keys[k]) := by
        have := hk k hlt
        simp only [elAt, Nat.mul_one] at this
        have := get1_getN (k := 0) this (by omega)
        simpa using this
      have hil := get1_lt hgk
      simp (disch := (first | decide | omega | (simp only [go_sem, e1, e33, e34, e35, hgk]; done) | (simp only [go_sem, e1, e33, e34, e35, hgk]; omega))) only [go_sem, ↓reduceIte, Nat.reduceEqDiff, Nat.reduceAdd, Nat.reduceSub, Nat.reduceMul, Nat.reduceLT, Nat.reduceLeDiff, Int.reduceEq, Int.reduceLT, Int.reduceLE, Int.reduceAdd, Int.reduceSub, Int.reduceMul, Int.reduceNeg, Int.reduceToNat, Int.reduceNe, reduceCtorEq, e1, e33, e34, e35, hgk]
      refine f18 ?_
      rintro _ _ rfl ⟨J3, rfl⟩
      simp (disch := (first | decide | omega | (simp only [go_sem, e1, e33, e34, e35, hgk]; done) | (simp only [go_sem, e1, e33, e34, e35, hgk]; omega))) only [go_sem, ↓reduceIte, Nat.reduceEqDiff, Nat.reduceAdd, Nat.reduceSub, Nat.reduceMul, Nat.reduceLT, Nat.reduceLeDiff, Int.reduceEq, Int.reduceLT, Int.reduceLE, Int.reduceAdd, Int.reduceSub, Int.reduceMul, Int.reduceNeg, Int.reduceToNat, Int.reduceNe, reduceCtorEq, e1, e33, e34, e35, hgk]
      refine brK_of (fun h5 => ?_) (fun h5 => ?_)
      · simp (disch := (first | decide | omega | (simp only [go_sem]; done) | (simp only [go_sem]; omega))) only [go_sem, ↓reduceIte, Nat.reduceEqDiff, Nat.reduceAdd, Nat.reduceSub, Nat.reduceMul, Nat.reduceLT, Nat.reduceLeDiff, Int.reduceEq, Int.reduceLT, Int.reduceLE, Int.reduceAdd, Int.reduceSub, Int.reduceMul, Int.reduceNeg, Int.reduceToNat, Int.reduceNe, reduceCtorEq]
        exact q _ _ (by first | rfl | (simp [prevKey]; done) | grind [prevKey]) (by first | exact Ext.refl | exact ⟨_, rfl⟩)
      simp (disch := (first | decide | omega | (simp only [go_sem, e1, e33, e34, e35, hgk]; done) | (simp only [go_sem, e1, e33, e34, e35, hgk]; omega))) only [go_sem, ↓reduceIte, Nat.reduceEqDiff, Nat.reduceAdd, Nat.reduceSub, Nat.reduceMul, Nat.reduceLT, Nat.reduceLeDiff, Int.reduceEq, Int.reduceLT, Int.reduceLE, Int.reduceAdd, Int.reduceSub, Int.reduceMul, Int.reduceNeg, Int.reduceToNat, Int.reduceNe, reduceCtorEq, e1, e33, e34, e35, hgk]
      have hpk : ∀ hk0 : k ≠ 0, get1 H i (o + (k - 1)) = some (strOf (keys[k-1]'(by omega))) := by
        intro hk0
        have := hk (k - 1) (by omega)
        simp only [elAt, Nat.mul_one] at this
        have := get1_getN (k := 0) this (by omega)
        simpa using this
      have hkm : ((k : Int) - 1).toNat = k - 1 := by omega
      by_cases hk0 : k = 0
      · have hk0' : ¬ (0 : Int) < k := by omega
        simp (disch := (first | decide | omega | (simp only [go_sem, e1, e33, e34, e35, hk0']; done) | (simp only [go_sem, e1, e33, e34, e35, hk0']; omega))) only [go_sem, ↓reduceIte, Nat.reduceEqDiff, Nat.reduceAdd, Nat.reduceSub, Nat.reduceMul, Nat.reduceLT, Nat.reduceLeDiff, Int.reduceEq, Int.reduceLT, Int.reduceLE, Int.reduceAdd, Int.reduceSub, Int.reduceMul, Int.reduceNeg, Int.reduceToNat, Int.reduceNe, reduceCtorEq, e1, e33, e34, e35, hk0']
        have hpv : prevKey keys k = none := by simp [prevKey, hk0]
        refine ih (k + 1) _ _ (by omega) ⟨⟨_, rfl⟩, ?_⟩
        simp (disch := (first | decide | omega | (simp only [go_sem, e1, e33, e34, e35, he]; done) | (simp only [go_sem, e1, e33, e34, e35, he]; omega))) only [go_sem, ↓reduceIte, Nat.reduceEqDiff, Nat.reduceAdd, Nat.reduceSub, Nat.reduceMul, Nat.reduceLT, Nat.reduceLeDiff, Int.reduceEq, Int.reduceLT, Int.reduceLE, Int.reduceAdd, Int.reduceSub, Int.reduceMul, Int.reduceNeg, Int.reduceToNat, Int.reduceNe, reduceCtorEq, e1, e33, e34, e35, he]
        refine ⟨by omega, ?_, rfl⟩
        rw [hkf, hst, hpv]
        grind [leP]
      · have hk0' : (0 : Int) < k := by omega
        have hpk := hpk hk0
        have hpv : prevKey keys k = some (keys[k-1]'(by omega)) := by simp [prevKey, hk0]
        simp (disch := (first | decide | omega | (simp only [go_sem, e1, e33, e34, e35, hk0', hpk, hkm]; done) | (simp only [go_sem, e1, e33, e34, e35, hk0', hpk, hkm]; omega))) only [go_sem, ↓reduceIte, Nat.reduceEqDiff, Nat.reduceAdd, Nat.reduceSub, Nat.reduceMul, Nat.reduceLT, Nat.reduceLeDiff, Int.reduceEq, Int.reduceLT, Int.reduceLE, Int.reduceAdd, Int.reduceSub, Int.reduceMul, Int.reduceNeg, Int.reduceToNat, Int.reduceNe, reduceCtorEq, e1, e33, e34, e35, hk0', hpk, hkm]
        refine brK_of (fun h6 => ?_) (fun h6 => ?_)
        · simp (disch := (first | decide | omega | (simp only [go_sem]; done) | (simp only [go_sem]; omega))) only [go_sem, ↓reduceIte, Nat.reduceEqDiff, Nat.reduceAdd, Nat.reduceSub, Nat.reduceMul, Nat.reduceLT, Nat.reduceLeDiff, Int.reduceEq, Int.reduceLT, Int.reduceLE, Int.reduceAdd, Int.reduceSub, Int.reduceMul, Int.reduceNeg, Int.reduceToNat, Int.reduceNe, reduceCtorEq]
          exact q _ _ (by first | rfl | (simp [leP]; done) | grind [leP]) (by first | exact Ext.refl | exact ⟨_, rfl⟩)
        simp (disch := (first | decide | omega | (simp only [go_sem, e1, e33, e34, e35, hk0', hpk, hkm]; done) | (simp only [go_sem, e1, e33, e34, e35, hk0', hpk, hkm]; omega))) only [go_sem, ↓reduceIte, Nat.reduceEqDiff, Nat.reduceAdd, Nat.reduceSub, Nat.reduceMul, Nat.reduceLT, Nat.reduceLeDiff, Int.reduceEq, Int.reduceLT, Int.reduceLE, Int.reduceAdd, Int.reduceSub, Int.reduceMul, Int.reduceNeg, Int.reduceToNat, Int.reduceNe, reduceCtorEq, e1, e33, e34, e35, hk0', hpk, hkm]
        refine ih (k + 1) _ _ (by omega) ⟨⟨_, rfl⟩, ?_⟩
        simp (disch := (first | decide | omega | (simp only [go_sem, e1, e33, e34, e35, he]; done) | (simp only [go_sem, e1, e33, e34, e35, he]; omega))) only [go_sem, ↓reduceIte, Nat.reduceEqDiff, Nat.reduceAdd, Nat.reduceSub, Nat.reduceMul, Nat.reduceLT, Nat.reduceLeDiff, Int.reduceEq, Int.reduceLT, Int.reduceLE, Int.reduceAdd, Int.reduceSub, Int.reduceMul, Int.reduceNeg, Int.reduceToNat, Int.reduceNe, reduceCtorEq, e1, e33, e34, e35, he]
        refine ⟨by omega, ?_, rfl⟩
        rw [hkf, hst, hpv]
        grind [leP]
    · have hke : k = keys.length := by omega
      subst hke
      simp (disch := (first | decide | omega | (simp only [go_sem, e1, e33, e34, e35]; done) | (simp only [go_sem, e1, e33, e34, e35]; omega))) only [go_sem, ↓reduceIte, Nat.reduceEqDiff, Nat.reduceAdd, Nat.reduceSub, Nat.reduceMul, Nat.reduceLT, Nat.reduceLeDiff, Int.reduceEq, Int.reduceLT, Int.reduceLE, Int.reduceAdd, Int.reduceSub, Int.reduceMul, Int.reduceNeg, Int.reduceToNat, Int.reduceNe, reduceCtorEq, e1, e33, e34, e35]
      rw [List.drop_length] at hkf
      exact q _ _ (by first | rfl | (simp [keysFrom]; done) | grind [keysFrom]) (by first | exact Ext.refl | exact ⟨_, rfl⟩)
end Ve
end Go.Proofs.YtnociodpfmlglaaGreatDoor

/-
  Documents: what is checked, whole.
-/
set_option linter.unusedVariables false
set_option linter.unusedSimpArgs false
namespace Go.Proofs.YtnociodpfmlglaaGreatDoor
namespace Ve
open Go

def refForm : Doc → Bool
  | .mk kind b num text list keys =>
    (!decide (kind = 2) && b) || (!decide (kind = 3) && !(decide (num.dig = []) && !num.neg && decide (num.exp = 0))) || (!decide (kind = 4) && !decide (text = [])) ||
    (decide (kind < 5) && decide (0 < list.length)) || (!decide (kind = 6) && decide (0 < keys.length)) || (decide (kind = 6) && !decide (keys.length = list.length))
theorem refForm_eq {d : Doc} (h : ¬ (d.kind < 1 ∨ 6 < d.kind)) : refForm d = strangeB d := by
  obtain ⟨kind, b, num, text, list, keys⟩ := d
  simp only [Doc.kind] at h
  rw [Bool.eq_iff_iff]
  have : kind < 5 ↔ kind ≠ 5 ∧ kind ≠ 6 := by omega
  simp only [refForm, strangeB]
  by_cases h6 : kind = 6
  · subst h6; simp; grind
  · simp [h6, this]; grind

theorem f161 {cs : List Value} {d : Doc} {H : Heap} (hd : DocAt H cs d) (hf : Fits d) {Q : Out → Prop} (q : ∀ v H', v = .int .i64 (nodeFault d) → Ext H H' → Q (.ret v H')) : Cl tab 161 [.agg ⟨cs⟩] H Q := by
  have hd0 := hd
  obtain @⟨kind, b, num, text, list, keys, la, lc, ka, kc, cs, hi, hk, hg, hdl⟩ := hd
  obtain ⟨hf1, hf2⟩ := hf
  simp only [Doc.num, Doc.keys] at hf1 hf2
  obtain ⟨c1, c2, c3⟩ := hd0.cells
  apply e161
  simp (disch := (first | decide | omega | (simp only [go_sem, c1, c2, c3]; done) | (simp only [go_sem, c1, c2, c3]; omega))) only [go_sem, ↓reduceIte, Nat.reduceEqDiff, Nat.reduceAdd, Nat.reduceSub, Nat.reduceMul, Nat.reduceLT, Nat.reduceLeDiff, Int.reduceEq, Int.reduceLT, Int.reduceLE, Int.reduceAdd, Int.reduceSub, Int.reduceMul, Int.reduceNeg, Int.reduceToNat, Int.reduceNe, reduceCtorEq, c1, c2, c3]
  (repeat (refine guO_merge (fun hb => by (have hb' := hb; (try simp only [nrm] at hb'); have hc := hb; (try simp only [Bool.and_eq_true] at hc); first | (simp (disch := (first | decide | omega | (simp only [go_sem, hb]; done) | (simp only [go_sem, hb]; omega))) only [go_sem, ↓reduceIte, Nat.reduceEqDiff, Nat.reduceAdd, Nat.reduceSub, Nat.reduceMul, Nat.reduceLT, Nat.reduceLeDiff, Int.reduceEq, Int.reduceLT, Int.reduceLE, Int.reduceAdd, Int.reduceSub, Int.reduceMul, Int.reduceNeg, Int.reduceToNat, Int.reduceNe, reduceCtorEq, hb]; rfl) | (simp (disch := (first | decide | omega | (simp only [go_sem, hc]; done) | (simp only [go_sem, hc]; omega))) only [go_sem, ↓reduceIte, Nat.reduceEqDiff, Nat.reduceAdd, Nat.reduceSub, Nat.reduceMul, Nat.reduceLT, Nat.reduceLeDiff, Int.reduceEq, Int.reduceLT, Int.reduceLE, Int.reduceAdd, Int.reduceSub, Int.reduceMul, Int.reduceNeg, Int.reduceToNat, Int.reduceNe, reduceCtorEq, hc]; rfl))) rfl ?_; simp (disch := (first | decide | omega | (simp only [go_sem]; done) | (simp only [go_sem]; omega))) only [go_sem, ↓reduceIte, Nat.reduceEqDiff, Nat.reduceAdd, Nat.reduceSub, Nat.reduceMul, Nat.reduceLT, Nat.reduceLeDiff, Int.reduceEq, Int.reduceLT, Int.reduceLE, Int.reduceAdd, Int.reduceSub, Int.reduceMul, Int.reduceNeg, Int.reduceToNat, Int.reduceNe, reduceCtorEq]))
  refine brK_of (fun h1 => ?_) (fun h1 => ?_)
  · simp (disch := (first | decide | omega | (simp only [go_sem]; done) | (simp only [go_sem]; omega))) only [go_sem, ↓reduceIte, Nat.reduceEqDiff, Nat.reduceAdd, Nat.reduceSub, Nat.reduceMul, Nat.reduceLT, Nat.reduceLeDiff, Int.reduceEq, Int.reduceLT, Int.reduceLE, Int.reduceAdd, Int.reduceSub, Int.reduceMul, Int.reduceNeg, Int.reduceToNat, Int.reduceNe, reduceCtorEq]
    exact q _ _ (by first | rfl | (simp [nodeFault]; done) | grind [nodeFault]) (by first | exact Ext.refl | exact ⟨_, rfl⟩)
  simp (disch := (first | decide | omega | (simp only [go_sem]; done) | (simp only [go_sem]; omega))) only [go_sem, ↓reduceIte, Nat.reduceEqDiff, Nat.reduceAdd, Nat.reduceSub, Nat.reduceMul, Nat.reduceLT, Nat.reduceLeDiff, Int.reduceEq, Int.reduceLT, Int.reduceLE, Int.reduceAdd, Int.reduceSub, Int.reduceMul, Int.reduceNeg, Int.reduceToNat, Int.reduceNe, reduceCtorEq]
  (repeat (refine guO_merge (fun hb => by (have hb' := hb; (try simp only [nrm] at hb'); have hc := hb; (try simp only [Bool.and_eq_true] at hc); first | (simp (disch := (first | decide | omega | (simp only [go_sem, hb]; done) | (simp only [go_sem, hb]; omega))) only [go_sem, ↓reduceIte, Nat.reduceEqDiff, Nat.reduceAdd, Nat.reduceSub, Nat.reduceMul, Nat.reduceLT, Nat.reduceLeDiff, Int.reduceEq, Int.reduceLT, Int.reduceLE, Int.reduceAdd, Int.reduceSub, Int.reduceMul, Int.reduceNeg, Int.reduceToNat, Int.reduceNe, reduceCtorEq, hb]; rfl) | (simp (disch := (first | decide | omega | (simp only [go_sem, hc]; done) | (simp only [go_sem, hc]; omega))) only [go_sem, ↓reduceIte, Nat.reduceEqDiff, Nat.reduceAdd, Nat.reduceSub, Nat.reduceMul, Nat.reduceLT, Nat.reduceLeDiff, Int.reduceEq, Int.reduceLT, Int.reduceLE, Int.reduceAdd, Int.reduceSub, Int.reduceMul, Int.reduceNeg, Int.reduceToNat, Int.reduceNe, reduceCtorEq, hc]; rfl))) rfl ?_; simp (disch := (first | decide | omega | (simp only [go_sem]; done) | (simp only [go_sem]; omega))) only [go_sem, ↓reduceIte, Nat.reduceEqDiff, Nat.reduceAdd, Nat.reduceSub, Nat.reduceMul, Nat.reduceLT, Nat.reduceLeDiff, Int.reduceEq, Int.reduceLT, Int.reduceLE, Int.reduceAdd, Int.reduceSub, Int.reduceMul, Int.reduceNeg, Int.reduceToNat, Int.reduceNe, reduceCtorEq]))
  have hrf := refForm_eq (d := .mk kind b num text list keys) (by simp [Doc.kind]; simp at h1; omega)
  refine brK_of (fun h2 => ?_) (fun h2 => ?_)
  · simp (disch := (first | decide | omega | (simp only [go_sem]; done) | (simp only [go_sem]; omega))) only [go_sem, ↓reduceIte, Nat.reduceEqDiff, Nat.reduceAdd, Nat.reduceSub, Nat.reduceMul, Nat.reduceLT, Nat.reduceLeDiff, Int.reduceEq, Int.reduceLT, Int.reduceLE, Int.reduceAdd, Int.reduceSub, Int.reduceMul, Int.reduceNeg, Int.reduceToNat, Int.reduceNe, reduceCtorEq]
    have h2' : strangeB (.mk kind b num text list keys) = true := by rw [← hrf, ← h2]; simp [refForm, Bool.or_assoc]
    exact q _ _ (by first | rfl | (simp [nodeFault]; done) | grind [nodeFault]) (by first | exact Ext.refl | exact ⟨_, rfl⟩)
  simp (disch := (first | decide | omega | (simp only [go_sem]; done) | (simp only [go_sem]; omega))) only [go_sem, ↓reduceIte, Nat.reduceEqDiff, Nat.reduceAdd, Nat.reduceSub, Nat.reduceMul, Nat.reduceLT, Nat.reduceLeDiff, Int.reduceEq, Int.reduceLT, Int.reduceLE, Int.reduceAdd, Int.reduceSub, Int.reduceMul, Int.reduceNeg, Int.reduceToNat, Int.reduceNe, reduceCtorEq]
  have h2' : strangeB (.mk kind b num text list keys) = false := by rw [← hrf, ← h2]; simp [refForm, Bool.or_assoc]
  refine brK_of (fun h3 => ?_) (fun h3 => ?_)
  · simp (disch := (first | decide | omega | (simp only [go_sem]; done) | (simp only [go_sem]; omega))) only [go_sem, ↓reduceIte, Nat.reduceEqDiff, Nat.reduceAdd, Nat.reduceSub, Nat.reduceMul, Nat.reduceLT, Nat.reduceLeDiff, Int.reduceEq, Int.reduceLT, Int.reduceLE, Int.reduceAdd, Int.reduceSub, Int.reduceMul, Int.reduceNeg, Int.reduceToNat, Int.reduceNe, reduceCtorEq]
    refine f17 hf1 ?_
    rintro _ _ rfl ⟨J2, rfl⟩
    simp (disch := (first | decide | omega | (simp only [go_sem]; done) | (simp only [go_sem]; omega))) only [go_sem, ↓reduceIte, Nat.reduceEqDiff, Nat.reduceAdd, Nat.reduceSub, Nat.reduceMul, Nat.reduceLT, Nat.reduceLeDiff, Int.reduceEq, Int.reduceLT, Int.reduceLE, Int.reduceAdd, Int.reduceSub, Int.reduceMul, Int.reduceNeg, Int.reduceToNat, Int.reduceNe, reduceCtorEq]
    exact q _ _ (by first | rfl | (simp [nodeFault]; done) | grind [nodeFault]) (by first | exact Ext.refl | exact ⟨_, rfl⟩)
  simp (disch := (first | decide | omega | (simp only [go_sem]; done) | (simp only [go_sem]; omega))) only [go_sem, ↓reduceIte, Nat.reduceEqDiff, Nat.reduceAdd, Nat.reduceSub, Nat.reduceMul, Nat.reduceLT, Nat.reduceLeDiff, Int.reduceEq, Int.reduceLT, Int.reduceLE, Int.reduceAdd, Int.reduceSub, Int.reduceMul, Int.reduceNeg, Int.reduceToNat, Int.reduceNe, reduceCtorEq]
  refine brK_of (fun h4 => ?_) (fun h4 => ?_)
  · simp (disch := (first | decide | omega | (simp only [go_sem]; done) | (simp only [go_sem]; omega))) only [go_sem, ↓reduceIte, Nat.reduceEqDiff, Nat.reduceAdd, Nat.reduceSub, Nat.reduceMul, Nat.reduceLT, Nat.reduceLeDiff, Int.reduceEq, Int.reduceLT, Int.reduceLE, Int.reduceAdd, Int.reduceSub, Int.reduceMul, Int.reduceNeg, Int.reduceToNat, Int.reduceNe, reduceCtorEq]
    refine f19 ?_
    rintro _ _ rfl ⟨J2, rfl⟩
    simp (disch := (first | decide | omega | (simp only [go_sem]; done) | (simp only [go_sem]; omega))) only [go_sem, ↓reduceIte, Nat.reduceEqDiff, Nat.reduceAdd, Nat.reduceSub, Nat.reduceMul, Nat.reduceLT, Nat.reduceLeDiff, Int.reduceEq, Int.reduceLT, Int.reduceLE, Int.reduceAdd, Int.reduceSub, Int.reduceMul, Int.reduceNeg, Int.reduceToNat, Int.reduceNe, reduceCtorEq]
    exact q _ _ (by first | rfl | (simp [nodeFault]; done) | grind [nodeFault]) (by first | exact Ext.refl | exact ⟨_, rfl⟩)
  simp (disch := (first | decide | omega | (simp only [go_sem]; done) | (simp only [go_sem]; omega))) only [go_sem, ↓reduceIte, Nat.reduceEqDiff, Nat.reduceAdd, Nat.reduceSub, Nat.reduceMul, Nat.reduceLT, Nat.reduceLeDiff, Int.reduceEq, Int.reduceLT, Int.reduceLE, Int.reduceAdd, Int.reduceSub, Int.reduceMul, Int.reduceNeg, Int.reduceToNat, Int.reduceNe, reduceCtorEq]
  have hn : nodeFault (.mk kind b num text list keys) = keysFrom none keys := by grind [nodeFault]
  rw [hn] at q
  refine w161_27 (ι := Nat) 0 (fun k e h => (∃ J, h = H ++ (.cells [.int .i64 kind, .bool b, .bool num.neg, strOf num.dig, .int .i64 num.exp, strOf text, .slice la list.length lc, .slice ka keys.length kc] (.fix (some 27)) 0 :: J)) ∧ e.length = 136 ∧ k ≤ keys.length ∧ keysFrom none keys = keysFrom (prevKey keys k) (keys.drop k) ∧ gt e 1 = .pointer (some ⟨H.length, 0, none⟩) ∧ gt e 4 = .int .i64 k) (fun k => keys.length - k) ?_ ?_
  · refine ⟨⟨_, rfl⟩, ?_⟩
    simp (disch := (first | decide | omega | (simp only [go_sem]; done) | (simp only [go_sem]; omega))) only [go_sem, ↓reduceIte, Nat.reduceEqDiff, Nat.reduceAdd, Nat.reduceSub, Nat.reduceMul, Nat.reduceLT, Nat.reduceLeDiff, Int.reduceEq, Int.reduceLT, Int.reduceLE, Int.reduceAdd, Int.reduceSub, Int.reduceMul, Int.reduceNeg, Int.reduceToNat, Int.reduceNe, reduceCtorEq]
    simp [prevKey]
  · rintro k e h ⟨⟨J2, rfl⟩, he, hk1, hkf, e1, e4⟩ ih
    simp (disch := (first | decide | omega | (simp only [go_sem, e1, e4]; done) | (simp only [go_sem, e1, e4]; omega))) only [go_sem, ↓reduceIte, Nat.reduceEqDiff, Nat.reduceAdd, Nat.reduceSub, Nat.reduceMul, Nat.reduceLT, Nat.reduceLeDiff, Int.reduceEq, Int.reduceLT, Int.reduceLE, Int.reduceAdd, Int.reduceSub, Int.reduceMul, Int.reduceNeg, Int.reduceToNat, Int.reduceNe, reduceCtorEq, e1, e4]
    refine brK_prop (fun hh => ?_) (fun hh => ?_)
    · have hlt : k < keys.length := by omega
      have hst := keysFrom_step hlt
      obtain ⟨i, o, s, rfl⟩ : ∃ i o s, ka = some ⟨i, o, s⟩ := by
        have := hk k hlt
        cases ka with
        | none => cases this
        | some a => exact ⟨a.block, a.off, a.spot, rfl⟩
      have hkey : ∀ j, (hj : j < keys.length) → get1 H i (o + j) = some (strOf keys[j]) := by
        intro j hj
        have := hk j hj
        simp only [elAt, Nat.mul_one] at this
        have := get1_getN (k := 0) this (by omega)
        simpa using this
      have hgk := hkey k hlt
      have hil := get1_lt hgk
      simp (disch := (first | decide | omega | (simp only [go_sem, e1, e4, hgk]; done) | (simp only [go_sem, e1, e4, hgk]; omega))) only [go_sem, ↓reduceIte, Nat.reduceEqDiff, Nat.reduceAdd, Nat.reduceSub, Nat.reduceMul, Nat.reduceLT, Nat.reduceLeDiff, Int.reduceEq, Int.reduceLT, Int.reduceLE, Int.reduceAdd, Int.reduceSub, Int.reduceMul, Int.reduceNeg, Int.reduceToNat, Int.reduceNe, reduceCtorEq, e1, e4, hgk]
      refine f19 ?_
      rintro _ _ rfl ⟨J3, rfl⟩
      simp (disch := (first | decide | omega | (simp only [go_sem, e1, e4, hgk]; done) | (simp only [go_sem, e1, e4, hgk]; omega))) only [go_sem, ↓reduceIte, Nat.reduceEqDiff, Nat.reduceAdd, Nat.reduceSub, Nat.reduceMul, Nat.reduceLT, Nat.reduceLeDiff, Int.reduceEq, Int.reduceLT, Int.reduceLE, Int.reduceAdd, Int.reduceSub, Int.reduceMul, Int.reduceNeg, Int.reduceToNat, Int.reduceNe, reduceCtorEq, e1, e4, hgk]
      refine brK_of (fun h5 => ?_) (fun h5 => ?_)
      · simp (disch := (first | decide | omega | (simp only [go_sem]; done) | (simp only [go_sem]; omega))) only [go_sem, ↓reduceIte, Nat.reduceEqDiff, Nat.reduceAdd, Nat.reduceSub, Nat.reduceMul, Nat.reduceLT, Nat.reduceLeDiff, Int.reduceEq, Int.reduceLT, Int.reduceLE, Int.reduceAdd, Int.reduceSub, Int.reduceMul, Int.reduceNeg, Int.reduceToNat, Int.reduceNe, reduceCtorEq]
        exact q _ _ (by first | rfl | (simp [prevKey]; done) | grind [prevKey]) (by first | exact Ext.refl | exact ⟨_, rfl⟩)
      simp (disch := (first | decide | omega | (simp only [go_sem, e1, e4, hgk]; done) | (simp only [go_sem, e1, e4, hgk]; omega))) only [go_sem, ↓reduceIte, Nat.reduceEqDiff, Nat.reduceAdd, Nat.reduceSub, Nat.reduceMul, Nat.reduceLT, Nat.reduceLeDiff, Int.reduceEq, Int.reduceLT, Int.reduceLE, Int.reduceAdd, Int.reduceSub, Int.reduceMul, Int.reduceNeg, Int.reduceToNat, Int.reduceNe, reduceCtorEq, e1, e4, hgk]
      have hkm : ((k : Int) - 1).toNat = k - 1 := by omega
      by_cases hk0 : k = 0
      · have hk0' : ¬ (0 : Int) < k := by omega
        simp (disch := (first | decide | omega | (simp only [go_sem, e1, e4, hk0']; done) | (simp only [go_sem, e1, e4, hk0']; omega))) only [go_sem, ↓reduceIte, Nat.reduceEqDiff, Nat.reduceAdd, Nat.reduceSub, Nat.reduceMul, Nat.reduceLT, Nat.reduceLeDiff, Int.reduceEq, Int.reduceLT, Int.reduceLE, Int.reduceAdd, Int.reduceSub, Int.reduceMul, Int.reduceNeg, Int.reduceToNat, Int.reduceNe, reduceCtorEq, e1, e4, hk0']
        have hpv : prevKey keys k = none := by simp [prevKey, hk0]
        refine ih (k + 1) _ _ (by omega) ⟨⟨_, rfl⟩, ?_⟩
        simp (disch := (first | decide | omega | (simp only [go_sem, e1, e4, he]; done) | (simp only [go_sem, e1, e4, he]; omega))) only [go_sem, ↓reduceIte, Nat.reduceEqDiff, Nat.reduceAdd, Nat.reduceSub, Nat.reduceMul, Nat.reduceLT, Nat.reduceLeDiff, Int.reduceEq, Int.reduceLT, Int.reduceLE, Int.reduceAdd, Int.reduceSub, Int.reduceMul, Int.reduceNeg, Int.reduceToNat, Int.reduceNe, reduceCtorEq, e1, e4, he]
        refine ⟨by omega, ?_, rfl⟩
        rw [hkf, hst, hpv]
        grind [leP]
      · have hk0' : (0 : Int) < k := by omega
        have hpk := hkey (k - 1) (by omega)
        have hpv : prevKey keys k = some (keys[k-1]'(by omega)) := by simp [prevKey, hk0]
        simp (disch := (first | decide | omega | (simp only [go_sem, e1, e4, hk0', hpk, hkm, hgk]; done) | (simp only [go_sem, e1, e4, hk0', hpk, hkm, hgk]; omega))) only [go_sem, ↓reduceIte, Nat.reduceEqDiff, Nat.reduceAdd, Nat.reduceSub, Nat.reduceMul, Nat.reduceLT, Nat.reduceLeDiff, Int.reduceEq, Int.reduceLT, Int.reduceLE, Int.reduceAdd, Int.reduceSub, Int.reduceMul, Int.reduceNeg, Int.reduceToNat, Int.reduceNe, reduceCtorEq, e1, e4, hk0', hpk, hkm, hgk]
        refine brK_of (fun h6 => ?_) (fun h6 => ?_)
        · simp (disch := (first | decide | omega | (simp only [go_sem]; done) | (simp only [go_sem]; omega))) only [go_sem, ↓reduceIte, Nat.reduceEqDiff, Nat.reduceAdd, Nat.reduceSub, Nat.reduceMul, Nat.reduceLT, Nat.reduceLeDiff, Int.reduceEq, Int.reduceLT, Int.reduceLE, Int.reduceAdd, Int.reduceSub, Int.reduceMul, Int.reduceNeg, Int.reduceToNat, Int.reduceNe, reduceCtorEq]
          exact q _ _ (by first | rfl | (simp [leP]; done) | grind [leP]) (by first | exact Ext.refl | exact ⟨_, rfl⟩)
        simp (disch := (first | decide | omega | (simp only [go_sem, e1, e4, hk0', hpk, hkm]; done) | (simp only [go_sem, e1, e4, hk0', hpk, hkm]; omega))) only [go_sem, ↓reduceIte, Nat.reduceEqDiff, Nat.reduceAdd, Nat.reduceSub, Nat.reduceMul, Nat.reduceLT, Nat.reduceLeDiff, Int.reduceEq, Int.reduceLT, Int.reduceLE, Int.reduceAdd, Int.reduceSub, Int.reduceMul, Int.reduceNeg, Int.reduceToNat, Int.reduceNe, reduceCtorEq, e1, e4, hk0', hpk, hkm]
        refine ih (k + 1) _ _ (by omega) ⟨⟨_, rfl⟩, ?_⟩
        simp (disch := (first | decide | omega | (simp only [go_sem, e1, e4, he]; done) | (simp only [go_sem, e1, e4, he]; omega))) only [go_sem, ↓reduceIte, Nat.reduceEqDiff, Nat.reduceAdd, Nat.reduceSub, Nat.reduceMul, Nat.reduceLT, Nat.reduceLeDiff, Int.reduceEq, Int.reduceLT, Int.reduceLE, Int.reduceAdd, Int.reduceSub, Int.reduceMul, Int.reduceNeg, Int.reduceToNat, Int.reduceNe, reduceCtorEq, e1, e4, he]
        refine ⟨by omega, ?_, rfl⟩
        rw [hkf, hst, hpv]
        grind [leP]
    · have hke : k = keys.length := by omega
      subst hke
      simp (disch := (first | decide | omega | (simp only [go_sem, e1, e4]; done) | (simp only [go_sem, e1, e4]; omega))) only [go_sem, ↓reduceIte, Nat.reduceEqDiff, Nat.reduceAdd, Nat.reduceSub, Nat.reduceMul, Nat.reduceLT, Nat.reduceLeDiff, Int.reduceEq, Int.reduceLT, Int.reduceLE, Int.reduceAdd, Int.reduceSub, Int.reduceMul, Int.reduceNeg, Int.reduceToNat, Int.reduceNe, reduceCtorEq, e1, e4]
      rw [List.drop_length] at hkf
      exact q _ _ (by first | rfl | (simp [keysFrom]; done) | grind [keysFrom]) (by first | exact Ext.refl | exact ⟨_, rfl⟩)
end Ve
end Go.Proofs.YtnociodpfmlglaaGreatDoor

/-
  Check and Nodes.
-/
set_option linter.unusedVariables false
set_option linter.unusedSimpArgs false
namespace Go.Proofs.YtnociodpfmlglaaGreatDoor
namespace Ve
open Go

theorem fits_of {d : Doc} (h : bulk d ≤ 1000000000) : Fits d := by
  obtain ⟨kind, b, num, text, list, keys⟩ := d
  have := length_le_sum keys
  simp only [bulk, Fits, Doc.num, Doc.keys] at h ⊢
  omega

def sizeFault (d : Doc) : Int := if 20000 < nodes d ∨ 60 < levels d then 3 else 0
theorem f75 {cs : List Value} {d : Doc} {H : Heap} (hd : DocAt H cs d) (hb : bulk d ≤ 1000000000) {Q : Out → Prop} (q : ∀ v H', v = .int .i64 (sizeFault d) → Ext H H' → Q (.ret v H')) : Cl tab 75 [.agg ⟨cs⟩] H Q := by
  have hnb := nodes_bulk d
  obtain ⟨c1, c2, c3⟩ := hd.cells
  apply e75
  simp (disch := (first | decide | omega | (simp only [go_sem, c1, c2, c3]; done) | (simp only [go_sem, c1, c2, c3]; omega))) only [go_sem, ↓reduceIte, Nat.reduceEqDiff, Nat.reduceAdd, Nat.reduceSub, Nat.reduceMul, Nat.reduceLT, Nat.reduceLeDiff, Int.reduceEq, Int.reduceLT, Int.reduceLE, Int.reduceAdd, Int.reduceSub, Int.reduceMul, Int.reduceNeg, Int.reduceToNat, Int.reduceNe, reduceCtorEq, c1, c2, c3]
  refine f80 hd.ext (by omega) (fun J => ?_)
  simp (disch := (first | decide | omega | (simp only [go_sem, c1, c2, c3]; done) | (simp only [go_sem, c1, c2, c3]; omega))) only [go_sem, ↓reduceIte, Nat.reduceEqDiff, Nat.reduceAdd, Nat.reduceSub, Nat.reduceMul, Nat.reduceLT, Nat.reduceLeDiff, Int.reduceEq, Int.reduceLT, Int.reduceLE, Int.reduceAdd, Int.reduceSub, Int.reduceMul, Int.reduceNeg, Int.reduceToNat, Int.reduceNe, reduceCtorEq, c1, c2, c3]
  (repeat (refine guO_merge (fun hb => by (have hb' := hb; (try simp only [nrm] at hb'); have hc := hb; (try simp only [Bool.and_eq_true] at hc); first | (simp (disch := (first | decide | omega | (simp only [go_sem, hb]; done) | (simp only [go_sem, hb]; omega))) only [go_sem, ↓reduceIte, Nat.reduceEqDiff, Nat.reduceAdd, Nat.reduceSub, Nat.reduceMul, Nat.reduceLT, Nat.reduceLeDiff, Int.reduceEq, Int.reduceLT, Int.reduceLE, Int.reduceAdd, Int.reduceSub, Int.reduceMul, Int.reduceNeg, Int.reduceToNat, Int.reduceNe, reduceCtorEq, hb]; rfl) | (simp (disch := (first | decide | omega | (simp only [go_sem, hc]; done) | (simp only [go_sem, hc]; omega))) only [go_sem, ↓reduceIte, Nat.reduceEqDiff, Nat.reduceAdd, Nat.reduceSub, Nat.reduceMul, Nat.reduceLT, Nat.reduceLeDiff, Int.reduceEq, Int.reduceLT, Int.reduceLE, Int.reduceAdd, Int.reduceSub, Int.reduceMul, Int.reduceNeg, Int.reduceToNat, Int.reduceNe, reduceCtorEq, hc]; rfl))) rfl ?_; simp (disch := (first | decide | omega | (simp only [go_sem]; done) | (simp only [go_sem]; omega))) only [go_sem, ↓reduceIte, Nat.reduceEqDiff, Nat.reduceAdd, Nat.reduceSub, Nat.reduceMul, Nat.reduceLT, Nat.reduceLeDiff, Int.reduceEq, Int.reduceLT, Int.reduceLE, Int.reduceAdd, Int.reduceSub, Int.reduceMul, Int.reduceNeg, Int.reduceToNat, Int.reduceNe, reduceCtorEq]))
  refine brK_of (fun h1 => ?_) (fun h1 => ?_)
  · simp (disch := (first | decide | omega | (simp only [go_sem]; done) | (simp only [go_sem]; omega))) only [go_sem, ↓reduceIte, Nat.reduceEqDiff, Nat.reduceAdd, Nat.reduceSub, Nat.reduceMul, Nat.reduceLT, Nat.reduceLeDiff, Int.reduceEq, Int.reduceLT, Int.reduceLE, Int.reduceAdd, Int.reduceSub, Int.reduceMul, Int.reduceNeg, Int.reduceToNat, Int.reduceNe, reduceCtorEq]
    exact q _ _ (by first | rfl | (simp [sizeFault]; done) | grind [sizeFault]) (by first | exact Ext.refl | exact ⟨_, rfl⟩)
  simp (disch := (first | decide | omega | (simp only [go_sem]; done) | (simp only [go_sem]; omega))) only [go_sem, ↓reduceIte, Nat.reduceEqDiff, Nat.reduceAdd, Nat.reduceSub, Nat.reduceMul, Nat.reduceLT, Nat.reduceLeDiff, Int.reduceEq, Int.reduceLT, Int.reduceLE, Int.reduceAdd, Int.reduceSub, Int.reduceMul, Int.reduceNeg, Int.reduceToNat, Int.reduceNe, reduceCtorEq]
  exact q _ _ (by first | rfl | (simp [sizeFault]; done) | grind [sizeFault]) (by first | exact Ext.refl | exact ⟨_, rfl⟩)

theorem listFault_drop {list : List Doc} {k : Nat} (h : k < list.length) : listFault (list.drop k) = if nodesFault list[k] ≠ 0 then nodesFault list[k] else listFault (list.drop (k + 1)) := by
  rw [List.drop_eq_getElem_cons h, listFault]

theorem f76 {cs : List Value} {d : Doc} {H : Heap} (hd : DocAt H cs d) (hb : bulk d ≤ 1000000000) {Q : Out → Prop} (q : ∀ v H', v = .int .i64 (nodesFault d) → Ext H H' → Q (.ret v H')) : Cl tab 76 [.agg ⟨cs⟩] H Q := by
  suffices h : ∀ n d cs H, bulk d < n → DocAt H cs d → bulk d ≤ 1000000000 → ∀ Q : Out → Prop, (∀ v H', v = .int .i64 (nodesFault d) → Ext H H' → Q (.ret v H')) → Cl tab 76 [.agg ⟨cs⟩] H Q from h (bulk d + 1) d cs H (by omega) hd hb Q q
  clear hd hb q Q cs d H
  intro n
  induction n with
  | zero => intro d cs H hn; omega
  | succ n ih =>
    intro d cs H hn hd hb Q q
    have hd0 := hd
    have hft := fits_of hb
    obtain ⟨c1, c2, c3⟩ := hd0.cells
    obtain @⟨kind, b, num, text, list, keys, la, lc, ka, kc, cs, hi, hk, hg, hdl⟩ := hd
    simp only [bulk] at hn hb
    have hbl := nodesL_bulk list
    have hll := length_le_nodesL list
    apply e76
    simp (disch := (first | decide | omega | (simp only [go_sem, c1, c2, c3]; done) | (simp only [go_sem, c1, c2, c3]; omega))) only [go_sem, ↓reduceIte, Nat.reduceEqDiff, Nat.reduceAdd, Nat.reduceSub, Nat.reduceMul, Nat.reduceLT, Nat.reduceLeDiff, Int.reduceEq, Int.reduceLT, Int.reduceLE, Int.reduceAdd, Int.reduceSub, Int.reduceMul, Int.reduceNeg, Int.reduceToNat, Int.reduceNe, reduceCtorEq, c1, c2, c3]
    refine f160 hd0.ext hft ?_
    rintro _ _ rfl ⟨J, rfl⟩
    simp (disch := (first | decide | omega | (simp only [go_sem]; done) | (simp only [go_sem]; omega))) only [go_sem, ↓reduceIte, Nat.reduceEqDiff, Nat.reduceAdd, Nat.reduceSub, Nat.reduceMul, Nat.reduceLT, Nat.reduceLeDiff, Int.reduceEq, Int.reduceLT, Int.reduceLE, Int.reduceAdd, Int.reduceSub, Int.reduceMul, Int.reduceNeg, Int.reduceToNat, Int.reduceNe, reduceCtorEq]
    refine brK_of (fun h1 => ?_) (fun h1 => ?_)
    · simp (disch := (first | decide | omega | (simp only [go_sem]; done) | (simp only [go_sem]; omega))) only [go_sem, ↓reduceIte, Nat.reduceEqDiff, Nat.reduceAdd, Nat.reduceSub, Nat.reduceMul, Nat.reduceLT, Nat.reduceLeDiff, Int.reduceEq, Int.reduceLT, Int.reduceLE, Int.reduceAdd, Int.reduceSub, Int.reduceMul, Int.reduceNeg, Int.reduceToNat, Int.reduceNe, reduceCtorEq]
      exact q _ _ (by first | rfl | (simp [nodesFault]; done) | grind [nodesFault]) (by first | exact Ext.refl | exact ⟨_, rfl⟩)
    have hnf : nodesFault (.mk kind b num text list keys) = listFault list := by simp only [nodesFault]; simp at h1; simp [h1]
    rw [hnf] at q
    simp (disch := (first | decide | omega | (simp only [go_sem]; done) | (simp only [go_sem]; omega))) only [go_sem, ↓reduceIte, Nat.reduceEqDiff, Nat.reduceAdd, Nat.reduceSub, Nat.reduceMul, Nat.reduceLT, Nat.reduceLeDiff, Int.reduceEq, Int.reduceLT, Int.reduceLE, Int.reduceAdd, Int.reduceSub, Int.reduceMul, Int.reduceNeg, Int.reduceToNat, Int.reduceNe, reduceCtorEq]
    refine w76_12 (ι := Nat) 0 (fun k e h => (∃ J, h = H ++ J) ∧ e.length = 25 ∧ k ≤ list.length ∧ listFault list = listFault (list.drop k) ∧ gt e 13 = .slice la list.length lc ∧ gt e 14 = .int .i64 list.length ∧ gt e 15 = .int .i64 k) (fun k => list.length - k) ?_ ?_
    · refine ⟨⟨_, rfl⟩, ?_⟩
      simp (disch := (first | decide | omega | (simp only [go_sem]; done) | (simp only [go_sem]; omega))) only [go_sem, ↓reduceIte, Nat.reduceEqDiff, Nat.reduceAdd, Nat.reduceSub, Nat.reduceMul, Nat.reduceLT, Nat.reduceLeDiff, Int.reduceEq, Int.reduceLT, Int.reduceLE, Int.reduceAdd, Int.reduceSub, Int.reduceMul, Int.reduceNeg, Int.reduceToNat, Int.reduceNe, reduceCtorEq]
      simp
    · rintro k e h ⟨⟨J2, rfl⟩, he, hk1, hlf, e13, e14, e15⟩ ih2
      simp (disch := (first | decide | omega | (simp only [go_sem, e13, e14, e15]; done) | (simp only [go_sem, e13, e14, e15]; omega))) only [go_sem, ↓reduceIte, Nat.reduceEqDiff, Nat.reduceAdd, Nat.reduceSub, Nat.reduceMul, Nat.reduceLT, Nat.reduceLeDiff, Int.reduceEq, Int.reduceLT, Int.reduceLE, Int.reduceAdd, Int.reduceSub, Int.reduceMul, Int.reduceNeg, Int.reduceToNat, Int.reduceNe, reduceCtorEq, e13, e14, e15]
      refine brK_prop (fun hh => ?_) (fun hh => ?_)
      · have hlt : k < list.length := by omega
        obtain ⟨i, o, s, rfl, hgk⟩ := elAt_some (hg k hlt)
        have hdk := hdl k hlt
        obtain ⟨c1, c2, c3⟩ := hdk.cells
        have hil := getN_lt hgk
        have hnk := bulk_le hlt
        simp (disch := (first | decide | omega | (simp only [go_sem, e13, e14, e15, hgk, c1, c2, c3]; done) | (simp only [go_sem, e13, e14, e15, hgk, c1, c2, c3]; omega))) only [go_sem, ↓reduceIte, Nat.reduceEqDiff, Nat.reduceAdd, Nat.reduceSub, Nat.reduceMul, Nat.reduceLT, Nat.reduceLeDiff, Int.reduceEq, Int.reduceLT, Int.reduceLE, Int.reduceAdd, Int.reduceSub, Int.reduceMul, Int.reduceNeg, Int.reduceToNat, Int.reduceNe, reduceCtorEq, e13, e14, e15, hgk, c1, c2, c3]
        refine ih _ _ _ (by omega) hdk.ext (by omega) _ ?_
        rintro _ _ rfl ⟨J3, rfl⟩
        simp (disch := (first | decide | omega | (simp only [go_sem, e13, e14, e15]; done) | (simp only [go_sem, e13, e14, e15]; omega))) only [go_sem, ↓reduceIte, Nat.reduceEqDiff, Nat.reduceAdd, Nat.reduceSub, Nat.reduceMul, Nat.reduceLT, Nat.reduceLeDiff, Int.reduceEq, Int.reduceLT, Int.reduceLE, Int.reduceAdd, Int.reduceSub, Int.reduceMul, Int.reduceNeg, Int.reduceToNat, Int.reduceNe, reduceCtorEq, e13, e14, e15]
        have hld := listFault_drop hlt
        refine brK_of (fun h2 => ?_) (fun h2 => ?_)
        · simp (disch := (first | decide | omega | (simp only [go_sem]; done) | (simp only [go_sem]; omega))) only [go_sem, ↓reduceIte, Nat.reduceEqDiff, Nat.reduceAdd, Nat.reduceSub, Nat.reduceMul, Nat.reduceLT, Nat.reduceLeDiff, Int.reduceEq, Int.reduceLT, Int.reduceLE, Int.reduceAdd, Int.reduceSub, Int.reduceMul, Int.reduceNeg, Int.reduceToNat, Int.reduceNe, reduceCtorEq]
          exact q _ _ (by first | rfl | (simp []; done) | grind []) (by first | exact Ext.refl | exact ⟨_, rfl⟩)
        simp (disch := (first | decide | omega | (simp only [go_sem, e13, e14, e15]; done) | (simp only [go_sem, e13, e14, e15]; omega))) only [go_sem, ↓reduceIte, Nat.reduceEqDiff, Nat.reduceAdd, Nat.reduceSub, Nat.reduceMul, Nat.reduceLT, Nat.reduceLeDiff, Int.reduceEq, Int.reduceLT, Int.reduceLE, Int.reduceAdd, Int.reduceSub, Int.reduceMul, Int.reduceNeg, Int.reduceToNat, Int.reduceNe, reduceCtorEq, e13, e14, e15]
        refine ih2 (k + 1) _ _ (by omega) ⟨⟨_, rfl⟩, ?_⟩
        simp (disch := (first | decide | omega | (simp only [go_sem, e13, e14, e15, he]; done) | (simp only [go_sem, e13, e14, e15, he]; omega))) only [go_sem, ↓reduceIte, Nat.reduceEqDiff, Nat.reduceAdd, Nat.reduceSub, Nat.reduceMul, Nat.reduceLT, Nat.reduceLeDiff, Int.reduceEq, Int.reduceLT, Int.reduceLE, Int.reduceAdd, Int.reduceSub, Int.reduceMul, Int.reduceNeg, Int.reduceToNat, Int.reduceNe, reduceCtorEq, e13, e14, e15, he]
        refine ⟨by omega, ?_, rfl⟩
        rw [hlf, hld]
        grind
      · have hke : k = list.length := by omega
        subst hke
        rw [List.drop_length] at hlf
        simp (disch := (first | decide | omega | (simp only [go_sem, e13, e14, e15]; done) | (simp only [go_sem, e13, e14, e15]; omega))) only [go_sem, ↓reduceIte, Nat.reduceEqDiff, Nat.reduceAdd, Nat.reduceSub, Nat.reduceMul, Nat.reduceLT, Nat.reduceLeDiff, Int.reduceEq, Int.reduceLT, Int.reduceLE, Int.reduceAdd, Int.reduceSub, Int.reduceMul, Int.reduceNeg, Int.reduceToNat, Int.reduceNe, reduceCtorEq, e13, e14, e15]
        exact q _ _ (by first | rfl | (simp [listFault]; done) | grind [listFault]) (by first | exact Ext.refl | exact ⟨_, rfl⟩)

theorem f79 {cs : List Value} {d : Doc} {H : Heap} (hd : DocAt H cs d) (hb : bulk d ≤ 1000000000) {Q : Out → Prop} (q : ∀ v H', v = .int .i64 (nodesFault d) → Ext H H' → Q (.ret v H')) : Cl tab 79 [.agg ⟨cs⟩] H Q := by
  suffices h : ∀ n d cs H, bulk d < n → DocAt H cs d → bulk d ≤ 1000000000 → ∀ Q : Out → Prop, (∀ v H', v = .int .i64 (nodesFault d) → Ext H H' → Q (.ret v H')) → Cl tab 79 [.agg ⟨cs⟩] H Q from h (bulk d + 1) d cs H (by omega) hd hb Q q
  clear hd hb q Q cs d H
  intro n
  induction n with
  | zero => intro d cs H hn; omega
  | succ n ih =>
    intro d cs H hn hd hb Q q
    have hd0 := hd
    have hft := fits_of hb
    obtain ⟨c1, c2, c3⟩ := hd0.cells
    obtain @⟨kind, b, num, text, list, keys, la, lc, ka, kc, cs, hi, hk, hg, hdl⟩ := hd
    simp only [bulk] at hn hb
    have hbl := nodesL_bulk list
    have hll := length_le_nodesL list
    apply e79
    simp (disch := (first | decide | omega | (simp only [go_sem, c1, c2, c3]; done) | (simp only [go_sem, c1, c2, c3]; omega))) only [go_sem, ↓reduceIte, Nat.reduceEqDiff, Nat.reduceAdd, Nat.reduceSub, Nat.reduceMul, Nat.reduceLT, Nat.reduceLeDiff, Int.reduceEq, Int.reduceLT, Int.reduceLE, Int.reduceAdd, Int.reduceSub, Int.reduceMul, Int.reduceNeg, Int.reduceToNat, Int.reduceNe, reduceCtorEq, c1, c2, c3]
    refine f161 hd0.ext hft ?_
    rintro _ _ rfl ⟨J, rfl⟩
    simp (disch := (first | decide | omega | (simp only [go_sem]; done) | (simp only [go_sem]; omega))) only [go_sem, ↓reduceIte, Nat.reduceEqDiff, Nat.reduceAdd, Nat.reduceSub, Nat.reduceMul, Nat.reduceLT, Nat.reduceLeDiff, Int.reduceEq, Int.reduceLT, Int.reduceLE, Int.reduceAdd, Int.reduceSub, Int.reduceMul, Int.reduceNeg, Int.reduceToNat, Int.reduceNe, reduceCtorEq]
    have hnf : nodesFault (.mk kind b num text list keys) = if nodeFault (.mk kind b num text list keys) ≠ 0 then nodeFault (.mk kind b num text list keys) else listFault list := by simp only [nodesFault]
    rw [hnf] at q
    generalize nodeFault (.mk kind b num text list keys) = nf at *
    refine w79_7 (ι := Nat × Int) (0, nf) (fun ⟨k, r⟩ e h => (∃ J, h = H ++ (.cells [.int .i64 kind, .bool b, .bool num.neg, strOf num.dig, .int .i64 num.exp, strOf text, .slice la list.length lc, .slice ka keys.length kc] (.fix (some 27)) 0 :: J)) ∧ e.length = 25 ∧ k ≤ list.length ∧ (if nf ≠ 0 then nf else listFault list) = (if r ≠ 0 then r else listFault (list.drop k)) ∧ gt e 1 = .pointer (some ⟨H.length, 0, none⟩) ∧ gt e 3 = .int .i64 r ∧ gt e 4 = .int .i64 k) (fun ⟨k, r⟩ => list.length - k) ?_ ?_
    · refine ⟨⟨_, rfl⟩, ?_⟩
      simp (disch := (first | decide | omega | (simp only [go_sem]; done) | (simp only [go_sem]; omega))) only [go_sem, ↓reduceIte, Nat.reduceEqDiff, Nat.reduceAdd, Nat.reduceSub, Nat.reduceMul, Nat.reduceLT, Nat.reduceLeDiff, Int.reduceEq, Int.reduceLT, Int.reduceLE, Int.reduceAdd, Int.reduceSub, Int.reduceMul, Int.reduceNeg, Int.reduceToNat, Int.reduceNe, reduceCtorEq]
      simp
    · rintro ⟨k, r⟩ e h ⟨⟨J2, rfl⟩, he, hk1, hlf, e1, e3, e4⟩ ih2
      simp (disch := (first | decide | omega | (simp only [go_sem, e1, e3, e4]; done) | (simp only [go_sem, e1, e3, e4]; omega))) only [go_sem, ↓reduceIte, Nat.reduceEqDiff, Nat.reduceAdd, Nat.reduceSub, Nat.reduceMul, Nat.reduceLT, Nat.reduceLeDiff, Int.reduceEq, Int.reduceLT, Int.reduceLE, Int.reduceAdd, Int.reduceSub, Int.reduceMul, Int.reduceNeg, Int.reduceToNat, Int.reduceNe, reduceCtorEq, e1, e3, e4]
      (repeat (refine guO_merge (fun hb => by (have hb' := hb; (try simp only [nrm] at hb'); have hc := hb; (try simp only [Bool.and_eq_true] at hc); first | (simp (disch := (first | decide | omega | (simp only [go_sem, hb, e1, e3, e4]; done) | (simp only [go_sem, hb, e1, e3, e4]; omega))) only [go_sem, ↓reduceIte, Nat.reduceEqDiff, Nat.reduceAdd, Nat.reduceSub, Nat.reduceMul, Nat.reduceLT, Nat.reduceLeDiff, Int.reduceEq, Int.reduceLT, Int.reduceLE, Int.reduceAdd, Int.reduceSub, Int.reduceMul, Int.reduceNeg, Int.reduceToNat, Int.reduceNe, reduceCtorEq, hb, e1, e3, e4]; rfl) | (simp (disch := (first | decide | omega | (simp only [go_sem, hc, e1, e3, e4]; done) | (simp only [go_sem, hc, e1, e3, e4]; omega))) only [go_sem, ↓reduceIte, Nat.reduceEqDiff, Nat.reduceAdd, Nat.reduceSub, Nat.reduceMul, Nat.reduceLT, Nat.reduceLeDiff, Int.reduceEq, Int.reduceLT, Int.reduceLE, Int.reduceAdd, Int.reduceSub, Int.reduceMul, Int.reduceNeg, Int.reduceToNat, Int.reduceNe, reduceCtorEq, hc, e1, e3, e4]; rfl))) rfl ?_; simp (disch := (first | decide | omega | (simp only [go_sem, e1, e3, e4]; done) | (simp only [go_sem, e1, e3, e4]; omega))) only [go_sem, ↓reduceIte, Nat.reduceEqDiff, Nat.reduceAdd, Nat.reduceSub, Nat.reduceMul, Nat.reduceLT, Nat.reduceLeDiff, Int.reduceEq, Int.reduceLT, Int.reduceLE, Int.reduceAdd, Int.reduceSub, Int.reduceMul, Int.reduceNeg, Int.reduceToNat, Int.reduceNe, reduceCtorEq, e1, e3, e4]))
      refine brK_of (fun hh => ?_) (fun hh => ?_)
      · simp only [nrm] at hh
        obtain ⟨hh1, hh2⟩ := hh
        have hlt : k < list.length := by omega
        obtain ⟨i, o, s, rfl, hgk⟩ := elAt_some (hg k hlt)
        have hdk := hdl k hlt
        obtain ⟨c1, c2, c3⟩ := hdk.cells
        have hil := getN_lt hgk
        have hnk := bulk_le hlt
        simp (disch := (first | decide | omega | (simp only [go_sem, e1, e3, e4, hgk, c1, c2, c3]; done) | (simp only [go_sem, e1, e3, e4, hgk, c1, c2, c3]; omega))) only [go_sem, ↓reduceIte, Nat.reduceEqDiff, Nat.reduceAdd, Nat.reduceSub, Nat.reduceMul, Nat.reduceLT, Nat.reduceLeDiff, Int.reduceEq, Int.reduceLT, Int.reduceLE, Int.reduceAdd, Int.reduceSub, Int.reduceMul, Int.reduceNeg, Int.reduceToNat, Int.reduceNe, reduceCtorEq, e1, e3, e4, hgk, c1, c2, c3]
        refine ih _ _ _ (by omega) hdk.ext (by omega) _ ?_
        rintro _ _ rfl ⟨J3, rfl⟩
        have hld := listFault_drop hlt
        simp (disch := (first | decide | omega | (simp only [go_sem, e1, e3, e4]; done) | (simp only [go_sem, e1, e3, e4]; omega))) only [go_sem, ↓reduceIte, Nat.reduceEqDiff, Nat.reduceAdd, Nat.reduceSub, Nat.reduceMul, Nat.reduceLT, Nat.reduceLeDiff, Int.reduceEq, Int.reduceLT, Int.reduceLE, Int.reduceAdd, Int.reduceSub, Int.reduceMul, Int.reduceNeg, Int.reduceToNat, Int.reduceNe, reduceCtorEq, e1, e3, e4]
        refine ih2 (k + 1, nodesFault list[k]) _ _ (by simp only; omega) ⟨⟨_, rfl⟩, ?_⟩
        simp (disch := (first | decide | omega | (simp only [go_sem, e1, e3, e4, he]; done) | (simp only [go_sem, e1, e3, e4, he]; omega))) only [go_sem, ↓reduceIte, Nat.reduceEqDiff, Nat.reduceAdd, Nat.reduceSub, Nat.reduceMul, Nat.reduceLT, Nat.reduceLeDiff, Int.reduceEq, Int.reduceLT, Int.reduceLE, Int.reduceAdd, Int.reduceSub, Int.reduceMul, Int.reduceNeg, Int.reduceToNat, Int.reduceNe, reduceCtorEq, e1, e3, e4, he]
        refine ⟨by omega, ?_, rfl⟩
        rw [hlf, hld]
        grind
      · simp (disch := (first | decide | omega | (simp only [go_sem, e1, e3, e4]; done) | (simp only [go_sem, e1, e3, e4]; omega))) only [go_sem, ↓reduceIte, Nat.reduceEqDiff, Nat.reduceAdd, Nat.reduceSub, Nat.reduceMul, Nat.reduceLT, Nat.reduceLeDiff, Int.reduceEq, Int.reduceLT, Int.reduceLE, Int.reduceAdd, Int.reduceSub, Int.reduceMul, Int.reduceNeg, Int.reduceToNat, Int.reduceNe, reduceCtorEq, e1, e3, e4]
        refine q _ _ ?_ (by first | exact Ext.refl | exact ⟨_, rfl⟩)
        rw [hlf]
        by_cases hr : r = 0
        · have hke : k = list.length := by simp [hr] at hh; omega
          subst hke
          simp [hr, listFault]
        · simp [hr]
end Ve
end Go.Proofs.YtnociodpfmlglaaGreatDoor

/-
  Check and Nodes: both, and the law about them.
-/
set_option linter.unusedVariables false
set_option linter.unusedSimpArgs false
namespace Go.Proofs.YtnociodpfmlglaaGreatDoor
namespace Ve
open Go

theorem levels_kids {list : List Doc} {k : Nat} (h : k < list.length) : levels list[k] ≤ levelsL list := by
  have := levelsL_take h
  have h2 := levelsL_append (list.take (k + 1)) (list.drop (k + 1))
  rw [List.take_append_drop] at h2
  omega

theorem f77 {cs : List Value} {d : Doc} {m : Nat} {H : Heap} (hd : DocAt H cs d) (hb : bulk d ≤ 1000000000) (hm : m ≤ 1000000) {Q : Out → Prop} (q : ∀ v H', v = .bool (decide (m < levels d)) → Ext H H' → Q (.ret v H')) : Cl tab 77 [.agg ⟨cs⟩, .int .i64 m] H Q := by
  suffices h : ∀ n d cs (m : Nat) H, bulk d < n → DocAt H cs d → bulk d ≤ 1000000000 → m ≤ 1000000 → ∀ Q : Out → Prop, (∀ v H', v = .bool (decide (m < levels d)) → Ext H H' → Q (.ret v H')) → Cl tab 77 [.agg ⟨cs⟩, .int .i64 m] H Q from h (bulk d + 1) d cs m H (by omega) hd hb hm Q q
  clear hd hb hm q Q cs d m H
  intro n
  induction n with
  | zero => intro d cs m H hn; omega
  | succ n ih =>
    intro d cs m H hn hd hb hm Q q
    obtain ⟨c1, c2, c3⟩ := hd.cells
    obtain @⟨kind, b, num, text, list, keys, la, lc, ka, kc, cs, hi, hk, hg, hdl⟩ := hd
    simp only [bulk] at hn hb
    have hbl := nodesL_bulk list
    have hll := length_le_nodesL list
    simp only [levels] at q
    apply e77
    simp (disch := (first | decide | omega | (simp only [go_sem, c1, c2, c3]; done) | (simp only [go_sem, c1, c2, c3]; omega))) only [go_sem, ↓reduceIte, Nat.reduceEqDiff, Nat.reduceAdd, Nat.reduceSub, Nat.reduceMul, Nat.reduceLT, Nat.reduceLeDiff, Int.reduceEq, Int.reduceLT, Int.reduceLE, Int.reduceAdd, Int.reduceSub, Int.reduceMul, Int.reduceNeg, Int.reduceToNat, Int.reduceNe, reduceCtorEq, c1, c2, c3]
    refine brK_of (fun h0 => ?_) (fun h0 => ?_)
    · simp (disch := (first | decide | omega | (simp only [go_sem]; done) | (simp only [go_sem]; omega))) only [go_sem, ↓reduceIte, Nat.reduceEqDiff, Nat.reduceAdd, Nat.reduceSub, Nat.reduceMul, Nat.reduceLT, Nat.reduceLeDiff, Int.reduceEq, Int.reduceLT, Int.reduceLE, Int.reduceAdd, Int.reduceSub, Int.reduceMul, Int.reduceNeg, Int.reduceToNat, Int.reduceNe, reduceCtorEq]
      simp at h0
      refine q _ _ ?_ (by first | exact Ext.refl | exact ⟨_, rfl⟩)
      subst h0
      simp
    simp at h0
    have hm1 : 1 ≤ m := by omega
    simp (disch := (first | decide | omega | (simp only [go_sem]; done) | (simp only [go_sem]; omega))) only [go_sem, ↓reduceIte, Nat.reduceEqDiff, Nat.reduceAdd, Nat.reduceSub, Nat.reduceMul, Nat.reduceLT, Nat.reduceLeDiff, Int.reduceEq, Int.reduceLT, Int.reduceLE, Int.reduceAdd, Int.reduceSub, Int.reduceMul, Int.reduceNeg, Int.reduceToNat, Int.reduceNe, reduceCtorEq]
    refine w77_10 (ι := Nat) 0 (fun k e h => (∃ J, h = H ++ (.cells [.int .i64 kind, .bool b, .bool num.neg, strOf num.dig, .int .i64 num.exp, strOf text, .slice la list.length lc, .slice ka keys.length kc] (.fix (some 27)) 0 :: J)) ∧ e.length = 23 ∧ k ≤ list.length ∧ levelsL (list.take k) ≤ m - 1 ∧ gt e 1 = .int .i64 m ∧ gt e 2 = .pointer (some ⟨H.length, 0, none⟩) ∧ gt e 5 = .int .i64 k) (fun k => list.length - k) ?_ ?_
    · refine ⟨⟨_, rfl⟩, ?_⟩
      simp (disch := (first | decide | omega | (simp only [go_sem]; done) | (simp only [go_sem]; omega))) only [go_sem, ↓reduceIte, Nat.reduceEqDiff, Nat.reduceAdd, Nat.reduceSub, Nat.reduceMul, Nat.reduceLT, Nat.reduceLeDiff, Int.reduceEq, Int.reduceLT, Int.reduceLE, Int.reduceAdd, Int.reduceSub, Int.reduceMul, Int.reduceNeg, Int.reduceToNat, Int.reduceNe, reduceCtorEq]
      simp [levelsL]
    · rintro k e h ⟨⟨J2, rfl⟩, he, hk1, hlv, e1, e2, e5⟩ ih2
      simp (disch := (first | decide | omega | (simp only [go_sem, e1, e2, e5]; done) | (simp only [go_sem, e1, e2, e5]; omega))) only [go_sem, ↓reduceIte, Nat.reduceEqDiff, Nat.reduceAdd, Nat.reduceSub, Nat.reduceMul, Nat.reduceLT, Nat.reduceLeDiff, Int.reduceEq, Int.reduceLT, Int.reduceLE, Int.reduceAdd, Int.reduceSub, Int.reduceMul, Int.reduceNeg, Int.reduceToNat, Int.reduceNe, reduceCtorEq, e1, e2, e5]
      refine brK_prop (fun hh => ?_) (fun hh => ?_)
      · have hlt : k < list.length := by omega
        obtain ⟨i, o, s, rfl, hgk⟩ := elAt_some (hg k hlt)
        have hdk := hdl k hlt
        obtain ⟨c1, c2, c3⟩ := hdk.cells
        have hil := getN_lt hgk
        have hnk := bulk_le hlt
        have hvk := levels_kids hlt
        have hvt := levelsL_take hlt
        have hm1 : ((m : Int) - 1) = ((m - 1 : Nat) : Int) := by omega
        simp (disch := (first | decide | omega | (simp only [go_sem, e1, e2, e5, hgk, c1, c2, c3]; done) | (simp only [go_sem, e1, e2, e5, hgk, c1, c2, c3]; omega))) only [go_sem, ↓reduceIte, Nat.reduceEqDiff, Nat.reduceAdd, Nat.reduceSub, Nat.reduceMul, Nat.reduceLT, Nat.reduceLeDiff, Int.reduceEq, Int.reduceLT, Int.reduceLE, Int.reduceAdd, Int.reduceSub, Int.reduceMul, Int.reduceNeg, Int.reduceToNat, Int.reduceNe, reduceCtorEq, e1, e2, e5, hgk, c1, c2, c3]
        rw [hm1]
        refine ih _ _ _ _ (by omega) hdk.ext (by omega) (by omega) _ ?_
        rintro _ _ rfl ⟨J3, rfl⟩
        simp (disch := (first | decide | omega | (simp only [go_sem, e1, e2, e5]; done) | (simp only [go_sem, e1, e2, e5]; omega))) only [go_sem, ↓reduceIte, Nat.reduceEqDiff, Nat.reduceAdd, Nat.reduceSub, Nat.reduceMul, Nat.reduceLT, Nat.reduceLeDiff, Int.reduceEq, Int.reduceLT, Int.reduceLE, Int.reduceAdd, Int.reduceSub, Int.reduceMul, Int.reduceNeg, Int.reduceToNat, Int.reduceNe, reduceCtorEq, e1, e2, e5]
        refine brK_prop (fun h2 => ?_) (fun h2 => ?_)
        · simp (disch := (first | decide | omega | (simp only [go_sem]; done) | (simp only [go_sem]; omega))) only [go_sem, ↓reduceIte, Nat.reduceEqDiff, Nat.reduceAdd, Nat.reduceSub, Nat.reduceMul, Nat.reduceLT, Nat.reduceLeDiff, Int.reduceEq, Int.reduceLT, Int.reduceLE, Int.reduceAdd, Int.reduceSub, Int.reduceMul, Int.reduceNeg, Int.reduceToNat, Int.reduceNe, reduceCtorEq]
          exact q _ _ (by first | rfl | (simp []; done) | grind []) (by first | exact Ext.refl | exact ⟨_, rfl⟩)
        simp (disch := (first | decide | omega | (simp only [go_sem, e1, e2, e5]; done) | (simp only [go_sem, e1, e2, e5]; omega))) only [go_sem, ↓reduceIte, Nat.reduceEqDiff, Nat.reduceAdd, Nat.reduceSub, Nat.reduceMul, Nat.reduceLT, Nat.reduceLeDiff, Int.reduceEq, Int.reduceLT, Int.reduceLE, Int.reduceAdd, Int.reduceSub, Int.reduceMul, Int.reduceNeg, Int.reduceToNat, Int.reduceNe, reduceCtorEq, e1, e2, e5]
        refine ih2 (k + 1) _ _ (by omega) ⟨⟨_, rfl⟩, ?_⟩
        simp (disch := (first | decide | omega | (simp only [go_sem, e1, e2, e5, he]; done) | (simp only [go_sem, e1, e2, e5, he]; omega))) only [go_sem, ↓reduceIte, Nat.reduceEqDiff, Nat.reduceAdd, Nat.reduceSub, Nat.reduceMul, Nat.reduceLT, Nat.reduceLeDiff, Int.reduceEq, Int.reduceLT, Int.reduceLE, Int.reduceAdd, Int.reduceSub, Int.reduceMul, Int.reduceNeg, Int.reduceToNat, Int.reduceNe, reduceCtorEq, e1, e2, e5, he]
        refine ⟨by omega, by omega, rfl⟩
      · have hke : k = list.length := by omega
        subst hke
        rw [List.take_length] at hlv
        simp (disch := (first | decide | omega | (simp only [go_sem, e1, e2, e5]; done) | (simp only [go_sem, e1, e2, e5]; omega))) only [go_sem, ↓reduceIte, Nat.reduceEqDiff, Nat.reduceAdd, Nat.reduceSub, Nat.reduceMul, Nat.reduceLT, Nat.reduceLeDiff, Int.reduceEq, Int.reduceLT, Int.reduceLE, Int.reduceAdd, Int.reduceSub, Int.reduceMul, Int.reduceNeg, Int.reduceToNat, Int.reduceNe, reduceCtorEq, e1, e2, e5]
        refine q _ _ ?_ (by first | exact Ext.refl | exact ⟨_, rfl⟩)
        have hnn : ¬ (m < levelsL list + 1) := by omega
        simp [hnn]

theorem f78 {cs : List Value} {d : Doc} {m : Nat} {H : Heap} (hd : DocAt H cs d) (hb : bulk d ≤ 1000000000) (hm : m ≤ 1000000) {Q : Out → Prop} (q : ∀ (r : Nat) H', r ≤ nodes d → 1 ≤ r → (r ≤ m → r = nodes d) → Ext H H' → Q (.ret (.int .i64 r) H')) : Cl tab 78 [.agg ⟨cs⟩, .int .i64 m] H Q := by
  suffices h : ∀ n d cs (m : Nat) H, bulk d < n → DocAt H cs d → bulk d ≤ 1000000000 → m ≤ 1000000 → ∀ Q : Out → Prop, (∀ (r : Nat) H', r ≤ nodes d → 1 ≤ r → (r ≤ m → r = nodes d) → Ext H H' → Q (.ret (.int .i64 r) H')) → Cl tab 78 [.agg ⟨cs⟩, .int .i64 m] H Q from h (bulk d + 1) d cs m H (by omega) hd hb hm Q q
  clear hd hb hm q Q cs d m H
  intro n
  induction n with
  | zero => intro d cs m H hn; omega
  | succ n ih =>
    intro d cs m H hn hd hb hm Q q
    obtain ⟨c1, c2, c3⟩ := hd.cells
    obtain @⟨kind, b, num, text, list, keys, la, lc, ka, kc, cs, hi, hk, hg, hdl⟩ := hd
    simp only [bulk] at hn hb
    have hbl := nodesL_bulk list
    have hll := length_le_nodesL list
    simp only [nodes] at q
    apply e78
    simp (disch := (first | decide | omega | (simp only [go_sem, c1, c2, c3]; done) | (simp only [go_sem, c1, c2, c3]; omega))) only [go_sem, ↓reduceIte, Nat.reduceEqDiff, Nat.reduceAdd, Nat.reduceSub, Nat.reduceMul, Nat.reduceLT, Nat.reduceLeDiff, Int.reduceEq, Int.reduceLT, Int.reduceLE, Int.reduceAdd, Int.reduceSub, Int.reduceMul, Int.reduceNeg, Int.reduceToNat, Int.reduceNe, reduceCtorEq, c1, c2, c3]
    refine w78_7 (ι := Nat × Nat) (0, 1) (fun ⟨k, r⟩ e h => (∃ J, h = H ++ (.cells [.int .i64 kind, .bool b, .bool num.neg, strOf num.dig, .int .i64 num.exp, strOf text, .slice la list.length lc, .slice ka keys.length kc] (.fix (some 27)) 0 :: J)) ∧ e.length = 31 ∧ k ≤ list.length ∧ 1 ≤ r ∧ r ≤ 1 + nodesL (list.take k) ∧ (r ≤ m → r = 1 + nodesL (list.take k)) ∧ gt e 1 = .int .i64 m ∧ gt e 2 = .pointer (some ⟨H.length, 0, none⟩) ∧ gt e 5 = .int .i64 r ∧ gt e 6 = .int .i64 k) (fun ⟨k, r⟩ => list.length - k) ?_ ?_
    · refine ⟨⟨_, rfl⟩, ?_⟩
      simp (disch := (first | decide | omega | (simp only [go_sem]; done) | (simp only [go_sem]; omega))) only [go_sem, ↓reduceIte, Nat.reduceEqDiff, Nat.reduceAdd, Nat.reduceSub, Nat.reduceMul, Nat.reduceLT, Nat.reduceLeDiff, Int.reduceEq, Int.reduceLT, Int.reduceLE, Int.reduceAdd, Int.reduceSub, Int.reduceMul, Int.reduceNeg, Int.reduceToNat, Int.reduceNe, reduceCtorEq]
      simp [nodesL]
    · rintro ⟨k, r⟩ e h ⟨⟨J2, rfl⟩, he, hk1, hr1, hr2, hr3, e1, e2, e5, e6⟩ ih2
      have htl := nodesL_take_le list k
      simp (disch := (first | decide | omega | (simp only [go_sem, e1, e2, e5, e6]; done) | (simp only [go_sem, e1, e2, e5, e6]; omega))) only [go_sem, ↓reduceIte, Nat.reduceEqDiff, Nat.reduceAdd, Nat.reduceSub, Nat.reduceMul, Nat.reduceLT, Nat.reduceLeDiff, Int.reduceEq, Int.reduceLT, Int.reduceLE, Int.reduceAdd, Int.reduceSub, Int.reduceMul, Int.reduceNeg, Int.reduceToNat, Int.reduceNe, reduceCtorEq, e1, e2, e5, e6]
      (repeat (refine guO_merge (fun hb => by (have hb' := hb; (try simp only [nrm] at hb'); have hc := hb; (try simp only [Bool.and_eq_true] at hc); first | (simp (disch := (first | decide | omega | (simp only [go_sem, hb, e1, e2, e5, e6]; done) | (simp only [go_sem, hb, e1, e2, e5, e6]; omega))) only [go_sem, ↓reduceIte, Nat.reduceEqDiff, Nat.reduceAdd, Nat.reduceSub, Nat.reduceMul, Nat.reduceLT, Nat.reduceLeDiff, Int.reduceEq, Int.reduceLT, Int.reduceLE, Int.reduceAdd, Int.reduceSub, Int.reduceMul, Int.reduceNeg, Int.reduceToNat, Int.reduceNe, reduceCtorEq, hb, e1, e2, e5, e6]; rfl) | (simp (disch := (first | decide | omega | (simp only [go_sem, hc, e1, e2, e5, e6]; done) | (simp only [go_sem, hc, e1, e2, e5, e6]; omega))) only [go_sem, ↓reduceIte, Nat.reduceEqDiff, Nat.reduceAdd, Nat.reduceSub, Nat.reduceMul, Nat.reduceLT, Nat.reduceLeDiff, Int.reduceEq, Int.reduceLT, Int.reduceLE, Int.reduceAdd, Int.reduceSub, Int.reduceMul, Int.reduceNeg, Int.reduceToNat, Int.reduceNe, reduceCtorEq, hc, e1, e2, e5, e6]; rfl))) rfl ?_; simp (disch := (first | decide | omega | (simp only [go_sem, e1, e2, e5, e6]; done) | (simp only [go_sem, e1, e2, e5, e6]; omega))) only [go_sem, ↓reduceIte, Nat.reduceEqDiff, Nat.reduceAdd, Nat.reduceSub, Nat.reduceMul, Nat.reduceLT, Nat.reduceLeDiff, Int.reduceEq, Int.reduceLT, Int.reduceLE, Int.reduceAdd, Int.reduceSub, Int.reduceMul, Int.reduceNeg, Int.reduceToNat, Int.reduceNe, reduceCtorEq, e1, e2, e5, e6]))
      refine brK_of (fun hh => ?_) (fun hh => ?_)
      · simp only [nrm] at hh
        obtain ⟨hh1, hh2⟩ := hh
        have hlt : k < list.length := by omega
        obtain ⟨i, o, s, rfl, hgk⟩ := elAt_some (hg k hlt)
        have hdk := hdl k hlt
        obtain ⟨c1, c2, c3⟩ := hdk.cells
        have hil := getN_lt hgk
        have hnk := bulk_le hlt
        have htk := nodesL_take hlt
        have htl2 := nodesL_take_le list (k + 1)
        have hm1 : ((m : Int) - r) = ((m - r : Nat) : Int) := by omega
        simp (disch := (first | decide | omega | (simp only [go_sem, e1, e2, e5, e6, hgk, c1, c2, c3]; done) | (simp only [go_sem, e1, e2, e5, e6, hgk, c1, c2, c3]; omega))) only [go_sem, ↓reduceIte, Nat.reduceEqDiff, Nat.reduceAdd, Nat.reduceSub, Nat.reduceMul, Nat.reduceLT, Nat.reduceLeDiff, Int.reduceEq, Int.reduceLT, Int.reduceLE, Int.reduceAdd, Int.reduceSub, Int.reduceMul, Int.reduceNeg, Int.reduceToNat, Int.reduceNe, reduceCtorEq, e1, e2, e5, e6, hgk, c1, c2, c3]
        rw [hm1]
        refine ih _ _ _ _ (by omega) hdk.ext (by omega) (by omega) _ ?_
        rintro r2 _ g1 g2 g3 ⟨J3, rfl⟩
        simp (disch := (first | decide | omega | (simp only [go_sem, e1, e2, e5, e6]; done) | (simp only [go_sem, e1, e2, e5, e6]; omega))) only [go_sem, ↓reduceIte, Nat.reduceEqDiff, Nat.reduceAdd, Nat.reduceSub, Nat.reduceMul, Nat.reduceLT, Nat.reduceLeDiff, Int.reduceEq, Int.reduceLT, Int.reduceLE, Int.reduceAdd, Int.reduceSub, Int.reduceMul, Int.reduceNeg, Int.reduceToNat, Int.reduceNe, reduceCtorEq, e1, e2, e5, e6]
        refine ih2 (k + 1, r + r2) _ _ (by simp only; omega) ⟨⟨_, rfl⟩, ?_⟩
        simp (disch := (first | decide | omega | (simp only [go_sem, e1, e2, e5, e6, he]; done) | (simp only [go_sem, e1, e2, e5, e6, he]; omega))) only [go_sem, ↓reduceIte, Nat.reduceEqDiff, Nat.reduceAdd, Nat.reduceSub, Nat.reduceMul, Nat.reduceLT, Nat.reduceLeDiff, Int.reduceEq, Int.reduceLT, Int.reduceLE, Int.reduceAdd, Int.reduceSub, Int.reduceMul, Int.reduceNeg, Int.reduceToNat, Int.reduceNe, reduceCtorEq, e1, e2, e5, e6, he]
        refine ⟨by omega, by omega, by omega, fun _ => ?_, ?_, rfl⟩
        · have := hr3 (by omega); have := g3 (by omega); omega
        · congr 1
      · simp (disch := (first | decide | omega | (simp only [go_sem, e1, e2, e5, e6]; done) | (simp only [go_sem, e1, e2, e5, e6]; omega))) only [go_sem, ↓reduceIte, Nat.reduceEqDiff, Nat.reduceAdd, Nat.reduceSub, Nat.reduceMul, Nat.reduceLT, Nat.reduceLeDiff, Int.reduceEq, Int.reduceLT, Int.reduceLE, Int.reduceAdd, Int.reduceSub, Int.reduceMul, Int.reduceNeg, Int.reduceToNat, Int.reduceNe, reduceCtorEq, e1, e2, e5, e6]
        refine q r _ (by omega) hr1 (fun hrm => ?_) (by first | exact Ext.refl | exact ⟨_, rfl⟩)
        simp at hh
        have := hr3 hrm
        have hke : k = list.length := by omega
        subst hke
        rw [List.take_length] at this
        omega

def docFault (d : Doc) : Int := if sizeFault d ≠ 0 then sizeFault d else nodesFault d
theorem f20 {cs : List Value} {d : Doc} {H : Heap} (hd : DocAt H cs d) (hb : bulk d ≤ 1000000000) {Q : Out → Prop} (q : ∀ v H', v = .int .i64 (docFault d) → Ext H H' → Q (.ret v H')) : Cl tab 20 [.agg ⟨cs⟩] H Q := by
  obtain ⟨c1, c2, c3⟩ := hd.cells
  apply e20
  simp (disch := (first | decide | omega | (simp only [go_sem, c1, c2, c3]; done) | (simp only [go_sem, c1, c2, c3]; omega))) only [go_sem, ↓reduceIte, Nat.reduceEqDiff, Nat.reduceAdd, Nat.reduceSub, Nat.reduceMul, Nat.reduceLT, Nat.reduceLeDiff, Int.reduceEq, Int.reduceLT, Int.reduceLE, Int.reduceAdd, Int.reduceSub, Int.reduceMul, Int.reduceNeg, Int.reduceToNat, Int.reduceNe, reduceCtorEq, c1, c2, c3]
  refine f75 hd.ext hb ?_
  rintro _ _ rfl ⟨J, rfl⟩
  simp (disch := (first | decide | omega | (simp only [go_sem, c1, c2, c3]; done) | (simp only [go_sem, c1, c2, c3]; omega))) only [go_sem, ↓reduceIte, Nat.reduceEqDiff, Nat.reduceAdd, Nat.reduceSub, Nat.reduceMul, Nat.reduceLT, Nat.reduceLeDiff, Int.reduceEq, Int.reduceLT, Int.reduceLE, Int.reduceAdd, Int.reduceSub, Int.reduceMul, Int.reduceNeg, Int.reduceToNat, Int.reduceNe, reduceCtorEq, c1, c2, c3]
  refine brK_of (fun h1 => ?_) (fun h1 => ?_)
  · simp (disch := (first | decide | omega | (simp only [go_sem]; done) | (simp only [go_sem]; omega))) only [go_sem, ↓reduceIte, Nat.reduceEqDiff, Nat.reduceAdd, Nat.reduceSub, Nat.reduceMul, Nat.reduceLT, Nat.reduceLeDiff, Int.reduceEq, Int.reduceLT, Int.reduceLE, Int.reduceAdd, Int.reduceSub, Int.reduceMul, Int.reduceNeg, Int.reduceToNat, Int.reduceNe, reduceCtorEq]
    exact q _ _ (by first | rfl | (simp [docFault]; done) | grind [docFault]) (by first | exact Ext.refl | exact ⟨_, rfl⟩)
  simp (disch := (first | decide | omega | (simp only [go_sem, c1, c2, c3]; done) | (simp only [go_sem, c1, c2, c3]; omega))) only [go_sem, ↓reduceIte, Nat.reduceEqDiff, Nat.reduceAdd, Nat.reduceSub, Nat.reduceMul, Nat.reduceLT, Nat.reduceLeDiff, Int.reduceEq, Int.reduceLT, Int.reduceLE, Int.reduceAdd, Int.reduceSub, Int.reduceMul, Int.reduceNeg, Int.reduceToNat, Int.reduceNe, reduceCtorEq, c1, c2, c3]
  refine f76 hd.ext hb ?_
  rintro _ _ rfl ⟨J2, rfl⟩
  simp (disch := (first | decide | omega | (simp only [go_sem]; done) | (simp only [go_sem]; omega))) only [go_sem, ↓reduceIte, Nat.reduceEqDiff, Nat.reduceAdd, Nat.reduceSub, Nat.reduceMul, Nat.reduceLT, Nat.reduceLeDiff, Int.reduceEq, Int.reduceLT, Int.reduceLE, Int.reduceAdd, Int.reduceSub, Int.reduceMul, Int.reduceNeg, Int.reduceToNat, Int.reduceNe, reduceCtorEq]
  exact q _ _ (by first | rfl | (simp [docFault]; done) | grind [docFault]) (by first | exact Ext.refl | exact ⟨_, rfl⟩)

theorem f21 {cs : List Value} {d : Doc} {H : Heap} (hd : DocAt H cs d) (hb : bulk d ≤ 1000000000) {Q : Out → Prop} (q : ∀ v H', v = .int .i64 (docFault d) → Ext H H' → Q (.ret v H')) : Cl tab 21 [.agg ⟨cs⟩] H Q := by
  obtain ⟨c1, c2, c3⟩ := hd.cells
  apply e21
  simp (disch := (first | decide | omega | (simp only [go_sem, c1, c2, c3]; done) | (simp only [go_sem, c1, c2, c3]; omega))) only [go_sem, ↓reduceIte, Nat.reduceEqDiff, Nat.reduceAdd, Nat.reduceSub, Nat.reduceMul, Nat.reduceLT, Nat.reduceLeDiff, Int.reduceEq, Int.reduceLT, Int.reduceLE, Int.reduceAdd, Int.reduceSub, Int.reduceMul, Int.reduceNeg, Int.reduceToNat, Int.reduceNe, reduceCtorEq, c1, c2, c3]
  refine f77 (m := 60) hd.ext hb (by omega) ?_
  rintro _ _ rfl ⟨J, rfl⟩
  simp (disch := (first | decide | omega | (simp only [go_sem, c1, c2, c3]; done) | (simp only [go_sem, c1, c2, c3]; omega))) only [go_sem, ↓reduceIte, Nat.reduceEqDiff, Nat.reduceAdd, Nat.reduceSub, Nat.reduceMul, Nat.reduceLT, Nat.reduceLeDiff, Int.reduceEq, Int.reduceLT, Int.reduceLE, Int.reduceAdd, Int.reduceSub, Int.reduceMul, Int.reduceNeg, Int.reduceToNat, Int.reduceNe, reduceCtorEq, c1, c2, c3]
  by_cases h0 : 60 < levels d
  · simp (disch := (first | decide | omega | (simp only [go_sem, h0]; done) | (simp only [go_sem, h0]; omega))) only [go_sem, ↓reduceIte, Nat.reduceEqDiff, Nat.reduceAdd, Nat.reduceSub, Nat.reduceMul, Nat.reduceLT, Nat.reduceLeDiff, Int.reduceEq, Int.reduceLT, Int.reduceLE, Int.reduceAdd, Int.reduceSub, Int.reduceMul, Int.reduceNeg, Int.reduceToNat, Int.reduceNe, reduceCtorEq, h0]
    exact q _ _ (by first | rfl | (simp [docFault, sizeFault]; done) | grind [docFault, sizeFault]) (by first | exact Ext.refl | exact ⟨_, rfl⟩)
  simp (disch := (first | decide | omega | (simp only [go_sem, h0]; done) | (simp only [go_sem, h0]; omega))) only [go_sem, ↓reduceIte, Nat.reduceEqDiff, Nat.reduceAdd, Nat.reduceSub, Nat.reduceMul, Nat.reduceLT, Nat.reduceLeDiff, Int.reduceEq, Int.reduceLT, Int.reduceLE, Int.reduceAdd, Int.reduceSub, Int.reduceMul, Int.reduceNeg, Int.reduceToNat, Int.reduceNe, reduceCtorEq, h0]
  have hx : DocAt (H ++ .cells cs (.fix (some 27)) 0 :: J) cs d := hd.ext
  simp (disch := (first | decide | omega | (simp only [go_sem, h0, c1, c2, c3]; done) | (simp only [go_sem, h0, c1, c2, c3]; omega))) only [go_sem, ↓reduceIte, Nat.reduceEqDiff, Nat.reduceAdd, Nat.reduceSub, Nat.reduceMul, Nat.reduceLT, Nat.reduceLeDiff, Int.reduceEq, Int.reduceLT, Int.reduceLE, Int.reduceAdd, Int.reduceSub, Int.reduceMul, Int.reduceNeg, Int.reduceToNat, Int.reduceNe, reduceCtorEq, h0, c1, c2, c3]
  refine f78 (m := 20000) hx hb (by omega) ?_
  rintro r _ g1 g2 g3 ⟨J2, rfl⟩
  simp (disch := (first | decide | omega | (simp only [go_sem, h0]; done) | (simp only [go_sem, h0]; omega))) only [go_sem, ↓reduceIte, Nat.reduceEqDiff, Nat.reduceAdd, Nat.reduceSub, Nat.reduceMul, Nat.reduceLT, Nat.reduceLeDiff, Int.reduceEq, Int.reduceLT, Int.reduceLE, Int.reduceAdd, Int.reduceSub, Int.reduceMul, Int.reduceNeg, Int.reduceToNat, Int.reduceNe, reduceCtorEq, h0]
  refine brK_prop (fun h1 => ?_) (fun h1 => ?_)
  · simp (disch := (first | decide | omega | (simp only [go_sem]; done) | (simp only [go_sem]; omega))) only [go_sem, ↓reduceIte, Nat.reduceEqDiff, Nat.reduceAdd, Nat.reduceSub, Nat.reduceMul, Nat.reduceLT, Nat.reduceLeDiff, Int.reduceEq, Int.reduceLT, Int.reduceLE, Int.reduceAdd, Int.reduceSub, Int.reduceMul, Int.reduceNeg, Int.reduceToNat, Int.reduceNe, reduceCtorEq]
    have : 20000 < nodes d := by omega
    exact q _ _ (by first | rfl | (simp [docFault, sizeFault]; done) | grind [docFault, sizeFault]) (by first | exact Ext.refl | exact ⟨_, rfl⟩)
  simp (disch := (first | decide | omega | (simp only [go_sem, c1, c2, c3]; done) | (simp only [go_sem, c1, c2, c3]; omega))) only [go_sem, ↓reduceIte, Nat.reduceEqDiff, Nat.reduceAdd, Nat.reduceSub, Nat.reduceMul, Nat.reduceLT, Nat.reduceLeDiff, Int.reduceEq, Int.reduceLT, Int.reduceLE, Int.reduceAdd, Int.reduceSub, Int.reduceMul, Int.reduceNeg, Int.reduceToNat, Int.reduceNe, reduceCtorEq, c1, c2, c3]
  refine f79 hd.ext hb ?_
  rintro _ _ rfl ⟨J3, rfl⟩
  simp (disch := (first | decide | omega | (simp only [go_sem]; done) | (simp only [go_sem]; omega))) only [go_sem, ↓reduceIte, Nat.reduceEqDiff, Nat.reduceAdd, Nat.reduceSub, Nat.reduceMul, Nat.reduceLT, Nat.reduceLeDiff, Int.reduceEq, Int.reduceLT, Int.reduceLE, Int.reduceAdd, Int.reduceSub, Int.reduceMul, Int.reduceNeg, Int.reduceToNat, Int.reduceNe, reduceCtorEq]
  have : nodes d ≤ 20000 := by have := g3 (by omega); omega
  exact q _ _ (by first | rfl | (simp [docFault, sizeFault]; done) | grind [docFault, sizeFault]) (by first | exact Ext.refl | exact ⟨_, rfl⟩)

theorem docFault_nodes {d : Doc} (h : docFault d = 0) : nodes d ≤ 20000 ∧ levels d ≤ 60 ∧ nodesFault d = 0 := by
  unfold docFault sizeFault at h
  by_cases h1 : 20000 < nodes d ∨ 60 < levels d
  · simp [h1] at h
  · simp only [h1, if_false, ne_eq, not_true_eq_false] at h
    exact ⟨by omega, by omega, h⟩

end Ve
end Go.Proofs.YtnociodpfmlglaaGreatDoor
