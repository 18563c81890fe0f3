/-
  Numbers, nodes and documents: what is checked.
-/
import Derived.Test.YtnociodpfmlglaaGreatDoorP4
import Derived.Test.YtnociodpfmlglaaGreatDoorP2
set_option linter.unusedVariables false
set_option linter.unusedSimpArgs false
namespace Go.Proofs.YtnociodpfmlglaaGreatDoor
namespace Ve
open Go

def digits : Str := [48, 49, 50, 51, 52, 53, 54, 55, 56, 57]
theorem digits_in (c : UInt8) : inCut digits c.toNat = isDig c := by
  rw [Bool.eq_iff_iff]
  simp [inCut, digits, isDig]
  omega
theorem dropWhile_nil {p : UInt8 → Bool} : ∀ {l : Str}, l.dropWhile p = [] ↔ ∀ c ∈ l, p c = true
  | [] => by simp
  | a :: l => by
    rw [List.dropWhile_cons]
    cases h : p a <;> simp [h, dropWhile_nil (l := l)]
theorem trim_nil {p : UInt8 → Bool} {s : Str} : trimL p (trimR p s) = [] ↔ s.all p = true := by
  unfold trimL trimR
  rw [dropWhile_nil, List.all_eq_true]
  constructor
  · intro h c hc
    have hc' : c ∈ s.reverse := by simpa using hc
    rw [← List.takeWhile_append_dropWhile (p := p) (l := s.reverse)] at hc'
    rcases List.mem_append.1 hc' with h1 | h1
    · exact (List.all_eq_true.1 List.all_takeWhile) c h1
    · exact h c (by simpa using h1)
  · intro h c hc
    exact h c (by have := List.dropWhile_sublist (p := p) (l := s.reverse); have := this.subset (by simpa using hc : c ∈ s.reverse.dropWhile p); simpa using this)

def numFault (n : Num) : Int :=
  if n.dig = [] ∨ n.dig.all isDig = false then 2
  else if n.dig = [48] then (if n.neg = true ∨ n.exp ≠ 0 then 2 else 0)
  else if at8 n.dig 0 = 48 ∨ at8 n.dig (n.dig.length - 1) = 48 then 2
  else if 30 < n.dig.length ∨ n.exp < -30 ∨ 30 < n.exp then 3 else 0

theorem f16 {n : Num} {H : Heap} (hl : n.dig.length ≤ 1000000000000) {Q : Out → Prop} (q : ∀ v H', v = .int .i64 (numFault n) → Ext H H' → Q (.ret v H')) :
    Cl tab 16 [.agg ⟨[.bool n.neg, strOf n.dig, .int .i64 n.exp]⟩] H Q := by
  obtain ⟨neg, dig, exp⟩ := n
  simp only at hl ⊢
  apply e16
  by_cases h0 : dig = []
  · simp (disch := (first | decide | omega | (simp only [go_sem, h0]; done) | (simp only [go_sem, h0]; omega))) only [go_sem, ↓reduceIte, Nat.reduceEqDiff, Nat.reduceAdd, Nat.reduceSub, Nat.reduceMul, Nat.reduceLT, Nat.reduceLeDiff, Int.reduceEq, Int.reduceLT, Int.reduceLE, Int.reduceAdd, Int.reduceSub, Int.reduceMul, Int.reduceNeg, Int.reduceToNat, Int.reduceNe, reduceCtorEq, h0]
    subst h0
    exact q _ _ (by first | rfl | (simp [numFault]; done) | grind [numFault]) (by first | exact Ext.refl | exact ⟨_, rfl⟩)
  have hlen : 0 < dig.length := List.length_pos_iff.2 h0
  simp (disch := (first | decide | omega | (simp only [go_sem, h0]; done) | (simp only [go_sem, h0]; omega))) only [go_sem, ↓reduceIte, Nat.reduceEqDiff, Nat.reduceAdd, Nat.reduceSub, Nat.reduceMul, Nat.reduceLT, Nat.reduceLeDiff, Int.reduceEq, Int.reduceLT, Int.reduceLE, Int.reduceAdd, Int.reduceSub, Int.reduceMul, Int.reduceNeg, Int.reduceToNat, Int.reduceNe, reduceCtorEq, h0]
  refine f73 (cut := digits) (by simp [digits]) (by simp [digits]) (by simp [digits]) hl ?_
  rintro _ _ rfl ⟨J, rfl⟩
  simp only [digits_in]
  simp (disch := (first | decide | omega | (simp only [go_sem, h0, trim_nil]; done) | (simp only [go_sem, h0, trim_nil]; omega))) only [go_sem, ↓reduceIte, Nat.reduceEqDiff, Nat.reduceAdd, Nat.reduceSub, Nat.reduceMul, Nat.reduceLT, Nat.reduceLeDiff, Int.reduceEq, Int.reduceLT, Int.reduceLE, Int.reduceAdd, Int.reduceSub, Int.reduceMul, Int.reduceNeg, Int.reduceToNat, Int.reduceNe, reduceCtorEq, h0, trim_nil]
  refine brK_of (fun h1 => ?_) (fun h1 => ?_)
  · simp (disch := (first | decide | omega | (simp only [go_sem]; done) | (simp only [go_sem]; omega))) only [go_sem, ↓reduceIte, Nat.reduceEqDiff, Nat.reduceAdd, Nat.reduceSub, Nat.reduceMul, Nat.reduceLT, Nat.reduceLeDiff, Int.reduceEq, Int.reduceLT, Int.reduceLE, Int.reduceAdd, Int.reduceSub, Int.reduceMul, Int.reduceNeg, Int.reduceToNat, Int.reduceNe, reduceCtorEq]
    exact q _ _ (by first | rfl | (simp [numFault]; done) | grind [numFault]) (by first | exact Ext.refl | exact ⟨_, rfl⟩)
  simp (disch := (first | decide | omega | (simp only [go_sem]; done) | (simp only [go_sem]; omega))) only [go_sem, ↓reduceIte, Nat.reduceEqDiff, Nat.reduceAdd, Nat.reduceSub, Nat.reduceMul, Nat.reduceLT, Nat.reduceLeDiff, Int.reduceEq, Int.reduceLT, Int.reduceLE, Int.reduceAdd, Int.reduceSub, Int.reduceMul, Int.reduceNeg, Int.reduceToNat, Int.reduceNe, reduceCtorEq]
  (repeat (refine guO_merge (fun hb => by (have hb' := hb; (try simp only [nrm] at hb'); have hc := hb; (try simp only [Bool.and_eq_true] at hc); first | (simp (disch := (first | decide | omega | (simp only [go_sem, hb]; done) | (simp only [go_sem, hb]; omega))) only [go_sem, ↓reduceIte, Nat.reduceEqDiff, Nat.reduceAdd, Nat.reduceSub, Nat.reduceMul, Nat.reduceLT, Nat.reduceLeDiff, Int.reduceEq, Int.reduceLT, Int.reduceLE, Int.reduceAdd, Int.reduceSub, Int.reduceMul, Int.reduceNeg, Int.reduceToNat, Int.reduceNe, reduceCtorEq, hb]; rfl) | (simp (disch := (first | decide | omega | (simp only [go_sem, hc]; done) | (simp only [go_sem, hc]; omega))) only [go_sem, ↓reduceIte, Nat.reduceEqDiff, Nat.reduceAdd, Nat.reduceSub, Nat.reduceMul, Nat.reduceLT, Nat.reduceLeDiff, Int.reduceEq, Int.reduceLT, Int.reduceLE, Int.reduceAdd, Int.reduceSub, Int.reduceMul, Int.reduceNeg, Int.reduceToNat, Int.reduceNe, reduceCtorEq, hc]; rfl))) rfl ?_; simp (disch := (first | decide | omega | (simp only [go_sem]; done) | (simp only [go_sem]; omega))) only [go_sem, ↓reduceIte, Nat.reduceEqDiff, Nat.reduceAdd, Nat.reduceSub, Nat.reduceMul, Nat.reduceLT, Nat.reduceLeDiff, Int.reduceEq, Int.reduceLT, Int.reduceLE, Int.reduceAdd, Int.reduceSub, Int.reduceMul, Int.reduceNeg, Int.reduceToNat, Int.reduceNe, reduceCtorEq]))
  refine brK_of (fun h2 => ?_) (fun h2 => ?_)
  · simp (disch := (first | decide | omega | (simp only [go_sem]; done) | (simp only [go_sem]; omega))) only [go_sem, ↓reduceIte, Nat.reduceEqDiff, Nat.reduceAdd, Nat.reduceSub, Nat.reduceMul, Nat.reduceLT, Nat.reduceLeDiff, Int.reduceEq, Int.reduceLT, Int.reduceLE, Int.reduceAdd, Int.reduceSub, Int.reduceMul, Int.reduceNeg, Int.reduceToNat, Int.reduceNe, reduceCtorEq]
    exact q _ _ (by first | rfl | (simp [numFault]; done) | grind [numFault]) (by first | exact Ext.refl | exact ⟨_, rfl⟩)
  simp (disch := (first | decide | omega | (simp only [go_sem]; done) | (simp only [go_sem]; omega))) only [go_sem, ↓reduceIte, Nat.reduceEqDiff, Nat.reduceAdd, Nat.reduceSub, Nat.reduceMul, Nat.reduceLT, Nat.reduceLeDiff, Int.reduceEq, Int.reduceLT, Int.reduceLE, Int.reduceAdd, Int.reduceSub, Int.reduceMul, Int.reduceNeg, Int.reduceToNat, Int.reduceNe, reduceCtorEq]
  (repeat (refine guO_merge (fun hb => by (have hb' := hb; (try simp only [nrm] at hb'); have hc := hb; (try simp only [Bool.and_eq_true] at hc); first | (simp (disch := (first | decide | omega | (simp only [go_sem, hb]; done) | (simp only [go_sem, hb]; omega))) only [go_sem, ↓reduceIte, Nat.reduceEqDiff, Nat.reduceAdd, Nat.reduceSub, Nat.reduceMul, Nat.reduceLT, Nat.reduceLeDiff, Int.reduceEq, Int.reduceLT, Int.reduceLE, Int.reduceAdd, Int.reduceSub, Int.reduceMul, Int.reduceNeg, Int.reduceToNat, Int.reduceNe, reduceCtorEq, hb]; rfl) | (simp (disch := (first | decide | omega | (simp only [go_sem, hc]; done) | (simp only [go_sem, hc]; omega))) only [go_sem, ↓reduceIte, Nat.reduceEqDiff, Nat.reduceAdd, Nat.reduceSub, Nat.reduceMul, Nat.reduceLT, Nat.reduceLeDiff, Int.reduceEq, Int.reduceLT, Int.reduceLE, Int.reduceAdd, Int.reduceSub, Int.reduceMul, Int.reduceNeg, Int.reduceToNat, Int.reduceNe, reduceCtorEq, hc]; rfl))) rfl ?_; simp (disch := (first | decide | omega | (simp only [go_sem]; done) | (simp only [go_sem]; omega))) only [go_sem, ↓reduceIte, Nat.reduceEqDiff, Nat.reduceAdd, Nat.reduceSub, Nat.reduceMul, Nat.reduceLT, Nat.reduceLeDiff, Int.reduceEq, Int.reduceLT, Int.reduceLE, Int.reduceAdd, Int.reduceSub, Int.reduceMul, Int.reduceNeg, Int.reduceToNat, Int.reduceNe, reduceCtorEq]))
  refine brK_of (fun h3 => ?_) (fun h3 => ?_)
  · simp (disch := (first | decide | omega | (simp only [go_sem]; done) | (simp only [go_sem]; omega))) only [go_sem, ↓reduceIte, Nat.reduceEqDiff, Nat.reduceAdd, Nat.reduceSub, Nat.reduceMul, Nat.reduceLT, Nat.reduceLeDiff, Int.reduceEq, Int.reduceLT, Int.reduceLE, Int.reduceAdd, Int.reduceSub, Int.reduceMul, Int.reduceNeg, Int.reduceToNat, Int.reduceNe, reduceCtorEq]
    exact q _ _ (by first | rfl | (simp [numFault]; done) | grind [numFault]) (by first | exact Ext.refl | exact ⟨_, rfl⟩)
  simp (disch := (first | decide | omega | (simp only [go_sem]; done) | (simp only [go_sem]; omega))) only [go_sem, ↓reduceIte, Nat.reduceEqDiff, Nat.reduceAdd, Nat.reduceSub, Nat.reduceMul, Nat.reduceLT, Nat.reduceLeDiff, Int.reduceEq, Int.reduceLT, Int.reduceLE, Int.reduceAdd, Int.reduceSub, Int.reduceMul, Int.reduceNeg, Int.reduceToNat, Int.reduceNe, reduceCtorEq]
  (repeat (refine guO_merge (fun hb => by (have hb' := hb; (try simp only [nrm] at hb'); have hc := hb; (try simp only [Bool.and_eq_true] at hc); first | (simp (disch := (first | decide | omega | (simp only [go_sem, hb]; done) | (simp only [go_sem, hb]; omega))) only [go_sem, ↓reduceIte, Nat.reduceEqDiff, Nat.reduceAdd, Nat.reduceSub, Nat.reduceMul, Nat.reduceLT, Nat.reduceLeDiff, Int.reduceEq, Int.reduceLT, Int.reduceLE, Int.reduceAdd, Int.reduceSub, Int.reduceMul, Int.reduceNeg, Int.reduceToNat, Int.reduceNe, reduceCtorEq, hb]; rfl) | (simp (disch := (first | decide | omega | (simp only [go_sem, hc]; done) | (simp only [go_sem, hc]; omega))) only [go_sem, ↓reduceIte, Nat.reduceEqDiff, Nat.reduceAdd, Nat.reduceSub, Nat.reduceMul, Nat.reduceLT, Nat.reduceLeDiff, Int.reduceEq, Int.reduceLT, Int.reduceLE, Int.reduceAdd, Int.reduceSub, Int.reduceMul, Int.reduceNeg, Int.reduceToNat, Int.reduceNe, reduceCtorEq, hc]; rfl))) rfl ?_; simp (disch := (first | decide | omega | (simp only [go_sem]; done) | (simp only [go_sem]; omega))) only [go_sem, ↓reduceIte, Nat.reduceEqDiff, Nat.reduceAdd, Nat.reduceSub, Nat.reduceMul, Nat.reduceLT, Nat.reduceLeDiff, Int.reduceEq, Int.reduceLT, Int.reduceLE, Int.reduceAdd, Int.reduceSub, Int.reduceMul, Int.reduceNeg, Int.reduceToNat, Int.reduceNe, reduceCtorEq]))
  refine brK_of (fun h4 => ?_) (fun h4 => ?_)
  · simp (disch := (first | decide | omega | (simp only [go_sem]; done) | (simp only [go_sem]; omega))) only [go_sem, ↓reduceIte, Nat.reduceEqDiff, Nat.reduceAdd, Nat.reduceSub, Nat.reduceMul, Nat.reduceLT, Nat.reduceLeDiff, Int.reduceEq, Int.reduceLT, Int.reduceLE, Int.reduceAdd, Int.reduceSub, Int.reduceMul, Int.reduceNeg, Int.reduceToNat, Int.reduceNe, reduceCtorEq]
    exact q _ _ (by first | rfl | (simp [numFault]; done) | grind [numFault]) (by first | exact Ext.refl | exact ⟨_, rfl⟩)
  simp (disch := (first | decide | omega | (simp only [go_sem]; done) | (simp only [go_sem]; omega))) only [go_sem, ↓reduceIte, Nat.reduceEqDiff, Nat.reduceAdd, Nat.reduceSub, Nat.reduceMul, Nat.reduceLT, Nat.reduceLeDiff, Int.reduceEq, Int.reduceLT, Int.reduceLE, Int.reduceAdd, Int.reduceSub, Int.reduceMul, Int.reduceNeg, Int.reduceToNat, Int.reduceNe, reduceCtorEq]
  exact q _ _ (by first | rfl | (simp [numFault]; done) | grind [numFault]) (by first | exact Ext.refl | exact ⟨_, rfl⟩)

theorem f17 {n : Num} {H : Heap} (hl : n.dig.length ≤ 1000000000000) {Q : Out → Prop} (q : ∀ v H', v = .int .i64 (numFault n) → Ext H H' → Q (.ret v H')) :
    Cl tab 17 [.agg ⟨[.bool n.neg, strOf n.dig, .int .i64 n.exp]⟩] H Q := by
  obtain ⟨neg, dig, exp⟩ := n
  simp only at hl ⊢
  apply e17
  simp (disch := (first | decide | omega | (simp only [go_sem]; done) | (simp only [go_sem]; omega))) only [go_sem, ↓reduceIte, Nat.reduceEqDiff, Nat.reduceAdd, Nat.reduceSub, Nat.reduceMul, Nat.reduceLT, Nat.reduceLeDiff, Int.reduceEq, Int.reduceLT, Int.reduceLE, Int.reduceAdd, Int.reduceSub, Int.reduceMul, Int.reduceNeg, Int.reduceToNat, Int.reduceNe, reduceCtorEq]
  refine brK_of (fun h0 => ?_) (fun h0 => ?_)
  · simp (disch := (first | decide | omega | (simp only [go_sem]; done) | (simp only [go_sem]; omega))) only [go_sem, ↓reduceIte, Nat.reduceEqDiff, Nat.reduceAdd, Nat.reduceSub, Nat.reduceMul, Nat.reduceLT, Nat.reduceLeDiff, Int.reduceEq, Int.reduceLT, Int.reduceLE, Int.reduceAdd, Int.reduceSub, Int.reduceMul, Int.reduceNeg, Int.reduceToNat, Int.reduceNe, reduceCtorEq]
    exact q _ _ (by first | rfl | (simp [numFault]; done) | grind [numFault]) (by first | exact Ext.refl | exact ⟨_, rfl⟩)
  have h0 : dig ≠ [] := by simpa using h0
  have hlen : 0 < dig.length := List.length_pos_iff.2 h0
  simp (disch := (first | decide | omega | (simp only [go_sem]; done) | (simp only [go_sem]; omega))) only [go_sem, ↓reduceIte, Nat.reduceEqDiff, Nat.reduceAdd, Nat.reduceSub, Nat.reduceMul, Nat.reduceLT, Nat.reduceLeDiff, Int.reduceEq, Int.reduceLT, Int.reduceLE, Int.reduceAdd, Int.reduceSub, Int.reduceMul, Int.reduceNeg, Int.reduceToNat, Int.reduceNe, reduceCtorEq]
  refine w17_12 (ι := Nat) 0 (fun k e h => (∃ J, h = H ++ (.cells [.bool neg, strOf dig, .int .i64 exp] (.fix (some 23)) 0 :: J)) ∧ e.length = 53 ∧ k ≤ dig.length ∧ (dig.take k).all isDig = true ∧ gt e 1 = .pointer (some ⟨H.length, 0, none⟩) ∧ gt e 3 = strOf dig ∧ gt e 4 = .int .i64 k) (fun k => dig.length - k) ?_ ?_
  · refine ⟨⟨[], rfl⟩, ?_⟩
    simp (disch := (first | decide | omega | (simp only [go_sem]; done) | (simp only [go_sem]; omega))) only [go_sem, ↓reduceIte, Nat.reduceEqDiff, Nat.reduceAdd, Nat.reduceSub, Nat.reduceMul, Nat.reduceLT, Nat.reduceLeDiff, Int.reduceEq, Int.reduceLT, Int.reduceLE, Int.reduceAdd, Int.reduceSub, Int.reduceMul, Int.reduceNeg, Int.reduceToNat, Int.reduceNe, reduceCtorEq]
    simp
  · rintro k e h ⟨⟨J, rfl⟩, he, hk, ha, e1, e3, e4⟩ ih
    simp (disch := (first | decide | omega | (simp only [go_sem, e1, e3, e4]; done) | (simp only [go_sem, e1, e3, e4]; omega))) only [go_sem, ↓reduceIte, Nat.reduceEqDiff, Nat.reduceAdd, Nat.reduceSub, Nat.reduceMul, Nat.reduceLT, Nat.reduceLeDiff, Int.reduceEq, Int.reduceLT, Int.reduceLE, Int.reduceAdd, Int.reduceSub, Int.reduceMul, Int.reduceNeg, Int.reduceToNat, Int.reduceNe, reduceCtorEq, e1, e3, e4]
    refine brK_prop (fun hh => ?_) (fun hh => ?_)
    · have hlt : k < dig.length := by omega
      have h8 := at8_get hlt
      have htk := all_take (p := isDig) hlt
      simp (disch := (first | decide | omega | (simp only [go_sem, e1, e3, e4, h8]; done) | (simp only [go_sem, e1, e3, e4, h8]; omega))) only [go_sem, ↓reduceIte, Nat.reduceEqDiff, Nat.reduceAdd, Nat.reduceSub, Nat.reduceMul, Nat.reduceLT, Nat.reduceLeDiff, Int.reduceEq, Int.reduceLT, Int.reduceLE, Int.reduceAdd, Int.reduceSub, Int.reduceMul, Int.reduceNeg, Int.reduceToNat, Int.reduceNe, reduceCtorEq, e1, e3, e4, h8]
      refine f74 ?_
      rintro _ _ rfl ⟨J2, rfl⟩
      simp (disch := (first | decide | omega | (simp only [go_sem, e1, e3, e4, h8]; done) | (simp only [go_sem, e1, e3, e4, h8]; omega))) only [go_sem, ↓reduceIte, Nat.reduceEqDiff, Nat.reduceAdd, Nat.reduceSub, Nat.reduceMul, Nat.reduceLT, Nat.reduceLeDiff, Int.reduceEq, Int.reduceLT, Int.reduceLE, Int.reduceAdd, Int.reduceSub, Int.reduceMul, Int.reduceNeg, Int.reduceToNat, Int.reduceNe, reduceCtorEq, e1, e3, e4, h8]
      refine brK_of (fun h1 => ?_) (fun h1 => ?_)
      · simp (disch := (first | decide | omega | (simp only [go_sem]; done) | (simp only [go_sem]; omega))) only [go_sem, ↓reduceIte, Nat.reduceEqDiff, Nat.reduceAdd, Nat.reduceSub, Nat.reduceMul, Nat.reduceLT, Nat.reduceLeDiff, Int.reduceEq, Int.reduceLT, Int.reduceLE, Int.reduceAdd, Int.reduceSub, Int.reduceMul, Int.reduceNeg, Int.reduceToNat, Int.reduceNe, reduceCtorEq]
        have hf : dig.all isDig = false := by
          rw [List.all_eq_false]
          exact ⟨dig[k], List.getElem_mem hlt, by simp [isDig] at h1 ⊢; omega⟩
        exact q _ _ (by first | rfl | (simp [numFault]; done) | grind [numFault]) (by first | exact Ext.refl | exact ⟨_, rfl⟩)
      · simp (disch := (first | decide | omega | (simp only [go_sem, e1, e3, e4, he]; done) | (simp only [go_sem, e1, e3, e4, he]; omega))) only [go_sem, ↓reduceIte, Nat.reduceEqDiff, Nat.reduceAdd, Nat.reduceSub, Nat.reduceMul, Nat.reduceLT, Nat.reduceLeDiff, Int.reduceEq, Int.reduceLT, Int.reduceLE, Int.reduceAdd, Int.reduceSub, Int.reduceMul, Int.reduceNeg, Int.reduceToNat, Int.reduceNe, reduceCtorEq, e1, e3, e4, he]
        refine ih (k + 1) _ _ (by omega) ⟨⟨_, rfl⟩, ?_⟩
        simp (disch := (first | decide | omega | (simp only [go_sem, e1, e3, e4, he]; done) | (simp only [go_sem, e1, e3, e4, he]; omega))) only [go_sem, ↓reduceIte, Nat.reduceEqDiff, Nat.reduceAdd, Nat.reduceSub, Nat.reduceMul, Nat.reduceLT, Nat.reduceLeDiff, Int.reduceEq, Int.reduceLT, Int.reduceLE, Int.reduceAdd, Int.reduceSub, Int.reduceMul, Int.reduceNeg, Int.reduceToNat, Int.reduceNe, reduceCtorEq, e1, e3, e4, he]
        refine ⟨by omega, ?_, rfl⟩
        rw [htk, ha]; simp [isDig] at h1 ⊢; omega
    · have hke : k = dig.length := by omega
      subst hke
      rw [List.take_length] at ha
      simp (disch := (first | decide | omega | (simp only [go_sem, e1, e3, e4]; done) | (simp only [go_sem, e1, e3, e4]; omega))) only [go_sem, ↓reduceIte, Nat.reduceEqDiff, Nat.reduceAdd, Nat.reduceSub, Nat.reduceMul, Nat.reduceLT, Nat.reduceLeDiff, Int.reduceEq, Int.reduceLT, Int.reduceLE, Int.reduceAdd, Int.reduceSub, Int.reduceMul, Int.reduceNeg, Int.reduceToNat, Int.reduceNe, reduceCtorEq, e1, e3, e4]
      refine brK_of (fun h2 => ?_) (fun h2 => ?_)
      · simp (disch := (first | decide | omega | (simp only [go_sem, e1, e3, e4]; done) | (simp only [go_sem, e1, e3, e4]; omega))) only [go_sem, ↓reduceIte, Nat.reduceEqDiff, Nat.reduceAdd, Nat.reduceSub, Nat.reduceMul, Nat.reduceLT, Nat.reduceLeDiff, Int.reduceEq, Int.reduceLT, Int.reduceLE, Int.reduceAdd, Int.reduceSub, Int.reduceMul, Int.reduceNeg, Int.reduceToNat, Int.reduceNe, reduceCtorEq, e1, e3, e4]
        (repeat (refine guO_merge (fun hb => by (have hb' := hb; (try simp only [nrm] at hb'); have hc := hb; (try simp only [Bool.and_eq_true] at hc); first | (simp (disch := (first | decide | omega | (simp only [go_sem, hb, e1, e3, e4]; done) | (simp only [go_sem, hb, e1, e3, e4]; omega))) only [go_sem, ↓reduceIte, Nat.reduceEqDiff, Nat.reduceAdd, Nat.reduceSub, Nat.reduceMul, Nat.reduceLT, Nat.reduceLeDiff, Int.reduceEq, Int.reduceLT, Int.reduceLE, Int.reduceAdd, Int.reduceSub, Int.reduceMul, Int.reduceNeg, Int.reduceToNat, Int.reduceNe, reduceCtorEq, hb, e1, e3, e4]; rfl) | (simp (disch := (first | decide | omega | (simp only [go_sem, hc, e1, e3, e4]; done) | (simp only [go_sem, hc, e1, e3, e4]; omega))) only [go_sem, ↓reduceIte, Nat.reduceEqDiff, Nat.reduceAdd, Nat.reduceSub, Nat.reduceMul, Nat.reduceLT, Nat.reduceLeDiff, Int.reduceEq, Int.reduceLT, Int.reduceLE, Int.reduceAdd, Int.reduceSub, Int.reduceMul, Int.reduceNeg, Int.reduceToNat, Int.reduceNe, reduceCtorEq, hc, e1, e3, e4]; rfl))) rfl ?_; simp (disch := (first | decide | omega | (simp only [go_sem, e1, e3, e4]; done) | (simp only [go_sem, e1, e3, e4]; omega))) only [go_sem, ↓reduceIte, Nat.reduceEqDiff, Nat.reduceAdd, Nat.reduceSub, Nat.reduceMul, Nat.reduceLT, Nat.reduceLeDiff, Int.reduceEq, Int.reduceLT, Int.reduceLE, Int.reduceAdd, Int.reduceSub, Int.reduceMul, Int.reduceNeg, Int.reduceToNat, Int.reduceNe, reduceCtorEq, e1, e3, e4]))
        refine brK_of (fun h3 => ?_) (fun h3 => ?_)
        · simp (disch := (first | decide | omega | (simp only [go_sem]; done) | (simp only [go_sem]; omega))) only [go_sem, ↓reduceIte, Nat.reduceEqDiff, Nat.reduceAdd, Nat.reduceSub, Nat.reduceMul, Nat.reduceLT, Nat.reduceLeDiff, Int.reduceEq, Int.reduceLT, Int.reduceLE, Int.reduceAdd, Int.reduceSub, Int.reduceMul, Int.reduceNeg, Int.reduceToNat, Int.reduceNe, reduceCtorEq]
          exact q _ _ (by first | rfl | (simp [numFault]; done) | grind [numFault]) (by first | exact Ext.refl | exact ⟨_, rfl⟩)
        · simp (disch := (first | decide | omega | (simp only [go_sem]; done) | (simp only [go_sem]; omega))) only [go_sem, ↓reduceIte, Nat.reduceEqDiff, Nat.reduceAdd, Nat.reduceSub, Nat.reduceMul, Nat.reduceLT, Nat.reduceLeDiff, Int.reduceEq, Int.reduceLT, Int.reduceLE, Int.reduceAdd, Int.reduceSub, Int.reduceMul, Int.reduceNeg, Int.reduceToNat, Int.reduceNe, reduceCtorEq]
          exact q _ _ (by first | rfl | (simp [numFault]; done) | grind [numFault]) (by first | exact Ext.refl | exact ⟨_, rfl⟩)
      simp (disch := (first | decide | omega | (simp only [go_sem, e1, e3, e4]; done) | (simp only [go_sem, e1, e3, e4]; omega))) only [go_sem, ↓reduceIte, Nat.reduceEqDiff, Nat.reduceAdd, Nat.reduceSub, Nat.reduceMul, Nat.reduceLT, Nat.reduceLeDiff, Int.reduceEq, Int.reduceLT, Int.reduceLE, Int.reduceAdd, Int.reduceSub, Int.reduceMul, Int.reduceNeg, Int.reduceToNat, Int.reduceNe, reduceCtorEq, e1, e3, e4]
      (repeat (refine guO_merge (fun hb => by (have hb' := hb; (try simp only [nrm] at hb'); have hc := hb; (try simp only [Bool.and_eq_true] at hc); first | (simp (disch := (first | decide | omega | (simp only [go_sem, hb, e1, e3, e4]; done) | (simp only [go_sem, hb, e1, e3, e4]; omega))) only [go_sem, ↓reduceIte, Nat.reduceEqDiff, Nat.reduceAdd, Nat.reduceSub, Nat.reduceMul, Nat.reduceLT, Nat.reduceLeDiff, Int.reduceEq, Int.reduceLT, Int.reduceLE, Int.reduceAdd, Int.reduceSub, Int.reduceMul, Int.reduceNeg, Int.reduceToNat, Int.reduceNe, reduceCtorEq, hb, e1, e3, e4]; rfl) | (simp (disch := (first | decide | omega | (simp only [go_sem, hc, e1, e3, e4]; done) | (simp only [go_sem, hc, e1, e3, e4]; omega))) only [go_sem, ↓reduceIte, Nat.reduceEqDiff, Nat.reduceAdd, Nat.reduceSub, Nat.reduceMul, Nat.reduceLT, Nat.reduceLeDiff, Int.reduceEq, Int.reduceLT, Int.reduceLE, Int.reduceAdd, Int.reduceSub, Int.reduceMul, Int.reduceNeg, Int.reduceToNat, Int.reduceNe, reduceCtorEq, hc, e1, e3, e4]; rfl))) rfl ?_; simp (disch := (first | decide | omega | (simp only [go_sem, e1, e3, e4]; done) | (simp only [go_sem, e1, e3, e4]; omega))) only [go_sem, ↓reduceIte, Nat.reduceEqDiff, Nat.reduceAdd, Nat.reduceSub, Nat.reduceMul, Nat.reduceLT, Nat.reduceLeDiff, Int.reduceEq, Int.reduceLT, Int.reduceLE, Int.reduceAdd, Int.reduceSub, Int.reduceMul, Int.reduceNeg, Int.reduceToNat, Int.reduceNe, reduceCtorEq, e1, e3, e4]))
      refine brK_of (fun h3 => ?_) (fun h3 => ?_)
      · simp (disch := (first | decide | omega | (simp only [go_sem]; done) | (simp only [go_sem]; omega))) only [go_sem, ↓reduceIte, Nat.reduceEqDiff, Nat.reduceAdd, Nat.reduceSub, Nat.reduceMul, Nat.reduceLT, Nat.reduceLeDiff, Int.reduceEq, Int.reduceLT, Int.reduceLE, Int.reduceAdd, Int.reduceSub, Int.reduceMul, Int.reduceNeg, Int.reduceToNat, Int.reduceNe, reduceCtorEq]
        exact q _ _ (by first | rfl | (simp [numFault]; done) | grind [numFault]) (by first | exact Ext.refl | exact ⟨_, rfl⟩)
      simp (disch := (first | decide | omega | (simp only [go_sem, e1, e3, e4]; done) | (simp only [go_sem, e1, e3, e4]; omega))) only [go_sem, ↓reduceIte, Nat.reduceEqDiff, Nat.reduceAdd, Nat.reduceSub, Nat.reduceMul, Nat.reduceLT, Nat.reduceLeDiff, Int.reduceEq, Int.reduceLT, Int.reduceLE, Int.reduceAdd, Int.reduceSub, Int.reduceMul, Int.reduceNeg, Int.reduceToNat, Int.reduceNe, reduceCtorEq, e1, e3, e4]
      (repeat (refine guO_merge (fun hb => by (have hb' := hb; (try simp only [nrm] at hb'); have hc := hb; (try simp only [Bool.and_eq_true] at hc); first | (simp (disch := (first | decide | omega | (simp only [go_sem, hb, e1, e3, e4]; done) | (simp only [go_sem, hb, e1, e3, e4]; omega))) only [go_sem, ↓reduceIte, Nat.reduceEqDiff, Nat.reduceAdd, Nat.reduceSub, Nat.reduceMul, Nat.reduceLT, Nat.reduceLeDiff, Int.reduceEq, Int.reduceLT, Int.reduceLE, Int.reduceAdd, Int.reduceSub, Int.reduceMul, Int.reduceNeg, Int.reduceToNat, Int.reduceNe, reduceCtorEq, hb, e1, e3, e4]; rfl) | (simp (disch := (first | decide | omega | (simp only [go_sem, hc, e1, e3, e4]; done) | (simp only [go_sem, hc, e1, e3, e4]; omega))) only [go_sem, ↓reduceIte, Nat.reduceEqDiff, Nat.reduceAdd, Nat.reduceSub, Nat.reduceMul, Nat.reduceLT, Nat.reduceLeDiff, Int.reduceEq, Int.reduceLT, Int.reduceLE, Int.reduceAdd, Int.reduceSub, Int.reduceMul, Int.reduceNeg, Int.reduceToNat, Int.reduceNe, reduceCtorEq, hc, e1, e3, e4]; rfl))) rfl ?_; simp (disch := (first | decide | omega | (simp only [go_sem, e1, e3, e4]; done) | (simp only [go_sem, e1, e3, e4]; omega))) only [go_sem, ↓reduceIte, Nat.reduceEqDiff, Nat.reduceAdd, Nat.reduceSub, Nat.reduceMul, Nat.reduceLT, Nat.reduceLeDiff, Int.reduceEq, Int.reduceLT, Int.reduceLE, Int.reduceAdd, Int.reduceSub, Int.reduceMul, Int.reduceNeg, Int.reduceToNat, Int.reduceNe, reduceCtorEq, e1, e3, e4]))
      refine brK_of (fun h4 => ?_) (fun h4 => ?_)
      · simp (disch := (first | decide | omega | (simp only [go_sem]; done) | (simp only [go_sem]; omega))) only [go_sem, ↓reduceIte, Nat.reduceEqDiff, Nat.reduceAdd, Nat.reduceSub, Nat.reduceMul, Nat.reduceLT, Nat.reduceLeDiff, Int.reduceEq, Int.reduceLT, Int.reduceLE, Int.reduceAdd, Int.reduceSub, Int.reduceMul, Int.reduceNeg, Int.reduceToNat, Int.reduceNe, reduceCtorEq]
        exact q _ _ (by first | rfl | (simp [numFault]; done) | grind [numFault]) (by first | exact Ext.refl | exact ⟨_, rfl⟩)
      simp (disch := (first | decide | omega | (simp only [go_sem]; done) | (simp only [go_sem]; omega))) only [go_sem, ↓reduceIte, Nat.reduceEqDiff, Nat.reduceAdd, Nat.reduceSub, Nat.reduceMul, Nat.reduceLT, Nat.reduceLeDiff, Int.reduceEq, Int.reduceLT, Int.reduceLE, Int.reduceAdd, Int.reduceSub, Int.reduceMul, Int.reduceNeg, Int.reduceToNat, Int.reduceNe, reduceCtorEq]
      exact q _ _ (by first | rfl | (simp [numFault]; done) | grind [numFault]) (by first | exact Ext.refl | exact ⟨_, rfl⟩)

def leP (p : Option Str) (k : Str) : Bool := match p with | some p => less k p || decide (k = p) | none => false
def keysFrom (p : Option Str) : List Str → Int
  | [] => 0
  | k :: r => if textFault k ≠ 0 then textFault k else if leP p k = true then 10 else keysFrom (some k) r
def nodeFault : Doc → Int
  | d@(.mk kind b num text list keys) =>
    if kind < 1 ∨ 6 < kind then 7 else if strangeB d = true then 2 else if kind = 3 then numFault num else if kind = 4 then textFault text else keysFrom none keys
mutual
def nodesFault : Doc → Int
  | .mk kind b num text list keys => if nodeFault (.mk kind b num text list keys) ≠ 0 then nodeFault (.mk kind b num text list keys) else listFault list
def listFault : List Doc → Int
  | [] => 0
  | d :: l => if nodesFault d ≠ 0 then nodesFault d else listFault l
end
def prevKey (keys : List Str) (k : Nat) : Option Str := if k = 0 then none else keys[k-1]?
theorem keysFrom_step {keys : List Str} {k : Nat} (h : k < keys.length) : keysFrom (prevKey keys k) (keys.drop k) =
    if textFault keys[k] ≠ 0 then textFault keys[k] else if leP (prevKey keys k) keys[k] = true then 10 else keysFrom (prevKey keys (k + 1)) (keys.drop (k + 1)) := by
  rw [show prevKey keys (k + 1) = some keys[k] from by simp [prevKey, h], List.drop_eq_getElem_cons h, keysFrom]

/-- Sizes that no document passes. -/
def Fits (d : Doc) : Prop := d.num.dig.length ≤ 1000000000000 ∧ d.keys.length ≤ 1000000000000

theorem f160 {cs : List Value} {d : Doc} {H : Heap} (hd : DocAt H cs d) (hf : Fits d) {Q : Out → Prop} (q : ∀ v H', v = .int .i64 (nodeFault d) → Ext H H' → Q (.ret v H')) : Cl tab 160 [.agg ⟨cs⟩] H Q := by
  have hd0 := hd
  obtain @⟨kind, b, num, text, list, keys, la, lc, ka, kc, cs, hi, hk, hg, hdl⟩ := hd
  obtain ⟨hf1, hf2⟩ := hf
  simp only [Doc.num, Doc.keys] at hf1 hf2
  obtain ⟨c1, c2, c3⟩ := hd0.cells
  apply e160
  simp (disch := (first | decide | omega | (simp only [go_sem, c1, c2, c3]; done) | (simp only [go_sem, c1, c2, c3]; omega))) only [go_sem, ↓reduceIte, Nat.reduceEqDiff, Nat.reduceAdd, Nat.reduceSub, Nat.reduceMul, Nat.reduceLT, Nat.reduceLeDiff, Int.reduceEq, Int.reduceLT, Int.reduceLE, Int.reduceAdd, Int.reduceSub, Int.reduceMul, Int.reduceNeg, Int.reduceToNat, Int.reduceNe, reduceCtorEq, c1, c2, c3]
  (repeat (refine guO_merge (fun hb => by (have hb' := hb; (try simp only [nrm] at hb'); have hc := hb; (try simp only [Bool.and_eq_true] at hc); first | (simp (disch := (first | decide | omega | (simp only [go_sem, hb]; done) | (simp only [go_sem, hb]; omega))) only [go_sem, ↓reduceIte, Nat.reduceEqDiff, Nat.reduceAdd, Nat.reduceSub, Nat.reduceMul, Nat.reduceLT, Nat.reduceLeDiff, Int.reduceEq, Int.reduceLT, Int.reduceLE, Int.reduceAdd, Int.reduceSub, Int.reduceMul, Int.reduceNeg, Int.reduceToNat, Int.reduceNe, reduceCtorEq, hb]; rfl) | (simp (disch := (first | decide | omega | (simp only [go_sem, hc]; done) | (simp only [go_sem, hc]; omega))) only [go_sem, ↓reduceIte, Nat.reduceEqDiff, Nat.reduceAdd, Nat.reduceSub, Nat.reduceMul, Nat.reduceLT, Nat.reduceLeDiff, Int.reduceEq, Int.reduceLT, Int.reduceLE, Int.reduceAdd, Int.reduceSub, Int.reduceMul, Int.reduceNeg, Int.reduceToNat, Int.reduceNe, reduceCtorEq, hc]; rfl))) rfl ?_; simp (disch := (first | decide | omega | (simp only [go_sem]; done) | (simp only [go_sem]; omega))) only [go_sem, ↓reduceIte, Nat.reduceEqDiff, Nat.reduceAdd, Nat.reduceSub, Nat.reduceMul, Nat.reduceLT, Nat.reduceLeDiff, Int.reduceEq, Int.reduceLT, Int.reduceLE, Int.reduceAdd, Int.reduceSub, Int.reduceMul, Int.reduceNeg, Int.reduceToNat, Int.reduceNe, reduceCtorEq]))
  refine brK_of (fun h1 => ?_) (fun h1 => ?_)
  · simp (disch := (first | decide | omega | (simp only [go_sem]; done) | (simp only [go_sem]; omega))) only [go_sem, ↓reduceIte, Nat.reduceEqDiff, Nat.reduceAdd, Nat.reduceSub, Nat.reduceMul, Nat.reduceLT, Nat.reduceLeDiff, Int.reduceEq, Int.reduceLT, Int.reduceLE, Int.reduceAdd, Int.reduceSub, Int.reduceMul, Int.reduceNeg, Int.reduceToNat, Int.reduceNe, reduceCtorEq]
    exact q _ _ (by first | rfl | (simp [nodeFault]; done) | grind [nodeFault]) (by first | exact Ext.refl | exact ⟨_, rfl⟩)
  simp (disch := (first | decide | omega | (simp only [go_sem]; done) | (simp only [go_sem]; omega))) only [go_sem, ↓reduceIte, Nat.reduceEqDiff, Nat.reduceAdd, Nat.reduceSub, Nat.reduceMul, Nat.reduceLT, Nat.reduceLeDiff, Int.reduceEq, Int.reduceLT, Int.reduceLE, Int.reduceAdd, Int.reduceSub, Int.reduceMul, Int.reduceNeg, Int.reduceToNat, Int.reduceNe, reduceCtorEq]
  refine f237 hd0.ext ?_
  rintro _ _ rfl ⟨J, rfl⟩
  simp (disch := (first | decide | omega | (simp only [go_sem]; done) | (simp only [go_sem]; omega))) only [go_sem, ↓reduceIte, Nat.reduceEqDiff, Nat.reduceAdd, Nat.reduceSub, Nat.reduceMul, Nat.reduceLT, Nat.reduceLeDiff, Int.reduceEq, Int.reduceLT, Int.reduceLE, Int.reduceAdd, Int.reduceSub, Int.reduceMul, Int.reduceNeg, Int.reduceToNat, Int.reduceNe, reduceCtorEq]
  refine brK_of (fun h2 => ?_) (fun h2 => ?_)
  · simp (disch := (first | decide | omega | (simp only [go_sem]; done) | (simp only [go_sem]; omega))) only [go_sem, ↓reduceIte, Nat.reduceEqDiff, Nat.reduceAdd, Nat.reduceSub, Nat.reduceMul, Nat.reduceLT, Nat.reduceLeDiff, Int.reduceEq, Int.reduceLT, Int.reduceLE, Int.reduceAdd, Int.reduceSub, Int.reduceMul, Int.reduceNeg, Int.reduceToNat, Int.reduceNe, reduceCtorEq]
    exact q _ _ (by first | rfl | (simp [nodeFault]; done) | grind [nodeFault]) (by first | exact Ext.refl | exact ⟨_, rfl⟩)
  simp (disch := (first | decide | omega | (simp only [go_sem]; done) | (simp only [go_sem]; omega))) only [go_sem, ↓reduceIte, Nat.reduceEqDiff, Nat.reduceAdd, Nat.reduceSub, Nat.reduceMul, Nat.reduceLT, Nat.reduceLeDiff, Int.reduceEq, Int.reduceLT, Int.reduceLE, Int.reduceAdd, Int.reduceSub, Int.reduceMul, Int.reduceNeg, Int.reduceToNat, Int.reduceNe, reduceCtorEq]
  refine brK_of (fun h3 => ?_) (fun h3 => ?_)
  · simp (disch := (first | decide | omega | (simp only [go_sem]; done) | (simp only [go_sem]; omega))) only [go_sem, ↓reduceIte, Nat.reduceEqDiff, Nat.reduceAdd, Nat.reduceSub, Nat.reduceMul, Nat.reduceLT, Nat.reduceLeDiff, Int.reduceEq, Int.reduceLT, Int.reduceLE, Int.reduceAdd, Int.reduceSub, Int.reduceMul, Int.reduceNeg, Int.reduceToNat, Int.reduceNe, reduceCtorEq]
    refine f16 hf1 ?_
    rintro _ _ rfl ⟨J2, rfl⟩
    simp (disch := (first | decide | omega | (simp only [go_sem]; done) | (simp only [go_sem]; omega))) only [go_sem, ↓reduceIte, Nat.reduceEqDiff, Nat.reduceAdd, Nat.reduceSub, Nat.reduceMul, Nat.reduceLT, Nat.reduceLeDiff, Int.reduceEq, Int.reduceLT, Int.reduceLE, Int.reduceAdd, Int.reduceSub, Int.reduceMul, Int.reduceNeg, Int.reduceToNat, Int.reduceNe, reduceCtorEq]
    exact q _ _ (by first | rfl | (simp [nodeFault]; done) | grind [nodeFault]) (by first | exact Ext.refl | exact ⟨_, rfl⟩)
  simp (disch := (first | decide | omega | (simp only [go_sem]; done) | (simp only [go_sem]; omega))) only [go_sem, ↓reduceIte, Nat.reduceEqDiff, Nat.reduceAdd, Nat.reduceSub, Nat.reduceMul, Nat.reduceLT, Nat.reduceLeDiff, Int.reduceEq, Int.reduceLT, Int.reduceLE, Int.reduceAdd, Int.reduceSub, Int.reduceMul, Int.reduceNeg, Int.reduceToNat, Int.reduceNe, reduceCtorEq]
  refine brK_of (fun h4 => ?_) (fun h4 => ?_)
  · simp (disch := (first | decide | omega | (simp only [go_sem]; done) | (simp only [go_sem]; omega))) only [go_sem, ↓reduceIte, Nat.reduceEqDiff, Nat.reduceAdd, Nat.reduceSub, Nat.reduceMul, Nat.reduceLT, Nat.reduceLeDiff, Int.reduceEq, Int.reduceLT, Int.reduceLE, Int.reduceAdd, Int.reduceSub, Int.reduceMul, Int.reduceNeg, Int.reduceToNat, Int.reduceNe, reduceCtorEq]
    refine f18 ?_
    rintro _ _ rfl ⟨J2, rfl⟩
    simp (disch := (first | decide | omega | (simp only [go_sem]; done) | (simp only [go_sem]; omega))) only [go_sem, ↓reduceIte, Nat.reduceEqDiff, Nat.reduceAdd, Nat.reduceSub, Nat.reduceMul, Nat.reduceLT, Nat.reduceLeDiff, Int.reduceEq, Int.reduceLT, Int.reduceLE, Int.reduceAdd, Int.reduceSub, Int.reduceMul, Int.reduceNeg, Int.reduceToNat, Int.reduceNe, reduceCtorEq]
    exact q _ _ (by first | rfl | (simp [nodeFault]; done) | grind [nodeFault]) (by first | exact Ext.refl | exact ⟨_, rfl⟩)
  simp (disch := (first | decide | omega | (simp only [go_sem]; done) | (simp only [go_sem]; omega))) only [go_sem, ↓reduceIte, Nat.reduceEqDiff, Nat.reduceAdd, Nat.reduceSub, Nat.reduceMul, Nat.reduceLT, Nat.reduceLeDiff, Int.reduceEq, Int.reduceLT, Int.reduceLE, Int.reduceAdd, Int.reduceSub, Int.reduceMul, Int.reduceNeg, Int.reduceToNat, Int.reduceNe, reduceCtorEq]
  have hn : nodeFault (.mk kind b num text list keys) = keysFrom none keys := by grind [nodeFault]
  rw [hn] at q
  refine w160_26 (ι := Nat) 0 (fun k e h => (∃ J, h = H ++ (.cells [.int .i64 kind, .bool b, .bool num.neg, strOf num.dig, .int .i64 num.exp, strOf text, .slice la list.length lc, .slice ka keys.length kc] (.fix (some 27)) 0 :: J)) ∧ e.length = 58 ∧ k ≤ keys.length ∧ keysFrom none keys = keysFrom (prevKey keys k) (keys.drop k) ∧ gt e 1 = .pointer (some ⟨H.length, 0, none⟩) ∧ gt e 33 = .slice ka keys.length kc ∧ gt e 34 = .int .i64 keys.length ∧ gt e 35 = .int .i64 k) (fun k => keys.length - k) ?_ ?_
  · refine ⟨⟨_, rfl⟩, ?_⟩
    simp (disch := (first | decide | omega | (simp only [go_sem]; done) | (simp only [go_sem]; omega))) only [go_sem, ↓reduceIte, Nat.reduceEqDiff, Nat.reduceAdd, Nat.reduceSub, Nat.reduceMul, Nat.reduceLT, Nat.reduceLeDiff, Int.reduceEq, Int.reduceLT, Int.reduceLE, Int.reduceAdd, Int.reduceSub, Int.reduceMul, Int.reduceNeg, Int.reduceToNat, Int.reduceNe, reduceCtorEq]
    simp [prevKey]
  · rintro k e h ⟨⟨J2, rfl⟩, he, hk1, hkf, e1, e33, e34, e35⟩ ih
    simp (disch := (first | decide | omega | (simp only [go_sem, e1, e33, e34, e35]; done) | (simp only [go_sem, e1, e33, e34, e35]; omega))) only [go_sem, ↓reduceIte, Nat.reduceEqDiff, Nat.reduceAdd, Nat.reduceSub, Nat.reduceMul, Nat.reduceLT, Nat.reduceLeDiff, Int.reduceEq, Int.reduceLT, Int.reduceLE, Int.reduceAdd, Int.reduceSub, Int.reduceMul, Int.reduceNeg, Int.reduceToNat, Int.reduceNe, reduceCtorEq, e1, e33, e34, e35]
    refine brK_prop (fun hh => ?_) (fun hh => ?_)
    · have hlt : k < keys.length := by omega
      have hst := keysFrom_step hlt
      obtain ⟨i, o, s, rfl⟩ : ∃ i o s, ka = some ⟨i, o, s⟩ := by
        have := hk k hlt
        cases ka with
        | none => cases this
        | some a => exact ⟨a.block, a.off, a.spot, rfl⟩
      have hgk : get1 H i (o + k) = some (strOf keys[k]) := by
        have := hk k hlt
        simp only [elAt, Nat.mul_one] at this
        have := get1_getN (k := 0) this (by omega)
        simpa using this
      have hil := get1_lt hgk
      simp (disch := (first | decide | omega | (simp only [go_sem, e1, e33, e34, e35, hgk]; done) | (simp only [go_sem, e1, e33, e34, e35, hgk]; omega))) only [go_sem, ↓reduceIte, Nat.reduceEqDiff, Nat.reduceAdd, Nat.reduceSub, Nat.reduceMul, Nat.reduceLT, Nat.reduceLeDiff, Int.reduceEq, Int.reduceLT, Int.reduceLE, Int.reduceAdd, Int.reduceSub, Int.reduceMul, Int.reduceNeg, Int.reduceToNat, Int.reduceNe, reduceCtorEq, e1, e33, e34, e35, hgk]
      refine f18 ?_
      rintro _ _ rfl ⟨J3, rfl⟩
      simp (disch := (first | decide | omega | (simp only [go_sem, e1, e33, e34, e35, hgk]; done) | (simp only [go_sem, e1, e33, e34, e35, hgk]; omega))) only [go_sem, ↓reduceIte, Nat.reduceEqDiff, Nat.reduceAdd, Nat.reduceSub, Nat.reduceMul, Nat.reduceLT, Nat.reduceLeDiff, Int.reduceEq, Int.reduceLT, Int.reduceLE, Int.reduceAdd, Int.reduceSub, Int.reduceMul, Int.reduceNeg, Int.reduceToNat, Int.reduceNe, reduceCtorEq, e1, e33, e34, e35, hgk]
      refine brK_of (fun h5 => ?_) (fun h5 => ?_)
      · simp (disch := (first | decide | omega | (simp only [go_sem]; done) | (simp only [go_sem]; omega))) only [go_sem, ↓reduceIte, Nat.reduceEqDiff, Nat.reduceAdd, Nat.reduceSub, Nat.reduceMul, Nat.reduceLT, Nat.reduceLeDiff, Int.reduceEq, Int.reduceLT, Int.reduceLE, Int.reduceAdd, Int.reduceSub, Int.reduceMul, Int.reduceNeg, Int.reduceToNat, Int.reduceNe, reduceCtorEq]
        exact q _ _ (by first | rfl | (simp [prevKey]; done) | grind [prevKey]) (by first | exact Ext.refl | exact ⟨_, rfl⟩)
      simp (disch := (first | decide | omega | (simp only [go_sem, e1, e33, e34, e35, hgk]; done) | (simp only [go_sem, e1, e33, e34, e35, hgk]; omega))) only [go_sem, ↓reduceIte, Nat.reduceEqDiff, Nat.reduceAdd, Nat.reduceSub, Nat.reduceMul, Nat.reduceLT, Nat.reduceLeDiff, Int.reduceEq, Int.reduceLT, Int.reduceLE, Int.reduceAdd, Int.reduceSub, Int.reduceMul, Int.reduceNeg, Int.reduceToNat, Int.reduceNe, reduceCtorEq, e1, e33, e34, e35, hgk]
      have hpk : ∀ hk0 : k ≠ 0, get1 H i (o + (k - 1)) = some (strOf (keys[k-1]'(by omega))) := by
        intro hk0
        have := hk (k - 1) (by omega)
        simp only [elAt, Nat.mul_one] at this
        have := get1_getN (k := 0) this (by omega)
        simpa using this
      have hkm : ((k : Int) - 1).toNat = k - 1 := by omega
      by_cases hk0 : k = 0
      · have hk0' : ¬ (0 : Int) < k := by omega
        simp (disch := (first | decide | omega | (simp only [go_sem, e1, e33, e34, e35, hk0']; done) | (simp only [go_sem, e1, e33, e34, e35, hk0']; omega))) only [go_sem, ↓reduceIte, Nat.reduceEqDiff, Nat.reduceAdd, Nat.reduceSub, Nat.reduceMul, Nat.reduceLT, Nat.reduceLeDiff, Int.reduceEq, Int.reduceLT, Int.reduceLE, Int.reduceAdd, Int.reduceSub, Int.reduceMul, Int.reduceNeg, Int.reduceToNat, Int.reduceNe, reduceCtorEq, e1, e33, e34, e35, hk0']
        have hpv : prevKey keys k = none := by simp [prevKey, hk0]
        refine ih (k + 1) _ _ (by omega) ⟨⟨_, rfl⟩, ?_⟩
        simp (disch := (first | decide | omega | (simp only [go_sem, e1, e33, e34, e35, he]; done) | (simp only [go_sem, e1, e33, e34, e35, he]; omega))) only [go_sem, ↓reduceIte, Nat.reduceEqDiff, Nat.reduceAdd, Nat.reduceSub, Nat.reduceMul, Nat.reduceLT, Nat.reduceLeDiff, Int.reduceEq, Int.reduceLT, Int.reduceLE, Int.reduceAdd, Int.reduceSub, Int.reduceMul, Int.reduceNeg, Int.reduceToNat, Int.reduceNe, reduceCtorEq, e1, e33, e34, e35, he]
        refine ⟨by omega, ?_, rfl⟩
        rw [hkf, hst, hpv]
        grind [leP]
      · have hk0' : (0 : Int) < k := by omega
        have hpk := hpk hk0
        have hpv : prevKey keys k = some (keys[k-1]'(by omega)) := by simp [prevKey, hk0]
        simp (disch := (first | decide | omega | (simp only [go_sem, e1, e33, e34, e35, hk0', hpk, hkm]; done) | (simp only [go_sem, e1, e33, e34, e35, hk0', hpk, hkm]; omega))) only [go_sem, ↓reduceIte, Nat.reduceEqDiff, Nat.reduceAdd, Nat.reduceSub, Nat.reduceMul, Nat.reduceLT, Nat.reduceLeDiff, Int.reduceEq, Int.reduceLT, Int.reduceLE, Int.reduceAdd, Int.reduceSub, Int.reduceMul, Int.reduceNeg, Int.reduceToNat, Int.reduceNe, reduceCtorEq, e1, e33, e34, e35, hk0', hpk, hkm]
        refine brK_of (fun h6 => ?_) (fun h6 => ?_)
        · simp (disch := (first | decide | omega | (simp only [go_sem]; done) | (simp only [go_sem]; omega))) only [go_sem, ↓reduceIte, Nat.reduceEqDiff, Nat.reduceAdd, Nat.reduceSub, Nat.reduceMul, Nat.reduceLT, Nat.reduceLeDiff, Int.reduceEq, Int.reduceLT, Int.reduceLE, Int.reduceAdd, Int.reduceSub, Int.reduceMul, Int.reduceNeg, Int.reduceToNat, Int.reduceNe, reduceCtorEq]
          exact q _ _ (by first | rfl | (simp [leP]; done) | grind [leP]) (by first | exact Ext.refl | exact ⟨_, rfl⟩)
        simp (disch := (first | decide | omega | (simp only [go_sem, e1, e33, e34, e35, hk0', hpk, hkm]; done) | (simp only [go_sem, e1, e33, e34, e35, hk0', hpk, hkm]; omega))) only [go_sem, ↓reduceIte, Nat.reduceEqDiff, Nat.reduceAdd, Nat.reduceSub, Nat.reduceMul, Nat.reduceLT, Nat.reduceLeDiff, Int.reduceEq, Int.reduceLT, Int.reduceLE, Int.reduceAdd, Int.reduceSub, Int.reduceMul, Int.reduceNeg, Int.reduceToNat, Int.reduceNe, reduceCtorEq, e1, e33, e34, e35, hk0', hpk, hkm]
        refine ih (k + 1) _ _ (by omega) ⟨⟨_, rfl⟩, ?_⟩
        simp (disch := (first | decide | omega | (simp only [go_sem, e1, e33, e34, e35, he]; done) | (simp only [go_sem, e1, e33, e34, e35, he]; omega))) only [go_sem, ↓reduceIte, Nat.reduceEqDiff, Nat.reduceAdd, Nat.reduceSub, Nat.reduceMul, Nat.reduceLT, Nat.reduceLeDiff, Int.reduceEq, Int.reduceLT, Int.reduceLE, Int.reduceAdd, Int.reduceSub, Int.reduceMul, Int.reduceNeg, Int.reduceToNat, Int.reduceNe, reduceCtorEq, e1, e33, e34, e35, he]
        refine ⟨by omega, ?_, rfl⟩
        rw [hkf, hst, hpv]
        grind [leP]
    · have hke : k = keys.length := by omega
      subst hke
      simp (disch := (first | decide | omega | (simp only [go_sem, e1, e33, e34, e35]; done) | (simp only [go_sem, e1, e33, e34, e35]; omega))) only [go_sem, ↓reduceIte, Nat.reduceEqDiff, Nat.reduceAdd, Nat.reduceSub, Nat.reduceMul, Nat.reduceLT, Nat.reduceLeDiff, Int.reduceEq, Int.reduceLT, Int.reduceLE, Int.reduceAdd, Int.reduceSub, Int.reduceMul, Int.reduceNeg, Int.reduceToNat, Int.reduceNe, reduceCtorEq, e1, e33, e34, e35]
      rw [List.drop_length] at hkf
      exact q _ _ (by first | rfl | (simp [keysFrom]; done) | grind [keysFrom]) (by first | exact Ext.refl | exact ⟨_, rfl⟩)
end Ve
end Go.Proofs.YtnociodpfmlglaaGreatDoor
