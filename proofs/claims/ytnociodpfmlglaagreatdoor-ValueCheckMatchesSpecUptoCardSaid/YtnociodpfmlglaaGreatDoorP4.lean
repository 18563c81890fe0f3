/-
  Texts without what stands at their ends.
-/
import Derived.Test.YtnociodpfmlglaaGreatDoorP3
set_option linter.unusedVariables false
set_option linter.unusedSimpArgs false
namespace Go.Proofs.YtnociodpfmlglaaGreatDoor
namespace Ve
open Go

def trimL (p : UInt8 → Bool) (l : Str) : Str := l.dropWhile p
def trimR (p : UInt8 → Bool) (l : Str) : Str := (l.reverse.dropWhile p).reverse

theorem f233 {ai ao : Nat} {n : Int} {b : Bool} {H : Heap} (h0 : 0 ≤ n) (h1 : n < 256) (hg : get1 H ai (ao + n.toNat) = some (.bool b)) {Q : Out → Prop} (q : ∀ v H', v = .bool b → Ext H H' → Q (.ret v H')) : Cl tab 233 [.pointer (some ⟨ai, ao, none⟩), .int .u8 n] H Q := by
  apply e233
  simp (disch := (first | decide | omega | (simp only [go_sem, hg]; done) | (simp only [go_sem, hg]; omega))) only [go_sem, ↓reduceIte, Nat.reduceEqDiff, Nat.reduceAdd, Nat.reduceSub, Nat.reduceMul, Nat.reduceLT, Nat.reduceLeDiff, Int.reduceEq, Int.reduceLT, Int.reduceLE, Int.reduceAdd, Int.reduceSub, Int.reduceMul, Int.reduceNeg, Int.reduceToNat, Int.reduceNe, reduceCtorEq, hg]
  exact q _ _ (by first | rfl | (simp []; done) | grind []) (by first | exact Ext.refl | exact ⟨_, rfl⟩)

theorem f156 {ai ao : Nat} {P : Nat → Bool} {s : Str} {H : Heap} (hm : ∀ j < 256, get1 H ai (ao + j) = some (.bool (P j))) {Q : Out → Prop} (q : ∀ v H', v = strOf (trimL (fun c => P c.toNat) s) → Ext H H' → Q (.ret v H')) :
    Cl tab 156 [strOf s, .pointer (some ⟨ai, ao, none⟩)] H Q := by
  apply e156
  simp (disch := (first | decide | omega | (simp only [go_sem]; done) | (simp only [go_sem]; omega))) only [go_sem, ↓reduceIte, Nat.reduceEqDiff, Nat.reduceAdd, Nat.reduceSub, Nat.reduceMul, Nat.reduceLT, Nat.reduceLeDiff, Int.reduceEq, Int.reduceLT, Int.reduceLE, Int.reduceAdd, Int.reduceSub, Int.reduceMul, Int.reduceNeg, Int.reduceToNat, Int.reduceNe, reduceCtorEq]
  refine w156_3 (ι := Str) s (fun s' e h => Ext H h ∧ e.length = 16 ∧ gt e 0 = strOf s' ∧ gt e 1 = .pointer (some ⟨ai, ao, none⟩) ∧ trimL (fun c => P c.toNat) s' = trimL (fun c => P c.toNat) s) (fun s' => s'.length) ?_ ?_
  · refine ⟨Ext.refl, ?_⟩
    simp (disch := (first | decide | omega | (simp only [go_sem]; done) | (simp only [go_sem]; omega))) only [go_sem, ↓reduceIte, Nat.reduceEqDiff, Nat.reduceAdd, Nat.reduceSub, Nat.reduceMul, Nat.reduceLT, Nat.reduceLeDiff, Int.reduceEq, Int.reduceLT, Int.reduceLE, Int.reduceAdd, Int.reduceSub, Int.reduceMul, Int.reduceNeg, Int.reduceToNat, Int.reduceNe, reduceCtorEq]
  · rintro s' e h ⟨⟨J, rfl⟩, he, e0, e1, ht⟩ ih
    cases s' with
    | nil =>
      simp (disch := (first | decide | omega | (simp only [go_sem, e0, e1]; done) | (simp only [go_sem, e0, e1]; omega))) only [go_sem, ↓reduceIte, Nat.reduceEqDiff, Nat.reduceAdd, Nat.reduceSub, Nat.reduceMul, Nat.reduceLT, Nat.reduceLeDiff, Int.reduceEq, Int.reduceLT, Int.reduceLE, Int.reduceAdd, Int.reduceSub, Int.reduceMul, Int.reduceNeg, Int.reduceToNat, Int.reduceNe, reduceCtorEq, e0, e1]
      refine q _ _ ?_ (by first | exact Ext.refl | exact ⟨_, rfl⟩)
      rw [← ht]; rfl
    | cons c r =>
      have hc := c.toNat_lt
      have hgc : get1 (H ++ J) ai (ao + ((c.toNat : Int)).toNat) = some (.bool (P c.toNat)) := by
        rw [Int.toNat_natCast, get1_app_lt (get1_lt (hm c.toNat hc))]; exact hm c.toNat hc
      simp (disch := (first | decide | omega | (simp only [go_sem, e0, e1]; done) | (simp only [go_sem, e0, e1]; omega))) only [go_sem, ↓reduceIte, Nat.reduceEqDiff, Nat.reduceAdd, Nat.reduceSub, Nat.reduceMul, Nat.reduceLT, Nat.reduceLeDiff, Int.reduceEq, Int.reduceLT, Int.reduceLE, Int.reduceAdd, Int.reduceSub, Int.reduceMul, Int.reduceNeg, Int.reduceToNat, Int.reduceNe, reduceCtorEq, e0, e1]
      refine brK_prop (fun hh => ?_) (fun hh => by omega)
      simp (disch := (first | decide | omega | (simp only [go_sem, e0, e1]; done) | (simp only [go_sem, e0, e1]; omega))) only [go_sem, ↓reduceIte, Nat.reduceEqDiff, Nat.reduceAdd, Nat.reduceSub, Nat.reduceMul, Nat.reduceLT, Nat.reduceLeDiff, Int.reduceEq, Int.reduceLT, Int.reduceLE, Int.reduceAdd, Int.reduceSub, Int.reduceMul, Int.reduceNeg, Int.reduceToNat, Int.reduceNe, reduceCtorEq, e0, e1]
      refine f233 (by omega) (by omega) hgc ?_
      rintro _ _ rfl ⟨J2, rfl⟩
      simp (disch := (first | decide | omega | (simp only [go_sem, e0, e1]; done) | (simp only [go_sem, e0, e1]; omega))) only [go_sem, ↓reduceIte, Nat.reduceEqDiff, Nat.reduceAdd, Nat.reduceSub, Nat.reduceMul, Nat.reduceLT, Nat.reduceLeDiff, Int.reduceEq, Int.reduceLT, Int.reduceLE, Int.reduceAdd, Int.reduceSub, Int.reduceMul, Int.reduceNeg, Int.reduceToNat, Int.reduceNe, reduceCtorEq, e0, e1]
      cases hp : P c.toNat
      · simp (disch := (first | decide | omega | (simp only [go_sem, e0, e1]; done) | (simp only [go_sem, e0, e1]; omega))) only [go_sem, ↓reduceIte, Nat.reduceEqDiff, Nat.reduceAdd, Nat.reduceSub, Nat.reduceMul, Nat.reduceLT, Nat.reduceLeDiff, Int.reduceEq, Int.reduceLT, Int.reduceLE, Int.reduceAdd, Int.reduceSub, Int.reduceMul, Int.reduceNeg, Int.reduceToNat, Int.reduceNe, reduceCtorEq, e0, e1]
        refine q _ _ ?_ (by first | exact Ext.refl | exact ⟨_, rfl⟩)
        rw [← ht]
        simp [trimL, List.dropWhile_cons, hp]
      · simp (disch := (first | decide | omega | (simp only [go_sem, e0, e1]; done) | (simp only [go_sem, e0, e1]; omega))) only [go_sem, ↓reduceIte, Nat.reduceEqDiff, Nat.reduceAdd, Nat.reduceSub, Nat.reduceMul, Nat.reduceLT, Nat.reduceLeDiff, Int.reduceEq, Int.reduceLT, Int.reduceLE, Int.reduceAdd, Int.reduceSub, Int.reduceMul, Int.reduceNeg, Int.reduceToNat, Int.reduceNe, reduceCtorEq, e0, e1]
        refine ih r _ _ (by simp) ⟨(by first | exact Ext.refl | exact ⟨_, rfl⟩), ?_⟩
        simp (disch := (first | decide | omega | (simp only [go_sem, e0, e1, he]; done) | (simp only [go_sem, e0, e1, he]; omega))) only [go_sem, ↓reduceIte, Nat.reduceEqDiff, Nat.reduceAdd, Nat.reduceSub, Nat.reduceMul, Nat.reduceLT, Nat.reduceLeDiff, Int.reduceEq, Int.reduceLT, Int.reduceLE, Int.reduceAdd, Int.reduceSub, Int.reduceMul, Int.reduceNeg, Int.reduceToNat, Int.reduceNe, reduceCtorEq, e0, e1, he]
        rw [← ht]
        simp [trimL, List.dropWhile_cons, hp]

theorem at8_last {r : Str} {c : UInt8} : at8 (r ++ [c]) (r.length : Int) = (c.toNat : Int) := by
  simp [at8, List.getD_eq_getElem?_getD]
theorem f157 {ai ao : Nat} {P : Nat → Bool} {s : Str} {H : Heap} (hm : ∀ j < 256, get1 H ai (ao + j) = some (.bool (P j))) (hs : s.length ≤ 1000000000000) {Q : Out → Prop} (q : ∀ v H', v = strOf (trimR (fun c => P c.toNat) s) → Ext H H' → Q (.ret v H')) :
    Cl tab 157 [strOf s, .pointer (some ⟨ai, ao, none⟩)] H Q := by
  apply e157
  simp (disch := (first | decide | omega | (simp only [go_sem]; done) | (simp only [go_sem]; omega))) only [go_sem, ↓reduceIte, Nat.reduceEqDiff, Nat.reduceAdd, Nat.reduceSub, Nat.reduceMul, Nat.reduceLT, Nat.reduceLeDiff, Int.reduceEq, Int.reduceLT, Int.reduceLE, Int.reduceAdd, Int.reduceSub, Int.reduceMul, Int.reduceNeg, Int.reduceToNat, Int.reduceNe, reduceCtorEq]
  refine w157_3 (ι := Str) s (fun s' e h => Ext H h ∧ e.length = 22 ∧ s'.length ≤ s.length ∧ gt e 0 = strOf s' ∧ gt e 1 = .pointer (some ⟨ai, ao, none⟩) ∧ trimR (fun c => P c.toNat) s' = trimR (fun c => P c.toNat) s) (fun s' => s'.length) ?_ ?_
  · refine ⟨Ext.refl, ?_⟩
    simp (disch := (first | decide | omega | (simp only [go_sem]; done) | (simp only [go_sem]; omega))) only [go_sem, ↓reduceIte, Nat.reduceEqDiff, Nat.reduceAdd, Nat.reduceSub, Nat.reduceMul, Nat.reduceLT, Nat.reduceLeDiff, Int.reduceEq, Int.reduceLT, Int.reduceLE, Int.reduceAdd, Int.reduceSub, Int.reduceMul, Int.reduceNeg, Int.reduceToNat, Int.reduceNe, reduceCtorEq]
    simp
  · rintro s' e h ⟨⟨J, rfl⟩, he, hl, e0, e1, ht⟩ ih
    rcases List.eq_nil_or_concat s' with rfl | ⟨r, c, rfl⟩
    · simp (disch := (first | decide | omega | (simp only [go_sem, e0, e1]; done) | (simp only [go_sem, e0, e1]; omega))) only [go_sem, ↓reduceIte, Nat.reduceEqDiff, Nat.reduceAdd, Nat.reduceSub, Nat.reduceMul, Nat.reduceLT, Nat.reduceLeDiff, Int.reduceEq, Int.reduceLT, Int.reduceLE, Int.reduceAdd, Int.reduceSub, Int.reduceMul, Int.reduceNeg, Int.reduceToNat, Int.reduceNe, reduceCtorEq, e0, e1]
      refine q _ _ ?_ (by first | exact Ext.refl | exact ⟨_, rfl⟩)
      rw [← ht]; rfl
    · have hc := c.toNat_lt
      simp only [List.concat_eq_append, List.length_append, List.length_cons, List.length_nil] at *
      have hgc : get1 (H ++ J) ai (ao + ((c.toNat : Int)).toNat) = some (.bool (P c.toNat)) := by
        rw [Int.toNat_natCast, get1_app_lt (get1_lt (hm c.toNat hc))]; exact hm c.toNat hc
      simp (disch := (first | decide | omega | (simp only [go_sem, e0, e1]; done) | (simp only [go_sem, e0, e1]; omega))) only [go_sem, ↓reduceIte, Nat.reduceEqDiff, Nat.reduceAdd, Nat.reduceSub, Nat.reduceMul, Nat.reduceLT, Nat.reduceLeDiff, Int.reduceEq, Int.reduceLT, Int.reduceLE, Int.reduceAdd, Int.reduceSub, Int.reduceMul, Int.reduceNeg, Int.reduceToNat, Int.reduceNe, reduceCtorEq, e0, e1]
      refine brK_prop (fun hh => ?_) (fun hh => by omega)
      have hsub : ((r.length + 1 : Nat) : Int) - 1 = (r.length : Int) := by omega
      simp (disch := (first | decide | omega | (simp only [go_sem, e0, e1, hsub, at8_last]; done) | (simp only [go_sem, e0, e1, hsub, at8_last]; omega))) only [go_sem, ↓reduceIte, Nat.reduceEqDiff, Nat.reduceAdd, Nat.reduceSub, Nat.reduceMul, Nat.reduceLT, Nat.reduceLeDiff, Int.reduceEq, Int.reduceLT, Int.reduceLE, Int.reduceAdd, Int.reduceSub, Int.reduceMul, Int.reduceNeg, Int.reduceToNat, Int.reduceNe, reduceCtorEq, e0, e1, hsub, at8_last]
      refine f233 (by omega) (by omega) hgc ?_
      rintro _ _ rfl ⟨J2, rfl⟩
      simp (disch := (first | decide | omega | (simp only [go_sem, e0, e1]; done) | (simp only [go_sem, e0, e1]; omega))) only [go_sem, ↓reduceIte, Nat.reduceEqDiff, Nat.reduceAdd, Nat.reduceSub, Nat.reduceMul, Nat.reduceLT, Nat.reduceLeDiff, Int.reduceEq, Int.reduceLT, Int.reduceLE, Int.reduceAdd, Int.reduceSub, Int.reduceMul, Int.reduceNeg, Int.reduceToNat, Int.reduceNe, reduceCtorEq, e0, e1]
      cases hp : P c.toNat
      · simp (disch := (first | decide | omega | (simp only [go_sem, e0, e1]; done) | (simp only [go_sem, e0, e1]; omega))) only [go_sem, ↓reduceIte, Nat.reduceEqDiff, Nat.reduceAdd, Nat.reduceSub, Nat.reduceMul, Nat.reduceLT, Nat.reduceLeDiff, Int.reduceEq, Int.reduceLT, Int.reduceLE, Int.reduceAdd, Int.reduceSub, Int.reduceMul, Int.reduceNeg, Int.reduceToNat, Int.reduceNe, reduceCtorEq, e0, e1]
        refine q _ _ ?_ (by first | exact Ext.refl | exact ⟨_, rfl⟩)
        rw [← ht]
        simp [trimR, List.dropWhile_cons, hp]
      · simp (disch := (first | decide | omega | (simp only [go_sem, e0, e1, hsub, List.take_left]; done) | (simp only [go_sem, e0, e1, hsub, List.take_left]; omega))) only [go_sem, ↓reduceIte, Nat.reduceEqDiff, Nat.reduceAdd, Nat.reduceSub, Nat.reduceMul, Nat.reduceLT, Nat.reduceLeDiff, Int.reduceEq, Int.reduceLT, Int.reduceLE, Int.reduceAdd, Int.reduceSub, Int.reduceMul, Int.reduceNeg, Int.reduceToNat, Int.reduceNe, reduceCtorEq, e0, e1, hsub, List.take_left]
        refine ih r _ _ (by simp) ⟨(by first | exact Ext.refl | exact ⟨_, rfl⟩), ?_⟩
        simp (disch := (first | decide | omega | (simp only [go_sem, e0, e1, he]; done) | (simp only [go_sem, e0, e1, he]; omega))) only [go_sem, ↓reduceIte, Nat.reduceEqDiff, Nat.reduceAdd, Nat.reduceSub, Nat.reduceMul, Nat.reduceLT, Nat.reduceLeDiff, Int.reduceEq, Int.reduceLT, Int.reduceLE, Int.reduceAdd, Int.reduceSub, Int.reduceMul, Int.reduceNeg, Int.reduceToNat, Int.reduceNe, reduceCtorEq, e0, e1, he]
        refine ⟨by omega, ?_⟩
        rw [← ht]
        simp [trimR, List.dropWhile_cons, hp]

def inCut (cut : Str) (j : Nat) : Bool := cut.any fun c => c.toNat == j
def setC (f : Nat → Bool) : List Value := (List.range 256).map fun j => .bool (f j)
theorem setC_length (f : Nat → Bool) : (setC f).length = 256 := by simp [setC]
theorem setC_one (f : Nat → Bool) : (setC f).all one = true := by simp [setC, one]
theorem setC_take (f : Nat → Bool) : (setC f).take 256 = setC f := List.take_of_length_le (by simp [setC])
theorem setC_drop (f : Nat → Bool) : (setC f).drop 256 = [] := List.drop_of_length_le (by simp [setC])
theorem setC_get (f : Nat → Bool) {j : Nat} (h : j < 256) : (setC f)[j]? = some (.bool (f j)) := by simp [setC, h]
theorem setC_set (f : Nat → Bool) (n : Nat) : (setC f).set n (.bool true) = setC fun j => f j || n == j := by
  apply List.ext_getElem (by simp [setC])
  intro j h1 h2
  simp only [setC, List.getElem_set, List.getElem_map, List.getElem_range]
  split
  · rename_i h; simp [h]
  · rename_i h; simp [h]
theorem setC_none : setC (fun _ => false) = List.replicate 256 (.bool false) := by
  simp [setC, List.map_const']

set_option maxRecDepth 100000 in
theorem f155 {cut : Str} {H : Heap} (hc : ∀ c ∈ cut, c.toNat < 128) (hs : cut.length ≤ 1000000) {Q : Out → Prop} (q : ∀ v H', v = .tuple ⟨[.agg ⟨setC (inCut cut)⟩, .bool true]⟩ → Ext H H' → Q (.ret v H')) : Cl tab 155 [strOf cut] H Q := by
  apply e155
  simp (disch := (first | decide | omega | (simp only [go_sem]; done) | (simp only [go_sem]; omega))) only [go_sem, ↓reduceIte, Nat.reduceEqDiff, Nat.reduceAdd, Nat.reduceSub, Nat.reduceMul, Nat.reduceLT, Nat.reduceLeDiff, Int.reduceEq, Int.reduceLT, Int.reduceLE, Int.reduceAdd, Int.reduceSub, Int.reduceMul, Int.reduceNeg, Int.reduceToNat, Int.reduceNe, reduceCtorEq]
  refine w155_5 (ι := Nat) 0 (fun k e h => h = H ++ [.cells (setC (inCut (cut.take k))) (.fix (some 179)) 0] ∧ e.length = 21 ∧ k ≤ cut.length ∧ gt e 0 = strOf cut ∧ gt e 2 = .pointer (some ⟨H.length, 0, none⟩) ∧ gt e 4 = .int .i64 k) (fun k => cut.length - k) ?_ ?_
  · refine ⟨?_, ?_⟩
    · rw [show setC (inCut (cut.take 0)) = List.replicate 256 (.bool false) from setC_none]; rfl
    · simp (disch := (first | decide | omega | (simp only [go_sem]; done) | (simp only [go_sem]; omega))) only [go_sem, ↓reduceIte, Nat.reduceEqDiff, Nat.reduceAdd, Nat.reduceSub, Nat.reduceMul, Nat.reduceLT, Nat.reduceLeDiff, Int.reduceEq, Int.reduceLT, Int.reduceLE, Int.reduceAdd, Int.reduceSub, Int.reduceMul, Int.reduceNeg, Int.reduceToNat, Int.reduceNe, reduceCtorEq]
      simp
  · rintro k e h ⟨rfl, he, hk, e0, e2, e4⟩ ih
    simp (disch := (first | decide | omega | (simp only [go_sem, e0, e2, e4]; done) | (simp only [go_sem, e0, e2, e4]; omega))) only [go_sem, ↓reduceIte, Nat.reduceEqDiff, Nat.reduceAdd, Nat.reduceSub, Nat.reduceMul, Nat.reduceLT, Nat.reduceLeDiff, Int.reduceEq, Int.reduceLT, Int.reduceLE, Int.reduceAdd, Int.reduceSub, Int.reduceMul, Int.reduceNeg, Int.reduceToNat, Int.reduceNe, reduceCtorEq, e0, e2, e4]
    refine brK_prop (fun hh => ?_) (fun hh => ?_)
    · have hlt : k < cut.length := by omega
      have hk8 := hc cut[k] (List.getElem_mem hlt)
      have h8 := at8_get hlt
      simp (disch := (first | decide | omega | (simp only [go_sem, e0, e2, e4, h8]; done) | (simp only [go_sem, e0, e2, e4, h8]; omega))) only [go_sem, ↓reduceIte, Nat.reduceEqDiff, Nat.reduceAdd, Nat.reduceSub, Nat.reduceMul, Nat.reduceLT, Nat.reduceLeDiff, Int.reduceEq, Int.reduceLT, Int.reduceLE, Int.reduceAdd, Int.reduceSub, Int.reduceMul, Int.reduceNeg, Int.reduceToNat, Int.reduceNe, reduceCtorEq, e0, e2, e4, h8]
      refine brK_prop (fun hh => by omega) (fun hh => ?_)
      simp (disch := (first | decide | omega | (simp only [go_sem, e0, e2, e4, h8, setC_length]; done) | (simp only [go_sem, e0, e2, e4, h8, setC_length]; omega))) only [go_sem, ↓reduceIte, Nat.reduceEqDiff, Nat.reduceAdd, Nat.reduceSub, Nat.reduceMul, Nat.reduceLT, Nat.reduceLeDiff, Int.reduceEq, Int.reduceLT, Int.reduceLE, Int.reduceAdd, Int.reduceSub, Int.reduceMul, Int.reduceNeg, Int.reduceToNat, Int.reduceNe, reduceCtorEq, e0, e2, e4, h8, setC_length]
      refine ih (k + 1) _ _ (by omega) ⟨?_, ?_⟩
      · rw [setC_set]
        rw [show (fun j => inCut (cut.take k) j || cut[k].toNat == j) = inCut (cut.take (k + 1)) from ?_]
        funext j
        simp only [inCut, take_snoc hlt, List.any_append, List.any_cons, List.any_nil, Bool.or_false]
      · simp (disch := (first | decide | omega | (simp only [go_sem, e0, e2, e4]; done) | (simp only [go_sem, e0, e2, e4]; omega))) only [go_sem, ↓reduceIte, Nat.reduceEqDiff, Nat.reduceAdd, Nat.reduceSub, Nat.reduceMul, Nat.reduceLT, Nat.reduceLeDiff, Int.reduceEq, Int.reduceLT, Int.reduceLE, Int.reduceAdd, Int.reduceSub, Int.reduceMul, Int.reduceNeg, Int.reduceToNat, Int.reduceNe, reduceCtorEq, e0, e2, e4]
        refine ⟨he, by omega, ?_⟩
        rfl
    · have hke : k = cut.length := by omega
      subst hke
      rw [List.take_length]
      simp (disch := (first | decide | omega | (simp only [go_sem, e0, e2, e4, setC_length, setC_one, setC_take, setC_drop]; done) | (simp only [go_sem, e0, e2, e4, setC_length, setC_one, setC_take, setC_drop]; omega))) only [go_sem, ↓reduceIte, Nat.reduceEqDiff, Nat.reduceAdd, Nat.reduceSub, Nat.reduceMul, Nat.reduceLT, Nat.reduceLeDiff, Int.reduceEq, Int.reduceLT, Int.reduceLE, Int.reduceAdd, Int.reduceSub, Int.reduceMul, Int.reduceNeg, Int.reduceToNat, Int.reduceNe, reduceCtorEq, e0, e2, e4, setC_length, setC_one, setC_take, setC_drop]
      exact q _ _ (by first | rfl | (simp []; done) | grind []) (by first | exact Ext.refl | exact ⟨_, rfl⟩)

set_option maxRecDepth 100000 in
theorem f73 {s cut : Str} {H : Heap} (hc : ∀ c ∈ cut, c.toNat < 128) (h1 : 1 < cut.length) (hs : cut.length ≤ 1000000) (hss : s.length ≤ 1000000000000) {Q : Out → Prop} (q : ∀ v H', v = strOf (trimL (fun c => inCut cut c.toNat) (trimR (fun c => inCut cut c.toNat) s)) → Ext H H' → Q (.ret v H')) : Cl tab 73 [strOf s, strOf cut] H Q := by
  have hc0 : cut ≠ [] := by intro h; subst h; simp at h1
  apply e73
  by_cases hs0 : s = []
  · subst hs0
    simp (disch := (first | decide | omega | (simp only [go_sem]; done) | (simp only [go_sem]; omega))) only [go_sem, ↓reduceIte, Nat.reduceEqDiff, Nat.reduceAdd, Nat.reduceSub, Nat.reduceMul, Nat.reduceLT, Nat.reduceLeDiff, Int.reduceEq, Int.reduceLT, Int.reduceLE, Int.reduceAdd, Int.reduceSub, Int.reduceMul, Int.reduceNeg, Int.reduceToNat, Int.reduceNe, reduceCtorEq]
    exact q _ _ (by first | rfl | (simp []; done) | grind []) (by first | exact Ext.refl | exact ⟨_, rfl⟩)
  simp (disch := (first | decide | omega | (simp only [go_sem, hs0, hc0]; done) | (simp only [go_sem, hs0, hc0]; omega))) only [go_sem, ↓reduceIte, Nat.reduceEqDiff, Nat.reduceAdd, Nat.reduceSub, Nat.reduceMul, Nat.reduceLT, Nat.reduceLeDiff, Int.reduceEq, Int.reduceLT, Int.reduceLE, Int.reduceAdd, Int.reduceSub, Int.reduceMul, Int.reduceNeg, Int.reduceToNat, Int.reduceNe, reduceCtorEq, hs0, hc0]
  have hl1 : ¬ ((cut.length : Int) = 1) := by omega
  simp (disch := (first | decide | omega | (simp only [go_sem, hs0, hc0, hl1]; done) | (simp only [go_sem, hs0, hc0, hl1]; omega))) only [go_sem, ↓reduceIte, Nat.reduceEqDiff, Nat.reduceAdd, Nat.reduceSub, Nat.reduceMul, Nat.reduceLT, Nat.reduceLeDiff, Int.reduceEq, Int.reduceLT, Int.reduceLE, Int.reduceAdd, Int.reduceSub, Int.reduceMul, Int.reduceNeg, Int.reduceToNat, Int.reduceNe, reduceCtorEq, hs0, hc0, hl1]
  refine f155 hc hs ?_
  rintro _ _ rfl ⟨J, rfl⟩
  simp (disch := (first | decide | omega | (simp only [go_sem, setC_length, setC_one]; done) | (simp only [go_sem, setC_length, setC_one]; omega))) only [go_sem, ↓reduceIte, Nat.reduceEqDiff, Nat.reduceAdd, Nat.reduceSub, Nat.reduceMul, Nat.reduceLT, Nat.reduceLeDiff, Int.reduceEq, Int.reduceLT, Int.reduceLE, Int.reduceAdd, Int.reduceSub, Int.reduceMul, Int.reduceNeg, Int.reduceToNat, Int.reduceNe, reduceCtorEq, setC_length, setC_one]
  have hm : ∀ J2 : Heap, ∀ j < 256, get1 (H ++ (J ++ (.cells (setC (inCut cut)) (.fix (some 179)) 0 :: J2))) (H.length + J.length) (0 + j) = some (.bool (inCut cut j)) := by
    intro J2 j hj
    simp (disch := (first | decide | omega | (simp only [go_sem, setC_get _ hj]; done) | (simp only [go_sem, setC_get _ hj]; omega))) only [go_sem, ↓reduceIte, Nat.reduceEqDiff, Nat.reduceAdd, Nat.reduceSub, Nat.reduceMul, Nat.reduceLT, Nat.reduceLeDiff, Int.reduceEq, Int.reduceLT, Int.reduceLE, Int.reduceAdd, Int.reduceSub, Int.reduceMul, Int.reduceNeg, Int.reduceToNat, Int.reduceNe, reduceCtorEq, setC_get _ hj]
  refine f157 (hm []) hss ?_
  rintro _ _ rfl ⟨J2, rfl⟩
  simp (disch := (first | decide | omega | (simp only [go_sem]; done) | (simp only [go_sem]; omega))) only [go_sem, ↓reduceIte, Nat.reduceEqDiff, Nat.reduceAdd, Nat.reduceSub, Nat.reduceMul, Nat.reduceLT, Nat.reduceLeDiff, Int.reduceEq, Int.reduceLT, Int.reduceLE, Int.reduceAdd, Int.reduceSub, Int.reduceMul, Int.reduceNeg, Int.reduceToNat, Int.reduceNe, reduceCtorEq]
  refine f156 (P := inCut cut) (hm J2) ?_
  rintro _ _ rfl ⟨J3, rfl⟩
  simp (disch := (first | decide | omega | (simp only [go_sem]; done) | (simp only [go_sem]; omega))) only [go_sem, ↓reduceIte, Nat.reduceEqDiff, Nat.reduceAdd, Nat.reduceSub, Nat.reduceMul, Nat.reduceLT, Nat.reduceLeDiff, Int.reduceEq, Int.reduceLT, Int.reduceLE, Int.reduceAdd, Int.reduceSub, Int.reduceMul, Int.reduceNeg, Int.reduceToNat, Int.reduceNe, reduceCtorEq]
  exact q _ _ (by first | rfl | (simp []; done) | grind []) (by first | exact Ext.refl | exact ⟨_, rfl⟩)
end Ve
end Go.Proofs.YtnociodpfmlglaaGreatDoor
