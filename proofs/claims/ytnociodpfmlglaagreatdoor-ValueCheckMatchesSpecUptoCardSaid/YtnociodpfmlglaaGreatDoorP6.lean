/-
  Documents: what is checked, whole.
-/
import Derived.Test.YtnociodpfmlglaaGreatDoorP5
set_option linter.unusedVariables false
set_option linter.unusedSimpArgs false
namespace Go.Proofs.YtnociodpfmlglaaGreatDoor
namespace Ve
open Go

def refForm : Doc → Bool
  | .mk kind b num text list keys =>
    (!decide (kind = 2) && b) || (!decide (kind = 3) && !(decide (num.dig = []) && !num.neg && decide (num.exp = 0))) || (!decide (kind = 4) && !decide (text = [])) ||
    (decide (kind < 5) && decide (0 < list.length)) || (!decide (kind = 6) && decide (0 < keys.length)) || (decide (kind = 6) && !decide (keys.length = list.length))
theorem refForm_eq {d : Doc} (h : ¬ (d.kind < 1 ∨ 6 < d.kind)) : refForm d = strangeB d := by
  obtain ⟨kind, b, num, text, list, keys⟩ := d
  simp only [Doc.kind] at h
  rw [Bool.eq_iff_iff]
  have : kind < 5 ↔ kind ≠ 5 ∧ kind ≠ 6 := by omega
  simp only [refForm, strangeB]
  by_cases h6 : kind = 6
  · subst h6; simp; grind
  · simp [h6, this]; grind

theorem f161 {cs : List Value} {d : Doc} {H : Heap} (hd : DocAt H cs d) (hf : Fits d) {Q : Out → Prop} (q : ∀ v H', v = .int .i64 (nodeFault d) → Ext H H' → Q (.ret v H')) : Cl tab 161 [.agg ⟨cs⟩] H Q := by
  have hd0 := hd
  obtain @⟨kind, b, num, text, list, keys, la, lc, ka, kc, cs, hi, hk, hg, hdl⟩ := hd
  obtain ⟨hf1, hf2⟩ := hf
  simp only [Doc.num, Doc.keys] at hf1 hf2
  obtain ⟨c1, c2, c3⟩ := hd0.cells
  apply e161
  simp (disch := (first | decide | omega | (simp only [go_sem, c1, c2, c3]; done) | (simp only [go_sem, c1, c2, c3]; omega))) only [go_sem, ↓reduceIte, Nat.reduceEqDiff, Nat.reduceAdd, Nat.reduceSub, Nat.reduceMul, Nat.reduceLT, Nat.reduceLeDiff, Int.reduceEq, Int.reduceLT, Int.reduceLE, Int.reduceAdd, Int.reduceSub, Int.reduceMul, Int.reduceNeg, Int.reduceToNat, Int.reduceNe, reduceCtorEq, c1, c2, c3]
  (repeat (refine guO_merge (fun hb => by (have hb' := hb; (try simp only [nrm] at hb'); have hc := hb; (try simp only [Bool.and_eq_true] at hc); first | (simp (disch := (first | decide | omega | (simp only [go_sem, hb]; done) | (simp only [go_sem, hb]; omega))) only [go_sem, ↓reduceIte, Nat.reduceEqDiff, Nat.reduceAdd, Nat.reduceSub, Nat.reduceMul, Nat.reduceLT, Nat.reduceLeDiff, Int.reduceEq, Int.reduceLT, Int.reduceLE, Int.reduceAdd, Int.reduceSub, Int.reduceMul, Int.reduceNeg, Int.reduceToNat, Int.reduceNe, reduceCtorEq, hb]; rfl) | (simp (disch := (first | decide | omega | (simp only [go_sem, hc]; done) | (simp only [go_sem, hc]; omega))) only [go_sem, ↓reduceIte, Nat.reduceEqDiff, Nat.reduceAdd, Nat.reduceSub, Nat.reduceMul, Nat.reduceLT, Nat.reduceLeDiff, Int.reduceEq, Int.reduceLT, Int.reduceLE, Int.reduceAdd, Int.reduceSub, Int.reduceMul, Int.reduceNeg, Int.reduceToNat, Int.reduceNe, reduceCtorEq, hc]; rfl))) rfl ?_; simp (disch := (first | decide | omega | (simp only [go_sem]; done) | (simp only [go_sem]; omega))) only [go_sem, ↓reduceIte, Nat.reduceEqDiff, Nat.reduceAdd, Nat.reduceSub, Nat.reduceMul, Nat.reduceLT, Nat.reduceLeDiff, Int.reduceEq, Int.reduceLT, Int.reduceLE, Int.reduceAdd, Int.reduceSub, Int.reduceMul, Int.reduceNeg, Int.reduceToNat, Int.reduceNe, reduceCtorEq]))
  refine brK_of (fun h1 => ?_) (fun h1 => ?_)
  · simp (disch := (first | decide | omega | (simp only [go_sem]; done) | (simp only [go_sem]; omega))) only [go_sem, ↓reduceIte, Nat.reduceEqDiff, Nat.reduceAdd, Nat.reduceSub, Nat.reduceMul, Nat.reduceLT, Nat.reduceLeDiff, Int.reduceEq, Int.reduceLT, Int.reduceLE, Int.reduceAdd, Int.reduceSub, Int.reduceMul, Int.reduceNeg, Int.reduceToNat, Int.reduceNe, reduceCtorEq]
    exact q _ _ (by first | rfl | (simp [nodeFault]; done) | grind [nodeFault]) (by first | exact Ext.refl | exact ⟨_, rfl⟩)
  simp (disch := (first | decide | omega | (simp only [go_sem]; done) | (simp only [go_sem]; omega))) only [go_sem, ↓reduceIte, Nat.reduceEqDiff, Nat.reduceAdd, Nat.reduceSub, Nat.reduceMul, Nat.reduceLT, Nat.reduceLeDiff, Int.reduceEq, Int.reduceLT, Int.reduceLE, Int.reduceAdd, Int.reduceSub, Int.reduceMul, Int.reduceNeg, Int.reduceToNat, Int.reduceNe, reduceCtorEq]
  (repeat (refine guO_merge (fun hb => by (have hb' := hb; (try simp only [nrm] at hb'); have hc := hb; (try simp only [Bool.and_eq_true] at hc); first | (simp (disch := (first | decide | omega | (simp only [go_sem, hb]; done) | (simp only [go_sem, hb]; omega))) only [go_sem, ↓reduceIte, Nat.reduceEqDiff, Nat.reduceAdd, Nat.reduceSub, Nat.reduceMul, Nat.reduceLT, Nat.reduceLeDiff, Int.reduceEq, Int.reduceLT, Int.reduceLE, Int.reduceAdd, Int.reduceSub, Int.reduceMul, Int.reduceNeg, Int.reduceToNat, Int.reduceNe, reduceCtorEq, hb]; rfl) | (simp (disch := (first | decide | omega | (simp only [go_sem, hc]; done) | (simp only [go_sem, hc]; omega))) only [go_sem, ↓reduceIte, Nat.reduceEqDiff, Nat.reduceAdd, Nat.reduceSub, Nat.reduceMul, Nat.reduceLT, Nat.reduceLeDiff, Int.reduceEq, Int.reduceLT, Int.reduceLE, Int.reduceAdd, Int.reduceSub, Int.reduceMul, Int.reduceNeg, Int.reduceToNat, Int.reduceNe, reduceCtorEq, hc]; rfl))) rfl ?_; simp (disch := (first | decide | omega | (simp only [go_sem]; done) | (simp only [go_sem]; omega))) only [go_sem, ↓reduceIte, Nat.reduceEqDiff, Nat.reduceAdd, Nat.reduceSub, Nat.reduceMul, Nat.reduceLT, Nat.reduceLeDiff, Int.reduceEq, Int.reduceLT, Int.reduceLE, Int.reduceAdd, Int.reduceSub, Int.reduceMul, Int.reduceNeg, Int.reduceToNat, Int.reduceNe, reduceCtorEq]))
  have hrf := refForm_eq (d := .mk kind b num text list keys) (by simp [Doc.kind]; simp at h1; omega)
  refine brK_of (fun h2 => ?_) (fun h2 => ?_)
  · simp (disch := (first | decide | omega | (simp only [go_sem]; done) | (simp only [go_sem]; omega))) only [go_sem, ↓reduceIte, Nat.reduceEqDiff, Nat.reduceAdd, Nat.reduceSub, Nat.reduceMul, Nat.reduceLT, Nat.reduceLeDiff, Int.reduceEq, Int.reduceLT, Int.reduceLE, Int.reduceAdd, Int.reduceSub, Int.reduceMul, Int.reduceNeg, Int.reduceToNat, Int.reduceNe, reduceCtorEq]
    have h2' : strangeB (.mk kind b num text list keys) = true := by rw [← hrf, ← h2]; simp [refForm, Bool.or_assoc]
    exact q _ _ (by first | rfl | (simp [nodeFault]; done) | grind [nodeFault]) (by first | exact Ext.refl | exact ⟨_, rfl⟩)
  simp (disch := (first | decide | omega | (simp only [go_sem]; done) | (simp only [go_sem]; omega))) only [go_sem, ↓reduceIte, Nat.reduceEqDiff, Nat.reduceAdd, Nat.reduceSub, Nat.reduceMul, Nat.reduceLT, Nat.reduceLeDiff, Int.reduceEq, Int.reduceLT, Int.reduceLE, Int.reduceAdd, Int.reduceSub, Int.reduceMul, Int.reduceNeg, Int.reduceToNat, Int.reduceNe, reduceCtorEq]
  have h2' : strangeB (.mk kind b num text list keys) = false := by rw [← hrf, ← h2]; simp [refForm, Bool.or_assoc]
  refine brK_of (fun h3 => ?_) (fun h3 => ?_)
  · simp (disch := (first | decide | omega | (simp only [go_sem]; done) | (simp only [go_sem]; omega))) only [go_sem, ↓reduceIte, Nat.reduceEqDiff, Nat.reduceAdd, Nat.reduceSub, Nat.reduceMul, Nat.reduceLT, Nat.reduceLeDiff, Int.reduceEq, Int.reduceLT, Int.reduceLE, Int.reduceAdd, Int.reduceSub, Int.reduceMul, Int.reduceNeg, Int.reduceToNat, Int.reduceNe, reduceCtorEq]
    refine f17 hf1 ?_
    rintro _ _ rfl ⟨J2, rfl⟩
    simp (disch := (first | decide | omega | (simp only [go_sem]; done) | (simp only [go_sem]; omega))) only [go_sem, ↓reduceIte, Nat.reduceEqDiff, Nat.reduceAdd, Nat.reduceSub, Nat.reduceMul, Nat.reduceLT, Nat.reduceLeDiff, Int.reduceEq, Int.reduceLT, Int.reduceLE, Int.reduceAdd, Int.reduceSub, Int.reduceMul, Int.reduceNeg, Int.reduceToNat, Int.reduceNe, reduceCtorEq]
    exact q _ _ (by first | rfl | (simp [nodeFault]; done) | grind [nodeFault]) (by first | exact Ext.refl | exact ⟨_, rfl⟩)
  simp (disch := (first | decide | omega | (simp only [go_sem]; done) | (simp only [go_sem]; omega))) only [go_sem, ↓reduceIte, Nat.reduceEqDiff, Nat.reduceAdd, Nat.reduceSub, Nat.reduceMul, Nat.reduceLT, Nat.reduceLeDiff, Int.reduceEq, Int.reduceLT, Int.reduceLE, Int.reduceAdd, Int.reduceSub, Int.reduceMul, Int.reduceNeg, Int.reduceToNat, Int.reduceNe, reduceCtorEq]
  refine brK_of (fun h4 => ?_) (fun h4 => ?_)
  · simp (disch := (first | decide | omega | (simp only [go_sem]; done) | (simp only [go_sem]; omega))) only [go_sem, ↓reduceIte, Nat.reduceEqDiff, Nat.reduceAdd, Nat.reduceSub, Nat.reduceMul, Nat.reduceLT, Nat.reduceLeDiff, Int.reduceEq, Int.reduceLT, Int.reduceLE, Int.reduceAdd, Int.reduceSub, Int.reduceMul, Int.reduceNeg, Int.reduceToNat, Int.reduceNe, reduceCtorEq]
    refine f19 ?_
    rintro _ _ rfl ⟨J2, rfl⟩
    simp (disch := (first | decide | omega | (simp only [go_sem]; done) | (simp only [go_sem]; omega))) only [go_sem, ↓reduceIte, Nat.reduceEqDiff, Nat.reduceAdd, Nat.reduceSub, Nat.reduceMul, Nat.reduceLT, Nat.reduceLeDiff, Int.reduceEq, Int.reduceLT, Int.reduceLE, Int.reduceAdd, Int.reduceSub, Int.reduceMul, Int.reduceNeg, Int.reduceToNat, Int.reduceNe, reduceCtorEq]
    exact q _ _ (by first | rfl | (simp [nodeFault]; done) | grind [nodeFault]) (by first | exact Ext.refl | exact ⟨_, rfl⟩)
  simp (disch := (first | decide | omega | (simp only [go_sem]; done) | (simp only [go_sem]; omega))) only [go_sem, ↓reduceIte, Nat.reduceEqDiff, Nat.reduceAdd, Nat.reduceSub, Nat.reduceMul, Nat.reduceLT, Nat.reduceLeDiff, Int.reduceEq, Int.reduceLT, Int.reduceLE, Int.reduceAdd, Int.reduceSub, Int.reduceMul, Int.reduceNeg, Int.reduceToNat, Int.reduceNe, reduceCtorEq]
  have hn : nodeFault (.mk kind b num text list keys) = keysFrom none keys := by grind [nodeFault]
  rw [hn] at q
  refine w161_27 (ι := Nat) 0 (fun k e h => (∃ J, h = H ++ (.cells [.int .i64 kind, .bool b, .bool num.neg, strOf num.dig, .int .i64 num.exp, strOf text, .slice la list.length lc, .slice ka keys.length kc] (.fix (some 27)) 0 :: J)) ∧ e.length = 136 ∧ k ≤ keys.length ∧ keysFrom none keys = keysFrom (prevKey keys k) (keys.drop k) ∧ gt e 1 = .pointer (some ⟨H.length, 0, none⟩) ∧ gt e 4 = .int .i64 k) (fun k => keys.length - k) ?_ ?_
  · refine ⟨⟨_, rfl⟩, ?_⟩
    simp (disch := (first | decide | omega | (simp only [go_sem]; done) | (simp only [go_sem]; omega))) only [go_sem, ↓reduceIte, Nat.reduceEqDiff, Nat.reduceAdd, Nat.reduceSub, Nat.reduceMul, Nat.reduceLT, Nat.reduceLeDiff, Int.reduceEq, Int.reduceLT, Int.reduceLE, Int.reduceAdd, Int.reduceSub, Int.reduceMul, Int.reduceNeg, Int.reduceToNat, Int.reduceNe, reduceCtorEq]
    simp [prevKey]
  · rintro k e h ⟨⟨J2, rfl⟩, he, hk1, hkf, e1, e4⟩ ih
    simp (disch := (first | decide | omega | (simp only [go_sem, e1, e4]; done) | (simp only [go_sem, e1, e4]; omega))) only [go_sem, ↓reduceIte, Nat.reduceEqDiff, Nat.reduceAdd, Nat.reduceSub, Nat.reduceMul, Nat.reduceLT, Nat.reduceLeDiff, Int.reduceEq, Int.reduceLT, Int.reduceLE, Int.reduceAdd, Int.reduceSub, Int.reduceMul, Int.reduceNeg, Int.reduceToNat, Int.reduceNe, reduceCtorEq, e1, e4]
    refine brK_prop (fun hh => ?_) (fun hh => ?_)
    · have hlt : k < keys.length := by omega
      have hst := keysFrom_step hlt
      obtain ⟨i, o, s, rfl⟩ : ∃ i o s, ka = some ⟨i, o, s⟩ := by
        have := hk k hlt
        cases ka with
        | none => cases this
        | some a => exact ⟨a.block, a.off, a.spot, rfl⟩
      have hkey : ∀ j, (hj : j < keys.length) → get1 H i (o + j) = some (strOf keys[j]) := by
        intro j hj
        have := hk j hj
        simp only [elAt, Nat.mul_one] at this
        have := get1_getN (k := 0) this (by omega)
        simpa using this
      have hgk := hkey k hlt
      have hil := get1_lt hgk
      simp (disch := (first | decide | omega | (simp only [go_sem, e1, e4, hgk]; done) | (simp only [go_sem, e1, e4, hgk]; omega))) only [go_sem, ↓reduceIte, Nat.reduceEqDiff, Nat.reduceAdd, Nat.reduceSub, Nat.reduceMul, Nat.reduceLT, Nat.reduceLeDiff, Int.reduceEq, Int.reduceLT, Int.reduceLE, Int.reduceAdd, Int.reduceSub, Int.reduceMul, Int.reduceNeg, Int.reduceToNat, Int.reduceNe, reduceCtorEq, e1, e4, hgk]
      refine f19 ?_
      rintro _ _ rfl ⟨J3, rfl⟩
      simp (disch := (first | decide | omega | (simp only [go_sem, e1, e4, hgk]; done) | (simp only [go_sem, e1, e4, hgk]; omega))) only [go_sem, ↓reduceIte, Nat.reduceEqDiff, Nat.reduceAdd, Nat.reduceSub, Nat.reduceMul, Nat.reduceLT, Nat.reduceLeDiff, Int.reduceEq, Int.reduceLT, Int.reduceLE, Int.reduceAdd, Int.reduceSub, Int.reduceMul, Int.reduceNeg, Int.reduceToNat, Int.reduceNe, reduceCtorEq, e1, e4, hgk]
      refine brK_of (fun h5 => ?_) (fun h5 => ?_)
      · simp (disch := (first | decide | omega | (simp only [go_sem]; done) | (simp only [go_sem]; omega))) only [go_sem, ↓reduceIte, Nat.reduceEqDiff, Nat.reduceAdd, Nat.reduceSub, Nat.reduceMul, Nat.reduceLT, Nat.reduceLeDiff, Int.reduceEq, Int.reduceLT, Int.reduceLE, Int.reduceAdd, Int.reduceSub, Int.reduceMul, Int.reduceNeg, Int.reduceToNat, Int.reduceNe, reduceCtorEq]
        exact q _ _ (by first | rfl | (simp [prevKey]; done) | grind [prevKey]) (by first | exact Ext.refl | exact ⟨_, rfl⟩)
      simp (disch := (first | decide | omega | (simp only [go_sem, e1, e4, hgk]; done) | (simp only [go_sem, e1, e4, hgk]; omega))) only [go_sem, ↓reduceIte, Nat.reduceEqDiff, Nat.reduceAdd, Nat.reduceSub, Nat.reduceMul, Nat.reduceLT, Nat.reduceLeDiff, Int.reduceEq, Int.reduceLT, Int.reduceLE, Int.reduceAdd, Int.reduceSub, Int.reduceMul, Int.reduceNeg, Int.reduceToNat, Int.reduceNe, reduceCtorEq, e1, e4, hgk]
      have hkm : ((k : Int) - 1).toNat = k - 1 := by omega
      by_cases hk0 : k = 0
      · have hk0' : ¬ (0 : Int) < k := by omega
        simp (disch := (first | decide | omega | (simp only [go_sem, e1, e4, hk0']; done) | (simp only [go_sem, e1, e4, hk0']; omega))) only [go_sem, ↓reduceIte, Nat.reduceEqDiff, Nat.reduceAdd, Nat.reduceSub, Nat.reduceMul, Nat.reduceLT, Nat.reduceLeDiff, Int.reduceEq, Int.reduceLT, Int.reduceLE, Int.reduceAdd, Int.reduceSub, Int.reduceMul, Int.reduceNeg, Int.reduceToNat, Int.reduceNe, reduceCtorEq, e1, e4, hk0']
        have hpv : prevKey keys k = none := by simp [prevKey, hk0]
        refine ih (k + 1) _ _ (by omega) ⟨⟨_, rfl⟩, ?_⟩
        simp (disch := (first | decide | omega | (simp only [go_sem, e1, e4, he]; done) | (simp only [go_sem, e1, e4, he]; omega))) only [go_sem, ↓reduceIte, Nat.reduceEqDiff, Nat.reduceAdd, Nat.reduceSub, Nat.reduceMul, Nat.reduceLT, Nat.reduceLeDiff, Int.reduceEq, Int.reduceLT, Int.reduceLE, Int.reduceAdd, Int.reduceSub, Int.reduceMul, Int.reduceNeg, Int.reduceToNat, Int.reduceNe, reduceCtorEq, e1, e4, he]
        refine ⟨by omega, ?_, rfl⟩
        rw [hkf, hst, hpv]
        grind [leP]
      · have hk0' : (0 : Int) < k := by omega
        have hpk := hkey (k - 1) (by omega)
        have hpv : prevKey keys k = some (keys[k-1]'(by omega)) := by simp [prevKey, hk0]
        simp (disch := (first | decide | omega | (simp only [go_sem, e1, e4, hk0', hpk, hkm, hgk]; done) | (simp only [go_sem, e1, e4, hk0', hpk, hkm, hgk]; omega))) only [go_sem, ↓reduceIte, Nat.reduceEqDiff, Nat.reduceAdd, Nat.reduceSub, Nat.reduceMul, Nat.reduceLT, Nat.reduceLeDiff, Int.reduceEq, Int.reduceLT, Int.reduceLE, Int.reduceAdd, Int.reduceSub, Int.reduceMul, Int.reduceNeg, Int.reduceToNat, Int.reduceNe, reduceCtorEq, e1, e4, hk0', hpk, hkm, hgk]
        refine brK_of (fun h6 => ?_) (fun h6 => ?_)
        · simp (disch := (first | decide | omega | (simp only [go_sem]; done) | (simp only [go_sem]; omega))) only [go_sem, ↓reduceIte, Nat.reduceEqDiff, Nat.reduceAdd, Nat.reduceSub, Nat.reduceMul, Nat.reduceLT, Nat.reduceLeDiff, Int.reduceEq, Int.reduceLT, Int.reduceLE, Int.reduceAdd, Int.reduceSub, Int.reduceMul, Int.reduceNeg, Int.reduceToNat, Int.reduceNe, reduceCtorEq]
          exact q _ _ (by first | rfl | (simp [leP]; done) | grind [leP]) (by first | exact Ext.refl | exact ⟨_, rfl⟩)
        simp (disch := (first | decide | omega | (simp only [go_sem, e1, e4, hk0', hpk, hkm]; done) | (simp only [go_sem, e1, e4, hk0', hpk, hkm]; omega))) only [go_sem, ↓reduceIte, Nat.reduceEqDiff, Nat.reduceAdd, Nat.reduceSub, Nat.reduceMul, Nat.reduceLT, Nat.reduceLeDiff, Int.reduceEq, Int.reduceLT, Int.reduceLE, Int.reduceAdd, Int.reduceSub, Int.reduceMul, Int.reduceNeg, Int.reduceToNat, Int.reduceNe, reduceCtorEq, e1, e4, hk0', hpk, hkm]
        refine ih (k + 1) _ _ (by omega) ⟨⟨_, rfl⟩, ?_⟩
        simp (disch := (first | decide | omega | (simp only [go_sem, e1, e4, he]; done) | (simp only [go_sem, e1, e4, he]; omega))) only [go_sem, ↓reduceIte, Nat.reduceEqDiff, Nat.reduceAdd, Nat.reduceSub, Nat.reduceMul, Nat.reduceLT, Nat.reduceLeDiff, Int.reduceEq, Int.reduceLT, Int.reduceLE, Int.reduceAdd, Int.reduceSub, Int.reduceMul, Int.reduceNeg, Int.reduceToNat, Int.reduceNe, reduceCtorEq, e1, e4, he]
        refine ⟨by omega, ?_, rfl⟩
        rw [hkf, hst, hpv]
        grind [leP]
    · have hke : k = keys.length := by omega
      subst hke
      simp (disch := (first | decide | omega | (simp only [go_sem, e1, e4]; done) | (simp only [go_sem, e1, e4]; omega))) only [go_sem, ↓reduceIte, Nat.reduceEqDiff, Nat.reduceAdd, Nat.reduceSub, Nat.reduceMul, Nat.reduceLT, Nat.reduceLeDiff, Int.reduceEq, Int.reduceLT, Int.reduceLE, Int.reduceAdd, Int.reduceSub, Int.reduceMul, Int.reduceNeg, Int.reduceToNat, Int.reduceNe, reduceCtorEq, e1, e4]
      rw [List.drop_length] at hkf
      exact q _ _ (by first | rfl | (simp [keysFrom]; done) | grind [keysFrom]) (by first | exact Ext.refl | exact ⟨_, rfl⟩)
end Ve
end Go.Proofs.YtnociodpfmlglaaGreatDoor
