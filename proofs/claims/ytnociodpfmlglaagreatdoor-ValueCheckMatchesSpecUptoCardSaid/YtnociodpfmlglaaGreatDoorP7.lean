/-
  Check and Nodes.
-/
import Derived.Test.YtnociodpfmlglaaGreatDoorP6
set_option linter.unusedVariables false
set_option linter.unusedSimpArgs false
namespace Go.Proofs.YtnociodpfmlglaaGreatDoor
namespace Ve
open Go

theorem fits_of {d : Doc} (h : bulk d ≤ 1000000000) : Fits d := by
  obtain ⟨kind, b, num, text, list, keys⟩ := d
  have := length_le_sum keys
  simp only [bulk, Fits, Doc.num, Doc.keys] at h ⊢
  omega

def sizeFault (d : Doc) : Int := if 20000 < nodes d ∨ 60 < levels d then 3 else 0
theorem f75 {cs : List Value} {d : Doc} {H : Heap} (hd : DocAt H cs d) (hb : bulk d ≤ 1000000000) {Q : Out → Prop} (q : ∀ v H', v = .int .i64 (sizeFault d) → Ext H H' → Q (.ret v H')) : Cl tab 75 [.agg ⟨cs⟩] H Q := by
  have hnb := nodes_bulk d
  obtain ⟨c1, c2, c3⟩ := hd.cells
  apply e75
  simp (disch := (first | decide | omega | (simp only [go_sem, c1, c2, c3]; done) | (simp only [go_sem, c1, c2, c3]; omega))) only [go_sem, ↓reduceIte, Nat.reduceEqDiff, Nat.reduceAdd, Nat.reduceSub, Nat.reduceMul, Nat.reduceLT, Nat.reduceLeDiff, Int.reduceEq, Int.reduceLT, Int.reduceLE, Int.reduceAdd, Int.reduceSub, Int.reduceMul, Int.reduceNeg, Int.reduceToNat, Int.reduceNe, reduceCtorEq, c1, c2, c3]
  refine f80 hd.ext (by omega) (fun J => ?_)
  simp (disch := (first | decide | omega | (simp only [go_sem, c1, c2, c3]; done) | (simp only [go_sem, c1, c2, c3]; omega))) only [go_sem, ↓reduceIte, Nat.reduceEqDiff, Nat.reduceAdd, Nat.reduceSub, Nat.reduceMul, Nat.reduceLT, Nat.reduceLeDiff, Int.reduceEq, Int.reduceLT, Int.reduceLE, Int.reduceAdd, Int.reduceSub, Int.reduceMul, Int.reduceNeg, Int.reduceToNat, Int.reduceNe, reduceCtorEq, c1, c2, c3]
  (repeat (refine guO_merge (fun hb => by (have hb' := hb; (try simp only [nrm] at hb'); have hc := hb; (try simp only [Bool.and_eq_true] at hc); first | (simp (disch := (first | decide | omega | (simp only [go_sem, hb]; done) | (simp only [go_sem, hb]; omega))) only [go_sem, ↓reduceIte, Nat.reduceEqDiff, Nat.reduceAdd, Nat.reduceSub, Nat.reduceMul, Nat.reduceLT, Nat.reduceLeDiff, Int.reduceEq, Int.reduceLT, Int.reduceLE, Int.reduceAdd, Int.reduceSub, Int.reduceMul, Int.reduceNeg, Int.reduceToNat, Int.reduceNe, reduceCtorEq, hb]; rfl) | (simp (disch := (first | decide | omega | (simp only [go_sem, hc]; done) | (simp only [go_sem, hc]; omega))) only [go_sem, ↓reduceIte, Nat.reduceEqDiff, Nat.reduceAdd, Nat.reduceSub, Nat.reduceMul, Nat.reduceLT, Nat.reduceLeDiff, Int.reduceEq, Int.reduceLT, Int.reduceLE, Int.reduceAdd, Int.reduceSub, Int.reduceMul, Int.reduceNeg, Int.reduceToNat, Int.reduceNe, reduceCtorEq, hc]; rfl))) rfl ?_; simp (disch := (first | decide | omega | (simp only [go_sem]; done) | (simp only [go_sem]; omega))) only [go_sem, ↓reduceIte, Nat.reduceEqDiff, Nat.reduceAdd, Nat.reduceSub, Nat.reduceMul, Nat.reduceLT, Nat.reduceLeDiff, Int.reduceEq, Int.reduceLT, Int.reduceLE, Int.reduceAdd, Int.reduceSub, Int.reduceMul, Int.reduceNeg, Int.reduceToNat, Int.reduceNe, reduceCtorEq]))
  refine brK_of (fun h1 => ?_) (fun h1 => ?_)
  · simp (disch := (first | decide | omega | (simp only [go_sem]; done) | (simp only [go_sem]; omega))) only [go_sem, ↓reduceIte, Nat.reduceEqDiff, Nat.reduceAdd, Nat.reduceSub, Nat.reduceMul, Nat.reduceLT, Nat.reduceLeDiff, Int.reduceEq, Int.reduceLT, Int.reduceLE, Int.reduceAdd, Int.reduceSub, Int.reduceMul, Int.reduceNeg, Int.reduceToNat, Int.reduceNe, reduceCtorEq]
    exact q _ _ (by first | rfl | (simp [sizeFault]; done) | grind [sizeFault]) (by first | exact Ext.refl | exact ⟨_, rfl⟩)
  simp (disch := (first | decide | omega | (simp only [go_sem]; done) | (simp only [go_sem]; omega))) only [go_sem, ↓reduceIte, Nat.reduceEqDiff, Nat.reduceAdd, Nat.reduceSub, Nat.reduceMul, Nat.reduceLT, Nat.reduceLeDiff, Int.reduceEq, Int.reduceLT, Int.reduceLE, Int.reduceAdd, Int.reduceSub, Int.reduceMul, Int.reduceNeg, Int.reduceToNat, Int.reduceNe, reduceCtorEq]
  exact q _ _ (by first | rfl | (simp [sizeFault]; done) | grind [sizeFault]) (by first | exact Ext.refl | exact ⟨_, rfl⟩)

theorem listFault_drop {list : List Doc} {k : Nat} (h : k < list.length) : listFault (list.drop k) = if nodesFault list[k] ≠ 0 then nodesFault list[k] else listFault (list.drop (k + 1)) := by
  rw [List.drop_eq_getElem_cons h, listFault]

theorem f76 {cs : List Value} {d : Doc} {H : Heap} (hd : DocAt H cs d) (hb : bulk d ≤ 1000000000) {Q : Out → Prop} (q : ∀ v H', v = .int .i64 (nodesFault d) → Ext H H' → Q (.ret v H')) : Cl tab 76 [.agg ⟨cs⟩] H Q := by
  suffices h : ∀ n d cs H, bulk d < n → DocAt H cs d → bulk d ≤ 1000000000 → ∀ Q : Out → Prop, (∀ v H', v = .int .i64 (nodesFault d) → Ext H H' → Q (.ret v H')) → Cl tab 76 [.agg ⟨cs⟩] H Q from h (bulk d + 1) d cs H (by omega) hd hb Q q
  clear hd hb q Q cs d H
  intro n
  induction n with
  | zero => intro d cs H hn; omega
  | succ n ih =>
    intro d cs H hn hd hb Q q
    have hd0 := hd
    have hft := fits_of hb
    obtain ⟨c1, c2, c3⟩ := hd0.cells
    obtain @⟨kind, b, num, text, list, keys, la, lc, ka, kc, cs, hi, hk, hg, hdl⟩ := hd
    simp only [bulk] at hn hb
    have hbl := nodesL_bulk list
    have hll := length_le_nodesL list
    apply e76
    simp (disch := (first | decide | omega | (simp only [go_sem, c1, c2, c3]; done) | (simp only [go_sem, c1, c2, c3]; omega))) only [go_sem, ↓reduceIte, Nat.reduceEqDiff, Nat.reduceAdd, Nat.reduceSub, Nat.reduceMul, Nat.reduceLT, Nat.reduceLeDiff, Int.reduceEq, Int.reduceLT, Int.reduceLE, Int.reduceAdd, Int.reduceSub, Int.reduceMul, Int.reduceNeg, Int.reduceToNat, Int.reduceNe, reduceCtorEq, c1, c2, c3]
    refine f160 hd0.ext hft ?_
    rintro _ _ rfl ⟨J, rfl⟩
    simp (disch := (first | decide | omega | (simp only [go_sem]; done) | (simp only [go_sem]; omega))) only [go_sem, ↓reduceIte, Nat.reduceEqDiff, Nat.reduceAdd, Nat.reduceSub, Nat.reduceMul, Nat.reduceLT, Nat.reduceLeDiff, Int.reduceEq, Int.reduceLT, Int.reduceLE, Int.reduceAdd, Int.reduceSub, Int.reduceMul, Int.reduceNeg, Int.reduceToNat, Int.reduceNe, reduceCtorEq]
    refine brK_of (fun h1 => ?_) (fun h1 => ?_)
    · simp (disch := (first | decide | omega | (simp only [go_sem]; done) | (simp only [go_sem]; omega))) only [go_sem, ↓reduceIte, Nat.reduceEqDiff, Nat.reduceAdd, Nat.reduceSub, Nat.reduceMul, Nat.reduceLT, Nat.reduceLeDiff, Int.reduceEq, Int.reduceLT, Int.reduceLE, Int.reduceAdd, Int.reduceSub, Int.reduceMul, Int.reduceNeg, Int.reduceToNat, Int.reduceNe, reduceCtorEq]
      exact q _ _ (by first | rfl | (simp [nodesFault]; done) | grind [nodesFault]) (by first | exact Ext.refl | exact ⟨_, rfl⟩)
    have hnf : nodesFault (.mk kind b num text list keys) = listFault list := by simp only [nodesFault]; simp at h1; simp [h1]
    rw [hnf] at q
    simp (disch := (first | decide | omega | (simp only [go_sem]; done) | (simp only [go_sem]; omega))) only [go_sem, ↓reduceIte, Nat.reduceEqDiff, Nat.reduceAdd, Nat.reduceSub, Nat.reduceMul, Nat.reduceLT, Nat.reduceLeDiff, Int.reduceEq, Int.reduceLT, Int.reduceLE, Int.reduceAdd, Int.reduceSub, Int.reduceMul, Int.reduceNeg, Int.reduceToNat, Int.reduceNe, reduceCtorEq]
    refine w76_12 (ι := Nat) 0 (fun k e h => (∃ J, h = H ++ J) ∧ e.length = 25 ∧ k ≤ list.length ∧ listFault list = listFault (list.drop k) ∧ gt e 13 = .slice la list.length lc ∧ gt e 14 = .int .i64 list.length ∧ gt e 15 = .int .i64 k) (fun k => list.length - k) ?_ ?_
    · refine ⟨⟨_, rfl⟩, ?_⟩
      simp (disch := (first | decide | omega | (simp only [go_sem]; done) | (simp only [go_sem]; omega))) only [go_sem, ↓reduceIte, Nat.reduceEqDiff, Nat.reduceAdd, Nat.reduceSub, Nat.reduceMul, Nat.reduceLT, Nat.reduceLeDiff, Int.reduceEq, Int.reduceLT, Int.reduceLE, Int.reduceAdd, Int.reduceSub, Int.reduceMul, Int.reduceNeg, Int.reduceToNat, Int.reduceNe, reduceCtorEq]
      simp
    · rintro k e h ⟨⟨J2, rfl⟩, he, hk1, hlf, e13, e14, e15⟩ ih2
      simp (disch := (first | decide | omega | (simp only [go_sem, e13, e14, e15]; done) | (simp only [go_sem, e13, e14, e15]; omega))) only [go_sem, ↓reduceIte, Nat.reduceEqDiff, Nat.reduceAdd, Nat.reduceSub, Nat.reduceMul, Nat.reduceLT, Nat.reduceLeDiff, Int.reduceEq, Int.reduceLT, Int.reduceLE, Int.reduceAdd, Int.reduceSub, Int.reduceMul, Int.reduceNeg, Int.reduceToNat, Int.reduceNe, reduceCtorEq, e13, e14, e15]
      refine brK_prop (fun hh => ?_) (fun hh => ?_)
      · have hlt : k < list.length := by omega
        obtain ⟨i, o, s, rfl, hgk⟩ := elAt_some (hg k hlt)
        have hdk := hdl k hlt
        obtain ⟨c1, c2, c3⟩ := hdk.cells
        have hil := getN_lt hgk
        have hnk := bulk_le hlt
        simp (disch := (first | decide | omega | (simp only [go_sem, e13, e14, e15, hgk, c1, c2, c3]; done) | (simp only [go_sem, e13, e14, e15, hgk, c1, c2, c3]; omega))) only [go_sem, ↓reduceIte, Nat.reduceEqDiff, Nat.reduceAdd, Nat.reduceSub, Nat.reduceMul, Nat.reduceLT, Nat.reduceLeDiff, Int.reduceEq, Int.reduceLT, Int.reduceLE, Int.reduceAdd, Int.reduceSub, Int.reduceMul, Int.reduceNeg, Int.reduceToNat, Int.reduceNe, reduceCtorEq, e13, e14, e15, hgk, c1, c2, c3]
        refine ih _ _ _ (by omega) hdk.ext (by omega) _ ?_
        rintro _ _ rfl ⟨J3, rfl⟩
        simp (disch := (first | decide | omega | (simp only [go_sem, e13, e14, e15]; done) | (simp only [go_sem, e13, e14, e15]; omega))) only [go_sem, ↓reduceIte, Nat.reduceEqDiff, Nat.reduceAdd, Nat.reduceSub, Nat.reduceMul, Nat.reduceLT, Nat.reduceLeDiff, Int.reduceEq, Int.reduceLT, Int.reduceLE, Int.reduceAdd, Int.reduceSub, Int.reduceMul, Int.reduceNeg, Int.reduceToNat, Int.reduceNe, reduceCtorEq, e13, e14, e15]
        have hld := listFault_drop hlt
        refine brK_of (fun h2 => ?_) (fun h2 => ?_)
        · simp (disch := (first | decide | omega | (simp only [go_sem]; done) | (simp only [go_sem]; omega))) only [go_sem, ↓reduceIte, Nat.reduceEqDiff, Nat.reduceAdd, Nat.reduceSub, Nat.reduceMul, Nat.reduceLT, Nat.reduceLeDiff, Int.reduceEq, Int.reduceLT, Int.reduceLE, Int.reduceAdd, Int.reduceSub, Int.reduceMul, Int.reduceNeg, Int.reduceToNat, Int.reduceNe, reduceCtorEq]
          exact q _ _ (by first | rfl | (simp []; done) | grind []) (by first | exact Ext.refl | exact ⟨_, rfl⟩)
        simp (disch := (first | decide | omega | (simp only [go_sem, e13, e14, e15]; done) | (simp only [go_sem, e13, e14, e15]; omega))) only [go_sem, ↓reduceIte, Nat.reduceEqDiff, Nat.reduceAdd, Nat.reduceSub, Nat.reduceMul, Nat.reduceLT, Nat.reduceLeDiff, Int.reduceEq, Int.reduceLT, Int.reduceLE, Int.reduceAdd, Int.reduceSub, Int.reduceMul, Int.reduceNeg, Int.reduceToNat, Int.reduceNe, reduceCtorEq, e13, e14, e15]
        refine ih2 (k + 1) _ _ (by omega) ⟨⟨_, rfl⟩, ?_⟩
        simp (disch := (first | decide | omega | (simp only [go_sem, e13, e14, e15, he]; done) | (simp only [go_sem, e13, e14, e15, he]; omega))) only [go_sem, ↓reduceIte, Nat.reduceEqDiff, Nat.reduceAdd, Nat.reduceSub, Nat.reduceMul, Nat.reduceLT, Nat.reduceLeDiff, Int.reduceEq, Int.reduceLT, Int.reduceLE, Int.reduceAdd, Int.reduceSub, Int.reduceMul, Int.reduceNeg, Int.reduceToNat, Int.reduceNe, reduceCtorEq, e13, e14, e15, he]
        refine ⟨by omega, ?_, rfl⟩
        rw [hlf, hld]
        grind
      · have hke : k = list.length := by omega
        subst hke
        rw [List.drop_length] at hlf
        simp (disch := (first | decide | omega | (simp only [go_sem, e13, e14, e15]; done) | (simp only [go_sem, e13, e14, e15]; omega))) only [go_sem, ↓reduceIte, Nat.reduceEqDiff, Nat.reduceAdd, Nat.reduceSub, Nat.reduceMul, Nat.reduceLT, Nat.reduceLeDiff, Int.reduceEq, Int.reduceLT, Int.reduceLE, Int.reduceAdd, Int.reduceSub, Int.reduceMul, Int.reduceNeg, Int.reduceToNat, Int.reduceNe, reduceCtorEq, e13, e14, e15]
        exact q _ _ (by first | rfl | (simp [listFault]; done) | grind [listFault]) (by first | exact Ext.refl | exact ⟨_, rfl⟩)

theorem f79 {cs : List Value} {d : Doc} {H : Heap} (hd : DocAt H cs d) (hb : bulk d ≤ 1000000000) {Q : Out → Prop} (q : ∀ v H', v = .int .i64 (nodesFault d) → Ext H H' → Q (.ret v H')) : Cl tab 79 [.agg ⟨cs⟩] H Q := by
  suffices h : ∀ n d cs H, bulk d < n → DocAt H cs d → bulk d ≤ 1000000000 → ∀ Q : Out → Prop, (∀ v H', v = .int .i64 (nodesFault d) → Ext H H' → Q (.ret v H')) → Cl tab 79 [.agg ⟨cs⟩] H Q from h (bulk d + 1) d cs H (by omega) hd hb Q q
  clear hd hb q Q cs d H
  intro n
  induction n with
  | zero => intro d cs H hn; omega
  | succ n ih =>
    intro d cs H hn hd hb Q q
    have hd0 := hd
    have hft := fits_of hb
    obtain ⟨c1, c2, c3⟩ := hd0.cells
    obtain @⟨kind, b, num, text, list, keys, la, lc, ka, kc, cs, hi, hk, hg, hdl⟩ := hd
    simp only [bulk] at hn hb
    have hbl := nodesL_bulk list
    have hll := length_le_nodesL list
    apply e79
    simp (disch := (first | decide | omega | (simp only [go_sem, c1, c2, c3]; done) | (simp only [go_sem, c1, c2, c3]; omega))) only [go_sem, ↓reduceIte, Nat.reduceEqDiff, Nat.reduceAdd, Nat.reduceSub, Nat.reduceMul, Nat.reduceLT, Nat.reduceLeDiff, Int.reduceEq, Int.reduceLT, Int.reduceLE, Int.reduceAdd, Int.reduceSub, Int.reduceMul, Int.reduceNeg, Int.reduceToNat, Int.reduceNe, reduceCtorEq, c1, c2, c3]
    refine f161 hd0.ext hft ?_
    rintro _ _ rfl ⟨J, rfl⟩
    simp (disch := (first | decide | omega | (simp only [go_sem]; done) | (simp only [go_sem]; omega))) only [go_sem, ↓reduceIte, Nat.reduceEqDiff, Nat.reduceAdd, Nat.reduceSub, Nat.reduceMul, Nat.reduceLT, Nat.reduceLeDiff, Int.reduceEq, Int.reduceLT, Int.reduceLE, Int.reduceAdd, Int.reduceSub, Int.reduceMul, Int.reduceNeg, Int.reduceToNat, Int.reduceNe, reduceCtorEq]
    have hnf : nodesFault (.mk kind b num text list keys) = if nodeFault (.mk kind b num text list keys) ≠ 0 then nodeFault (.mk kind b num text list keys) else listFault list := by simp only [nodesFault]
    rw [hnf] at q
    generalize nodeFault (.mk kind b num text list keys) = nf at *
    refine w79_7 (ι := Nat × Int) (0, nf) (fun ⟨k, r⟩ e h => (∃ J, h = H ++ (.cells [.int .i64 kind, .bool b, .bool num.neg, strOf num.dig, .int .i64 num.exp, strOf text, .slice la list.length lc, .slice ka keys.length kc] (.fix (some 27)) 0 :: J)) ∧ e.length = 25 ∧ k ≤ list.length ∧ (if nf ≠ 0 then nf else listFault list) = (if r ≠ 0 then r else listFault (list.drop k)) ∧ gt e 1 = .pointer (some ⟨H.length, 0, none⟩) ∧ gt e 3 = .int .i64 r ∧ gt e 4 = .int .i64 k) (fun ⟨k, r⟩ => list.length - k) ?_ ?_
    · refine ⟨⟨_, rfl⟩, ?_⟩
      simp (disch := (first | decide | omega | (simp only [go_sem]; done) | (simp only [go_sem]; omega))) only [go_sem, ↓reduceIte, Nat.reduceEqDiff, Nat.reduceAdd, Nat.reduceSub, Nat.reduceMul, Nat.reduceLT, Nat.reduceLeDiff, Int.reduceEq, Int.reduceLT, Int.reduceLE, Int.reduceAdd, Int.reduceSub, Int.reduceMul, Int.reduceNeg, Int.reduceToNat, Int.reduceNe, reduceCtorEq]
      simp
    · rintro ⟨k, r⟩ e h ⟨⟨J2, rfl⟩, he, hk1, hlf, e1, e3, e4⟩ ih2
      simp (disch := (first | decide | omega | (simp only [go_sem, e1, e3, e4]; done) | (simp only [go_sem, e1, e3, e4]; omega))) only [go_sem, ↓reduceIte, Nat.reduceEqDiff, Nat.reduceAdd, Nat.reduceSub, Nat.reduceMul, Nat.reduceLT, Nat.reduceLeDiff, Int.reduceEq, Int.reduceLT, Int.reduceLE, Int.reduceAdd, Int.reduceSub, Int.reduceMul, Int.reduceNeg, Int.reduceToNat, Int.reduceNe, reduceCtorEq, e1, e3, e4]
      (repeat (refine guO_merge (fun hb => by (have hb' := hb; (try simp only [nrm] at hb'); have hc := hb; (try simp only [Bool.and_eq_true] at hc); first | (simp (disch := (first | decide | omega | (simp only [go_sem, hb, e1, e3, e4]; done) | (simp only [go_sem, hb, e1, e3, e4]; omega))) only [go_sem, ↓reduceIte, Nat.reduceEqDiff, Nat.reduceAdd, Nat.reduceSub, Nat.reduceMul, Nat.reduceLT, Nat.reduceLeDiff, Int.reduceEq, Int.reduceLT, Int.reduceLE, Int.reduceAdd, Int.reduceSub, Int.reduceMul, Int.reduceNeg, Int.reduceToNat, Int.reduceNe, reduceCtorEq, hb, e1, e3, e4]; rfl) | (simp (disch := (first | decide | omega | (simp only [go_sem, hc, e1, e3, e4]; done) | (simp only [go_sem, hc, e1, e3, e4]; omega))) only [go_sem, ↓reduceIte, Nat.reduceEqDiff, Nat.reduceAdd, Nat.reduceSub, Nat.reduceMul, Nat.reduceLT, Nat.reduceLeDiff, Int.reduceEq, Int.reduceLT, Int.reduceLE, Int.reduceAdd, Int.reduceSub, Int.reduceMul, Int.reduceNeg, Int.reduceToNat, Int.reduceNe, reduceCtorEq, hc, e1, e3, e4]; rfl))) rfl ?_; simp (disch := (first | decide | omega | (simp only [go_sem, e1, e3, e4]; done) | (simp only [go_sem, e1, e3, e4]; omega))) only [go_sem, ↓reduceIte, Nat.reduceEqDiff, Nat.reduceAdd, Nat.reduceSub, Nat.reduceMul, Nat.reduceLT, Nat.reduceLeDiff, Int.reduceEq, Int.reduceLT, Int.reduceLE, Int.reduceAdd, Int.reduceSub, Int.reduceMul, Int.reduceNeg, Int.reduceToNat, Int.reduceNe, reduceCtorEq, e1, e3, e4]))
      refine brK_of (fun hh => ?_) (fun hh => ?_)
      · simp only [nrm] at hh
        obtain ⟨hh1, hh2⟩ := hh
        have hlt : k < list.length := by omega
        obtain ⟨i, o, s, rfl, hgk⟩ := elAt_some (hg k hlt)
        have hdk := hdl k hlt
        obtain ⟨c1, c2, c3⟩ := hdk.cells
        have hil := getN_lt hgk
        have hnk := bulk_le hlt
        simp (disch := (first | decide | omega | (simp only [go_sem, e1, e3, e4, hgk, c1, c2, c3]; done) | (simp only [go_sem, e1, e3, e4, hgk, c1, c2, c3]; omega))) only [go_sem, ↓reduceIte, Nat.reduceEqDiff, Nat.reduceAdd, Nat.reduceSub, Nat.reduceMul, Nat.reduceLT, Nat.reduceLeDiff, Int.reduceEq, Int.reduceLT, Int.reduceLE, Int.reduceAdd, Int.reduceSub, Int.reduceMul, Int.reduceNeg, Int.reduceToNat, Int.reduceNe, reduceCtorEq, e1, e3, e4, hgk, c1, c2, c3]
        refine ih _ _ _ (by omega) hdk.ext (by omega) _ ?_
        rintro _ _ rfl ⟨J3, rfl⟩
        have hld := listFault_drop hlt
        simp (disch := (first | decide | omega | (simp only [go_sem, e1, e3, e4]; done) | (simp only [go_sem, e1, e3, e4]; omega))) only [go_sem, ↓reduceIte, Nat.reduceEqDiff, Nat.reduceAdd, Nat.reduceSub, Nat.reduceMul, Nat.reduceLT, Nat.reduceLeDiff, Int.reduceEq, Int.reduceLT, Int.reduceLE, Int.reduceAdd, Int.reduceSub, Int.reduceMul, Int.reduceNeg, Int.reduceToNat, Int.reduceNe, reduceCtorEq, e1, e3, e4]
        refine ih2 (k + 1, nodesFault list[k]) _ _ (by simp only; omega) ⟨⟨_, rfl⟩, ?_⟩
        simp (disch := (first | decide | omega | (simp only [go_sem, e1, e3, e4, he]; done) | (simp only [go_sem, e1, e3, e4, he]; omega))) only [go_sem, ↓reduceIte, Nat.reduceEqDiff, Nat.reduceAdd, Nat.reduceSub, Nat.reduceMul, Nat.reduceLT, Nat.reduceLeDiff, Int.reduceEq, Int.reduceLT, Int.reduceLE, Int.reduceAdd, Int.reduceSub, Int.reduceMul, Int.reduceNeg, Int.reduceToNat, Int.reduceNe, reduceCtorEq, e1, e3, e4, he]
        refine ⟨by omega, ?_, rfl⟩
        rw [hlf, hld]
        grind
      · simp (disch := (first | decide | omega | (simp only [go_sem, e1, e3, e4]; done) | (simp only [go_sem, e1, e3, e4]; omega))) only [go_sem, ↓reduceIte, Nat.reduceEqDiff, Nat.reduceAdd, Nat.reduceSub, Nat.reduceMul, Nat.reduceLT, Nat.reduceLeDiff, Int.reduceEq, Int.reduceLT, Int.reduceLE, Int.reduceAdd, Int.reduceSub, Int.reduceMul, Int.reduceNeg, Int.reduceToNat, Int.reduceNe, reduceCtorEq, e1, e3, e4]
        refine q _ _ ?_ (by first | exact Ext.refl | exact ⟨_, rfl⟩)
        rw [hlf]
        by_cases hr : r = 0
        · have hke : k = list.length := by simp [hr] at hh; omega
          subst hke
          simp [hr, listFault]
        · simp [hr]
end Ve
end Go.Proofs.YtnociodpfmlglaaGreatDoor
