/-
  Check and Nodes: both, and the law about them.
-/
import Derived.Test.YtnociodpfmlglaaGreatDoorP7
set_option linter.unusedVariables false
set_option linter.unusedSimpArgs false
namespace Go.Proofs.YtnociodpfmlglaaGreatDoor
namespace Ve
open Go

theorem levels_kids {list : List Doc} {k : Nat} (h : k < list.length) : levels list[k] ≤ levelsL list := by
  have := levelsL_take h
  have h2 := levelsL_append (list.take (k + 1)) (list.drop (k + 1))
  rw [List.take_append_drop] at h2
  omega

theorem f77 {cs : List Value} {d : Doc} {m : Nat} {H : Heap} (hd : DocAt H cs d) (hb : bulk d ≤ 1000000000) (hm : m ≤ 1000000) {Q : Out → Prop} (q : ∀ v H', v = .bool (decide (m < levels d)) → Ext H H' → Q (.ret v H')) : Cl tab 77 [.agg ⟨cs⟩, .int .i64 m] H Q := by
  suffices h : ∀ n d cs (m : Nat) H, bulk d < n → DocAt H cs d → bulk d ≤ 1000000000 → m ≤ 1000000 → ∀ Q : Out → Prop, (∀ v H', v = .bool (decide (m < levels d)) → Ext H H' → Q (.ret v H')) → Cl tab 77 [.agg ⟨cs⟩, .int .i64 m] H Q from h (bulk d + 1) d cs m H (by omega) hd hb hm Q q
  clear hd hb hm q Q cs d m H
  intro n
  induction n with
  | zero => intro d cs m H hn; omega
  | succ n ih =>
    intro d cs m H hn hd hb hm Q q
    obtain ⟨c1, c2, c3⟩ := hd.cells
    obtain @⟨kind, b, num, text, list, keys, la, lc, ka, kc, cs, hi, hk, hg, hdl⟩ := hd
    simp only [bulk] at hn hb
    have hbl := nodesL_bulk list
    have hll := length_le_nodesL list
    simp only [levels] at q
    apply e77
    simp (disch := (first | decide | omega | (simp only [go_sem, c1, c2, c3]; done) | (simp only [go_sem, c1, c2, c3]; omega))) only [go_sem, ↓reduceIte, Nat.reduceEqDiff, Nat.reduceAdd, Nat.reduceSub, Nat.reduceMul, Nat.reduceLT, Nat.reduceLeDiff, Int.reduceEq, Int.reduceLT, Int.reduceLE, Int.reduceAdd, Int.reduceSub, Int.reduceMul, Int.reduceNeg, Int.reduceToNat, Int.reduceNe, reduceCtorEq, c1, c2, c3]
    refine brK_of (fun h0 => ?_) (fun h0 => ?_)
    · simp (disch := (first | decide | omega | (simp only [go_sem]; done) | (simp only [go_sem]; omega))) only [go_sem, ↓reduceIte, Nat.reduceEqDiff, Nat.reduceAdd, Nat.reduceSub, Nat.reduceMul, Nat.reduceLT, Nat.reduceLeDiff, Int.reduceEq, Int.reduceLT, Int.reduceLE, Int.reduceAdd, Int.reduceSub, Int.reduceMul, Int.reduceNeg, Int.reduceToNat, Int.reduceNe, reduceCtorEq]
      simp at h0
      refine q _ _ ?_ (by first | exact Ext.refl | exact ⟨_, rfl⟩)
      subst h0
      simp
    simp at h0
    have hm1 : 1 ≤ m := by omega
    simp (disch := (first | decide | omega | (simp only [go_sem]; done) | (simp only [go_sem]; omega))) only [go_sem, ↓reduceIte, Nat.reduceEqDiff, Nat.reduceAdd, Nat.reduceSub, Nat.reduceMul, Nat.reduceLT, Nat.reduceLeDiff, Int.reduceEq, Int.reduceLT, Int.reduceLE, Int.reduceAdd, Int.reduceSub, Int.reduceMul, Int.reduceNeg, Int.reduceToNat, Int.reduceNe, reduceCtorEq]
    refine w77_10 (ι := Nat) 0 (fun k e h => (∃ J, h = H ++ (.cells [.int .i64 kind, .bool b, .bool num.neg, strOf num.dig, .int .i64 num.exp, strOf text, .slice la list.length lc, .slice ka keys.length kc] (.fix (some 27)) 0 :: J)) ∧ e.length = 23 ∧ k ≤ list.length ∧ levelsL (list.take k) ≤ m - 1 ∧ gt e 1 = .int .i64 m ∧ gt e 2 = .pointer (some ⟨H.length, 0, none⟩) ∧ gt e 5 = .int .i64 k) (fun k => list.length - k) ?_ ?_
    · refine ⟨⟨_, rfl⟩, ?_⟩
      simp (disch := (first | decide | omega | (simp only [go_sem]; done) | (simp only [go_sem]; omega))) only [go_sem, ↓reduceIte, Nat.reduceEqDiff, Nat.reduceAdd, Nat.reduceSub, Nat.reduceMul, Nat.reduceLT, Nat.reduceLeDiff, Int.reduceEq, Int.reduceLT, Int.reduceLE, Int.reduceAdd, Int.reduceSub, Int.reduceMul, Int.reduceNeg, Int.reduceToNat, Int.reduceNe, reduceCtorEq]
      simp [levelsL]
    · rintro k e h ⟨⟨J2, rfl⟩, he, hk1, hlv, e1, e2, e5⟩ ih2
      simp (disch := (first | decide | omega | (simp only [go_sem, e1, e2, e5]; done) | (simp only [go_sem, e1, e2, e5]; omega))) only [go_sem, ↓reduceIte, Nat.reduceEqDiff, Nat.reduceAdd, Nat.reduceSub, Nat.reduceMul, Nat.reduceLT, Nat.reduceLeDiff, Int.reduceEq, Int.reduceLT, Int.reduceLE, Int.reduceAdd, Int.reduceSub, Int.reduceMul, Int.reduceNeg, Int.reduceToNat, Int.reduceNe, reduceCtorEq, e1, e2, e5]
      refine brK_prop (fun hh => ?_) (fun hh => ?_)
      · have hlt : k < list.length := by omega
        obtain ⟨i, o, s, rfl, hgk⟩ := elAt_some (hg k hlt)
        have hdk := hdl k hlt
        obtain ⟨c1, c2, c3⟩ := hdk.cells
        have hil := getN_lt hgk
        have hnk := bulk_le hlt
        have hvk := levels_kids hlt
        have hvt := levelsL_take hlt
        have hm1 : ((m : Int) - 1) = ((m - 1 : Nat) : Int) := by omega
        simp (disch := (first | decide | omega | (simp only [go_sem, e1, e2, e5, hgk, c1, c2, c3]; done) | (simp only [go_sem, e1, e2, e5, hgk, c1, c2, c3]; omega))) only [go_sem, ↓reduceIte, Nat.reduceEqDiff, Nat.reduceAdd, Nat.reduceSub, Nat.reduceMul, Nat.reduceLT, Nat.reduceLeDiff, Int.reduceEq, Int.reduceLT, Int.reduceLE, Int.reduceAdd, Int.reduceSub, Int.reduceMul, Int.reduceNeg, Int.reduceToNat, Int.reduceNe, reduceCtorEq, e1, e2, e5, hgk, c1, c2, c3]
        rw [hm1]
        refine ih _ _ _ _ (by omega) hdk.ext (by omega) (by omega) _ ?_
        rintro _ _ rfl ⟨J3, rfl⟩
        simp (disch := (first | decide | omega | (simp only [go_sem, e1, e2, e5]; done) | (simp only [go_sem, e1, e2, e5]; omega))) only [go_sem, ↓reduceIte, Nat.reduceEqDiff, Nat.reduceAdd, Nat.reduceSub, Nat.reduceMul, Nat.reduceLT, Nat.reduceLeDiff, Int.reduceEq, Int.reduceLT, Int.reduceLE, Int.reduceAdd, Int.reduceSub, Int.reduceMul, Int.reduceNeg, Int.reduceToNat, Int.reduceNe, reduceCtorEq, e1, e2, e5]
        refine brK_prop (fun h2 => ?_) (fun h2 => ?_)
        · simp (disch := (first | decide | omega | (simp only [go_sem]; done) | (simp only [go_sem]; omega))) only [go_sem, ↓reduceIte, Nat.reduceEqDiff, Nat.reduceAdd, Nat.reduceSub, Nat.reduceMul, Nat.reduceLT, Nat.reduceLeDiff, Int.reduceEq, Int.reduceLT, Int.reduceLE, Int.reduceAdd, Int.reduceSub, Int.reduceMul, Int.reduceNeg, Int.reduceToNat, Int.reduceNe, reduceCtorEq]
          exact q _ _ (by first | rfl | (simp []; done) | grind []) (by first | exact Ext.refl | exact ⟨_, rfl⟩)
        simp (disch := (first | decide | omega | (simp only [go_sem, e1, e2, e5]; done) | (simp only [go_sem, e1, e2, e5]; omega))) only [go_sem, ↓reduceIte, Nat.reduceEqDiff, Nat.reduceAdd, Nat.reduceSub, Nat.reduceMul, Nat.reduceLT, Nat.reduceLeDiff, Int.reduceEq, Int.reduceLT, Int.reduceLE, Int.reduceAdd, Int.reduceSub, Int.reduceMul, Int.reduceNeg, Int.reduceToNat, Int.reduceNe, reduceCtorEq, e1, e2, e5]
        refine ih2 (k + 1) _ _ (by omega) ⟨⟨_, rfl⟩, ?_⟩
        simp (disch := (first | decide | omega | (simp only [go_sem, e1, e2, e5, he]; done) | (simp only [go_sem, e1, e2, e5, he]; omega))) only [go_sem, ↓reduceIte, Nat.reduceEqDiff, Nat.reduceAdd, Nat.reduceSub, Nat.reduceMul, Nat.reduceLT, Nat.reduceLeDiff, Int.reduceEq, Int.reduceLT, Int.reduceLE, Int.reduceAdd, Int.reduceSub, Int.reduceMul, Int.reduceNeg, Int.reduceToNat, Int.reduceNe, reduceCtorEq, e1, e2, e5, he]
        refine ⟨by omega, by omega, rfl⟩
      · have hke : k = list.length := by omega
        subst hke
        rw [List.take_length] at hlv
        simp (disch := (first | decide | omega | (simp only [go_sem, e1, e2, e5]; done) | (simp only [go_sem, e1, e2, e5]; omega))) only [go_sem, ↓reduceIte, Nat.reduceEqDiff, Nat.reduceAdd, Nat.reduceSub, Nat.reduceMul, Nat.reduceLT, Nat.reduceLeDiff, Int.reduceEq, Int.reduceLT, Int.reduceLE, Int.reduceAdd, Int.reduceSub, Int.reduceMul, Int.reduceNeg, Int.reduceToNat, Int.reduceNe, reduceCtorEq, e1, e2, e5]
        refine q _ _ ?_ (by first | exact Ext.refl | exact ⟨_, rfl⟩)
        have hnn : ¬ (m < levelsL list + 1) := by omega
        simp [hnn]

theorem f78 {cs : List Value} {d : Doc} {m : Nat} {H : Heap} (hd : DocAt H cs d) (hb : bulk d ≤ 1000000000) (hm : m ≤ 1000000) {Q : Out → Prop} (q : ∀ (r : Nat) H', r ≤ nodes d → 1 ≤ r → (r ≤ m → r = nodes d) → Ext H H' → Q (.ret (.int .i64 r) H')) : Cl tab 78 [.agg ⟨cs⟩, .int .i64 m] H Q := by
  suffices h : ∀ n d cs (m : Nat) H, bulk d < n → DocAt H cs d → bulk d ≤ 1000000000 → m ≤ 1000000 → ∀ Q : Out → Prop, (∀ (r : Nat) H', r ≤ nodes d → 1 ≤ r → (r ≤ m → r = nodes d) → Ext H H' → Q (.ret (.int .i64 r) H')) → Cl tab 78 [.agg ⟨cs⟩, .int .i64 m] H Q from h (bulk d + 1) d cs m H (by omega) hd hb hm Q q
  clear hd hb hm q Q cs d m H
  intro n
  induction n with
  | zero => intro d cs m H hn; omega
  | succ n ih =>
    intro d cs m H hn hd hb hm Q q
    obtain ⟨c1, c2, c3⟩ := hd.cells
    obtain @⟨kind, b, num, text, list, keys, la, lc, ka, kc, cs, hi, hk, hg, hdl⟩ := hd
    simp only [bulk] at hn hb
    have hbl := nodesL_bulk list
    have hll := length_le_nodesL list
    simp only [nodes] at q
    apply e78
    simp (disch := (first | decide | omega | (simp only [go_sem, c1, c2, c3]; done) | (simp only [go_sem, c1, c2, c3]; omega))) only [go_sem, ↓reduceIte, Nat.reduceEqDiff, Nat.reduceAdd, Nat.reduceSub, Nat.reduceMul, Nat.reduceLT, Nat.reduceLeDiff, Int.reduceEq, Int.reduceLT, Int.reduceLE, Int.reduceAdd, Int.reduceSub, Int.reduceMul, Int.reduceNeg, Int.reduceToNat, Int.reduceNe, reduceCtorEq, c1, c2, c3]
    refine w78_7 (ι := Nat × Nat) (0, 1) (fun ⟨k, r⟩ e h => (∃ J, h = H ++ (.cells [.int .i64 kind, .bool b, .bool num.neg, strOf num.dig, .int .i64 num.exp, strOf text, .slice la list.length lc, .slice ka keys.length kc] (.fix (some 27)) 0 :: J)) ∧ e.length = 31 ∧ k ≤ list.length ∧ 1 ≤ r ∧ r ≤ 1 + nodesL (list.take k) ∧ (r ≤ m → r = 1 + nodesL (list.take k)) ∧ gt e 1 = .int .i64 m ∧ gt e 2 = .pointer (some ⟨H.length, 0, none⟩) ∧ gt e 5 = .int .i64 r ∧ gt e 6 = .int .i64 k) (fun ⟨k, r⟩ => list.length - k) ?_ ?_
    · refine ⟨⟨_, rfl⟩, ?_⟩
      simp (disch := (first | decide | omega | (simp only [go_sem]; done) | (simp only [go_sem]; omega))) only [go_sem, ↓reduceIte, Nat.reduceEqDiff, Nat.reduceAdd, Nat.reduceSub, Nat.reduceMul, Nat.reduceLT, Nat.reduceLeDiff, Int.reduceEq, Int.reduceLT, Int.reduceLE, Int.reduceAdd, Int.reduceSub, Int.reduceMul, Int.reduceNeg, Int.reduceToNat, Int.reduceNe, reduceCtorEq]
      simp [nodesL]
    · rintro ⟨k, r⟩ e h ⟨⟨J2, rfl⟩, he, hk1, hr1, hr2, hr3, e1, e2, e5, e6⟩ ih2
      have htl := nodesL_take_le list k
      simp (disch := (first | decide | omega | (simp only [go_sem, e1, e2, e5, e6]; done) | (simp only [go_sem, e1, e2, e5, e6]; omega))) only [go_sem, ↓reduceIte, Nat.reduceEqDiff, Nat.reduceAdd, Nat.reduceSub, Nat.reduceMul, Nat.reduceLT, Nat.reduceLeDiff, Int.reduceEq, Int.reduceLT, Int.reduceLE, Int.reduceAdd, Int.reduceSub, Int.reduceMul, Int.reduceNeg, Int.reduceToNat, Int.reduceNe, reduceCtorEq, e1, e2, e5, e6]
      (repeat (refine guO_merge (fun hb => by (have hb' := hb; (try simp only [nrm] at hb'); have hc := hb; (try simp only [Bool.and_eq_true] at hc); first | (simp (disch := (first | decide | omega | (simp only [go_sem, hb, e1, e2, e5, e6]; done) | (simp only [go_sem, hb, e1, e2, e5, e6]; omega))) only [go_sem, ↓reduceIte, Nat.reduceEqDiff, Nat.reduceAdd, Nat.reduceSub, Nat.reduceMul, Nat.reduceLT, Nat.reduceLeDiff, Int.reduceEq, Int.reduceLT, Int.reduceLE, Int.reduceAdd, Int.reduceSub, Int.reduceMul, Int.reduceNeg, Int.reduceToNat, Int.reduceNe, reduceCtorEq, hb, e1, e2, e5, e6]; rfl) | (simp (disch := (first | decide | omega | (simp only [go_sem, hc, e1, e2, e5, e6]; done) | (simp only [go_sem, hc, e1, e2, e5, e6]; omega))) only [go_sem, ↓reduceIte, Nat.reduceEqDiff, Nat.reduceAdd, Nat.reduceSub, Nat.reduceMul, Nat.reduceLT, Nat.reduceLeDiff, Int.reduceEq, Int.reduceLT, Int.reduceLE, Int.reduceAdd, Int.reduceSub, Int.reduceMul, Int.reduceNeg, Int.reduceToNat, Int.reduceNe, reduceCtorEq, hc, e1, e2, e5, e6]; rfl))) rfl ?_; simp (disch := (first | decide | omega | (simp only [go_sem, e1, e2, e5, e6]; done) | (simp only [go_sem, e1, e2, e5, e6]; omega))) only [go_sem, ↓reduceIte, Nat.reduceEqDiff, Nat.reduceAdd, Nat.reduceSub, Nat.reduceMul, Nat.reduceLT, Nat.reduceLeDiff, Int.reduceEq, Int.reduceLT, Int.reduceLE, Int.reduceAdd, Int.reduceSub, Int.reduceMul, Int.reduceNeg, Int.reduceToNat, Int.reduceNe, reduceCtorEq, e1, e2, e5, e6]))
      refine brK_of (fun hh => ?_) (fun hh => ?_)
      · simp only [nrm] at hh
        obtain ⟨hh1, hh2⟩ := hh
        have hlt : k < list.length := by omega
        obtain ⟨i, o, s, rfl, hgk⟩ := elAt_some (hg k hlt)
        have hdk := hdl k hlt
        obtain ⟨c1, c2, c3⟩ := hdk.cells
        have hil := getN_lt hgk
        have hnk := bulk_le hlt
        have htk := nodesL_take hlt
        have htl2 := nodesL_take_le list (k + 1)
        have hm1 : ((m : Int) - r) = ((m - r : Nat) : Int) := by omega
        simp (disch := (first | decide | omega | (simp only [go_sem, e1, e2, e5, e6, hgk, c1, c2, c3]; done) | (simp only [go_sem, e1, e2, e5, e6, hgk, c1, c2, c3]; omega))) only [go_sem, ↓reduceIte, Nat.reduceEqDiff, Nat.reduceAdd, Nat.reduceSub, Nat.reduceMul, Nat.reduceLT, Nat.reduceLeDiff, Int.reduceEq, Int.reduceLT, Int.reduceLE, Int.reduceAdd, Int.reduceSub, Int.reduceMul, Int.reduceNeg, Int.reduceToNat, Int.reduceNe, reduceCtorEq, e1, e2, e5, e6, hgk, c1, c2, c3]
        rw [hm1]
        refine ih _ _ _ _ (by omega) hdk.ext (by omega) (by omega) _ ?_
        rintro r2 _ g1 g2 g3 ⟨J3, rfl⟩
        simp (disch := (first | decide | omega | (simp only [go_sem, e1, e2, e5, e6]; done) | (simp only [go_sem, e1, e2, e5, e6]; omega))) only [go_sem, ↓reduceIte, Nat.reduceEqDiff, Nat.reduceAdd, Nat.reduceSub, Nat.reduceMul, Nat.reduceLT, Nat.reduceLeDiff, Int.reduceEq, Int.reduceLT, Int.reduceLE, Int.reduceAdd, Int.reduceSub, Int.reduceMul, Int.reduceNeg, Int.reduceToNat, Int.reduceNe, reduceCtorEq, e1, e2, e5, e6]
        refine ih2 (k + 1, r + r2) _ _ (by simp only; omega) ⟨⟨_, rfl⟩, ?_⟩
        simp (disch := (first | decide | omega | (simp only [go_sem, e1, e2, e5, e6, he]; done) | (simp only [go_sem, e1, e2, e5, e6, he]; omega))) only [go_sem, ↓reduceIte, Nat.reduceEqDiff, Nat.reduceAdd, Nat.reduceSub, Nat.reduceMul, Nat.reduceLT, Nat.reduceLeDiff, Int.reduceEq, Int.reduceLT, Int.reduceLE, Int.reduceAdd, Int.reduceSub, Int.reduceMul, Int.reduceNeg, Int.reduceToNat, Int.reduceNe, reduceCtorEq, e1, e2, e5, e6, he]
        refine ⟨by omega, by omega, by omega, fun _ => ?_, ?_, rfl⟩
        · have := hr3 (by omega); have := g3 (by omega); omega
        · congr 1
      · simp (disch := (first | decide | omega | (simp only [go_sem, e1, e2, e5, e6]; done) | (simp only [go_sem, e1, e2, e5, e6]; omega))) only [go_sem, ↓reduceIte, Nat.reduceEqDiff, Nat.reduceAdd, Nat.reduceSub, Nat.reduceMul, Nat.reduceLT, Nat.reduceLeDiff, Int.reduceEq, Int.reduceLT, Int.reduceLE, Int.reduceAdd, Int.reduceSub, Int.reduceMul, Int.reduceNeg, Int.reduceToNat, Int.reduceNe, reduceCtorEq, e1, e2, e5, e6]
        refine q r _ (by omega) hr1 (fun hrm => ?_) (by first | exact Ext.refl | exact ⟨_, rfl⟩)
        simp at hh
        have := hr3 hrm
        have hke : k = list.length := by omega
        subst hke
        rw [List.take_length] at this
        omega

def docFault (d : Doc) : Int := if sizeFault d ≠ 0 then sizeFault d else nodesFault d
theorem f20 {cs : List Value} {d : Doc} {H : Heap} (hd : DocAt H cs d) (hb : bulk d ≤ 1000000000) {Q : Out → Prop} (q : ∀ v H', v = .int .i64 (docFault d) → Ext H H' → Q (.ret v H')) : Cl tab 20 [.agg ⟨cs⟩] H Q := by
  obtain ⟨c1, c2, c3⟩ := hd.cells
  apply e20
  simp (disch := (first | decide | omega | (simp only [go_sem, c1, c2, c3]; done) | (simp only [go_sem, c1, c2, c3]; omega))) only [go_sem, ↓reduceIte, Nat.reduceEqDiff, Nat.reduceAdd, Nat.reduceSub, Nat.reduceMul, Nat.reduceLT, Nat.reduceLeDiff, Int.reduceEq, Int.reduceLT, Int.reduceLE, Int.reduceAdd, Int.reduceSub, Int.reduceMul, Int.reduceNeg, Int.reduceToNat, Int.reduceNe, reduceCtorEq, c1, c2, c3]
  refine f75 hd.ext hb ?_
  rintro _ _ rfl ⟨J, rfl⟩
  simp (disch := (first | decide | omega | (simp only [go_sem, c1, c2, c3]; done) | (simp only [go_sem, c1, c2, c3]; omega))) only [go_sem, ↓reduceIte, Nat.reduceEqDiff, Nat.reduceAdd, Nat.reduceSub, Nat.reduceMul, Nat.reduceLT, Nat.reduceLeDiff, Int.reduceEq, Int.reduceLT, Int.reduceLE, Int.reduceAdd, Int.reduceSub, Int.reduceMul, Int.reduceNeg, Int.reduceToNat, Int.reduceNe, reduceCtorEq, c1, c2, c3]
  refine brK_of (fun h1 => ?_) (fun h1 => ?_)
  · simp (disch := (first | decide | omega | (simp only [go_sem]; done) | (simp only [go_sem]; omega))) only [go_sem, ↓reduceIte, Nat.reduceEqDiff, Nat.reduceAdd, Nat.reduceSub, Nat.reduceMul, Nat.reduceLT, Nat.reduceLeDiff, Int.reduceEq, Int.reduceLT, Int.reduceLE, Int.reduceAdd, Int.reduceSub, Int.reduceMul, Int.reduceNeg, Int.reduceToNat, Int.reduceNe, reduceCtorEq]
    exact q _ _ (by first | rfl | (simp [docFault]; done) | grind [docFault]) (by first | exact Ext.refl | exact ⟨_, rfl⟩)
  simp (disch := (first | decide | omega | (simp only [go_sem, c1, c2, c3]; done) | (simp only [go_sem, c1, c2, c3]; omega))) only [go_sem, ↓reduceIte, Nat.reduceEqDiff, Nat.reduceAdd, Nat.reduceSub, Nat.reduceMul, Nat.reduceLT, Nat.reduceLeDiff, Int.reduceEq, Int.reduceLT, Int.reduceLE, Int.reduceAdd, Int.reduceSub, Int.reduceMul, Int.reduceNeg, Int.reduceToNat, Int.reduceNe, reduceCtorEq, c1, c2, c3]
  refine f76 hd.ext hb ?_
  rintro _ _ rfl ⟨J2, rfl⟩
  simp (disch := (first | decide | omega | (simp only [go_sem]; done) | (simp only [go_sem]; omega))) only [go_sem, ↓reduceIte, Nat.reduceEqDiff, Nat.reduceAdd, Nat.reduceSub, Nat.reduceMul, Nat.reduceLT, Nat.reduceLeDiff, Int.reduceEq, Int.reduceLT, Int.reduceLE, Int.reduceAdd, Int.reduceSub, Int.reduceMul, Int.reduceNeg, Int.reduceToNat, Int.reduceNe, reduceCtorEq]
  exact q _ _ (by first | rfl | (simp [docFault]; done) | grind [docFault]) (by first | exact Ext.refl | exact ⟨_, rfl⟩)

theorem f21 {cs : List Value} {d : Doc} {H : Heap} (hd : DocAt H cs d) (hb : bulk d ≤ 1000000000) {Q : Out → Prop} (q : ∀ v H', v = .int .i64 (docFault d) → Ext H H' → Q (.ret v H')) : Cl tab 21 [.agg ⟨cs⟩] H Q := by
  obtain ⟨c1, c2, c3⟩ := hd.cells
  apply e21
  simp (disch := (first | decide | omega | (simp only [go_sem, c1, c2, c3]; done) | (simp only [go_sem, c1, c2, c3]; omega))) only [go_sem, ↓reduceIte, Nat.reduceEqDiff, Nat.reduceAdd, Nat.reduceSub, Nat.reduceMul, Nat.reduceLT, Nat.reduceLeDiff, Int.reduceEq, Int.reduceLT, Int.reduceLE, Int.reduceAdd, Int.reduceSub, Int.reduceMul, Int.reduceNeg, Int.reduceToNat, Int.reduceNe, reduceCtorEq, c1, c2, c3]
  refine f77 (m := 60) hd.ext hb (by omega) ?_
  rintro _ _ rfl ⟨J, rfl⟩
  simp (disch := (first | decide | omega | (simp only [go_sem, c1, c2, c3]; done) | (simp only [go_sem, c1, c2, c3]; omega))) only [go_sem, ↓reduceIte, Nat.reduceEqDiff, Nat.reduceAdd, Nat.reduceSub, Nat.reduceMul, Nat.reduceLT, Nat.reduceLeDiff, Int.reduceEq, Int.reduceLT, Int.reduceLE, Int.reduceAdd, Int.reduceSub, Int.reduceMul, Int.reduceNeg, Int.reduceToNat, Int.reduceNe, reduceCtorEq, c1, c2, c3]
  by_cases h0 : 60 < levels d
  · simp (disch := (first | decide | omega | (simp only [go_sem, h0]; done) | (simp only [go_sem, h0]; omega))) only [go_sem, ↓reduceIte, Nat.reduceEqDiff, Nat.reduceAdd, Nat.reduceSub, Nat.reduceMul, Nat.reduceLT, Nat.reduceLeDiff, Int.reduceEq, Int.reduceLT, Int.reduceLE, Int.reduceAdd, Int.reduceSub, Int.reduceMul, Int.reduceNeg, Int.reduceToNat, Int.reduceNe, reduceCtorEq, h0]
    exact q _ _ (by first | rfl | (simp [docFault, sizeFault]; done) | grind [docFault, sizeFault]) (by first | exact Ext.refl | exact ⟨_, rfl⟩)
  simp (disch := (first | decide | omega | (simp only [go_sem, h0]; done) | (simp only [go_sem, h0]; omega))) only [go_sem, ↓reduceIte, Nat.reduceEqDiff, Nat.reduceAdd, Nat.reduceSub, Nat.reduceMul, Nat.reduceLT, Nat.reduceLeDiff, Int.reduceEq, Int.reduceLT, Int.reduceLE, Int.reduceAdd, Int.reduceSub, Int.reduceMul, Int.reduceNeg, Int.reduceToNat, Int.reduceNe, reduceCtorEq, h0]
  have hx : DocAt (H ++ .cells cs (.fix (some 27)) 0 :: J) cs d := hd.ext
  simp (disch := (first | decide | omega | (simp only [go_sem, h0, c1, c2, c3]; done) | (simp only [go_sem, h0, c1, c2, c3]; omega))) only [go_sem, ↓reduceIte, Nat.reduceEqDiff, Nat.reduceAdd, Nat.reduceSub, Nat.reduceMul, Nat.reduceLT, Nat.reduceLeDiff, Int.reduceEq, Int.reduceLT, Int.reduceLE, Int.reduceAdd, Int.reduceSub, Int.reduceMul, Int.reduceNeg, Int.reduceToNat, Int.reduceNe, reduceCtorEq, h0, c1, c2, c3]
  refine f78 (m := 20000) hx hb (by omega) ?_
  rintro r _ g1 g2 g3 ⟨J2, rfl⟩
  simp (disch := (first | decide | omega | (simp only [go_sem, h0]; done) | (simp only [go_sem, h0]; omega))) only [go_sem, ↓reduceIte, Nat.reduceEqDiff, Nat.reduceAdd, Nat.reduceSub, Nat.reduceMul, Nat.reduceLT, Nat.reduceLeDiff, Int.reduceEq, Int.reduceLT, Int.reduceLE, Int.reduceAdd, Int.reduceSub, Int.reduceMul, Int.reduceNeg, Int.reduceToNat, Int.reduceNe, reduceCtorEq, h0]
  refine brK_prop (fun h1 => ?_) (fun h1 => ?_)
  · simp (disch := (first | decide | omega | (simp only [go_sem]; done) | (simp only [go_sem]; omega))) only [go_sem, ↓reduceIte, Nat.reduceEqDiff, Nat.reduceAdd, Nat.reduceSub, Nat.reduceMul, Nat.reduceLT, Nat.reduceLeDiff, Int.reduceEq, Int.reduceLT, Int.reduceLE, Int.reduceAdd, Int.reduceSub, Int.reduceMul, Int.reduceNeg, Int.reduceToNat, Int.reduceNe, reduceCtorEq]
    have : 20000 < nodes d := by omega
    exact q _ _ (by first | rfl | (simp [docFault, sizeFault]; done) | grind [docFault, sizeFault]) (by first | exact Ext.refl | exact ⟨_, rfl⟩)
  simp (disch := (first | decide | omega | (simp only [go_sem, c1, c2, c3]; done) | (simp only [go_sem, c1, c2, c3]; omega))) only [go_sem, ↓reduceIte, Nat.reduceEqDiff, Nat.reduceAdd, Nat.reduceSub, Nat.reduceMul, Nat.reduceLT, Nat.reduceLeDiff, Int.reduceEq, Int.reduceLT, Int.reduceLE, Int.reduceAdd, Int.reduceSub, Int.reduceMul, Int.reduceNeg, Int.reduceToNat, Int.reduceNe, reduceCtorEq, c1, c2, c3]
  refine f79 hd.ext hb ?_
  rintro _ _ rfl ⟨J3, rfl⟩
  simp (disch := (first | decide | omega | (simp only [go_sem]; done) | (simp only [go_sem]; omega))) only [go_sem, ↓reduceIte, Nat.reduceEqDiff, Nat.reduceAdd, Nat.reduceSub, Nat.reduceMul, Nat.reduceLT, Nat.reduceLeDiff, Int.reduceEq, Int.reduceLT, Int.reduceLE, Int.reduceAdd, Int.reduceSub, Int.reduceMul, Int.reduceNeg, Int.reduceToNat, Int.reduceNe, reduceCtorEq]
  have : nodes d ≤ 20000 := by have := g3 (by omega); omega
  exact q _ _ (by first | rfl | (simp [docFault, sizeFault]; done) | grind [docFault, sizeFault]) (by first | exact Ext.refl | exact ⟨_, rfl⟩)

theorem docFault_nodes {d : Doc} (h : docFault d = 0) : nodes d ≤ 20000 ∧ levels d ≤ 60 ∧ nodesFault d = 0 := by
  unfold docFault sizeFault at h
  by_cases h1 : 20000 < nodes d ∨ 60 < levels d
  · simp [h1] at h
  · simp only [h1, if_false, ne_eq, not_true_eq_false] at h
    exact ⟨by omega, by omega, h⟩

theorem f22 {cs : List Value} {d : Doc} {H : Heap} (hd : DocAt H cs d) (hb : bulk d ≤ 1000000000) {Q : Out → Prop} (q : ∀ v H', v = .tuple ⟨[.int .i64 (if docFault d = 0 then nodes d else 0), .int .i64 (docFault d)]⟩ → Ext H H' → Q (.ret v H')) : Cl tab 22 [.agg ⟨cs⟩] H Q := by
  have hnb := nodes_bulk d
  obtain ⟨c1, c2, c3⟩ := hd.cells
  apply e22
  simp (disch := (first | decide | omega | (simp only [go_sem, c1, c2, c3]; done) | (simp only [go_sem, c1, c2, c3]; omega))) only [go_sem, ↓reduceIte, Nat.reduceEqDiff, Nat.reduceAdd, Nat.reduceSub, Nat.reduceMul, Nat.reduceLT, Nat.reduceLeDiff, Int.reduceEq, Int.reduceLT, Int.reduceLE, Int.reduceAdd, Int.reduceSub, Int.reduceMul, Int.reduceNeg, Int.reduceToNat, Int.reduceNe, reduceCtorEq, c1, c2, c3]
  refine f20 hd.ext hb ?_
  rintro _ _ rfl ⟨J, rfl⟩
  simp (disch := (first | decide | omega | (simp only [go_sem, c1, c2, c3]; done) | (simp only [go_sem, c1, c2, c3]; omega))) only [go_sem, ↓reduceIte, Nat.reduceEqDiff, Nat.reduceAdd, Nat.reduceSub, Nat.reduceMul, Nat.reduceLT, Nat.reduceLeDiff, Int.reduceEq, Int.reduceLT, Int.reduceLE, Int.reduceAdd, Int.reduceSub, Int.reduceMul, Int.reduceNeg, Int.reduceToNat, Int.reduceNe, reduceCtorEq, c1, c2, c3]
  refine brK_of (fun h1 => ?_) (fun h1 => ?_)
  · simp (disch := (first | decide | omega | (simp only [go_sem]; done) | (simp only [go_sem]; omega))) only [go_sem, ↓reduceIte, Nat.reduceEqDiff, Nat.reduceAdd, Nat.reduceSub, Nat.reduceMul, Nat.reduceLT, Nat.reduceLeDiff, Int.reduceEq, Int.reduceLT, Int.reduceLE, Int.reduceAdd, Int.reduceSub, Int.reduceMul, Int.reduceNeg, Int.reduceToNat, Int.reduceNe, reduceCtorEq]
    exact q _ _ (by first | rfl | (simp []; done) | grind []) (by first | exact Ext.refl | exact ⟨_, rfl⟩)
  simp (disch := (first | decide | omega | (simp only [go_sem, c1, c2, c3]; done) | (simp only [go_sem, c1, c2, c3]; omega))) only [go_sem, ↓reduceIte, Nat.reduceEqDiff, Nat.reduceAdd, Nat.reduceSub, Nat.reduceMul, Nat.reduceLT, Nat.reduceLeDiff, Int.reduceEq, Int.reduceLT, Int.reduceLE, Int.reduceAdd, Int.reduceSub, Int.reduceMul, Int.reduceNeg, Int.reduceToNat, Int.reduceNe, reduceCtorEq, c1, c2, c3]
  refine f80 hd.ext (by omega) (fun J => ?_)
  simp (disch := (first | decide | omega | (simp only [go_sem]; done) | (simp only [go_sem]; omega))) only [go_sem, ↓reduceIte, Nat.reduceEqDiff, Nat.reduceAdd, Nat.reduceSub, Nat.reduceMul, Nat.reduceLT, Nat.reduceLeDiff, Int.reduceEq, Int.reduceLT, Int.reduceLE, Int.reduceAdd, Int.reduceSub, Int.reduceMul, Int.reduceNeg, Int.reduceToNat, Int.reduceNe, reduceCtorEq]
  exact q _ _ (by first | rfl | (simp []; done) | grind []) (by first | exact Ext.refl | exact ⟨_, rfl⟩)

theorem f23 {cs : List Value} {d : Doc} {H : Heap} (hd : DocAt H cs d) (hb : bulk d ≤ 1000000000) {Q : Out → Prop} (q : ∀ v H', v = .tuple ⟨[.int .i64 (if docFault d = 0 then nodes d else 0), .int .i64 (docFault d)]⟩ → Ext H H' → Q (.ret v H')) : Cl tab 23 [.agg ⟨cs⟩] H Q := by
  have hnb := nodes_bulk d
  obtain ⟨c1, c2, c3⟩ := hd.cells
  apply e23
  simp (disch := (first | decide | omega | (simp only [go_sem, c1, c2, c3]; done) | (simp only [go_sem, c1, c2, c3]; omega))) only [go_sem, ↓reduceIte, Nat.reduceEqDiff, Nat.reduceAdd, Nat.reduceSub, Nat.reduceMul, Nat.reduceLT, Nat.reduceLeDiff, Int.reduceEq, Int.reduceLT, Int.reduceLE, Int.reduceAdd, Int.reduceSub, Int.reduceMul, Int.reduceNeg, Int.reduceToNat, Int.reduceNe, reduceCtorEq, c1, c2, c3]
  refine f21 hd.ext hb ?_
  rintro _ _ rfl ⟨J, rfl⟩
  simp (disch := (first | decide | omega | (simp only [go_sem, c1, c2, c3]; done) | (simp only [go_sem, c1, c2, c3]; omega))) only [go_sem, ↓reduceIte, Nat.reduceEqDiff, Nat.reduceAdd, Nat.reduceSub, Nat.reduceMul, Nat.reduceLT, Nat.reduceLeDiff, Int.reduceEq, Int.reduceLT, Int.reduceLE, Int.reduceAdd, Int.reduceSub, Int.reduceMul, Int.reduceNeg, Int.reduceToNat, Int.reduceNe, reduceCtorEq, c1, c2, c3]
  refine brK_of (fun h1 => ?_) (fun h1 => ?_)
  · simp (disch := (first | decide | omega | (simp only [go_sem]; done) | (simp only [go_sem]; omega))) only [go_sem, ↓reduceIte, Nat.reduceEqDiff, Nat.reduceAdd, Nat.reduceSub, Nat.reduceMul, Nat.reduceLT, Nat.reduceLeDiff, Int.reduceEq, Int.reduceLT, Int.reduceLE, Int.reduceAdd, Int.reduceSub, Int.reduceMul, Int.reduceNeg, Int.reduceToNat, Int.reduceNe, reduceCtorEq]
    exact q _ _ (by first | rfl | (simp []; done) | grind []) (by first | exact Ext.refl | exact ⟨_, rfl⟩)
  have h2 : docFault d = 0 := by simpa using h1
  have h3 := docFault_nodes h2
  simp (disch := (first | decide | omega | (simp only [go_sem, c1, c2, c3]; done) | (simp only [go_sem, c1, c2, c3]; omega))) only [go_sem, ↓reduceIte, Nat.reduceEqDiff, Nat.reduceAdd, Nat.reduceSub, Nat.reduceMul, Nat.reduceLT, Nat.reduceLeDiff, Int.reduceEq, Int.reduceLT, Int.reduceLE, Int.reduceAdd, Int.reduceSub, Int.reduceMul, Int.reduceNeg, Int.reduceToNat, Int.reduceNe, reduceCtorEq, c1, c2, c3]
  refine f78 (m := 20000) hd.ext hb (by omega) ?_
  rintro r _ g1 g2 g3 ⟨J2, rfl⟩
  simp (disch := (first | decide | omega | (simp only [go_sem]; done) | (simp only [go_sem]; omega))) only [go_sem, ↓reduceIte, Nat.reduceEqDiff, Nat.reduceAdd, Nat.reduceSub, Nat.reduceMul, Nat.reduceLT, Nat.reduceLeDiff, Int.reduceEq, Int.reduceLT, Int.reduceLE, Int.reduceAdd, Int.reduceSub, Int.reduceMul, Int.reduceNeg, Int.reduceToNat, Int.reduceNe, reduceCtorEq]
  have g4 := g3 (by omega)
  subst g4
  exact q _ _ (by first | rfl | (simp []; done) | grind []) (by first | exact Ext.refl | exact ⟨_, rfl⟩)

theorem law3 {n : Num} {s : Str} {cs : List Value} {d : Doc} {H : Heap} (hd : DocAt H cs d) (hb : bulk d ≤ 1000000000) (hn : n.dig.length ≤ 1000000000) : Cl tab 3 [.agg ⟨[.bool n.neg, strOf n.dig, .int .i64 n.exp]⟩, strOf s, .agg ⟨cs⟩] H (fun out => ∃ H', out = .ret (.bool true) H') := by
  obtain ⟨c1, c2, c3⟩ := hd.cells
  have c4 := hd.beq
  apply e3
  simp (disch := (first | decide | omega | (simp only [go_sem, c1, c2, c3]; done) | (simp only [go_sem, c1, c2, c3]; omega))) only [go_sem, ↓reduceIte, Nat.reduceEqDiff, Nat.reduceAdd, Nat.reduceSub, Nat.reduceMul, Nat.reduceLT, Nat.reduceLeDiff, Int.reduceEq, Int.reduceLT, Int.reduceLE, Int.reduceAdd, Int.reduceSub, Int.reduceMul, Int.reduceNeg, Int.reduceToNat, Int.reduceNe, reduceCtorEq, c1, c2, c3]
  refine f16 (by omega) ?_
  rintro _ _ rfl ⟨J, rfl⟩
  simp (disch := (first | decide | omega | (simp only [go_sem, c1, c2, c3]; done) | (simp only [go_sem, c1, c2, c3]; omega))) only [go_sem, ↓reduceIte, Nat.reduceEqDiff, Nat.reduceAdd, Nat.reduceSub, Nat.reduceMul, Nat.reduceLT, Nat.reduceLeDiff, Int.reduceEq, Int.reduceLT, Int.reduceLE, Int.reduceAdd, Int.reduceSub, Int.reduceMul, Int.reduceNeg, Int.reduceToNat, Int.reduceNe, reduceCtorEq, c1, c2, c3]
  refine f17 (by omega) ?_
  rintro _ _ rfl ⟨J2, rfl⟩
  simp (disch := (first | decide | omega | (simp only [go_sem, c1, c2, c3]; done) | (simp only [go_sem, c1, c2, c3]; omega))) only [go_sem, ↓reduceIte, Nat.reduceEqDiff, Nat.reduceAdd, Nat.reduceSub, Nat.reduceMul, Nat.reduceLT, Nat.reduceLeDiff, Int.reduceEq, Int.reduceLT, Int.reduceLE, Int.reduceAdd, Int.reduceSub, Int.reduceMul, Int.reduceNeg, Int.reduceToNat, Int.reduceNe, reduceCtorEq, c1, c2, c3]
  refine f18 ?_
  rintro _ _ rfl ⟨J3, rfl⟩
  simp (disch := (first | decide | omega | (simp only [go_sem, c1, c2, c3]; done) | (simp only [go_sem, c1, c2, c3]; omega))) only [go_sem, ↓reduceIte, Nat.reduceEqDiff, Nat.reduceAdd, Nat.reduceSub, Nat.reduceMul, Nat.reduceLT, Nat.reduceLeDiff, Int.reduceEq, Int.reduceLT, Int.reduceLE, Int.reduceAdd, Int.reduceSub, Int.reduceMul, Int.reduceNeg, Int.reduceToNat, Int.reduceNe, reduceCtorEq, c1, c2, c3]
  refine f19 ?_
  rintro _ _ rfl ⟨J4, rfl⟩
  simp (disch := (first | decide | omega | (simp only [go_sem, c1, c2, c3]; done) | (simp only [go_sem, c1, c2, c3]; omega))) only [go_sem, ↓reduceIte, Nat.reduceEqDiff, Nat.reduceAdd, Nat.reduceSub, Nat.reduceMul, Nat.reduceLT, Nat.reduceLeDiff, Int.reduceEq, Int.reduceLT, Int.reduceLE, Int.reduceAdd, Int.reduceSub, Int.reduceMul, Int.reduceNeg, Int.reduceToNat, Int.reduceNe, reduceCtorEq, c1, c2, c3]
  refine f20 hd.ext hb ?_
  rintro _ _ rfl ⟨J5, rfl⟩
  simp (disch := (first | decide | omega | (simp only [go_sem, c1, c2, c3]; done) | (simp only [go_sem, c1, c2, c3]; omega))) only [go_sem, ↓reduceIte, Nat.reduceEqDiff, Nat.reduceAdd, Nat.reduceSub, Nat.reduceMul, Nat.reduceLT, Nat.reduceLeDiff, Int.reduceEq, Int.reduceLT, Int.reduceLE, Int.reduceAdd, Int.reduceSub, Int.reduceMul, Int.reduceNeg, Int.reduceToNat, Int.reduceNe, reduceCtorEq, c1, c2, c3]
  refine f21 hd.ext hb ?_
  rintro _ _ rfl ⟨J6, rfl⟩
  simp (disch := (first | decide | omega | (simp only [go_sem, c1, c2, c3, c4]; done) | (simp only [go_sem, c1, c2, c3, c4]; omega))) only [go_sem, ↓reduceIte, Nat.reduceEqDiff, Nat.reduceAdd, Nat.reduceSub, Nat.reduceMul, Nat.reduceLT, Nat.reduceLeDiff, Int.reduceEq, Int.reduceLT, Int.reduceLE, Int.reduceAdd, Int.reduceSub, Int.reduceMul, Int.reduceNeg, Int.reduceToNat, Int.reduceNe, reduceCtorEq, c1, c2, c3, c4]
  refine f22 hd.ext hb ?_
  rintro _ _ rfl ⟨J7, rfl⟩
  simp (disch := (first | decide | omega | (simp only [go_sem, c1, c2, c3, c4]; done) | (simp only [go_sem, c1, c2, c3, c4]; omega))) only [go_sem, ↓reduceIte, Nat.reduceEqDiff, Nat.reduceAdd, Nat.reduceSub, Nat.reduceMul, Nat.reduceLT, Nat.reduceLeDiff, Int.reduceEq, Int.reduceLT, Int.reduceLE, Int.reduceAdd, Int.reduceSub, Int.reduceMul, Int.reduceNeg, Int.reduceToNat, Int.reduceNe, reduceCtorEq, c1, c2, c3, c4]
  refine f23 hd.ext hb ?_
  rintro _ _ rfl ⟨J8, rfl⟩
  simp (disch := (first | decide | omega | (simp only [go_sem, c1, c2, c3, c4]; done) | (simp only [go_sem, c1, c2, c3, c4]; omega))) only [go_sem, ↓reduceIte, Nat.reduceEqDiff, Nat.reduceAdd, Nat.reduceSub, Nat.reduceMul, Nat.reduceLT, Nat.reduceLeDiff, Int.reduceEq, Int.reduceLT, Int.reduceLE, Int.reduceAdd, Int.reduceSub, Int.reduceMul, Int.reduceNeg, Int.reduceToNat, Int.reduceNe, reduceCtorEq, c1, c2, c3, c4]
  refine f24 ?_
  simp (disch := (first | decide | omega | (simp only [go_sem, c1, c2, c3, c4]; done) | (simp only [go_sem, c1, c2, c3, c4]; omega))) only [go_sem, ↓reduceIte, Nat.reduceEqDiff, Nat.reduceAdd, Nat.reduceSub, Nat.reduceMul, Nat.reduceLT, Nat.reduceLeDiff, Int.reduceEq, Int.reduceLT, Int.reduceLE, Int.reduceAdd, Int.reduceSub, Int.reduceMul, Int.reduceNeg, Int.reduceToNat, Int.reduceNe, reduceCtorEq, c1, c2, c3, c4]
  exact ⟨_, rfl⟩
end Ve
end Go.Proofs.YtnociodpfmlglaaGreatDoor
