/-
  The reference's natural numbers, walked.
-/
import Derived.Test.YtnociodpfmlglaaGreatDoorIrE
import Derived.Test.YtnociodpfmlglaaGreatDoorVE
import Derived.Test.YtnociodpfmlglaaGreatDoorPA
import Derived.Lib.Bytealg
set_option linter.unusedVariables false
set_option linter.unusedSimpArgs false
namespace Go.Proofs.YtnociodpfmlglaaGreatDoor
namespace Ve
open Go

theorem f197 {v : Value} {l : List Nat} {H : Heap} (hv : IntsAt H v l) (hd : ∀ d ∈ l, d < 10000) (hl : l.length ≤ 1000000000000) {Q : Out → Prop} (q : ∀ v' H', IntsAt H' v' (limbs (valL l)) → Ext H H' → Q (.ret v' H')) : Cl tab 197 [v] H Q := by
  obtain ⟨a, c, h1, rfl, h3⟩ := hv
  apply e197
  simp (disch := (first | decide | omega | (simp only [go_sem]; done) | (simp only [go_sem]; omega))) only [go_sem, ↓reduceIte, Nat.reduceEqDiff, Nat.reduceAdd, Nat.reduceSub, Nat.reduceMul, Nat.reduceLT, Nat.reduceLeDiff, Int.reduceEq, Int.reduceLT, Int.reduceLE, Int.reduceAdd, Int.reduceSub, Int.reduceMul, Int.reduceNeg, Int.reduceToNat, Int.reduceNe, reduceCtorEq]
  refine w197_5 (ι := Nat) l.length (fun n e h => h = H ∧ e.length = 22 ∧ (∃ hn : n ≤ l.length, ∀ k, (h : k < l.length) → n ≤ k → l[k] = 0) ∧ gt e 0 = .slice a l.length c ∧ gt e 3 = .int .i64 n) (fun n => n) ?_ ?_
  · refine ⟨rfl, ?_⟩
    simp (disch := (first | decide | omega | (simp only [go_sem]; done) | (simp only [go_sem]; omega))) only [go_sem, ↓reduceIte, Nat.reduceEqDiff, Nat.reduceAdd, Nat.reduceSub, Nat.reduceMul, Nat.reduceLT, Nat.reduceLeDiff, Int.reduceEq, Int.reduceLT, Int.reduceLE, Int.reduceAdd, Int.reduceSub, Int.reduceMul, Int.reduceNeg, Int.reduceToNat, Int.reduceNe, reduceCtorEq]
    exact ⟨Nat.le_refl _, fun k h hk => by omega⟩
  · rintro n e h ⟨rfl, he, ⟨hn, hz⟩, e0, e3⟩ ih
    have fin : ∀ hl : (∀ h : 0 < n, l[n - 1]'(by omega) ≠ 0), IntsAt h (.slice (bare a) n n) (limbs (valL l)) := by
      intro hlast
      rw [limbs_take hd hz hn hlast]
      refine ⟨bare a, n, by simp [hn], by simp [hn], fun k hk => ?_⟩
      have hk' : k < n := by simp at hk; omega
      obtain ⟨i, o, s, rfl, g⟩ := h3 k (by omega)
      exact ⟨i, o, none, rfl, by simpa using g⟩
    simp (disch := (first | decide | omega | (simp only [go_sem, e0, e3]; done) | (simp only [go_sem, e0, e3]; omega))) only [go_sem, ↓reduceIte, Nat.reduceEqDiff, Nat.reduceAdd, Nat.reduceSub, Nat.reduceMul, Nat.reduceLT, Nat.reduceLeDiff, Int.reduceEq, Int.reduceLT, Int.reduceLE, Int.reduceAdd, Int.reduceSub, Int.reduceMul, Int.reduceNeg, Int.reduceToNat, Int.reduceNe, reduceCtorEq, e0, e3]
    by_cases hn0 : n = 0
    · subst hn0
      simp (disch := (first | decide | omega | (simp only [go_sem, e0, e3]; done) | (simp only [go_sem, e0, e3]; omega))) only [go_sem, ↓reduceIte, Nat.reduceEqDiff, Nat.reduceAdd, Nat.reduceSub, Nat.reduceMul, Nat.reduceLT, Nat.reduceLeDiff, Int.reduceEq, Int.reduceLT, Int.reduceLE, Int.reduceAdd, Int.reduceSub, Int.reduceMul, Int.reduceNeg, Int.reduceToNat, Int.reduceNe, reduceCtorEq, e0, e3]
      exact q _ _ (fin (fun h => by omega)) Ext.refl
    · have hpos : (0 : Int) < n := by omega
      obtain ⟨i, o, s, rfl, g⟩ := h3 (n - 1) (by omega)
      have hnt : ((n : Int) - 1).toNat = n - 1 := by omega
      have hl1 : o + (n - 1) = o + (n - 1) := rfl
      simp (disch := (first | decide | omega | (simp only [go_sem, e0, e3, hpos, hnt, g]; done) | (simp only [go_sem, e0, e3, hpos, hnt, g]; omega))) only [go_sem, ↓reduceIte, Nat.reduceEqDiff, Nat.reduceAdd, Nat.reduceSub, Nat.reduceMul, Nat.reduceLT, Nat.reduceLeDiff, Int.reduceEq, Int.reduceLT, Int.reduceLE, Int.reduceAdd, Int.reduceSub, Int.reduceMul, Int.reduceNeg, Int.reduceToNat, Int.reduceNe, reduceCtorEq, e0, e3, hpos, hnt, g]
      refine brK_prop (fun hh => ?_) (fun hh => ?_)
      · simp (disch := (first | decide | omega | (simp only [go_sem, e0, e3]; done) | (simp only [go_sem, e0, e3]; omega))) only [go_sem, ↓reduceIte, Nat.reduceEqDiff, Nat.reduceAdd, Nat.reduceSub, Nat.reduceMul, Nat.reduceLT, Nat.reduceLeDiff, Int.reduceEq, Int.reduceLT, Int.reduceLE, Int.reduceAdd, Int.reduceSub, Int.reduceMul, Int.reduceNeg, Int.reduceToNat, Int.reduceNe, reduceCtorEq, e0, e3]
        refine ih (n - 1) _ _ (by omega) ⟨rfl, ?_⟩
        simp (disch := (first | decide | omega | (simp only [go_sem, e0, e3, he]; done) | (simp only [go_sem, e0, e3, he]; omega))) only [go_sem, ↓reduceIte, Nat.reduceEqDiff, Nat.reduceAdd, Nat.reduceSub, Nat.reduceMul, Nat.reduceLT, Nat.reduceLeDiff, Int.reduceEq, Int.reduceLT, Int.reduceLE, Int.reduceAdd, Int.reduceSub, Int.reduceMul, Int.reduceNeg, Int.reduceToNat, Int.reduceNe, reduceCtorEq, e0, e3, he]
        refine ⟨⟨by omega, fun k h hk => ?_⟩, ?_⟩
        · by_cases hkn : k = n - 1
          · subst hkn; omega
          · exact hz k h (by omega)
        · congr 1; omega
      · simp (disch := (first | decide | omega | (simp only [go_sem, e0, e3]; done) | (simp only [go_sem, e0, e3]; omega))) only [go_sem, ↓reduceIte, Nat.reduceEqDiff, Nat.reduceAdd, Nat.reduceSub, Nat.reduceMul, Nat.reduceLT, Nat.reduceLeDiff, Int.reduceEq, Int.reduceLT, Int.reduceLE, Int.reduceAdd, Int.reduceSub, Int.reduceMul, Int.reduceNeg, Int.reduceToNat, Int.reduceNe, reduceCtorEq, e0, e3]
        exact q _ _ (fin (fun h => by omega)) Ext.refl

/-- A natural number in memory. -/
def NatAt (H : Heap) (v : Value) (n : Nat) : Prop := IntsAt H v (limbs n)
theorem NatAt.ext {H J : Heap} {v : Value} {n : Nat} (h : NatAt H v n) : NatAt (H ++ J) v n := IntsAt.ext h
theorem intCells_one (l : List Nat) : (intCells l).all Ve.one = true := by simp [intCells, Ve.one]
theorem intCells_append (a b : List Nat) : intCells (a ++ b) = intCells a ++ intCells b := by simp [intCells]

/-- One number more at the end of a row of numbers. -/
theorem own_push {g : Nat} {H : Heap} {s : Value} {ty : Nat} {l : List Nat} {n : Nat} (h : OwnS g H s ty 1 (intCells l)) (hg : g ≤ H.length) (hl : l.length ≤ 1000000000000) :
    ∃ s' H', appO ty 1 8 H s (gslV 1 [.int .i64 (n : Nat)]) = some (.ret s' H') ∧ OwnS g H' s' ty 1 (intCells (l ++ [n])) ∧ H'.length = H.length + 1 ∧ (∀ j, j < H.length → sBlk s ≠ some j → H'[j]? = H[j]?) ∧ sBlk s' = some H.length := by
  rw [appO_gsl (by simp) (by simp), intCells_append]
  refine h.append hg (by omega) (by omega) (by simp) (by simp [Ve.one]) ?_ ?_ <;> simp [intCells] <;> omega
/-- What lies below a row stays. -/
theorem OwnS.below {g : Nat} {H H' : Heap} {s : Value} {ty size : Nat} {cells : List Value} (h : OwnS g H s ty size cells) (hg : g ≤ H.length) (hk : ∀ j, j < H.length → sBlk s ≠ some j → H'[j]? = H[j]?) : ∀ j, j < g → H'[j]? = H[j]? := by
  intro j hj
  refine hk j (by omega) ?_
  rcases h with ⟨_, rfl⟩ | ⟨i, n, h1, _, _, rfl, _⟩
  · simp [sBlk]
  · simp [sBlk]; omega

theorem f123 {n : Nat} {H : Heap} (hn : n ≤ 9223372036854775807) {Q : Out → Prop} (q : ∀ v' H', NatAt H' v' n → Ext H H' → Q (.ret v' H')) : Cl tab 123 [.int .i64 n] H Q := by
  apply e123
  simp (disch := (first | decide | omega | (simp only [go_sem]; done) | (simp only [go_sem]; omega))) only [go_sem, ↓reduceIte, Nat.reduceEqDiff, Nat.reduceAdd, Nat.reduceSub, Nat.reduceMul, Nat.reduceLT, Nat.reduceLeDiff, Int.reduceEq, Int.reduceLT, Int.reduceLE, Int.reduceAdd, Int.reduceSub, Int.reduceMul, Int.reduceNeg, Int.reduceToNat, Int.reduceNe, reduceCtorEq]
  refine w123_5 (ι := Nat × List Nat) (n, []) (fun ⟨m, l⟩ e h => H.length ≤ h.length ∧ (∀ j, j < H.length → h[j]? = H[j]?) ∧ e.length = 14 ∧ m ≤ n ∧ limbs n = l ++ limbs m ∧ (∃ sv, gt e 3 = sv ∧ OwnS H.length h sv 3 1 (intCells l)) ∧ gt e 0 = .int .i64 m) (fun ⟨m, l⟩ => m) ?_ ?_
  · refine ⟨Nat.le_refl _, fun _ _ => rfl, ?_⟩
    simp (disch := (first | decide | omega | (simp only [go_sem]; done) | (simp only [go_sem]; omega))) only [go_sem, ↓reduceIte, Nat.reduceEqDiff, Nat.reduceAdd, Nat.reduceSub, Nat.reduceMul, Nat.reduceLT, Nat.reduceLeDiff, Int.reduceEq, Int.reduceLT, Int.reduceLE, Int.reduceAdd, Int.reduceSub, Int.reduceMul, Int.reduceNeg, Int.reduceToNat, Int.reduceNe, reduceCtorEq]
    exact ⟨Nat.le_refl _, OwnS.nil⟩
  · rintro ⟨m, l⟩ e h ⟨hl1, hl2, he, hmn, hlm, ⟨sv, e3, hown⟩, e0⟩ ih
    simp (disch := (first | decide | omega | (simp only [go_sem, e0, e3]; done) | (simp only [go_sem, e0, e3]; omega))) only [go_sem, ↓reduceIte, Nat.reduceEqDiff, Nat.reduceAdd, Nat.reduceSub, Nat.reduceMul, Nat.reduceLT, Nat.reduceLeDiff, Int.reduceEq, Int.reduceLT, Int.reduceLE, Int.reduceAdd, Int.reduceSub, Int.reduceMul, Int.reduceNeg, Int.reduceToNat, Int.reduceNe, reduceCtorEq, e0, e3]
    refine brK_prop (fun hh => ?_) (fun hh => ?_)
    · have hm0 : m ≠ 0 := by omega
      simp (disch := (first | decide | omega | (simp only [go_sem, e0, e3]; done) | (simp only [go_sem, e0, e3]; omega))) only [go_sem, ↓reduceIte, Nat.reduceEqDiff, Nat.reduceAdd, Nat.reduceSub, Nat.reduceMul, Nat.reduceLT, Nat.reduceLeDiff, Int.reduceEq, Int.reduceLT, Int.reduceLE, Int.reduceAdd, Int.reduceSub, Int.reduceMul, Int.reduceNeg, Int.reduceToNat, Int.reduceNe, reduceCtorEq, e0, e3]
      have hlen : l.length ≤ 5 := by
        have h1 := limbs_length_of (n := n) (k := 5) (by omega)
        rw [hlm, List.length_append] at h1; omega
      obtain ⟨s', H', ha, ho, hl3, hk, _⟩ := own_push (n := m % 10000) hown hl1 (by omega)
      have hlt := OwnS.below hown hl1 hk
      rw [show ((m % 10000 : Nat) : Int) = (m : Int) % 10000 by omega] at ha
      have hq : ((m : Int) / 10000) = ((m / 10000 : Nat) : Int) := by omega
      simp (disch := (first | decide | omega | (simp only [go_sem, e0, e3, ha]; done) | (simp only [go_sem, e0, e3, ha]; omega))) only [go_sem, ↓reduceIte, Nat.reduceEqDiff, Nat.reduceAdd, Nat.reduceSub, Nat.reduceMul, Nat.reduceLT, Nat.reduceLeDiff, Int.reduceEq, Int.reduceLT, Int.reduceLE, Int.reduceAdd, Int.reduceSub, Int.reduceMul, Int.reduceNeg, Int.reduceToNat, Int.reduceNe, reduceCtorEq, e0, e3, ha]
      refine ih (m / 10000, l ++ [m % 10000]) _ _ (by simp only; omega) ⟨by omega, fun j hj => by rw [hlt j hj]; exact hl2 j hj, ?_⟩
      simp (disch := (first | decide | omega | (simp only [go_sem, e0, e3, he, hq]; done) | (simp only [go_sem, e0, e3, he, hq]; omega))) only [go_sem, ↓reduceIte, Nat.reduceEqDiff, Nat.reduceAdd, Nat.reduceSub, Nat.reduceMul, Nat.reduceLT, Nat.reduceLeDiff, Int.reduceEq, Int.reduceLT, Int.reduceLE, Int.reduceAdd, Int.reduceSub, Int.reduceMul, Int.reduceNeg, Int.reduceToNat, Int.reduceNe, reduceCtorEq, e0, e3, he, hq]
      exact ⟨by omega, by rw [hlm, limbs_pos hm0], ho⟩
    · have hm0 : m = 0 := by omega
      subst hm0
      rw [limbs_zero, List.append_nil] at hlm
      simp (disch := (first | decide | omega | (simp only [go_sem, e0, e3]; done) | (simp only [go_sem, e0, e3]; omega))) only [go_sem, ↓reduceIte, Nat.reduceEqDiff, Nat.reduceAdd, Nat.reduceSub, Nat.reduceMul, Nat.reduceLT, Nat.reduceLeDiff, Int.reduceEq, Int.reduceLT, Int.reduceLE, Int.reduceAdd, Int.reduceSub, Int.reduceMul, Int.reduceNeg, Int.reduceToNat, Int.reduceNe, reduceCtorEq, e0, e3]
      exact q _ _ (by unfold NatAt; rw [hlm]; exact hown.ints) (ext_of hl1 hl2)

def cmpN (a b : Nat) : Int := if a < b then -1 else if b < a then 1 else 0
theorem f117 {u v : Value} {a b : Nat} {H : Heap} (hu : NatAt H u a) (hv : NatAt H v b) (hla : (limbs a).length ≤ 1000000000000) {Q : Out → Prop} (q : ∀ v' H', v' = .int .i64 (cmpN a b) → Ext H H' → Q (.ret v' H')) : Cl tab 117 [u, v] H Q := by
  obtain ⟨aa, ac, ha1, rfl, ha3⟩ := hu
  obtain ⟨ba, bc, hb1, rfl, hb3⟩ := hv
  apply e117
  simp (disch := (first | decide | omega | (simp only [go_sem]; done) | (simp only [go_sem]; omega))) only [go_sem, ↓reduceIte, Nat.reduceEqDiff, Nat.reduceAdd, Nat.reduceSub, Nat.reduceMul, Nat.reduceLT, Nat.reduceLeDiff, Int.reduceEq, Int.reduceLT, Int.reduceLE, Int.reduceAdd, Int.reduceSub, Int.reduceMul, Int.reduceNeg, Int.reduceToNat, Int.reduceNe, reduceCtorEq]
  by_cases hlen : (limbs a).length = (limbs b).length
  · rw [← hlen]
    simp (disch := (first | decide | omega | (simp only [go_sem]; done) | (simp only [go_sem]; omega))) only [go_sem, ↓reduceIte, Nat.reduceEqDiff, Nat.reduceAdd, Nat.reduceSub, Nat.reduceMul, Nat.reduceLT, Nat.reduceLeDiff, Int.reduceEq, Int.reduceLT, Int.reduceLE, Int.reduceAdd, Int.reduceSub, Int.reduceMul, Int.reduceNeg, Int.reduceToNat, Int.reduceNe, reduceCtorEq]
    refine w117_15 (ι := Nat) (limbs a).length (fun n e h => h = H ∧ e.length = 41 ∧ n ≤ (limbs a).length ∧ (limbs a).drop n = (limbs b).drop n ∧ gt e 0 = .slice aa (limbs a).length ac ∧ gt e 1 = .slice ba (limbs a).length bc ∧ gt e 5 = .int .i64 ((n : Int) - 1)) (fun n => n) ?_ ?_
    · refine ⟨rfl, ?_⟩
      simp (disch := (first | decide | omega | (simp only [go_sem]; done) | (simp only [go_sem]; omega))) only [go_sem, ↓reduceIte, Nat.reduceEqDiff, Nat.reduceAdd, Nat.reduceSub, Nat.reduceMul, Nat.reduceLT, Nat.reduceLeDiff, Int.reduceEq, Int.reduceLT, Int.reduceLE, Int.reduceAdd, Int.reduceSub, Int.reduceMul, Int.reduceNeg, Int.reduceToNat, Int.reduceNe, reduceCtorEq]
      rw [hlen, List.drop_length]
      exact ⟨Nat.le_refl _, rfl⟩
    · rintro n e h ⟨rfl, he, hn, hd, e0, e1, e5⟩ ih
      simp (disch := (first | decide | omega | (simp only [go_sem, e0, e1, e5]; done) | (simp only [go_sem, e0, e1, e5]; omega))) only [go_sem, ↓reduceIte, Nat.reduceEqDiff, Nat.reduceAdd, Nat.reduceSub, Nat.reduceMul, Nat.reduceLT, Nat.reduceLeDiff, Int.reduceEq, Int.reduceLT, Int.reduceLE, Int.reduceAdd, Int.reduceSub, Int.reduceMul, Int.reduceNeg, Int.reduceToNat, Int.reduceNe, reduceCtorEq, e0, e1, e5]
      refine brK_prop (fun hh => ?_) (fun hh => ?_)
      · have hn0 : n - 1 < (limbs a).length := by omega
        obtain ⟨i, o, s, rfl, g⟩ := ha3 (n - 1) hn0
        obtain ⟨i2, o2, s2, rfl, g2⟩ := hb3 (n - 1) (by omega)
        have hnt : ((n : Int) - 1).toNat = n - 1 := by omega
        have hd' : (limbs a).drop (n - 1 + 1) = (limbs b).drop (n - 1 + 1) := by rw [show n - 1 + 1 = n by omega]; exact hd
        simp (disch := (first | decide | omega | (simp only [go_sem, e0, e1, e5, hnt, g, g2]; done) | (simp only [go_sem, e0, e1, e5, hnt, g, g2]; omega))) only [go_sem, ↓reduceIte, Nat.reduceEqDiff, Nat.reduceAdd, Nat.reduceSub, Nat.reduceMul, Nat.reduceLT, Nat.reduceLeDiff, Int.reduceEq, Int.reduceLT, Int.reduceLE, Int.reduceAdd, Int.reduceSub, Int.reduceMul, Int.reduceNeg, Int.reduceToNat, Int.reduceNe, reduceCtorEq, e0, e1, e5, hnt, g, g2]
        refine brK_prop (fun h1 => ?_) (fun h1 => ?_)
        · simp (disch := (first | decide | omega | (simp only [go_sem]; done) | (simp only [go_sem]; omega))) only [go_sem, ↓reduceIte, Nat.reduceEqDiff, Nat.reduceAdd, Nat.reduceSub, Nat.reduceMul, Nat.reduceLT, Nat.reduceLeDiff, Int.reduceEq, Int.reduceLT, Int.reduceLE, Int.reduceAdd, Int.reduceSub, Int.reduceMul, Int.reduceNeg, Int.reduceToNat, Int.reduceNe, reduceCtorEq]
          have := valL_cmp hlen hn0 limbs_lt limbs_lt hd' (by omega)
          rw [valL_limbs, valL_limbs] at this
          exact q _ _ (by first | rfl | (simp [cmpN]; done) | grind [cmpN]) (by first | exact Ext.refl | exact ⟨_, rfl⟩)
        simp (disch := (first | decide | omega | (simp only [go_sem, e0, e1, e5, hnt, g, g2]; done) | (simp only [go_sem, e0, e1, e5, hnt, g, g2]; omega))) only [go_sem, ↓reduceIte, Nat.reduceEqDiff, Nat.reduceAdd, Nat.reduceSub, Nat.reduceMul, Nat.reduceLT, Nat.reduceLeDiff, Int.reduceEq, Int.reduceLT, Int.reduceLE, Int.reduceAdd, Int.reduceSub, Int.reduceMul, Int.reduceNeg, Int.reduceToNat, Int.reduceNe, reduceCtorEq, e0, e1, e5, hnt, g, g2]
        refine brK_prop (fun h2 => ?_) (fun h2 => ?_)
        · simp (disch := (first | decide | omega | (simp only [go_sem]; done) | (simp only [go_sem]; omega))) only [go_sem, ↓reduceIte, Nat.reduceEqDiff, Nat.reduceAdd, Nat.reduceSub, Nat.reduceMul, Nat.reduceLT, Nat.reduceLeDiff, Int.reduceEq, Int.reduceLT, Int.reduceLE, Int.reduceAdd, Int.reduceSub, Int.reduceMul, Int.reduceNeg, Int.reduceToNat, Int.reduceNe, reduceCtorEq]
          have := valL_cmp hlen.symm (by omega) limbs_lt limbs_lt hd'.symm (by omega)
          rw [valL_limbs, valL_limbs] at this
          refine q _ _ ?_ (by first | exact Ext.refl | exact ⟨_, rfl⟩)
          unfold cmpN
          rw [if_neg (by omega), if_pos this]
        simp (disch := (first | decide | omega | (simp only [go_sem, e0, e1, e5]; done) | (simp only [go_sem, e0, e1, e5]; omega))) only [go_sem, ↓reduceIte, Nat.reduceEqDiff, Nat.reduceAdd, Nat.reduceSub, Nat.reduceMul, Nat.reduceLT, Nat.reduceLeDiff, Int.reduceEq, Int.reduceLT, Int.reduceLE, Int.reduceAdd, Int.reduceSub, Int.reduceMul, Int.reduceNeg, Int.reduceToNat, Int.reduceNe, reduceCtorEq, e0, e1, e5]
        refine ih (n - 1) _ _ (by omega) ⟨rfl, ?_⟩
        simp (disch := (first | decide | omega | (simp only [go_sem, e0, e1, e5, he]; done) | (simp only [go_sem, e0, e1, e5, he]; omega))) only [go_sem, ↓reduceIte, Nat.reduceEqDiff, Nat.reduceAdd, Nat.reduceSub, Nat.reduceMul, Nat.reduceLT, Nat.reduceLeDiff, Int.reduceEq, Int.reduceLT, Int.reduceLE, Int.reduceAdd, Int.reduceSub, Int.reduceMul, Int.reduceNeg, Int.reduceToNat, Int.reduceNe, reduceCtorEq, e0, e1, e5, he]
        refine ⟨by omega, ?_, ?_⟩
        · rw [List.drop_eq_getElem_cons hn0, List.drop_eq_getElem_cons (by omega : n - 1 < (limbs b).length), hd']
          congr 1; omega
        · congr 1; omega
      · have hn0 : n = 0 := by omega
        subst hn0
        have hab : a = b := by
          have := congrArg valL hd
          simpa [valL_limbs] using this
        subst hab
        simp (disch := (first | decide | omega | (simp only [go_sem, e0, e1, e5]; done) | (simp only [go_sem, e0, e1, e5]; omega))) only [go_sem, ↓reduceIte, Nat.reduceEqDiff, Nat.reduceAdd, Nat.reduceSub, Nat.reduceMul, Nat.reduceLT, Nat.reduceLeDiff, Int.reduceEq, Int.reduceLT, Int.reduceLE, Int.reduceAdd, Int.reduceSub, Int.reduceMul, Int.reduceNeg, Int.reduceToNat, Int.reduceNe, reduceCtorEq, e0, e1, e5]
        refine q _ _ ?_ (by first | exact Ext.refl | exact ⟨_, rfl⟩)
        simp [cmpN]
  · simp (disch := (first | decide | omega | (simp only [go_sem, hlen]; done) | (simp only [go_sem, hlen]; omega))) only [go_sem, ↓reduceIte, Nat.reduceEqDiff, Nat.reduceAdd, Nat.reduceSub, Nat.reduceMul, Nat.reduceLT, Nat.reduceLeDiff, Int.reduceEq, Int.reduceLT, Int.reduceLE, Int.reduceAdd, Int.reduceSub, Int.reduceMul, Int.reduceNeg, Int.reduceToNat, Int.reduceNe, reduceCtorEq, hlen]
    refine brK_prop (fun h1 => ?_) (fun h1 => ?_)
    · have := limbs_length_lt (a := a) (b := b) (by omega)
      simp (disch := (first | decide | omega | (simp only [go_sem]; done) | (simp only [go_sem]; omega))) only [go_sem, ↓reduceIte, Nat.reduceEqDiff, Nat.reduceAdd, Nat.reduceSub, Nat.reduceMul, Nat.reduceLT, Nat.reduceLeDiff, Int.reduceEq, Int.reduceLT, Int.reduceLE, Int.reduceAdd, Int.reduceSub, Int.reduceMul, Int.reduceNeg, Int.reduceToNat, Int.reduceNe, reduceCtorEq]
      exact q _ _ (by first | rfl | (simp [cmpN]; done) | grind [cmpN]) (by first | exact Ext.refl | exact ⟨_, rfl⟩)
    · have := limbs_length_lt (a := b) (b := a) (by omega)
      simp (disch := (first | decide | omega | (simp only [go_sem]; done) | (simp only [go_sem]; omega))) only [go_sem, ↓reduceIte, Nat.reduceEqDiff, Nat.reduceAdd, Nat.reduceSub, Nat.reduceMul, Nat.reduceLT, Nat.reduceLeDiff, Int.reduceEq, Int.reduceLT, Int.reduceLE, Int.reduceAdd, Int.reduceSub, Int.reduceMul, Int.reduceNeg, Int.reduceToNat, Int.reduceNe, reduceCtorEq]
      refine q _ _ ?_ (by first | exact Ext.refl | exact ⟨_, rfl⟩)
      unfold cmpN
      rw [if_neg (by omega), if_pos this]
end Ve
end Go.Proofs.YtnociodpfmlglaaGreatDoor

/-
  The reference's natural numbers, walked: off a text; products; powers.
-/
set_option linter.unusedVariables false
set_option linter.unusedSimpArgs false
namespace Go.Proofs.YtnociodpfmlglaaGreatDoor
namespace Ve
open Go

theorem drop_take_snoc {s : Str} {F i : Nat} (h : i < s.length) (hF : F ≤ i) : (s.take (i + 1)).drop F = (s.take i).drop F ++ [s[i]] := by
  rw [take_snoc h, List.drop_append_of_le_length (by simp; omega)]

set_option maxHeartbeats 1000000 in
theorem f109 {s : Str} {H : Heap} (hd : s.all isDig = true) (hl : s.length ≤ 1000000000) {Q : Out → Prop} (q : ∀ v' H', NatAt H' v' (digVal s) → Ext H H' → Q (.ret v' H')) : Cl tab 109 [strOf s] H Q := by
  have hdig : ∀ i, (h : i < s.length) → 48 ≤ s[i].toNat ∧ s[i].toNat ≤ 57 := by
    intro i h
    have := List.all_eq_true.1 hd s[i] (List.getElem_mem h)
    simp [isDig] at this
    omega
  have hchunk : ∀ F i, i ≤ s.length → F ≤ i → digVal ((s.take i).drop F) < 10 ^ (i - F) := by
    intro F i hi hF
    have := digVal_lt ((s.take i).drop F) (by
      intro c hc
      have hc' := List.mem_of_mem_take (List.mem_of_mem_drop hc)
      obtain ⟨j, hj, rfl⟩ := List.getElem_of_mem hc'
      exact (hdig j hj).2)
    simpa [Nat.min_eq_left hi] using this
  apply e109
  simp (disch := (first | decide | omega | (simp only [go_sem]; done) | (simp only [go_sem]; omega))) only [go_sem, ↓reduceIte, Nat.reduceEqDiff, Nat.reduceAdd, Nat.reduceSub, Nat.reduceMul, Nat.reduceLT, Nat.reduceLeDiff, Int.reduceEq, Int.reduceLT, Int.reduceLE, Int.reduceAdd, Int.reduceSub, Int.reduceMul, Int.reduceNeg, Int.reduceToNat, Int.reduceNe, reduceCtorEq]
  refine w109_7 (ι := Int × List Nat) (s.length, []) (fun ⟨t, l⟩ e h => H.length ≤ h.length ∧ (∀ j, j < H.length → h[j]? = H[j]?) ∧ e.length = 35 ∧ t ≤ s.length ∧ -4 ≤ t ∧ valL l + 10000 ^ l.length * digVal (s.take t.toNat) = digVal s ∧ (∀ d ∈ l, d < 10000) ∧ l.length + t.toNat ≤ s.length ∧ (∃ sv, gt e 3 = sv ∧ OwnS H.length h sv 3 1 (intCells l)) ∧ gt e 0 = strOf s ∧ gt e 4 = .int .i64 t) (fun ⟨t, l⟩ => t.toNat) ?_ ?_
  · refine ⟨Nat.le_refl _, fun _ _ => rfl, ?_⟩
    simp (disch := (first | decide | omega | (simp only [go_sem]; done) | (simp only [go_sem]; omega))) only [go_sem, ↓reduceIte, Nat.reduceEqDiff, Nat.reduceAdd, Nat.reduceSub, Nat.reduceMul, Nat.reduceLT, Nat.reduceLeDiff, Int.reduceEq, Int.reduceLT, Int.reduceLE, Int.reduceAdd, Int.reduceSub, Int.reduceMul, Int.reduceNeg, Int.reduceToNat, Int.reduceNe, reduceCtorEq]
    refine ⟨by omega, by omega, by simp [valL], by simp, by omega, OwnS.nil⟩
  · rintro ⟨t, l⟩ e h ⟨hl1, hl2, he, ht, ht4, hv, hd1, hll, ⟨sv, e3, hown⟩, e0, e4⟩ ih
    simp (disch := (first | decide | omega | (simp only [go_sem, e0, e3, e4]; done) | (simp only [go_sem, e0, e3, e4]; omega))) only [go_sem, ↓reduceIte, Nat.reduceEqDiff, Nat.reduceAdd, Nat.reduceSub, Nat.reduceMul, Nat.reduceLT, Nat.reduceLeDiff, Int.reduceEq, Int.reduceLT, Int.reduceLE, Int.reduceAdd, Int.reduceSub, Int.reduceMul, Int.reduceNeg, Int.reduceToNat, Int.reduceNe, reduceCtorEq, e0, e3, e4]
    refine brK_prop (fun hh => ?_) (fun hh => ?_)
    · simp (disch := (first | decide | omega | (simp only [go_sem, e0, e3, e4]; done) | (simp only [go_sem, e0, e3, e4]; omega))) only [go_sem, ↓reduceIte, Nat.reduceEqDiff, Nat.reduceAdd, Nat.reduceSub, Nat.reduceMul, Nat.reduceLT, Nat.reduceLeDiff, Int.reduceEq, Int.reduceLT, Int.reduceLE, Int.reduceAdd, Int.reduceSub, Int.reduceMul, Int.reduceNeg, Int.reduceToNat, Int.reduceNe, reduceCtorEq, e0, e3, e4]
      have hF : ((max 0 (t - 4) : Int)) = (((t - 4).toNat : Nat) : Int) := by omega
      generalize hFe : (t - 4).toNat = F at hF
      have hFt : F ≤ t.toNat := by omega
      rw [hF]
      refine w109_17 (ι := Nat) F (fun i e' h' => h' = h ∧ e'.length = 35 ∧ F ≤ i ∧ i ≤ t.toNat ∧ gt e' 0 = strOf s ∧ gt e' 3 = sv ∧ gt e' 4 = .int .i64 t ∧ gt e' 5 = .int .i64 (digVal ((s.take i).drop F) : Nat) ∧ gt e' 6 = .int .i64 i) (fun i => t.toNat - i) ?_ ?_
      · refine ⟨rfl, ?_⟩
        simp (disch := (first | decide | omega | (simp only [go_sem, e0, e3, e4, he]; done) | (simp only [go_sem, e0, e3, e4, he]; omega))) only [go_sem, ↓reduceIte, Nat.reduceEqDiff, Nat.reduceAdd, Nat.reduceSub, Nat.reduceMul, Nat.reduceLT, Nat.reduceLeDiff, Int.reduceEq, Int.reduceLT, Int.reduceLE, Int.reduceAdd, Int.reduceSub, Int.reduceMul, Int.reduceNeg, Int.reduceToNat, Int.reduceNe, reduceCtorEq, e0, e3, e4, he]
        refine ⟨Nat.le_refl _, hFt, ?_⟩
        rw [List.drop_of_length_le (by simp; omega)]; rfl
      · rintro i e' h' ⟨rfl, he', hi1, hi2, g0, g3, g4, g5, g6⟩ ih2
        simp (disch := (first | decide | omega | (simp only [go_sem, g0, g3, g4, g5, g6]; done) | (simp only [go_sem, g0, g3, g4, g5, g6]; omega))) only [go_sem, ↓reduceIte, Nat.reduceEqDiff, Nat.reduceAdd, Nat.reduceSub, Nat.reduceMul, Nat.reduceLT, Nat.reduceLeDiff, Int.reduceEq, Int.reduceLT, Int.reduceLE, Int.reduceAdd, Int.reduceSub, Int.reduceMul, Int.reduceNeg, Int.reduceToNat, Int.reduceNe, reduceCtorEq, g0, g3, g4, g5, g6]
        refine brK_prop (fun h1 => ?_) (fun h1 => ?_)
        · have hlt : i < s.length := by omega
          have h8 := at8_get hlt
          have hdi := hdig i hlt
          have hck := hchunk F i (by omega) hi1
          have hck2 : digVal ((s.take i).drop F) < 10 ^ 4 := Nat.lt_of_lt_of_le hck (Nat.pow_le_pow_right (by omega) (by omega))
          simp (disch := (first | decide | omega | (simp only [go_sem, g0, g3, g4, g5, g6, h8]; done) | (simp only [go_sem, g0, g3, g4, g5, g6, h8]; omega))) only [go_sem, ↓reduceIte, Nat.reduceEqDiff, Nat.reduceAdd, Nat.reduceSub, Nat.reduceMul, Nat.reduceLT, Nat.reduceLeDiff, Int.reduceEq, Int.reduceLT, Int.reduceLE, Int.reduceAdd, Int.reduceSub, Int.reduceMul, Int.reduceNeg, Int.reduceToNat, Int.reduceNe, reduceCtorEq, g0, g3, g4, g5, g6, h8]
          refine ih2 (i + 1) _ _ (by omega) ⟨rfl, ?_⟩
          simp (disch := (first | decide | omega | (simp only [go_sem, g0, g3, g4, g5, g6, he']; done) | (simp only [go_sem, g0, g3, g4, g5, g6, he']; omega))) only [go_sem, ↓reduceIte, Nat.reduceEqDiff, Nat.reduceAdd, Nat.reduceSub, Nat.reduceMul, Nat.reduceLT, Nat.reduceLeDiff, Int.reduceEq, Int.reduceLT, Int.reduceLE, Int.reduceAdd, Int.reduceSub, Int.reduceMul, Int.reduceNeg, Int.reduceToNat, Int.reduceNe, reduceCtorEq, g0, g3, g4, g5, g6, he']
          refine ⟨by omega, by omega, ?_, rfl⟩
          rw [drop_take_snoc hlt hi1, digVal_snoc]
          congr 1; omega
        · have hit : i = t.toNat := by omega
          subst hit
          have hck := hchunk F t.toNat (by omega) hFt
          have hck2 : digVal ((s.take t.toNat).drop F) < 10 ^ 4 := Nat.lt_of_lt_of_le hck (Nat.pow_le_pow_right (by omega) (by omega))
          generalize hn : digVal ((s.take t.toNat).drop F) = n at *
          obtain ⟨s', H', ha, ho, hl3, hk, _⟩ := own_push (n := n) hown hl1 (by omega)
          have hlt := OwnS.below hown hl1 hk
          simp (disch := (first | decide | omega | (simp only [go_sem, g0, g3, g4, g5, g6, ha]; done) | (simp only [go_sem, g0, g3, g4, g5, g6, ha]; omega))) only [go_sem, ↓reduceIte, Nat.reduceEqDiff, Nat.reduceAdd, Nat.reduceSub, Nat.reduceMul, Nat.reduceLT, Nat.reduceLeDiff, Int.reduceEq, Int.reduceLT, Int.reduceLE, Int.reduceAdd, Int.reduceSub, Int.reduceMul, Int.reduceNeg, Int.reduceToNat, Int.reduceNe, reduceCtorEq, g0, g3, g4, g5, g6, ha]
          refine ih (t - 4, l ++ [n]) _ _ (by simp only; omega) ⟨by omega, fun j hj => by rw [hlt j hj]; exact hl2 j hj, ?_⟩
          simp (disch := (first | decide | omega | (simp only [go_sem, g0, g3, g4, g5, g6, he']; done) | (simp only [go_sem, g0, g3, g4, g5, g6, he']; omega))) only [go_sem, ↓reduceIte, Nat.reduceEqDiff, Nat.reduceAdd, Nat.reduceSub, Nat.reduceMul, Nat.reduceLT, Nat.reduceLeDiff, Int.reduceEq, Int.reduceLT, Int.reduceLE, Int.reduceAdd, Int.reduceSub, Int.reduceMul, Int.reduceNeg, Int.reduceToNat, Int.reduceNe, reduceCtorEq, g0, g3, g4, g5, g6, he']
          rw [hFe]
          refine ⟨by omega, by omega, ?_, ?_, by omega, ho⟩
          · have hsplit : s.take t.toNat = s.take F ++ (s.take t.toNat).drop F := by
              conv => lhs; rw [← List.take_append_drop F (s.take t.toNat)]
              rw [List.take_take, Nat.min_eq_left hFt]
            have hdv : digVal (s.take t.toNat) = digVal (s.take F) * 10 ^ (t.toNat - F) + n := by
              conv => lhs; rw [hsplit]
              rw [digVal_append, hn]; congr 3; simp; omega
            rw [← hv, hdv, valL_append, Nat.pow_succ]
            simp only [valL, Nat.mul_zero, Nat.add_zero]
            by_cases h4 : 4 ≤ t.toNat
            · rw [show t.toNat - F = 4 by omega]
              rw [Nat.mul_add, show (10 : Nat) ^ 4 = 10000 from rfl, Nat.mul_assoc, Nat.mul_comm 10000 (digVal _)]; omega
            · have hF0 : F = 0 := by omega
              subst hF0
              simp [digVal_nil]
          · intro d hd'
            rcases List.mem_append.1 hd' with h5 | h5
            · exact hd1 d h5
            · simp at h5; omega
    · have ht0 : t.toNat = 0 := by omega
      rw [ht0] at hv
      simp [digVal_nil] at hv
      simp (disch := (first | decide | omega | (simp only [go_sem, e0, e3, e4]; done) | (simp only [go_sem, e0, e3, e4]; omega))) only [go_sem, ↓reduceIte, Nat.reduceEqDiff, Nat.reduceAdd, Nat.reduceSub, Nat.reduceMul, Nat.reduceLT, Nat.reduceLeDiff, Int.reduceEq, Int.reduceLT, Int.reduceLE, Int.reduceAdd, Int.reduceSub, Int.reduceMul, Int.reduceNeg, Int.reduceToNat, Int.reduceNe, reduceCtorEq, e0, e3, e4]
      refine f197 hown.ints hd1 (by omega) ?_
      rintro v' _ hv' ⟨J, rfl⟩
      simp (disch := (first | decide | omega | (simp only [go_sem]; done) | (simp only [go_sem]; omega))) only [go_sem, ↓reduceIte, Nat.reduceEqDiff, Nat.reduceAdd, Nat.reduceSub, Nat.reduceMul, Nat.reduceLT, Nat.reduceLeDiff, Int.reduceEq, Int.reduceLT, Int.reduceLE, Int.reduceAdd, Int.reduceSub, Int.reduceMul, Int.reduceNeg, Int.reduceToNat, Int.reduceNe, reduceCtorEq]
      refine q _ _ ?_ (Ext.trans (ext_of hl1 hl2) ⟨J, rfl⟩)
      rw [hv] at hv'
      exact hv'

theorem flat_one (n : Nat) (x : Value) : (List.replicate n [x]).flatten = List.replicate n x := by
  induction n with
  | zero => rfl
  | succ n ih => simp [List.replicate_succ, ih]
theorem intCells_zeros (n : Nat) : List.replicate n (Value.int .i64 0) = intCells (List.replicate n 0) := by simp [intCells]
theorem intCells_get {l : List Nat} {k : Nat} (h : k < l.length) : (intCells l)[k]? = some (.int .i64 (l[k] : Nat)) := by simp [intCells, h]
theorem intCells_set {l : List Nat} {k x : Nat} : (intCells l).set k (.int .i64 (x : Nat)) = intCells (l.set k x) := by simp [intCells]
@[go_sem] theorem intCells_length {l : List Nat} : (intCells l).length = l.length := by simp [intCells]
theorem take_valL {l : List Nat} {k : Nat} (h : k < l.length) : valL (l.take (k + 1)) = valL (l.take k) + 10000 ^ k * l[k] := by
  rw [take_snoc h, valL_append, List.length_take, Nat.min_eq_left (by omega)]; simp [valL]

/-- One step of the inner loop of a product. -/
theorem mul_step {v v2 R o c n i k x y : Nat} (h1 : v2 + o * 10000 ^ (i + k) = v + (n % 10000) * 10000 ^ (i + k)) (h2 : v + c * 10000 ^ (i + k) = R) (h3 : n = o + c + x * y) : v2 + (n / 10000) * 10000 ^ (i + (k + 1)) = R + x * 10000 ^ i * (10000 ^ k * y) := by
  have e1 : 10000 ^ (i + (k + 1)) = 10000 * 10000 ^ (i + k) := by rw [← Nat.add_assoc, Nat.pow_succ, Nat.mul_comm]
  have e2 : x * 10000 ^ i * (10000 ^ k * y) = x * y * 10000 ^ (i + k) := by rw [Nat.pow_add]; ac_rfl
  rw [e1, e2, ← h2]
  generalize 10000 ^ (i + k) = P at *
  have e3 : n / 10000 * (10000 * P) = (10000 * (n / 10000)) * P := by ac_rfl
  have e4 : (10000 * (n / 10000)) * P + (n % 10000) * P = n * P := by rw [← Nat.add_mul, Nat.div_add_mod]
  have e5 : n * P = o * P + c * P + x * y * P := by rw [h3, Nat.add_mul, Nat.add_mul]
  omega

set_option maxHeartbeats 2000000 in
theorem f119 {u v : Value} {a b : Nat} {H : Heap} (hu : NatAt H u a) (hv : NatAt H v b) (hla : (limbs a).length ≤ 1000000000) (hlb : (limbs b).length ≤ 1000000000) {Q : Out → Prop} (q : ∀ v' H', NatAt H' v' (a * b) → Ext H H' → Q (.ret v' H')) : Cl tab 119 [u, v] H Q := by
  unfold NatAt at hu hv
  have hA := limbs_lt (n := a)
  have hB := limbs_lt (n := b)
  have vA := valL_limbs a
  have vB := valL_limbs b
  generalize limbs a = A at *
  generalize limbs b = B at *
  obtain ⟨aa, ac, ha1, rfl, ha3⟩ := hu
  obtain ⟨ba, bc, hb1, rfl, hb3⟩ := hv
  apply e119
  simp (disch := (first | decide | omega | (simp only [go_sem]; done) | (simp only [go_sem]; omega))) only [go_sem, ↓reduceIte, Nat.reduceEqDiff, Nat.reduceAdd, Nat.reduceSub, Nat.reduceMul, Nat.reduceLT, Nat.reduceLeDiff, Int.reduceEq, Int.reduceLT, Int.reduceLE, Int.reduceAdd, Int.reduceSub, Int.reduceMul, Int.reduceNeg, Int.reduceToNat, Int.reduceNe, reduceCtorEq]
  refine w119_7 (ι := Nat × List Nat) (0, List.replicate (A.length + B.length) 0) (fun ⟨i, out⟩ e h => h = H ++ [.cells (intCells out) (.fix none) 0] ∧ e.length = 66 ∧ i ≤ A.length ∧ out.length = A.length + B.length ∧ valL out = valL (A.take i) * b ∧ (∀ d ∈ out, d < 10000) ∧ (∀ j, (hj : j < out.length) → i + B.length ≤ j → out[j] = 0) ∧
      gt e 0 = .slice aa A.length ac ∧ gt e 1 = .slice ba B.length bc ∧ gt e 5 = .slice (some ⟨H.length, 0, none⟩) out.length out.length ∧ gt e 6 = .int .i64 i) (fun ⟨i, out⟩ => A.length - i) ?_ ?_
  · have hnt : ((A.length : Int) + B.length).toNat = A.length + B.length := by omega
    simp (disch := (first | decide | omega | (simp only [go_sem, hnt, flat_one, intCells_zeros]; done) | (simp only [go_sem, hnt, flat_one, intCells_zeros]; omega))) only [go_sem, ↓reduceIte, Nat.reduceEqDiff, Nat.reduceAdd, Nat.reduceSub, Nat.reduceMul, Nat.reduceLT, Nat.reduceLeDiff, Int.reduceEq, Int.reduceLT, Int.reduceLE, Int.reduceAdd, Int.reduceSub, Int.reduceMul, Int.reduceNeg, Int.reduceToNat, Int.reduceNe, reduceCtorEq, hnt, flat_one, intCells_zeros]
    (try and_intros) <;> (try first | rfl | omega)
    · simp [valL_zeros, valL]
    · simp
    · simp
  · rintro ⟨i, out⟩ e h ⟨rfl, he, hi, hol, hv, hd, hz, e0, e1, e5, e6⟩ ih
    simp (disch := (first | decide | omega | (simp only [go_sem, e0, e1, e5, e6]; done) | (simp only [go_sem, e0, e1, e5, e6]; omega))) only [go_sem, ↓reduceIte, Nat.reduceEqDiff, Nat.reduceAdd, Nat.reduceSub, Nat.reduceMul, Nat.reduceLT, Nat.reduceLeDiff, Int.reduceEq, Int.reduceLT, Int.reduceLE, Int.reduceAdd, Int.reduceSub, Int.reduceMul, Int.reduceNeg, Int.reduceToNat, Int.reduceNe, reduceCtorEq, e0, e1, e5, e6]
    refine brK_prop (fun hh => ?_) (fun hh => ?_)
    · have hiA : i < A.length := by omega
      obtain ⟨ai, ao, as, rfl, ga⟩ := ha3 i hiA
      have hai := hA A[i] (List.getElem_mem hiA)
      have hal := get1_lt ga
      simp (disch := (first | decide | omega | (simp only [go_sem, e0, e1, e5, e6]; done) | (simp only [go_sem, e0, e1, e5, e6]; omega))) only [go_sem, ↓reduceIte, Nat.reduceEqDiff, Nat.reduceAdd, Nat.reduceSub, Nat.reduceMul, Nat.reduceLT, Nat.reduceLeDiff, Int.reduceEq, Int.reduceLT, Int.reduceLE, Int.reduceAdd, Int.reduceSub, Int.reduceMul, Int.reduceNeg, Int.reduceToNat, Int.reduceNe, reduceCtorEq, e0, e1, e5, e6]
      refine w119_17 (ι := Nat × Nat × List Nat) (0, 0, out) (fun ⟨k, c, o⟩ e' h' => h' = H ++ [.cells (intCells o) (.fix none) 0] ∧ e'.length = 66 ∧ k ≤ B.length + 1 ∧ c < 10000 ∧ (k = B.length + 1 → c = 0) ∧ o.length = A.length + B.length ∧ valL o + c * 10000 ^ (i + k) = valL (A.take i) * b + A[i] * 10000 ^ i * valL (B.take k) ∧ (∀ d ∈ o, d < 10000) ∧
          (∀ j, (hj : j < o.length) → k ≤ B.length → i + B.length ≤ j → o[j] = 0) ∧ (∀ j, (hj : j < o.length) → i + 1 + B.length ≤ j → o[j] = 0) ∧
          gt e' 0 = .slice (some ⟨ai, ao, as⟩) A.length ac ∧ gt e' 1 = .slice ba B.length bc ∧ gt e' 5 = .slice (some ⟨H.length, 0, none⟩) o.length o.length ∧ gt e' 6 = .int .i64 i ∧ gt e' 7 = .int .i64 c ∧ gt e' 8 = .int .i64 k) (fun ⟨k, c, o⟩ => B.length + 1 - k) ?_ ?_
      · simp (disch := (first | decide | omega | (simp only [go_sem, e0, e1, e5, e6, he]; done) | (simp only [go_sem, e0, e1, e5, e6, he]; omega))) only [go_sem, ↓reduceIte, Nat.reduceEqDiff, Nat.reduceAdd, Nat.reduceSub, Nat.reduceMul, Nat.reduceLT, Nat.reduceLeDiff, Int.reduceEq, Int.reduceLT, Int.reduceLE, Int.reduceAdd, Int.reduceSub, Int.reduceMul, Int.reduceNeg, Int.reduceToNat, Int.reduceNe, reduceCtorEq, e0, e1, e5, e6, he]
        (try and_intros) <;> (try first | rfl | omega | assumption | (intros; trivial))
        all_goals first | exact fun j hj _ h => hz j hj h | exact fun j hj h => hz j hj (by omega) | (simp [hv, valL]; done)
      · rintro ⟨k, c, o⟩ e' h' ⟨rfl, he', hk, hc, hk1, hol', hv', hd', hz1, hz2, g0, g1, g5, g6, g7, g8⟩ ih2
        have sums : (i : Int) + k = ((i + k : Nat) : Int) := by omega
        simp (disch := (first | decide | omega | (simp only [go_sem, g0, g1, g5, g6, g7, g8]; done) | (simp only [go_sem, g0, g1, g5, g6, g7, g8]; omega))) only [go_sem, ↓reduceIte, Nat.reduceEqDiff, Nat.reduceAdd, Nat.reduceSub, Nat.reduceMul, Nat.reduceLT, Nat.reduceLeDiff, Int.reduceEq, Int.reduceLT, Int.reduceLE, Int.reduceAdd, Int.reduceSub, Int.reduceMul, Int.reduceNeg, Int.reduceToNat, Int.reduceNe, reduceCtorEq, g0, g1, g5, g6, g7, g8]
        (repeat (refine guO_merge (fun hb => by (have hb' := hb; (try simp only [nrm] at hb'); have hc := hb; (try simp only [Bool.and_eq_true] at hc); first | (simp (disch := (first | decide | omega | (simp only [go_sem, hb, g0, g1, g5, g6, g7, g8]; done) | (simp only [go_sem, hb, g0, g1, g5, g6, g7, g8]; omega))) only [go_sem, ↓reduceIte, Nat.reduceEqDiff, Nat.reduceAdd, Nat.reduceSub, Nat.reduceMul, Nat.reduceLT, Nat.reduceLeDiff, Int.reduceEq, Int.reduceLT, Int.reduceLE, Int.reduceAdd, Int.reduceSub, Int.reduceMul, Int.reduceNeg, Int.reduceToNat, Int.reduceNe, reduceCtorEq, hb, g0, g1, g5, g6, g7, g8]; rfl) | (simp (disch := (first | decide | omega | (simp only [go_sem, hc, g0, g1, g5, g6, g7, g8]; done) | (simp only [go_sem, hc, g0, g1, g5, g6, g7, g8]; omega))) only [go_sem, ↓reduceIte, Nat.reduceEqDiff, Nat.reduceAdd, Nat.reduceSub, Nat.reduceMul, Nat.reduceLT, Nat.reduceLeDiff, Int.reduceEq, Int.reduceLT, Int.reduceLE, Int.reduceAdd, Int.reduceSub, Int.reduceMul, Int.reduceNeg, Int.reduceToNat, Int.reduceNe, reduceCtorEq, hc, g0, g1, g5, g6, g7, g8]; rfl))) rfl ?_; simp (disch := (first | decide | omega | (simp only [go_sem, g0, g1, g5, g6, g7, g8]; done) | (simp only [go_sem, g0, g1, g5, g6, g7, g8]; omega))) only [go_sem, ↓reduceIte, Nat.reduceEqDiff, Nat.reduceAdd, Nat.reduceSub, Nat.reduceMul, Nat.reduceLT, Nat.reduceLeDiff, Int.reduceEq, Int.reduceLT, Int.reduceLE, Int.reduceAdd, Int.reduceSub, Int.reduceMul, Int.reduceNeg, Int.reduceToNat, Int.reduceNe, reduceCtorEq, g0, g1, g5, g6, g7, g8]))
        refine brK_of (fun h1 => ?_) (fun h1 => ?_)
        · simp at h1
          have hkB : k ≤ B.length := by
            rcases h1 with h1 | h1
            · omega
            · by_cases hkk : k = B.length + 1
              · have := hk1 hkk; omega
              · omega
          have hik : i + k < o.length := by omega
          have hoi := hd' o[i + k] (List.getElem_mem hik)
          simp (disch := (first | decide | omega | (simp only [go_sem, g0, g1, g5, g6, g7, g8, sums, intCells_get hik]; done) | (simp only [go_sem, g0, g1, g5, g6, g7, g8, sums, intCells_get hik]; omega))) only [go_sem, ↓reduceIte, Nat.reduceEqDiff, Nat.reduceAdd, Nat.reduceSub, Nat.reduceMul, Nat.reduceLT, Nat.reduceLeDiff, Int.reduceEq, Int.reduceLT, Int.reduceLE, Int.reduceAdd, Int.reduceSub, Int.reduceMul, Int.reduceNeg, Int.reduceToNat, Int.reduceNe, reduceCtorEq, g0, g1, g5, g6, g7, g8, sums, intCells_get hik]
          have hset : ∀ x, valL (o.set (i + k) x) + o[i + k] * 10000 ^ (i + k) = valL o + x * 10000 ^ (i + k) := fun x => valL_set x hik
          by_cases hkb : k < B.length
          · obtain ⟨bi, bo, bs, rfl, gb⟩ := hb3 k hkb
            have hbk := hB B[k] (List.getElem_mem hkb)
            have hbl := get1_lt gb
            have hkb' : (k : Int) < B.length := by omega
            have hprod : A[i] * B[k] ≤ 9999 * 9999 := Nat.mul_le_mul (by omega) (by omega)
            have hpi : ((A[i] : Nat) : Int) * ((B[k] : Nat) : Int) = ((A[i] * B[k] : Nat) : Int) := by simp
            generalize hn : o[i + k] + c + A[i] * B[k] = n at *
            have hni : ((o[i + k] : Nat) : Int) + c + ((A[i] * B[k] : Nat) : Int) = (n : Int) := by omega
            have hnm : ((n : Int) % 10000) = ((n % 10000 : Nat) : Int) := by omega
            have hnq : ((n : Int) / 10000) = ((n / 10000 : Nat) : Int) := by omega
            simp (disch := (first | decide | omega | (simp only [go_sem, g0, g1, g5, g6, g7, g8, ga, gb, hkb', hpi, sums, hni, hnm, hnq, intCells_set]; done) | (simp only [go_sem, g0, g1, g5, g6, g7, g8, ga, gb, hkb', hpi, sums, hni, hnm, hnq, intCells_set]; omega))) only [go_sem, ↓reduceIte, Nat.reduceEqDiff, Nat.reduceAdd, Nat.reduceSub, Nat.reduceMul, Nat.reduceLT, Nat.reduceLeDiff, Int.reduceEq, Int.reduceLT, Int.reduceLE, Int.reduceAdd, Int.reduceSub, Int.reduceMul, Int.reduceNeg, Int.reduceToNat, Int.reduceNe, reduceCtorEq, g0, g1, g5, g6, g7, g8, ga, gb, hkb', hpi, sums, hni, hnm, hnq, intCells_set]
            refine ih2 (k + 1, n / 10000, o.set (i + k) (n % 10000)) _ _ (by simp only; omega) ⟨rfl, ?_⟩
            simp (disch := (first | decide | omega | (simp only [go_sem, g0, g1, g5, g6, g7, g8, he']; done) | (simp only [go_sem, g0, g1, g5, g6, g7, g8, he']; omega))) only [go_sem, ↓reduceIte, Nat.reduceEqDiff, Nat.reduceAdd, Nat.reduceSub, Nat.reduceMul, Nat.reduceLT, Nat.reduceLeDiff, Int.reduceEq, Int.reduceLT, Int.reduceLE, Int.reduceAdd, Int.reduceSub, Int.reduceMul, Int.reduceNeg, Int.reduceToNat, Int.reduceNe, reduceCtorEq, g0, g1, g5, g6, g7, g8, he']
            (try and_intros) <;> (try first | rfl | omega | assumption | (intros; trivial))
            · rw [take_valL hkb, Nat.mul_add]
              exact (mul_step (hset _) hv' hn.symm).trans (Nat.add_assoc _ _ _)
            · intro d hd2
              rcases List.mem_or_eq_of_mem_set hd2 with h5 | h5
              · exact hd' d h5
              · omega
            · intro j hj hkj hij
              rw [List.getElem_set_ne (by omega)]
              exact hz1 j (by simpa using hj) (by omega) hij
            · intro j hj hij
              rw [List.getElem_set_ne (by omega)]
              exact hz2 j (by simpa using hj) hij
          · have hkl : k = B.length := by omega
            subst hkl
            have ho0 : o[i + B.length] = 0 := hz1 (i + B.length) hik (Nat.le_refl _) (Nat.le_refl _)
            have hkb' : ¬ ((B.length : Int) < B.length) := by omega
            have hcm : ((c : Int) % 10000) = (c : Int) := by omega
            have hcq : ((c : Int) / 10000) = ((0 : Nat) : Int) := by omega
            simp (disch := (first | decide | omega | (simp only [go_sem, g0, g1, g5, g6, g7, g8, hkb', sums, ho0, hcm, hcq, intCells_set]; done) | (simp only [go_sem, g0, g1, g5, g6, g7, g8, hkb', sums, ho0, hcm, hcq, intCells_set]; omega))) only [go_sem, ↓reduceIte, Nat.reduceEqDiff, Nat.reduceAdd, Nat.reduceSub, Nat.reduceMul, Nat.reduceLT, Nat.reduceLeDiff, Int.reduceEq, Int.reduceLT, Int.reduceLE, Int.reduceAdd, Int.reduceSub, Int.reduceMul, Int.reduceNeg, Int.reduceToNat, Int.reduceNe, reduceCtorEq, g0, g1, g5, g6, g7, g8, hkb', sums, ho0, hcm, hcq, intCells_set]
            refine ih2 (B.length + 1, 0, o.set (i + B.length) c) _ _ (by simp only; omega) ⟨rfl, ?_⟩
            simp (disch := (first | decide | omega | (simp only [go_sem, g0, g1, g5, g6, g7, g8, he']; done) | (simp only [go_sem, g0, g1, g5, g6, g7, g8, he']; omega))) only [go_sem, ↓reduceIte, Nat.reduceEqDiff, Nat.reduceAdd, Nat.reduceSub, Nat.reduceMul, Nat.reduceLT, Nat.reduceLeDiff, Int.reduceEq, Int.reduceLT, Int.reduceLE, Int.reduceAdd, Int.reduceSub, Int.reduceMul, Int.reduceNeg, Int.reduceToNat, Int.reduceNe, reduceCtorEq, g0, g1, g5, g6, g7, g8, he']
            (try and_intros) <;> (try first | rfl | omega | assumption | (intros; trivial))
            · have h3 := hset c
              rw [ho0] at h3
              rw [List.take_length] at hv'
              have eB : B.take (B.length + 1) = B := List.take_of_length_le (by omega)
              rw [eB]
              omega
            · intro d hd2
              rcases List.mem_or_eq_of_mem_set hd2 with h5 | h5
              · exact hd' d h5
              · omega
            · intro j hj hij
              rw [List.getElem_set_ne (by omega)]
              exact hz2 j (by simpa using hj) (by omega)
        · simp at h1
          have hc0 : c = 0 := by omega
          subst hc0
          simp (disch := (first | decide | omega | (simp only [go_sem, g0, g1, g5, g6, g7, g8]; done) | (simp only [go_sem, g0, g1, g5, g6, g7, g8]; omega))) only [go_sem, ↓reduceIte, Nat.reduceEqDiff, Nat.reduceAdd, Nat.reduceSub, Nat.reduceMul, Nat.reduceLT, Nat.reduceLeDiff, Int.reduceEq, Int.reduceLT, Int.reduceLE, Int.reduceAdd, Int.reduceSub, Int.reduceMul, Int.reduceNeg, Int.reduceToNat, Int.reduceNe, reduceCtorEq, g0, g1, g5, g6, g7, g8]
          refine ih (i + 1, o) _ _ (by simp only; omega) ⟨rfl, ?_⟩
          simp (disch := (first | decide | omega | (simp only [go_sem, g0, g1, g5, g6, g7, g8, he']; done) | (simp only [go_sem, g0, g1, g5, g6, g7, g8, he']; omega))) only [go_sem, ↓reduceIte, Nat.reduceEqDiff, Nat.reduceAdd, Nat.reduceSub, Nat.reduceMul, Nat.reduceLT, Nat.reduceLeDiff, Int.reduceEq, Int.reduceLT, Int.reduceLE, Int.reduceAdd, Int.reduceSub, Int.reduceMul, Int.reduceNeg, Int.reduceToNat, Int.reduceNe, reduceCtorEq, g0, g1, g5, g6, g7, g8, he']
          (try and_intros) <;> (try first | rfl | omega | assumption | (intros; trivial))
          · have eB : B.take k = B := List.take_of_length_le (by omega)
            rw [eB, vB] at hv'
            rw [take_valL hiA, Nat.add_mul]
            have : 10000 ^ i * A[i] * b = A[i] * 10000 ^ i * b := by ac_rfl
            omega
    · have hia : i = A.length := by omega
      subst hia
      rw [List.take_length, vA] at hv
      simp (disch := (first | decide | omega | (simp only [go_sem, e0, e1, e5, e6]; done) | (simp only [go_sem, e0, e1, e5, e6]; omega))) only [go_sem, ↓reduceIte, Nat.reduceEqDiff, Nat.reduceAdd, Nat.reduceSub, Nat.reduceMul, Nat.reduceLT, Nat.reduceLeDiff, Int.reduceEq, Int.reduceLT, Int.reduceLE, Int.reduceAdd, Int.reduceSub, Int.reduceMul, Int.reduceNeg, Int.reduceToNat, Int.reduceNe, reduceCtorEq, e0, e1, e5, e6]
      have hints : IntsAt (H ++ [.cells (intCells out) (.fix none) 0]) (.slice (some ⟨H.length, 0, none⟩) out.length out.length) out :=
        ⟨_, _, Nat.le_refl _, rfl, fun k hk => ⟨H.length, 0, none, rfl, by rw [get1_app_zero, get1_cons_zero, Nat.zero_add, intCells_get hk]⟩⟩
      refine f197 hints hd (by omega) ?_
      rintro v' _ hv' ⟨J, rfl⟩
      simp (disch := (first | decide | omega | (simp only [go_sem]; done) | (simp only [go_sem]; omega))) only [go_sem, ↓reduceIte, Nat.reduceEqDiff, Nat.reduceAdd, Nat.reduceSub, Nat.reduceMul, Nat.reduceLT, Nat.reduceLeDiff, Int.reduceEq, Int.reduceLT, Int.reduceLE, Int.reduceAdd, Int.reduceSub, Int.reduceMul, Int.reduceNeg, Int.reduceToNat, Int.reduceNe, reduceCtorEq]
      refine q _ _ ?_ (by first | exact Ext.refl | exact ⟨_, rfl⟩)
      rw [hv] at hv'
      unfold NatAt
      simpa using hv'

set_option exponentiation.threshold 8000 in
/-- Powers of ten. -/
theorem f122 {u : Value} {n : Nat} {H : Heap} (hu : NatAt H u 10) (hn : n ≤ 300) {Q : Out → Prop} (q : ∀ v' H', NatAt H' v' (10 ^ n) → Ext H H' → Q (.ret v' H')) : Cl tab 122 [u, .int .i64 n] H Q := by
  have hlen : ∀ m, m ≤ 601 → (limbs (10 ^ m)).length ≤ 1000 := by
    intro m hm
    refine limbs_length_of (Nat.lt_of_lt_of_le (Nat.pow_lt_pow_right (by omega) (by omega : m < 4000)) ?_)
    rw [show (10000 : Nat) = 10 ^ 4 from rfl, ← Nat.pow_mul]
    exact Nat.pow_le_pow_right (by omega) (by decide)
  apply e122
  simp (disch := (first | decide | omega | (simp only [go_sem]; done) | (simp only [go_sem]; omega))) only [go_sem, ↓reduceIte, Nat.reduceEqDiff, Nat.reduceAdd, Nat.reduceSub, Nat.reduceMul, Nat.reduceLT, Nat.reduceLeDiff, Int.reduceEq, Int.reduceLT, Int.reduceLE, Int.reduceAdd, Int.reduceSub, Int.reduceMul, Int.reduceNeg, Int.reduceToNat, Int.reduceNe, reduceCtorEq]
  refine f123 (n := 1) (by omega) ?_
  rintro v1 _ n1 ⟨J, rfl⟩
  simp (disch := (first | decide | omega | (simp only [go_sem]; done) | (simp only [go_sem]; omega))) only [go_sem, ↓reduceIte, Nat.reduceEqDiff, Nat.reduceAdd, Nat.reduceSub, Nat.reduceMul, Nat.reduceLT, Nat.reduceLeDiff, Int.reduceEq, Int.reduceLT, Int.reduceLE, Int.reduceAdd, Int.reduceSub, Int.reduceMul, Int.reduceNeg, Int.reduceToNat, Int.reduceNe, reduceCtorEq]
  refine w122_5 (ι := Nat × Nat × Nat) (n, 1, 0) (fun ⟨m, c, x⟩ e h => Ext H h ∧ e.length = 21 ∧ m ≤ n ∧ x + c * m = n ∧ (∃ bv, gt e 0 = bv ∧ NatAt h bv (10 ^ c)) ∧ gt e 1 = .int .i64 m ∧ (∃ ov, gt e 5 = ov ∧ NatAt h ov (10 ^ x))) (fun ⟨m, c, x⟩ => m) ?_ ?_
  · refine ⟨(by first | exact Ext.refl | exact ⟨_, rfl⟩), ?_⟩
    simp (disch := (first | decide | omega | (simp only [go_sem]; done) | (simp only [go_sem]; omega))) only [go_sem, ↓reduceIte, Nat.reduceEqDiff, Nat.reduceAdd, Nat.reduceSub, Nat.reduceMul, Nat.reduceLT, Nat.reduceLeDiff, Int.reduceEq, Int.reduceLT, Int.reduceLE, Int.reduceAdd, Int.reduceSub, Int.reduceMul, Int.reduceNeg, Int.reduceToNat, Int.reduceNe, reduceCtorEq]
    (try and_intros) <;> (try first | rfl | omega | assumption)
    · simpa using hu.ext
  · rintro ⟨m, c, x⟩ e h ⟨⟨J2, rfl⟩, he, hmn, hx, ⟨bv, e0, hb⟩, e1, ⟨ov, e5, ho⟩⟩ ih
    simp (disch := (first | decide | omega | (simp only [go_sem, e0, e1, e5]; done) | (simp only [go_sem, e0, e1, e5]; omega))) only [go_sem, ↓reduceIte, Nat.reduceEqDiff, Nat.reduceAdd, Nat.reduceSub, Nat.reduceMul, Nat.reduceLT, Nat.reduceLeDiff, Int.reduceEq, Int.reduceLT, Int.reduceLE, Int.reduceAdd, Int.reduceSub, Int.reduceMul, Int.reduceNeg, Int.reduceToNat, Int.reduceNe, reduceCtorEq, e0, e1, e5]
    refine brK_prop (fun hh => ?_) (fun hh => ?_)
    · have hm : 0 < m := by omega
      have hcn : c ≤ c * m := Nat.le_mul_of_pos_right c hm
      have hm2 : ((m : Int) % 2) = ((m % 2 : Nat) : Int) := by omega
      have hmq : ((m : Int) / 2) = ((m / 2 : Nat) : Int) := by omega
      simp (disch := (first | decide | omega | (simp only [go_sem, e0, e1, e5, hm2]; done) | (simp only [go_sem, e0, e1, e5, hm2]; omega))) only [go_sem, ↓reduceIte, Nat.reduceEqDiff, Nat.reduceAdd, Nat.reduceSub, Nat.reduceMul, Nat.reduceLT, Nat.reduceLeDiff, Int.reduceEq, Int.reduceLT, Int.reduceLE, Int.reduceAdd, Int.reduceSub, Int.reduceMul, Int.reduceNeg, Int.reduceToNat, Int.reduceNe, reduceCtorEq, e0, e1, e5, hm2]
      refine brK_prop (fun h1 => ?_) (fun h1 => ?_)
      · have hodd : m % 2 = 1 := by omega
        simp (disch := (first | decide | omega | (simp only [go_sem, e0, e1, e5]; done) | (simp only [go_sem, e0, e1, e5]; omega))) only [go_sem, ↓reduceIte, Nat.reduceEqDiff, Nat.reduceAdd, Nat.reduceSub, Nat.reduceMul, Nat.reduceLT, Nat.reduceLeDiff, Int.reduceEq, Int.reduceLT, Int.reduceLE, Int.reduceAdd, Int.reduceSub, Int.reduceMul, Int.reduceNeg, Int.reduceToNat, Int.reduceNe, reduceCtorEq, e0, e1, e5]
        refine f119 ho hb (Nat.le_trans (hlen x (by omega)) (by omega)) (Nat.le_trans (hlen c (by omega)) (by omega)) ?_
        rintro v3 _ n3 ⟨J3, rfl⟩
        simp (disch := (first | decide | omega | (simp only [go_sem, e0, e1, e5]; done) | (simp only [go_sem, e0, e1, e5]; omega))) only [go_sem, ↓reduceIte, Nat.reduceEqDiff, Nat.reduceAdd, Nat.reduceSub, Nat.reduceMul, Nat.reduceLT, Nat.reduceLeDiff, Int.reduceEq, Int.reduceLT, Int.reduceLE, Int.reduceAdd, Int.reduceSub, Int.reduceMul, Int.reduceNeg, Int.reduceToNat, Int.reduceNe, reduceCtorEq, e0, e1, e5]
        have hb' : NatAt (H ++ (J2 ++ J3)) bv (10 ^ c) := by rw [← List.append_assoc]; exact hb.ext
        refine f119 hb' hb' (Nat.le_trans (hlen c (by omega)) (by omega)) (Nat.le_trans (hlen c (by omega)) (by omega)) ?_
        rintro v4 _ n4 ⟨J4, rfl⟩
        simp (disch := (first | decide | omega | (simp only [go_sem, e0, e1, e5, hmq]; done) | (simp only [go_sem, e0, e1, e5, hmq]; omega))) only [go_sem, ↓reduceIte, Nat.reduceEqDiff, Nat.reduceAdd, Nat.reduceSub, Nat.reduceMul, Nat.reduceLT, Nat.reduceLeDiff, Int.reduceEq, Int.reduceLT, Int.reduceLE, Int.reduceAdd, Int.reduceSub, Int.reduceMul, Int.reduceNeg, Int.reduceToNat, Int.reduceNe, reduceCtorEq, e0, e1, e5, hmq]
        refine ih (m / 2, 2 * c, x + c) _ _ (by simp only; omega) ⟨(by first | exact Ext.refl | exact ⟨_, rfl⟩), ?_⟩
        simp (disch := (first | decide | omega | (simp only [go_sem, e0, e1, e5, he]; done) | (simp only [go_sem, e0, e1, e5, he]; omega))) only [go_sem, ↓reduceIte, Nat.reduceEqDiff, Nat.reduceAdd, Nat.reduceSub, Nat.reduceMul, Nat.reduceLT, Nat.reduceLeDiff, Int.reduceEq, Int.reduceLT, Int.reduceLE, Int.reduceAdd, Int.reduceSub, Int.reduceMul, Int.reduceNeg, Int.reduceToNat, Int.reduceNe, reduceCtorEq, e0, e1, e5, he]
        (try and_intros) <;> (try first | rfl | omega | assumption)
        · have : m = 2 * (m / 2) + 1 := by omega
          rw [← hx]
          conv => rhs; rw [this]
          rw [Nat.mul_add, Nat.mul_one, Nat.mul_comm 2 c, Nat.mul_assoc]; omega
        · rw [Nat.two_mul, Nat.pow_add]; simpa using n4
        · rw [Nat.pow_add]; have := NatAt.ext (J := J4) n3; simpa using this
      · have heven : m % 2 = 0 := by omega
        simp (disch := (first | decide | omega | (simp only [go_sem, e0, e1, e5]; done) | (simp only [go_sem, e0, e1, e5]; omega))) only [go_sem, ↓reduceIte, Nat.reduceEqDiff, Nat.reduceAdd, Nat.reduceSub, Nat.reduceMul, Nat.reduceLT, Nat.reduceLeDiff, Int.reduceEq, Int.reduceLT, Int.reduceLE, Int.reduceAdd, Int.reduceSub, Int.reduceMul, Int.reduceNeg, Int.reduceToNat, Int.reduceNe, reduceCtorEq, e0, e1, e5]
        refine f119 hb hb (Nat.le_trans (hlen c (by omega)) (by omega)) (Nat.le_trans (hlen c (by omega)) (by omega)) ?_
        rintro v4 _ n4 ⟨J4, rfl⟩
        simp (disch := (first | decide | omega | (simp only [go_sem, e0, e1, e5, hmq]; done) | (simp only [go_sem, e0, e1, e5, hmq]; omega))) only [go_sem, ↓reduceIte, Nat.reduceEqDiff, Nat.reduceAdd, Nat.reduceSub, Nat.reduceMul, Nat.reduceLT, Nat.reduceLeDiff, Int.reduceEq, Int.reduceLT, Int.reduceLE, Int.reduceAdd, Int.reduceSub, Int.reduceMul, Int.reduceNeg, Int.reduceToNat, Int.reduceNe, reduceCtorEq, e0, e1, e5, hmq]
        refine ih (m / 2, 2 * c, x) _ _ (by simp only; omega) ⟨(by first | exact Ext.refl | exact ⟨_, rfl⟩), ?_⟩
        simp (disch := (first | decide | omega | (simp only [go_sem, e0, e1, e5, he]; done) | (simp only [go_sem, e0, e1, e5, he]; omega))) only [go_sem, ↓reduceIte, Nat.reduceEqDiff, Nat.reduceAdd, Nat.reduceSub, Nat.reduceMul, Nat.reduceLT, Nat.reduceLeDiff, Int.reduceEq, Int.reduceLT, Int.reduceLE, Int.reduceAdd, Int.reduceSub, Int.reduceMul, Int.reduceNeg, Int.reduceToNat, Int.reduceNe, reduceCtorEq, e0, e1, e5, he]
        (try and_intros) <;> (try first | rfl | omega | assumption)
        · have : m = 2 * (m / 2) := by omega
          rw [← hx]
          conv => rhs; rw [this]
          rw [Nat.mul_comm 2 c, Nat.mul_assoc]
        · rw [Nat.two_mul, Nat.pow_add]; simpa using n4
        · have := NatAt.ext (J := J4) ho; simpa using this
    · have hm : m = 0 := by omega
      subst hm
      simp (disch := (first | decide | omega | (simp only [go_sem, e0, e1, e5]; done) | (simp only [go_sem, e0, e1, e5]; omega))) only [go_sem, ↓reduceIte, Nat.reduceEqDiff, Nat.reduceAdd, Nat.reduceSub, Nat.reduceMul, Nat.reduceLT, Nat.reduceLeDiff, Int.reduceEq, Int.reduceLT, Int.reduceLE, Int.reduceAdd, Int.reduceSub, Int.reduceMul, Int.reduceNeg, Int.reduceToNat, Int.reduceNe, reduceCtorEq, e0, e1, e5]
      refine q _ _ ?_ (by first | exact Ext.refl | exact ⟨_, rfl⟩)
      rw [← hx]; simpa using ho
end Ve
end Go.Proofs.YtnociodpfmlglaaGreatDoor

/-
  The order of texts, numbers and documents: plain facts.
-/
set_option linter.unusedVariables false
set_option linter.unusedSimpArgs false
namespace Go.Proofs.YtnociodpfmlglaaGreatDoor
namespace Ve
open Go

def sgn (n : Int) : Int := max (-1) (min 1 n)
def cmpS (a b : Str) : Int := if less a b = true then -1 else if a = b then 0 else 1
theorem less_irrefl : ∀ a : Str, less a a = false
  | [] => rfl
  | a :: l => by simp [less, less_irrefl l]
theorem less_asymm : ∀ {a b : Str}, less a b = true → less b a = false
  | [], b :: l, _ => by simp [less]
  | a :: x, b :: y, h => by
    simp only [less, Bool.or_eq_true, decide_eq_true_eq, Bool.and_eq_true, beq_iff_eq] at h
    simp only [less, Bool.or_eq_false_iff, decide_eq_false_iff_not, Bool.and_eq_false_imp, beq_iff_eq]
    rcases h with h | ⟨rfl, h⟩
    · refine ⟨fun h2 => ?_, fun e => ?_⟩
      · exact absurd (UInt8.lt_trans h h2) (UInt8.lt_irrefl a)
      · subst e; exact absurd h (UInt8.lt_irrefl _)
    · exact ⟨UInt8.lt_irrefl _, fun _ => less_asymm h⟩
theorem less_total : ∀ {a b : Str}, less a b = false → a ≠ b → less b a = true
  | [], [], _, h => absurd rfl h
  | [], b :: l, h, _ => by simp [less] at h
  | a :: x, [], _, _ => rfl
  | a :: x, b :: y, h, hne => by
    simp only [less, Bool.or_eq_false_iff, decide_eq_false_iff_not, Bool.and_eq_false_imp, beq_iff_eq] at h
    simp only [less, Bool.or_eq_true, decide_eq_true_eq, Bool.and_eq_true, beq_iff_eq]
    obtain ⟨h1, h2⟩ := h
    by_cases e : a = b
    · subst e
      exact .inr ⟨rfl, less_total (h2 rfl) (fun e => hne (by rw [e]))⟩
    · left
      have : ¬ b.toNat = a.toNat := fun e2 => e (UInt8.toNat_inj.1 e2.symm)
      have h3 : ¬ a.toNat < b.toNat := fun h => h1 (UInt8.lt_iff_toNat_lt.2 h)
      exact UInt8.lt_iff_toNat_lt.2 (by omega)

def allD (l : Str) : Prop := ∀ c ∈ l, 48 ≤ c.toNat ∧ c.toNat ≤ 57
/-- Rows of digits, none of which ends in 0, as fractions: the order of the texts is that of the numbers. -/
theorem less_val : ∀ {x y : Str} {N : Nat}, allD x → allD y → x.length ≤ N → y.length ≤ N → (∀ h : x ≠ [], x.getLast h ≠ 48) → (∀ h : y ≠ [], y.getLast h ≠ 48) →
    (less x y = true ↔ digVal x * 10 ^ (N - x.length) < digVal y * 10 ^ (N - y.length))
  | x, [], N, _, _, _, _, _, _ => by simp [less, digVal_nil]
  | [], b :: y, N, _, hy, _, hN, _, hl => by
    simp only [less, digVal_nil, Nat.zero_mul, true_iff]
    refine Nat.mul_pos ?_ (Nat.pow_pos (by omega))
    have h1 := hl (by simp)
    have e : b :: y = (b :: y).dropLast ++ [(b :: y).getLast (by simp)] := (List.dropLast_concat_getLast _).symm
    have h2 := hy ((b :: y).getLast (by simp)) (List.getLast_mem _)
    rw [e, digVal_snoc]
    have : ((b :: y).getLast (by simp)).toNat ≠ 48 := fun h3 => h1 (UInt8.toNat_inj.1 h3)
    omega
  | a :: x, b :: y, N, hx, hy, hnx, hny, hlx, hly => by
    have ha := hx a (by simp)
    have hb := hy b (by simp)
    have hx' : allD x := fun c hc => hx c (by simp [hc])
    have hy' : allD y := fun c hc => hy c (by simp [hc])
    simp only [List.length_cons] at hnx hny
    obtain ⟨M, rfl⟩ : ∃ M, N = M + 1 := ⟨N - 1, by omega⟩
    have ih := less_val (x := x) (y := y) (N := M) hx' hy' (by omega) (by omega) (fun h => by have := hlx (by simp); rwa [List.getLast_cons h] at this) (fun h => by have := hly (by simp); rwa [List.getLast_cons h] at this)
    have ev : ∀ (c : UInt8) (l : Str), l.length ≤ M → digVal (c :: l) * 10 ^ (M + 1 - (c :: l).length) = (c.toNat - 48) * 10 ^ M + digVal l * 10 ^ (M - l.length) := by
      intro c l hl
      have e1 : digVal (c :: l) = (c.toNat - 48) * 10 ^ l.length + digVal l := by
        have := digVal_append [c] l
        simpa [digVal, digV] using this
      rw [e1, Nat.add_mul, Nat.mul_assoc, ← Nat.pow_add, List.length_cons, show l.length + (M + 1 - (l.length + 1)) = M by omega, show M + 1 - (l.length + 1) = M - l.length by omega]
    have hbd : ∀ l : Str, allD l → l.length ≤ M → digVal l * 10 ^ (M - l.length) < 10 ^ M := by
      intro l hl hle
      have h1 := digVal_lt l fun c hc => (hl c hc).2
      have h2 : digVal l * 10 ^ (M - l.length) < 10 ^ l.length * 10 ^ (M - l.length) := Nat.mul_lt_mul_of_pos_right h1 (Nat.pow_pos (by omega))
      rwa [← Nat.pow_add, show l.length + (M - l.length) = M by omega] at h2
    rw [ev a x (by omega), ev b y (by omega)]
    have b1 := hbd x hx' (by omega)
    have b2 := hbd y hy' (by omega)
    generalize digVal x * 10 ^ (M - x.length) = X at *
    generalize digVal y * 10 ^ (M - y.length) = Y at *
    simp only [less, Bool.or_eq_true, decide_eq_true_eq, Bool.and_eq_true, beq_iff_eq]
    by_cases e : a = b
    · subst e
      have := UInt8.lt_irrefl a
      simp only [this, false_or, true_and, ih]
      omega
    · have e2 : a.toNat ≠ b.toNat := fun h => e (UInt8.toNat_inj.1 h)
      simp only [e, false_and, or_false, UInt8.lt_iff_toNat_lt]
      constructor
      · intro h
        have h3 : (a.toNat - 48 + 1) * 10 ^ M ≤ (b.toNat - 48) * 10 ^ M := Nat.mul_le_mul_right _ (by omega)
        rw [Nat.add_mul, Nat.one_mul] at h3
        omega
      · intro h
        by_cases h4 : a.toNat < b.toNat
        · exact h4
        · have h3 : (b.toNat - 48 + 1) * 10 ^ M ≤ (a.toNat - 48) * 10 ^ M := Nat.mul_le_mul_right _ (by omega)
          rw [Nat.add_mul, Nat.one_mul] at h3
          omega

/-- A valid number's digits. -/
theorem numOk {n : Num} (h : numFault n = 0) : n.dig ≠ [] ∧ allD n.dig ∧ n.dig.length ≤ 30 ∧ -30 ≤ n.exp ∧ n.exp ≤ 30 ∧ (n.dig = [48] → n.neg = false ∧ n.exp = 0) ∧ (n.dig ≠ [48] → (∀ h : n.dig ≠ [], n.dig.head h ≠ 48) ∧ (∀ h : n.dig ≠ [], n.dig.getLast h ≠ 48)) := by
  unfold numFault at h
  split at h
  · cases h
  rename_i h1
  simp only [not_or, Bool.not_eq_false] at h1
  have hall : allD n.dig := by
    intro c hc
    have := List.all_eq_true.1 h1.2 c hc
    simp [isDig] at this; omega
  split at h
  · rename_i h2
    split at h
    · cases h
    · rename_i h3
      simp only [not_or, Bool.not_eq_true, ne_eq, Classical.not_not] at h3
      refine ⟨h1.1, hall, by rw [h2]; simp, by omega, by omega, fun _ => h3, fun h => absurd h2 h⟩
  · rename_i h2
    split at h
    · cases h
    · rename_i h3
      split at h
      · cases h
      · rename_i h4
        refine ⟨h1.1, hall, by omega, by omega, by omega, fun h => absurd h h2, fun _ => ⟨fun hne hh => h3 (.inl ?_), fun hne hh => h3 (.inr ?_)⟩⟩
        · obtain ⟨c, l, e⟩ := List.exists_cons_of_ne_nil hne
          rw [e, at8_zero]
          have : c = 48 := by simpa [e] using hh
          subst this; rfl
        · have hl : 0 < n.dig.length := List.length_pos_iff.2 hne
          have e : ((n.dig.length : Int) - 1) = ((n.dig.length - 1 : Nat) : Int) := by omega
          rw [e, at8_get (by omega)]
          rw [List.getLast_eq_getElem] at hh
          rw [hh]; rfl

theorem compareBytes_eq : ∀ a b : Str, Lib.compareBytes a b = cmpS a b
  | [], [] => rfl
  | [], _ :: _ => rfl
  | _ :: _, [] => by simp [Lib.compareBytes, cmpS, less]
  | a :: x, b :: y => by
    have ih := compareBytes_eq x y
    simp only [Lib.compareBytes, ih, cmpS, less, Bool.or_eq_true, decide_eq_true_eq, Bool.and_eq_true, beq_iff_eq, List.cons.injEq]
    by_cases h1 : a < b
    · simp [h1]
    · by_cases h2 : b < a
      · have hne : a ≠ b := fun e => by subst e; exact h1 h2
        simp [h1, h2, hne]
      · have : a = b := by
          apply UInt8.toNat_inj.1
          have h3 : ¬ a.toNat < b.toNat := fun h => h1 (UInt8.lt_iff_toNat_lt.2 h)
          have h4 : ¬ b.toNat < a.toNat := fun h => h2 (UInt8.lt_iff_toNat_lt.2 h)
          omega
        subst this
        simp [h1]

def sc (n : Num) (s : Int) : Nat := digVal n.dig * 10 ^ (n.exp + s).toNat
def ordNum (a b : Num) : Int := if a.neg ≠ b.neg then (if a.neg = true then -1 else 1) else if a.neg = true then - cmpN (sc a 30) (sc b 30) else cmpN (sc a 30) (sc b 30)
def rankN (n : Num) : Int := if n.dig = [48] then 0 else if n.neg = true then -1 else 1
def ordSize (a b : Num) : Int := if sgn ((a.dig.length : Int) + a.exp - b.dig.length - b.exp) ≠ 0 then sgn ((a.dig.length : Int) + a.exp - b.dig.length - b.exp) else cmpS a.dig b.dig
def ordNumP (a b : Num) : Int := if rankN a ≠ rankN b ∨ rankN a = 0 then sgn (rankN a - rankN b) else rankN a * ordSize a b

theorem digVal_ge {l : Str} (hne : l ≠ []) (hd : allD l) (hh : ∀ h : l ≠ [], l.head h ≠ 48) : 10 ^ (l.length - 1) ≤ digVal l := by
  obtain ⟨c, r, rfl⟩ := List.exists_cons_of_ne_nil hne
  have h1 := hh hne
  have h2 := hd c (by simp)
  have h3 : c.toNat ≠ 48 := fun h => h1 (UInt8.toNat_inj.1 h)
  have e1 : digVal (c :: r) = (c.toNat - 48) * 10 ^ r.length + digVal r := by
    have := digVal_append [c] r
    simpa [digVal, digV] using this
  rw [e1]
  have : 1 * 10 ^ r.length ≤ (c.toNat - 48) * 10 ^ r.length := Nat.mul_le_mul_right _ (by omega)
  simp only [List.length_cons, Nat.add_sub_cancel]
  omega
theorem sc_lt {n : Num} (hd : allD n.dig) (he : -30 ≤ n.exp) {N : Nat} (hN : (N : Int) = n.dig.length + n.exp + 30) : sc n 30 < 10 ^ N := by
  have h1 := digVal_lt n.dig fun c hc => (hd c hc).2
  have h2 : sc n 30 < 10 ^ n.dig.length * 10 ^ (n.exp + 30).toNat := Nat.mul_lt_mul_of_pos_right h1 (Nat.pow_pos (by omega))
  rwa [← Nat.pow_add, show n.dig.length + (n.exp + 30).toNat = N by omega] at h2
theorem sc_ge {n : Num} (hne : n.dig ≠ []) (hd : allD n.dig) (hh : ∀ h : n.dig ≠ [], n.dig.head h ≠ 48) (he : -30 ≤ n.exp) {N : Nat} (hN : (N : Int) = n.dig.length + n.exp + 30) : 10 ^ (N - 1) ≤ sc n 30 := by
  have h1 := digVal_ge hne hd hh
  have h2 : 10 ^ (n.dig.length - 1) * 10 ^ (n.exp + 30).toNat ≤ sc n 30 := Nat.mul_le_mul_right _ h1
  have := List.length_pos_iff.2 hne
  rwa [← Nat.pow_add, show n.dig.length - 1 + (n.exp + 30).toNat = N - 1 by omega] at h2
theorem cmpN_lt {a b : Nat} (h : a < b) : cmpN a b = -1 := by simp [cmpN, h]
theorem cmpN_gt {a b : Nat} (h : b < a) : cmpN a b = 1 := by
  have : ¬ a < b := by omega
  simp [cmpN, h, this]
theorem cmpN_eq (a : Nat) : cmpN a a = 0 := by simp [cmpN]
theorem ordSize_eq {a b : Num} (ha : numFault a = 0) (hb : numFault b = 0) (za : a.dig ≠ [48]) (zb : b.dig ≠ [48]) : ordSize a b = cmpN (sc a 30) (sc b 30) := by
  obtain ⟨a1, a2, a3, a4, a5, _, a6⟩ := numOk ha
  obtain ⟨b1, b2, b3, b4, b5, _, b6⟩ := numOk hb
  obtain ⟨a7, a8⟩ := a6 za
  obtain ⟨b7, b8⟩ := b6 zb
  have la := List.length_pos_iff.2 a1
  have lb := List.length_pos_iff.2 b1
  have hA : (((a.dig.length : Int) + a.exp + 30).toNat : Int) = a.dig.length + a.exp + 30 := by omega
  have hB : (((b.dig.length : Int) + b.exp + 30).toNat : Int) = b.dig.length + b.exp + 30 := by omega
  have ua := sc_lt a2 a4 hA
  have ub := sc_lt b2 b4 hB
  have ga := sc_ge a1 a2 a7 a4 hA
  have gb := sc_ge b1 b2 b7 b4 hB
  generalize hNA : ((a.dig.length : Int) + a.exp + 30).toNat = NA at *
  generalize hNB : ((b.dig.length : Int) + b.exp + 30).toNat = NB at *
  unfold ordSize
  rcases Nat.lt_trichotomy NA NB with h | h | h
  · have e : sgn ((a.dig.length : Int) + a.exp - b.dig.length - b.exp) = -1 := by unfold sgn; omega
    rw [e, if_pos (by decide)]
    have : 10 ^ NA ≤ 10 ^ (NB - 1) := Nat.pow_le_pow_right (by omega) (by omega)
    rw [cmpN_lt (by omega)]
  · have e : sgn ((a.dig.length : Int) + a.exp - b.dig.length - b.exp) = 0 := by unfold sgn; omega
    rw [e, if_neg (by decide)]
    have sa : sc a 30 = digVal a.dig * 10 ^ (NA - a.dig.length) := by unfold sc; congr 2; omega
    have sb : sc b 30 = digVal b.dig * 10 ^ (NA - b.dig.length) := by unfold sc; congr 2; omega
    have h1 := less_val (N := NA) a2 b2 (by omega) (by omega) a8 b8
    have h2 := less_val (N := NA) b2 a2 (by omega) (by omega) b8 a8
    rw [← sa, ← sb] at h1 h2
    unfold cmpS
    by_cases hl : less a.dig b.dig = true
    · rw [if_pos hl, cmpN_lt (h1.1 hl)]
    · rw [if_neg hl]
      by_cases he : a.dig = b.dig
      · rw [if_pos he]
        have : sc a 30 = sc b 30 := by rw [sa, sb, he]
        rw [this, cmpN_eq]
      · rw [if_neg he]
        have hl' : less a.dig b.dig = false := by simpa using hl
        rw [cmpN_gt (h2.1 (less_total hl' he))]
  · have e : sgn ((a.dig.length : Int) + a.exp - b.dig.length - b.exp) = 1 := by unfold sgn; omega
    rw [e, if_pos (by decide)]
    have : 10 ^ NB ≤ 10 ^ (NA - 1) := Nat.pow_le_pow_right (by omega) (by omega)
    rw [cmpN_gt (by omega)]
theorem sc_zero {n : Num} (h : n.dig = [48]) : sc n 30 = 0 := by simp [sc, h, digVal, digV]
theorem sc_pos {n : Num} (h : numFault n = 0) (z : n.dig ≠ [48]) : 0 < sc n 30 := by
  obtain ⟨a1, a2, a3, a4, a5, _, a6⟩ := numOk h
  have hA : (((n.dig.length : Int) + n.exp + 30).toNat : Int) = n.dig.length + n.exp + 30 := by have := List.length_pos_iff.2 a1; omega
  have := sc_ge a1 a2 (a6 z).1 a4 hA
  have h2 : 0 < 10 ^ (((n.dig.length : Int) + n.exp + 30).toNat - 1) := Nat.pow_pos (by omega)
  omega
theorem ordNum_eq {a b : Num} (ha : numFault a = 0) (hb : numFault b = 0) : ordNumP a b = ordNum a b := by
  have za : a.dig = [48] → a.neg = false := fun h => ((numOk ha).2.2.2.2.2.1 h).1
  have zb : b.dig = [48] → b.neg = false := fun h => ((numOk hb).2.2.2.2.2.1 h).1
  unfold ordNumP ordNum rankN
  by_cases h1 : a.dig = [48]
  · have na := za h1
    have sa := sc_zero h1
    by_cases h2 : b.dig = [48]
    · simp [h1, h2, na, zb h2, sa, sc_zero h2, cmpN, sgn]; omega
    · have pb := sc_pos hb h2
      cases nb : b.neg <;> simp [h1, h2, na, nb, sa, cmpN_lt pb, sgn] <;> omega
  · have pa := sc_pos ha h1
    by_cases h2 : b.dig = [48]
    · have nb := zb h2
      have sb := sc_zero h2
      cases na : a.neg <;> simp [h1, h2, na, nb, sb, cmpN_gt pa, sgn] <;> omega
    · have hs := ordSize_eq ha hb h1 h2
      cases na : a.neg <;> cases nb : b.neg <;> simp [h1, h2, na, nb, hs, sgn] <;> omega

/-! documents -/
theorem valid_node {d : Doc} (h : nodesFault d = 0) : nodeFault d = 0 ∧ listFault d.list = 0 := by
  obtain ⟨kind, b, num, text, list, keys⟩ := d
  simp only [nodesFault] at h
  by_cases hn : nodeFault (.mk kind b num text list keys) = 0
  · simp [hn] at h; exact ⟨hn, h⟩
  · simp [hn] at h
theorem valid_kid : ∀ {l : List Doc} {k : Nat} (hk : k < l.length), listFault l = 0 → nodesFault l[k] = 0
  | d :: l, 0, _, h => by
    simp only [listFault] at h
    by_cases hn : nodesFault d = 0
    · exact hn
    · simp [hn] at h
  | d :: l, k + 1, hk, h => by
    simp only [listFault] at h
    by_cases hn : nodesFault d = 0
    · simp [hn] at h; exact valid_kid (l := l) (k := k) (by simpa using hk) h
    · simp [hn] at h
/-- What a node without fault is. -/
theorem node_ok {kind : Int} {b : Bool} {num : Num} {text : Str} {list : List Doc} {keys : List Str} (h : nodeFault (.mk kind b num text list keys) = 0) :
    1 ≤ kind ∧ kind ≤ 6 ∧ strangeB (.mk kind b num text list keys) = false ∧ (kind = 3 → numFault num = 0) ∧ (kind = 6 → keys.length = list.length) ∧ (kind < 5 → list = []) ∧ (kind ≠ 2 → b = false) ∧ (kind ≠ 3 → num = ⟨false, [], 0⟩) ∧ (kind ≠ 4 → text = []) ∧ (kind ≠ 6 → keys = []) ∧ (kind = 4 → textFault text = 0) ∧ (kind = 6 ∨ kind = 5 → keysFrom none keys = 0) := by
  simp only [nodeFault] at h
  by_cases h1 : kind < 1 ∨ 6 < kind
  · rw [if_pos h1] at h; omega
  rw [if_neg h1] at h
  by_cases h2 : strangeB (.mk kind b num text list keys) = true
  · rw [if_pos h2] at h; omega
  rw [if_neg h2] at h
  have h2' : strangeB (.mk kind b num text list keys) = false := by simpa using h2
  have h3 := refForm_eq (d := .mk kind b num text list keys) (by simpa [Doc.kind] using h1)
  rw [h2'] at h3
  simp only [refForm, Bool.or_eq_false_iff, Bool.and_eq_false_imp, Bool.not_eq_true', Bool.not_eq_false', decide_eq_true_eq, decide_eq_false_iff_not, Bool.and_eq_true] at h3
  obtain ⟨⟨⟨⟨⟨g1, g2⟩, g3⟩, g4⟩, g5⟩, g6⟩ := h3
  refine ⟨by omega, by omega, h2', ?_, fun e => by simpa using g6 e, fun e => ?_, fun e => by simpa using g1 e, fun e => ?_, fun e => by simpa using g3 e, fun e => ?_, ?_, ?_⟩
  · intro e; simp [e] at h; exact h
  · have := g4 e; exact List.length_eq_zero_iff.1 (by omega)
  · have := g2 e; obtain ⟨x, y, z⟩ := num; simp at this; simp [this]
  · have := g5 e; exact List.length_eq_zero_iff.1 (by omega)
  · intro e; simp [e] at h; exact h
  · intro e
    have e3 : ¬ kind = 3 := by omega
    have e4 : ¬ kind = 4 := by omega
    simp [e3, e4] at h; exact h

def cmpB (a b : Bool) : Int := if a = b then 0 else if b = true then -1 else 1
mutual
def ordD : Doc → Doc → Int
  | .mk k b n t l ks, .mk k' b' n' t' l' ks' =>
    if k ≠ k' then sgn (k - k') else if k = 2 then cmpB b b' else if k = 3 then ordNum n n' else if k = 4 then cmpS t t' else if k = 5 ∨ k = 6 then ordL (decide (k = 6)) l l' ks ks' else 0
def ordL (o : Bool) : List Doc → List Doc → List Str → List Str → Int
  | [], l', _, _ => sgn (0 - (l'.length : Int))
  | a :: l, [], _, _ => sgn ((l.length : Int) + 1)
  | a :: l, b :: l', ks, ks' => if (o && decide (cmpS (ks.headD []) (ks'.headD []) ≠ 0)) = true then cmpS (ks.headD []) (ks'.headD []) else if ordD a b ≠ 0 then ordD a b else ordL o l l' ks.tail ks'.tail
end
theorem ordL_end {o : Bool} : ∀ {l l' : List Doc} {ks ks' : List Str}, l = [] ∨ l' = [] → ordL o l l' ks ks' = sgn ((l.length : Int) - l'.length)
  | [], l', _, _, _ => by simp [ordL]
  | a :: l, [], _, _, _ => by simp [ordL]
  | a :: l, b :: l', _, _, h => by simp at h
/-- A step in the comparison of lists. -/
theorem ordL_step {o : Bool} {l l' : List Doc} {ks ks' : List Str} {k : Nat} (h : k < l.length) (h' : k < l'.length) :
    ordL o (l.drop k) (l'.drop k) (ks.drop k) (ks'.drop k) = if (o && decide (cmpS (ks.getD k []) (ks'.getD k []) ≠ 0)) = true then cmpS (ks.getD k []) (ks'.getD k []) else if ordD l[k] l'[k] ≠ 0 then ordD l[k] l'[k] else ordL o (l.drop (k + 1)) (l'.drop (k + 1)) (ks.drop (k + 1)) (ks'.drop (k + 1)) := by
  have e1 : ∀ x : List Str, (x.drop k).headD [] = x.getD k [] := by intro x; simp [List.headD_eq_head?_getD, List.head?_drop, List.getD_eq_getElem?_getD]
  have e2 : ∀ x : List Str, (x.drop k).tail = x.drop (k + 1) := by intro x; simp [List.tail_drop]
  rw [List.drop_eq_getElem_cons h, List.drop_eq_getElem_cons h', ordL, e1, e1, e2, e2]
theorem sgn_range (n : Int) : -1 ≤ sgn n ∧ sgn n ≤ 1 := by unfold sgn; omega
end Ve
end Go.Proofs.YtnociodpfmlglaaGreatDoor

/-
  Compare: both, walked.
-/
set_option linter.unusedVariables false
set_option linter.unusedSimpArgs false
namespace Go.Proofs.YtnociodpfmlglaaGreatDoor
namespace Ve
open Go

theorem f181 {n : Int} {H : Heap} {Q : Out → Prop} (q : ∀ v H', v = .int .i64 (sgn n) → Ext H H' → Q (.ret v H')) : Cl tab 181 [.int .i64 n] H Q := by
  apply e181
  simp (disch := (first | decide | omega | (simp only [go_sem]; done) | (simp only [go_sem]; omega))) only [go_sem, ↓reduceIte, Nat.reduceEqDiff, Nat.reduceAdd, Nat.reduceSub, Nat.reduceMul, Nat.reduceLT, Nat.reduceLeDiff, Int.reduceEq, Int.reduceLT, Int.reduceLE, Int.reduceAdd, Int.reduceSub, Int.reduceMul, Int.reduceNeg, Int.reduceToNat, Int.reduceNe, reduceCtorEq]
  exact q _ _ (by first | rfl | (simp [sgn]; done) | grind [sgn]) (by first | exact Ext.refl | exact ⟨_, rfl⟩)
theorem f182 {a b : Bool} {H : Heap} {Q : Out → Prop} (q : ∀ v H', v = .int .i64 (cmpB a b) → Ext H H' → Q (.ret v H')) : Cl tab 182 [.bool a, .bool b] H Q := by
  apply e182
  cases a <;> cases b <;> simp (disch := (first | decide | omega | (simp only [go_sem]; done) | (simp only [go_sem]; omega))) only [go_sem, ↓reduceIte, Nat.reduceEqDiff, Nat.reduceAdd, Nat.reduceSub, Nat.reduceMul, Nat.reduceLT, Nat.reduceLeDiff, Int.reduceEq, Int.reduceLT, Int.reduceLE, Int.reduceAdd, Int.reduceSub, Int.reduceMul, Int.reduceNeg, Int.reduceToNat, Int.reduceNe, reduceCtorEq] <;> exact q _ _ (by first | rfl | (simp [cmpB]; done) | grind [cmpB]) (by first | exact Ext.refl | exact ⟨_, rfl⟩)
theorem f307 {a b : Str} {H : Heap} {Q : Out → Prop} (q : ∀ v, v = .int .i64 (cmpS a b) → Q (.ret v H)) : Cl tab 307 [strOf a, strOf b] H Q :=
  Cl_intr rfl rfl (out := .ret (.int .i64 (Lib.compareBytes a b)) H) rfl (q _ (by rw [compareBytes_eq]))
theorem f258 {a b : Str} {H : Heap} {Q : Out → Prop} (q : ∀ v H', v = .int .i64 (cmpS a b) → Ext H H' → Q (.ret v H')) : Cl tab 258 [strOf a, strOf b] H Q := by
  apply e258
  simp (disch := (first | decide | omega | (simp only [go_sem]; done) | (simp only [go_sem]; omega))) only [go_sem, ↓reduceIte, Nat.reduceEqDiff, Nat.reduceAdd, Nat.reduceSub, Nat.reduceMul, Nat.reduceLT, Nat.reduceLeDiff, Int.reduceEq, Int.reduceLT, Int.reduceLE, Int.reduceAdd, Int.reduceSub, Int.reduceMul, Int.reduceNeg, Int.reduceToNat, Int.reduceNe, reduceCtorEq]
  refine f307 ?_
  rintro _ rfl
  simp (disch := (first | decide | omega | (simp only [go_sem]; done) | (simp only [go_sem]; omega))) only [go_sem, ↓reduceIte, Nat.reduceEqDiff, Nat.reduceAdd, Nat.reduceSub, Nat.reduceMul, Nat.reduceLT, Nat.reduceLeDiff, Int.reduceEq, Int.reduceLT, Int.reduceLE, Int.reduceAdd, Int.reduceSub, Int.reduceMul, Int.reduceNeg, Int.reduceToNat, Int.reduceNe, reduceCtorEq]
  exact q _ _ (by first | rfl | (simp []; done) | grind []) (by first | exact Ext.refl | exact ⟨_, rfl⟩)
theorem f183 {a b : Str} {H : Heap} {Q : Out → Prop} (q : ∀ v H', v = .int .i64 (cmpS a b) → Ext H H' → Q (.ret v H')) : Cl tab 183 [strOf a, strOf b] H Q := by
  apply e183
  simp (disch := (first | decide | omega | (simp only [go_sem]; done) | (simp only [go_sem]; omega))) only [go_sem, ↓reduceIte, Nat.reduceEqDiff, Nat.reduceAdd, Nat.reduceSub, Nat.reduceMul, Nat.reduceLT, Nat.reduceLeDiff, Int.reduceEq, Int.reduceLT, Int.reduceLE, Int.reduceAdd, Int.reduceSub, Int.reduceMul, Int.reduceNeg, Int.reduceToNat, Int.reduceNe, reduceCtorEq]
  refine f258 ?_
  rintro _ _ rfl ⟨J, rfl⟩
  simp (disch := (first | decide | omega | (simp only [go_sem]; done) | (simp only [go_sem]; omega))) only [go_sem, ↓reduceIte, Nat.reduceEqDiff, Nat.reduceAdd, Nat.reduceSub, Nat.reduceMul, Nat.reduceLT, Nat.reduceLeDiff, Int.reduceEq, Int.reduceLT, Int.reduceLE, Int.reduceAdd, Int.reduceSub, Int.reduceMul, Int.reduceNeg, Int.reduceToNat, Int.reduceNe, reduceCtorEq]
  exact q _ _ (by first | rfl | (simp []; done) | grind []) (by first | exact Ext.refl | exact ⟨_, rfl⟩)
theorem f190 {n : Num} {H : Heap} {Q : Out → Prop} (q : ∀ v H', v = .int .i64 (rankN n) → Ext H H' → Q (.ret v H')) : Cl tab 190 [.agg ⟨[.bool n.neg, strOf n.dig, .int .i64 n.exp]⟩] H Q := by
  obtain ⟨neg, dig, exp⟩ := n
  apply e190
  simp (disch := (first | decide | omega | (simp only [go_sem]; done) | (simp only [go_sem]; omega))) only [go_sem, ↓reduceIte, Nat.reduceEqDiff, Nat.reduceAdd, Nat.reduceSub, Nat.reduceMul, Nat.reduceLT, Nat.reduceLeDiff, Int.reduceEq, Int.reduceLT, Int.reduceLE, Int.reduceAdd, Int.reduceSub, Int.reduceMul, Int.reduceNeg, Int.reduceToNat, Int.reduceNe, reduceCtorEq]
  refine brK_of (fun h1 => ?_) (fun h1 => ?_)
  · simp (disch := (first | decide | omega | (simp only [go_sem]; done) | (simp only [go_sem]; omega))) only [go_sem, ↓reduceIte, Nat.reduceEqDiff, Nat.reduceAdd, Nat.reduceSub, Nat.reduceMul, Nat.reduceLT, Nat.reduceLeDiff, Int.reduceEq, Int.reduceLT, Int.reduceLE, Int.reduceAdd, Int.reduceSub, Int.reduceMul, Int.reduceNeg, Int.reduceToNat, Int.reduceNe, reduceCtorEq]
    exact q _ _ (by first | rfl | (simp [rankN]; done) | grind [rankN]) (by first | exact Ext.refl | exact ⟨_, rfl⟩)
  simp (disch := (first | decide | omega | (simp only [go_sem]; done) | (simp only [go_sem]; omega))) only [go_sem, ↓reduceIte, Nat.reduceEqDiff, Nat.reduceAdd, Nat.reduceSub, Nat.reduceMul, Nat.reduceLT, Nat.reduceLeDiff, Int.reduceEq, Int.reduceLT, Int.reduceLE, Int.reduceAdd, Int.reduceSub, Int.reduceMul, Int.reduceNeg, Int.reduceToNat, Int.reduceNe, reduceCtorEq]
  refine brK_of (fun h2 => ?_) (fun h2 => ?_)
  · simp (disch := (first | decide | omega | (simp only [go_sem]; done) | (simp only [go_sem]; omega))) only [go_sem, ↓reduceIte, Nat.reduceEqDiff, Nat.reduceAdd, Nat.reduceSub, Nat.reduceMul, Nat.reduceLT, Nat.reduceLeDiff, Int.reduceEq, Int.reduceLT, Int.reduceLE, Int.reduceAdd, Int.reduceSub, Int.reduceMul, Int.reduceNeg, Int.reduceToNat, Int.reduceNe, reduceCtorEq]
    exact q _ _ (by first | rfl | (simp [rankN]; done) | grind [rankN]) (by first | exact Ext.refl | exact ⟨_, rfl⟩)
  simp (disch := (first | decide | omega | (simp only [go_sem]; done) | (simp only [go_sem]; omega))) only [go_sem, ↓reduceIte, Nat.reduceEqDiff, Nat.reduceAdd, Nat.reduceSub, Nat.reduceMul, Nat.reduceLT, Nat.reduceLeDiff, Int.reduceEq, Int.reduceLT, Int.reduceLE, Int.reduceAdd, Int.reduceSub, Int.reduceMul, Int.reduceNeg, Int.reduceToNat, Int.reduceNe, reduceCtorEq]
  exact q _ _ (by first | rfl | (simp [rankN]; done) | grind [rankN]) (by first | exact Ext.refl | exact ⟨_, rfl⟩)
theorem f191 {a b : Num} {H : Heap} (la : a.dig.length ≤ 1000000000) (lb : b.dig.length ≤ 1000000000) (ea : -1000000000 ≤ a.exp ∧ a.exp ≤ 1000000000) (eb : -1000000000 ≤ b.exp ∧ b.exp ≤ 1000000000) {Q : Out → Prop} (q : ∀ v H', v = .int .i64 (ordSize a b) → Ext H H' → Q (.ret v H')) :
    Cl tab 191 [.agg ⟨[.bool a.neg, strOf a.dig, .int .i64 a.exp]⟩, .agg ⟨[.bool b.neg, strOf b.dig, .int .i64 b.exp]⟩] H Q := by
  apply e191
  simp (disch := (first | decide | omega | (simp only [go_sem]; done) | (simp only [go_sem]; omega))) only [go_sem, ↓reduceIte, Nat.reduceEqDiff, Nat.reduceAdd, Nat.reduceSub, Nat.reduceMul, Nat.reduceLT, Nat.reduceLeDiff, Int.reduceEq, Int.reduceLT, Int.reduceLE, Int.reduceAdd, Int.reduceSub, Int.reduceMul, Int.reduceNeg, Int.reduceToNat, Int.reduceNe, reduceCtorEq]
  refine f181 ?_
  rintro _ _ rfl ⟨J, rfl⟩
  simp (disch := (first | decide | omega | (simp only [go_sem]; done) | (simp only [go_sem]; omega))) only [go_sem, ↓reduceIte, Nat.reduceEqDiff, Nat.reduceAdd, Nat.reduceSub, Nat.reduceMul, Nat.reduceLT, Nat.reduceLeDiff, Int.reduceEq, Int.reduceLT, Int.reduceLE, Int.reduceAdd, Int.reduceSub, Int.reduceMul, Int.reduceNeg, Int.reduceToNat, Int.reduceNe, reduceCtorEq]
  refine brK_of (fun h1 => ?_) (fun h1 => ?_)
  · simp (disch := (first | decide | omega | (simp only [go_sem]; done) | (simp only [go_sem]; omega))) only [go_sem, ↓reduceIte, Nat.reduceEqDiff, Nat.reduceAdd, Nat.reduceSub, Nat.reduceMul, Nat.reduceLT, Nat.reduceLeDiff, Int.reduceEq, Int.reduceLT, Int.reduceLE, Int.reduceAdd, Int.reduceSub, Int.reduceMul, Int.reduceNeg, Int.reduceToNat, Int.reduceNe, reduceCtorEq]
    exact q _ _ (by first | rfl | (simp [ordSize]; done) | grind [ordSize]) (by first | exact Ext.refl | exact ⟨_, rfl⟩)
  simp (disch := (first | decide | omega | (simp only [go_sem]; done) | (simp only [go_sem]; omega))) only [go_sem, ↓reduceIte, Nat.reduceEqDiff, Nat.reduceAdd, Nat.reduceSub, Nat.reduceMul, Nat.reduceLT, Nat.reduceLeDiff, Int.reduceEq, Int.reduceLT, Int.reduceLE, Int.reduceAdd, Int.reduceSub, Int.reduceMul, Int.reduceNeg, Int.reduceToNat, Int.reduceNe, reduceCtorEq]
  refine f183 ?_
  rintro _ _ rfl ⟨J2, rfl⟩
  simp (disch := (first | decide | omega | (simp only [go_sem]; done) | (simp only [go_sem]; omega))) only [go_sem, ↓reduceIte, Nat.reduceEqDiff, Nat.reduceAdd, Nat.reduceSub, Nat.reduceMul, Nat.reduceLT, Nat.reduceLeDiff, Int.reduceEq, Int.reduceLT, Int.reduceLE, Int.reduceAdd, Int.reduceSub, Int.reduceMul, Int.reduceNeg, Int.reduceToNat, Int.reduceNe, reduceCtorEq]
  exact q _ _ (by first | rfl | (simp [ordSize]; done) | grind [ordSize]) (by first | exact Ext.refl | exact ⟨_, rfl⟩)
theorem rankN_range (n : Num) : -1 ≤ rankN n ∧ rankN n ≤ 1 := by unfold rankN; split <;> (try split) <;> omega
theorem cmpS_range (a b : Str) : -1 ≤ cmpS a b ∧ cmpS a b ≤ 1 := by unfold cmpS; split <;> (try split) <;> omega
theorem ordSize_range (a b : Num) : -1 ≤ ordSize a b ∧ ordSize a b ≤ 1 := by
  unfold ordSize
  split
  · exact sgn_range _
  · exact cmpS_range _ _
theorem f103 {a b : Num} {H : Heap} (ha : numFault a = 0) (hb : numFault b = 0) {Q : Out → Prop} (q : ∀ v H', v = .int .i64 (ordNum a b) → Ext H H' → Q (.ret v H')) :
    Cl tab 103 [.agg ⟨[.bool a.neg, strOf a.dig, .int .i64 a.exp]⟩, .agg ⟨[.bool b.neg, strOf b.dig, .int .i64 b.exp]⟩] H Q := by
  rw [← ordNum_eq ha hb] at q
  obtain ⟨a1, a2, a3, a4, a5, _⟩ := numOk ha
  obtain ⟨b1, b2, b3, b4, b5, _⟩ := numOk hb
  apply e103
  simp (disch := (first | decide | omega | (simp only [go_sem]; done) | (simp only [go_sem]; omega))) only [go_sem, ↓reduceIte, Nat.reduceEqDiff, Nat.reduceAdd, Nat.reduceSub, Nat.reduceMul, Nat.reduceLT, Nat.reduceLeDiff, Int.reduceEq, Int.reduceLT, Int.reduceLE, Int.reduceAdd, Int.reduceSub, Int.reduceMul, Int.reduceNeg, Int.reduceToNat, Int.reduceNe, reduceCtorEq]
  refine f190 ?_
  rintro _ _ rfl ⟨J, rfl⟩
  simp (disch := (first | decide | omega | (simp only [go_sem]; done) | (simp only [go_sem]; omega))) only [go_sem, ↓reduceIte, Nat.reduceEqDiff, Nat.reduceAdd, Nat.reduceSub, Nat.reduceMul, Nat.reduceLT, Nat.reduceLeDiff, Int.reduceEq, Int.reduceLT, Int.reduceLE, Int.reduceAdd, Int.reduceSub, Int.reduceMul, Int.reduceNeg, Int.reduceToNat, Int.reduceNe, reduceCtorEq]
  refine f190 ?_
  rintro _ _ rfl ⟨J2, rfl⟩
  simp (disch := (first | decide | omega | (simp only [go_sem]; done) | (simp only [go_sem]; omega))) only [go_sem, ↓reduceIte, Nat.reduceEqDiff, Nat.reduceAdd, Nat.reduceSub, Nat.reduceMul, Nat.reduceLT, Nat.reduceLeDiff, Int.reduceEq, Int.reduceLT, Int.reduceLE, Int.reduceAdd, Int.reduceSub, Int.reduceMul, Int.reduceNeg, Int.reduceToNat, Int.reduceNe, reduceCtorEq]
  (repeat (refine guO_merge (fun hb => by (have hb' := hb; (try simp only [nrm] at hb'); have hc := hb; (try simp only [Bool.and_eq_true] at hc); first | (simp (disch := (first | decide | omega | (simp only [go_sem, hb]; done) | (simp only [go_sem, hb]; omega))) only [go_sem, ↓reduceIte, Nat.reduceEqDiff, Nat.reduceAdd, Nat.reduceSub, Nat.reduceMul, Nat.reduceLT, Nat.reduceLeDiff, Int.reduceEq, Int.reduceLT, Int.reduceLE, Int.reduceAdd, Int.reduceSub, Int.reduceMul, Int.reduceNeg, Int.reduceToNat, Int.reduceNe, reduceCtorEq, hb]; rfl) | (simp (disch := (first | decide | omega | (simp only [go_sem, hc]; done) | (simp only [go_sem, hc]; omega))) only [go_sem, ↓reduceIte, Nat.reduceEqDiff, Nat.reduceAdd, Nat.reduceSub, Nat.reduceMul, Nat.reduceLT, Nat.reduceLeDiff, Int.reduceEq, Int.reduceLT, Int.reduceLE, Int.reduceAdd, Int.reduceSub, Int.reduceMul, Int.reduceNeg, Int.reduceToNat, Int.reduceNe, reduceCtorEq, hc]; rfl))) rfl ?_; simp (disch := (first | decide | omega | (simp only [go_sem]; done) | (simp only [go_sem]; omega))) only [go_sem, ↓reduceIte, Nat.reduceEqDiff, Nat.reduceAdd, Nat.reduceSub, Nat.reduceMul, Nat.reduceLT, Nat.reduceLeDiff, Int.reduceEq, Int.reduceLT, Int.reduceLE, Int.reduceAdd, Int.reduceSub, Int.reduceMul, Int.reduceNeg, Int.reduceToNat, Int.reduceNe, reduceCtorEq]))
  have ra := rankN_range a
  have rb := rankN_range b
  refine brK_of (fun h1 => ?_) (fun h1 => ?_)
  · simp (disch := (first | decide | omega | (simp only [go_sem]; done) | (simp only [go_sem]; omega))) only [go_sem, ↓reduceIte, Nat.reduceEqDiff, Nat.reduceAdd, Nat.reduceSub, Nat.reduceMul, Nat.reduceLT, Nat.reduceLeDiff, Int.reduceEq, Int.reduceLT, Int.reduceLE, Int.reduceAdd, Int.reduceSub, Int.reduceMul, Int.reduceNeg, Int.reduceToNat, Int.reduceNe, reduceCtorEq]
    refine f181 ?_
    rintro _ _ rfl ⟨J3, rfl⟩
    simp (disch := (first | decide | omega | (simp only [go_sem]; done) | (simp only [go_sem]; omega))) only [go_sem, ↓reduceIte, Nat.reduceEqDiff, Nat.reduceAdd, Nat.reduceSub, Nat.reduceMul, Nat.reduceLT, Nat.reduceLeDiff, Int.reduceEq, Int.reduceLT, Int.reduceLE, Int.reduceAdd, Int.reduceSub, Int.reduceMul, Int.reduceNeg, Int.reduceToNat, Int.reduceNe, reduceCtorEq]
    exact q _ _ (by first | rfl | (simp [ordNumP]; done) | grind [ordNumP]) (by first | exact Ext.refl | exact ⟨_, rfl⟩)
  · simp (disch := (first | decide | omega | (simp only [go_sem]; done) | (simp only [go_sem]; omega))) only [go_sem, ↓reduceIte, Nat.reduceEqDiff, Nat.reduceAdd, Nat.reduceSub, Nat.reduceMul, Nat.reduceLT, Nat.reduceLeDiff, Int.reduceEq, Int.reduceLT, Int.reduceLE, Int.reduceAdd, Int.reduceSub, Int.reduceMul, Int.reduceNeg, Int.reduceToNat, Int.reduceNe, reduceCtorEq]
    refine f191 (by omega) (by omega) (by omega) (by omega) ?_
    rintro _ _ rfl ⟨J3, rfl⟩
    have rs := ordSize_range a b
    have hr : rankN a = 0 ∨ rankN a = 1 ∨ rankN a = -1 := by omega
    have hm : -1 ≤ rankN a * ordSize a b ∧ rankN a * ordSize a b ≤ 1 := by
      rcases hr with h | h | h <;> rw [h] <;> omega
    obtain ⟨hm1, hm2⟩ := hm
    simp (disch := (first | decide | omega | (simp only [go_sem, wr_i64 (a := rankN a * ordSize a b) (by omega) (by omega)]; done) | (simp only [go_sem, wr_i64 (a := rankN a * ordSize a b) (by omega) (by omega)]; omega))) only [go_sem, ↓reduceIte, Nat.reduceEqDiff, Nat.reduceAdd, Nat.reduceSub, Nat.reduceMul, Nat.reduceLT, Nat.reduceLeDiff, Int.reduceEq, Int.reduceLT, Int.reduceLE, Int.reduceAdd, Int.reduceSub, Int.reduceMul, Int.reduceNeg, Int.reduceToNat, Int.reduceNe, reduceCtorEq, wr_i64 (a := rankN a * ordSize a b) (by omega) (by omega)]
    exact q _ _ (by first | rfl | (simp [ordNumP]; done) | grind [ordNumP]) (by first | exact Ext.refl | exact ⟨_, rfl⟩)

/-! the reference's -/
theorem f186 {a b : Str} {H : Heap} {Q : Out → Prop} (q : ∀ v H', v = .int .i64 (cmpS a b) → Ext H H' → Q (.ret v H')) : Cl tab 186 [strOf a, strOf b] H Q := by
  apply e186
  simp (disch := (first | decide | omega | (simp only [go_sem]; done) | (simp only [go_sem]; omega))) only [go_sem, ↓reduceIte, Nat.reduceEqDiff, Nat.reduceAdd, Nat.reduceSub, Nat.reduceMul, Nat.reduceLT, Nat.reduceLeDiff, Int.reduceEq, Int.reduceLT, Int.reduceLE, Int.reduceAdd, Int.reduceSub, Int.reduceMul, Int.reduceNeg, Int.reduceToNat, Int.reduceNe, reduceCtorEq]
  refine brK_of (fun h1 => ?_) (fun h1 => ?_)
  · simp (disch := (first | decide | omega | (simp only [go_sem]; done) | (simp only [go_sem]; omega))) only [go_sem, ↓reduceIte, Nat.reduceEqDiff, Nat.reduceAdd, Nat.reduceSub, Nat.reduceMul, Nat.reduceLT, Nat.reduceLeDiff, Int.reduceEq, Int.reduceLT, Int.reduceLE, Int.reduceAdd, Int.reduceSub, Int.reduceMul, Int.reduceNeg, Int.reduceToNat, Int.reduceNe, reduceCtorEq]
    exact q _ _ (by first | rfl | (simp [cmpS]; done) | grind [cmpS]) (by first | exact Ext.refl | exact ⟨_, rfl⟩)
  simp (disch := (first | decide | omega | (simp only [go_sem]; done) | (simp only [go_sem]; omega))) only [go_sem, ↓reduceIte, Nat.reduceEqDiff, Nat.reduceAdd, Nat.reduceSub, Nat.reduceMul, Nat.reduceLT, Nat.reduceLeDiff, Int.reduceEq, Int.reduceLT, Int.reduceLE, Int.reduceAdd, Int.reduceSub, Int.reduceMul, Int.reduceNeg, Int.reduceToNat, Int.reduceNe, reduceCtorEq]
  refine brK_of (fun h2 => ?_) (fun h2 => ?_)
  · simp (disch := (first | decide | omega | (simp only [go_sem]; done) | (simp only [go_sem]; omega))) only [go_sem, ↓reduceIte, Nat.reduceEqDiff, Nat.reduceAdd, Nat.reduceSub, Nat.reduceMul, Nat.reduceLT, Nat.reduceLeDiff, Int.reduceEq, Int.reduceLT, Int.reduceLE, Int.reduceAdd, Int.reduceSub, Int.reduceMul, Int.reduceNeg, Int.reduceToNat, Int.reduceNe, reduceCtorEq]
    exact q _ _ (by first | rfl | (simp [cmpS]; done) | grind [cmpS]) (by first | exact Ext.refl | exact ⟨_, rfl⟩)
  simp (disch := (first | decide | omega | (simp only [go_sem]; done) | (simp only [go_sem]; omega))) only [go_sem, ↓reduceIte, Nat.reduceEqDiff, Nat.reduceAdd, Nat.reduceSub, Nat.reduceMul, Nat.reduceLT, Nat.reduceLeDiff, Int.reduceEq, Int.reduceLT, Int.reduceLE, Int.reduceAdd, Int.reduceSub, Int.reduceMul, Int.reduceNeg, Int.reduceToNat, Int.reduceNe, reduceCtorEq]
  exact q _ _ (by first | rfl | (simp [cmpS]; done) | grind [cmpS]) (by first | exact Ext.refl | exact ⟨_, rfl⟩)
def rankD (d : Doc) : Int := if d.kind = 2 ∧ d.b = true then 5 else 2 * d.kind
theorem f185 {cs : List Value} {d : Doc} {H : Heap} (hd : DocAt H cs d) (hk : 0 ≤ d.kind ∧ d.kind ≤ 100) {Q : Out → Prop} (q : ∀ v H', v = .int .i64 (rankD d) → Ext H H' → Q (.ret v H')) : Cl tab 185 [.agg ⟨cs⟩] H Q := by
  obtain @⟨kind, b, num, text, list, keys, la, lc, ka, kc, cs, hi, hk, hg, hdl⟩ := hd
  simp only [Doc.kind] at hk
  apply e185
  simp (disch := (first | decide | omega | (simp only [go_sem]; done) | (simp only [go_sem]; omega))) only [go_sem, ↓reduceIte, Nat.reduceEqDiff, Nat.reduceAdd, Nat.reduceSub, Nat.reduceMul, Nat.reduceLT, Nat.reduceLeDiff, Int.reduceEq, Int.reduceLT, Int.reduceLE, Int.reduceAdd, Int.reduceSub, Int.reduceMul, Int.reduceNeg, Int.reduceToNat, Int.reduceNe, reduceCtorEq]
  (repeat (refine guO_merge (fun hb => by (have hb' := hb; (try simp only [nrm] at hb'); have hc := hb; (try simp only [Bool.and_eq_true] at hc); first | (simp (disch := (first | decide | omega | (simp only [go_sem, hb]; done) | (simp only [go_sem, hb]; omega))) only [go_sem, ↓reduceIte, Nat.reduceEqDiff, Nat.reduceAdd, Nat.reduceSub, Nat.reduceMul, Nat.reduceLT, Nat.reduceLeDiff, Int.reduceEq, Int.reduceLT, Int.reduceLE, Int.reduceAdd, Int.reduceSub, Int.reduceMul, Int.reduceNeg, Int.reduceToNat, Int.reduceNe, reduceCtorEq, hb]; rfl) | (simp (disch := (first | decide | omega | (simp only [go_sem, hc]; done) | (simp only [go_sem, hc]; omega))) only [go_sem, ↓reduceIte, Nat.reduceEqDiff, Nat.reduceAdd, Nat.reduceSub, Nat.reduceMul, Nat.reduceLT, Nat.reduceLeDiff, Int.reduceEq, Int.reduceLT, Int.reduceLE, Int.reduceAdd, Int.reduceSub, Int.reduceMul, Int.reduceNeg, Int.reduceToNat, Int.reduceNe, reduceCtorEq, hc]; rfl))) rfl ?_; simp (disch := (first | decide | omega | (simp only [go_sem]; done) | (simp only [go_sem]; omega))) only [go_sem, ↓reduceIte, Nat.reduceEqDiff, Nat.reduceAdd, Nat.reduceSub, Nat.reduceMul, Nat.reduceLT, Nat.reduceLeDiff, Int.reduceEq, Int.reduceLT, Int.reduceLE, Int.reduceAdd, Int.reduceSub, Int.reduceMul, Int.reduceNeg, Int.reduceToNat, Int.reduceNe, reduceCtorEq]))
  refine brK_of (fun h1 => ?_) (fun h1 => ?_)
  · simp (disch := (first | decide | omega | (simp only [go_sem]; done) | (simp only [go_sem]; omega))) only [go_sem, ↓reduceIte, Nat.reduceEqDiff, Nat.reduceAdd, Nat.reduceSub, Nat.reduceMul, Nat.reduceLT, Nat.reduceLeDiff, Int.reduceEq, Int.reduceLT, Int.reduceLE, Int.reduceAdd, Int.reduceSub, Int.reduceMul, Int.reduceNeg, Int.reduceToNat, Int.reduceNe, reduceCtorEq]
    exact q _ _ (by first | rfl | (simp [rankD, Doc.kind, Doc.b]; done) | grind [rankD, Doc.kind, Doc.b]) (by first | exact Ext.refl | exact ⟨_, rfl⟩)
  simp (disch := (first | decide | omega | (simp only [go_sem]; done) | (simp only [go_sem]; omega))) only [go_sem, ↓reduceIte, Nat.reduceEqDiff, Nat.reduceAdd, Nat.reduceSub, Nat.reduceMul, Nat.reduceLT, Nat.reduceLeDiff, Int.reduceEq, Int.reduceLT, Int.reduceLE, Int.reduceAdd, Int.reduceSub, Int.reduceMul, Int.reduceNeg, Int.reduceToNat, Int.reduceNe, reduceCtorEq]
  exact q _ _ (by first | rfl | (simp [rankD, Doc.kind, Doc.b]; done) | grind [rankD, Doc.kind, Doc.b]) (by first | exact Ext.refl | exact ⟨_, rfl⟩)

theorem f113 {a : Num} {s : Int} {H : Heap} (hd : allD a.dig) (hl : a.dig.length ≤ 100) (he : -100 ≤ a.exp ∧ a.exp ≤ 100) (hs : 0 ≤ a.exp + s ∧ a.exp + s ≤ 200) {Q : Out → Prop} (q : ∀ v H', NatAt H' v (sc a s) → Ext H H' → Q (.ret v H')) :
    Cl tab 113 [.agg ⟨[.bool a.neg, strOf a.dig, .int .i64 a.exp]⟩, .int .i64 s] H Q := by
  apply e113
  simp (disch := (first | decide | omega | (simp only [go_sem]; done) | (simp only [go_sem]; omega))) only [go_sem, ↓reduceIte, Nat.reduceEqDiff, Nat.reduceAdd, Nat.reduceSub, Nat.reduceMul, Nat.reduceLT, Nat.reduceLeDiff, Int.reduceEq, Int.reduceLT, Int.reduceLE, Int.reduceAdd, Int.reduceSub, Int.reduceMul, Int.reduceNeg, Int.reduceToNat, Int.reduceNe, reduceCtorEq]
  refine f109 (List.all_eq_true.2 fun c hc => by have := hd c hc; simp [isDig]; omega) (by omega) ?_
  rintro v1 _ n1 ⟨J, rfl⟩
  simp (disch := (first | decide | omega | (simp only [go_sem]; done) | (simp only [go_sem]; omega))) only [go_sem, ↓reduceIte, Nat.reduceEqDiff, Nat.reduceAdd, Nat.reduceSub, Nat.reduceMul, Nat.reduceLT, Nat.reduceLeDiff, Int.reduceEq, Int.reduceLT, Int.reduceLE, Int.reduceAdd, Int.reduceSub, Int.reduceMul, Int.reduceNeg, Int.reduceToNat, Int.reduceNe, reduceCtorEq]
  refine f123 (n := 10) (by omega) ?_
  rintro v2 _ n2 ⟨J2, rfl⟩
  simp (disch := (first | decide | omega | (simp only [go_sem]; done) | (simp only [go_sem]; omega))) only [go_sem, ↓reduceIte, Nat.reduceEqDiff, Nat.reduceAdd, Nat.reduceSub, Nat.reduceMul, Nat.reduceLT, Nat.reduceLeDiff, Int.reduceEq, Int.reduceLT, Int.reduceLE, Int.reduceAdd, Int.reduceSub, Int.reduceMul, Int.reduceNeg, Int.reduceToNat, Int.reduceNe, reduceCtorEq]
  have hn : a.exp + s = (((a.exp + s).toNat : Nat) : Int) := by omega
  have n2' := n2
  rw [hn]
  refine f122 (n := (a.exp + s).toNat) (by simpa using n2) (by omega) ?_
  rintro v3 _ n3 ⟨J3, rfl⟩
  simp (disch := (first | decide | omega | (simp only [go_sem]; done) | (simp only [go_sem]; omega))) only [go_sem, ↓reduceIte, Nat.reduceEqDiff, Nat.reduceAdd, Nat.reduceSub, Nat.reduceMul, Nat.reduceLT, Nat.reduceLeDiff, Int.reduceEq, Int.reduceLT, Int.reduceLE, Int.reduceAdd, Int.reduceSub, Int.reduceMul, Int.reduceNeg, Int.reduceToNat, Int.reduceNe, reduceCtorEq]
  have hl1 : (limbs (digVal a.dig)).length ≤ 1000000000 := Nat.le_trans (limbs_length_of (k := 100) (Nat.lt_of_lt_of_le (digVal_lt a.dig fun c hc => (hd c hc).2) (Nat.le_trans (Nat.pow_le_pow_right (by omega) hl) (Nat.pow_le_pow_left (by omega) 100)))) (by omega)
  have hl2 : (limbs (10 ^ (a.exp + s).toNat)).length ≤ 1000000000 := Nat.le_trans (limbs_length_of (k := 201) (Nat.lt_of_lt_of_le (Nat.pow_lt_pow_right (by omega) (by omega : (a.exp + s).toNat < 201)) (Nat.pow_le_pow_left (by omega) 201))) (by omega)
  refine f119 (a := digVal a.dig) (b := 10 ^ (a.exp + s).toNat) (by have := NatAt.ext (J := J2 ++ J3) n1; simpa using this) (by simpa using n3) hl1 hl2 ?_
  rintro v4 _ n4 ⟨J4, rfl⟩
  simp (disch := (first | decide | omega | (simp only [go_sem]; done) | (simp only [go_sem]; omega))) only [go_sem, ↓reduceIte, Nat.reduceEqDiff, Nat.reduceAdd, Nat.reduceSub, Nat.reduceMul, Nat.reduceLT, Nat.reduceLeDiff, Int.reduceEq, Int.reduceLT, Int.reduceLE, Int.reduceAdd, Int.reduceSub, Int.reduceMul, Int.reduceNeg, Int.reduceToNat, Int.reduceNe, reduceCtorEq]
  exact q _ _ (by unfold sc; simpa using n4) (by first | exact Ext.refl | exact ⟨_, rfl⟩)

theorem f115 {a b : Num} {H : Heap} (ha : numFault a = 0) (hb : numFault b = 0) {Q : Out → Prop} (q : ∀ v H', v = .int .i64 (ordNum a b) → Ext H H' → Q (.ret v H')) :
    Cl tab 115 [.agg ⟨[.bool a.neg, strOf a.dig, .int .i64 a.exp]⟩, .agg ⟨[.bool b.neg, strOf b.dig, .int .i64 b.exp]⟩] H Q := by
  obtain ⟨a1, a2, a3, a4, a5, _⟩ := numOk ha
  obtain ⟨b1, b2, b3, b4, b5, _⟩ := numOk hb
  apply e115
  simp (disch := (first | decide | omega | (simp only [go_sem]; done) | (simp only [go_sem]; omega))) only [go_sem, ↓reduceIte, Nat.reduceEqDiff, Nat.reduceAdd, Nat.reduceSub, Nat.reduceMul, Nat.reduceLT, Nat.reduceLeDiff, Int.reduceEq, Int.reduceLT, Int.reduceLE, Int.reduceAdd, Int.reduceSub, Int.reduceMul, Int.reduceNeg, Int.reduceToNat, Int.reduceNe, reduceCtorEq]
  refine brK_of (fun h1 => ?_) (fun h1 => ?_)
  · simp (disch := (first | decide | omega | (simp only [go_sem]; done) | (simp only [go_sem]; omega))) only [go_sem, ↓reduceIte, Nat.reduceEqDiff, Nat.reduceAdd, Nat.reduceSub, Nat.reduceMul, Nat.reduceLT, Nat.reduceLeDiff, Int.reduceEq, Int.reduceLT, Int.reduceLE, Int.reduceAdd, Int.reduceSub, Int.reduceMul, Int.reduceNeg, Int.reduceToNat, Int.reduceNe, reduceCtorEq]
    refine brK_of (fun h2 => ?_) (fun h2 => ?_)
    · simp (disch := (first | decide | omega | (simp only [go_sem]; done) | (simp only [go_sem]; omega))) only [go_sem, ↓reduceIte, Nat.reduceEqDiff, Nat.reduceAdd, Nat.reduceSub, Nat.reduceMul, Nat.reduceLT, Nat.reduceLeDiff, Int.reduceEq, Int.reduceLT, Int.reduceLE, Int.reduceAdd, Int.reduceSub, Int.reduceMul, Int.reduceNeg, Int.reduceToNat, Int.reduceNe, reduceCtorEq]
      exact q _ _ (by first | rfl | (simp [ordNum]; done) | grind [ordNum]) (by first | exact Ext.refl | exact ⟨_, rfl⟩)
    simp (disch := (first | decide | omega | (simp only [go_sem]; done) | (simp only [go_sem]; omega))) only [go_sem, ↓reduceIte, Nat.reduceEqDiff, Nat.reduceAdd, Nat.reduceSub, Nat.reduceMul, Nat.reduceLT, Nat.reduceLeDiff, Int.reduceEq, Int.reduceLT, Int.reduceLE, Int.reduceAdd, Int.reduceSub, Int.reduceMul, Int.reduceNeg, Int.reduceToNat, Int.reduceNe, reduceCtorEq]
    exact q _ _ (by first | rfl | (simp [ordNum]; done) | grind [ordNum]) (by first | exact Ext.refl | exact ⟨_, rfl⟩)
  simp (disch := (first | decide | omega | (simp only [go_sem]; done) | (simp only [go_sem]; omega))) only [go_sem, ↓reduceIte, Nat.reduceEqDiff, Nat.reduceAdd, Nat.reduceSub, Nat.reduceMul, Nat.reduceLT, Nat.reduceLeDiff, Int.reduceEq, Int.reduceLT, Int.reduceLE, Int.reduceAdd, Int.reduceSub, Int.reduceMul, Int.reduceNeg, Int.reduceToNat, Int.reduceNe, reduceCtorEq]
  refine f113 a2 (by omega) (by omega) (by omega) ?_
  rintro v1 _ n1 ⟨J, rfl⟩
  simp (disch := (first | decide | omega | (simp only [go_sem]; done) | (simp only [go_sem]; omega))) only [go_sem, ↓reduceIte, Nat.reduceEqDiff, Nat.reduceAdd, Nat.reduceSub, Nat.reduceMul, Nat.reduceLT, Nat.reduceLeDiff, Int.reduceEq, Int.reduceLT, Int.reduceLE, Int.reduceAdd, Int.reduceSub, Int.reduceMul, Int.reduceNeg, Int.reduceToNat, Int.reduceNe, reduceCtorEq]
  refine f113 b2 (by omega) (by omega) (by omega) ?_
  rintro v2 _ n2 ⟨J2, rfl⟩
  simp (disch := (first | decide | omega | (simp only [go_sem]; done) | (simp only [go_sem]; omega))) only [go_sem, ↓reduceIte, Nat.reduceEqDiff, Nat.reduceAdd, Nat.reduceSub, Nat.reduceMul, Nat.reduceLT, Nat.reduceLeDiff, Int.reduceEq, Int.reduceLT, Int.reduceLE, Int.reduceAdd, Int.reduceSub, Int.reduceMul, Int.reduceNeg, Int.reduceToNat, Int.reduceNe, reduceCtorEq]
  have hsc : (limbs (sc a 30)).length ≤ 1000000000000 := by
    have h1 := sc_lt a2 a4 (N := ((a.dig.length : Int) + a.exp + 30).toNat) (by omega)
    have h2 := limbs_length_of (k := 100) (Nat.lt_of_lt_of_le h1 (Nat.le_trans (Nat.pow_le_pow_right (by omega) (by omega : _ ≤ 100)) (Nat.pow_le_pow_left (by omega) 100)))
    omega
  refine f117 (by have := NatAt.ext (J := J2) n1; simpa using this) (by simpa using n2) hsc ?_
  rintro _ _ rfl ⟨J3, rfl⟩
  simp (disch := (first | decide | omega | (simp only [go_sem]; done) | (simp only [go_sem]; omega))) only [go_sem, ↓reduceIte, Nat.reduceEqDiff, Nat.reduceAdd, Nat.reduceSub, Nat.reduceMul, Nat.reduceLT, Nat.reduceLeDiff, Int.reduceEq, Int.reduceLT, Int.reduceLE, Int.reduceAdd, Int.reduceSub, Int.reduceMul, Int.reduceNeg, Int.reduceToNat, Int.reduceNe, reduceCtorEq]
  have hc : -1 ≤ cmpN (sc a 30) (sc b 30) ∧ cmpN (sc a 30) (sc b 30) ≤ 1 := by unfold cmpN; split <;> (try split) <;> omega
  obtain ⟨hc1, hc2⟩ := hc
  refine brK_of (fun h2 => ?_) (fun h2 => ?_)
  · simp (disch := (first | decide | omega | (simp only [go_sem]; done) | (simp only [go_sem]; omega))) only [go_sem, ↓reduceIte, Nat.reduceEqDiff, Nat.reduceAdd, Nat.reduceSub, Nat.reduceMul, Nat.reduceLT, Nat.reduceLeDiff, Int.reduceEq, Int.reduceLT, Int.reduceLE, Int.reduceAdd, Int.reduceSub, Int.reduceMul, Int.reduceNeg, Int.reduceToNat, Int.reduceNe, reduceCtorEq]
    refine q _ _ ?_ (by first | exact Ext.refl | exact ⟨_, rfl⟩)
    unfold ordNum
    simp at h1
    rw [if_neg (by simp [h1]), if_pos h2]; congr 1; omega
  · simp (disch := (first | decide | omega | (simp only [go_sem]; done) | (simp only [go_sem]; omega))) only [go_sem, ↓reduceIte, Nat.reduceEqDiff, Nat.reduceAdd, Nat.reduceSub, Nat.reduceMul, Nat.reduceLT, Nat.reduceLeDiff, Int.reduceEq, Int.reduceLT, Int.reduceLE, Int.reduceAdd, Int.reduceSub, Int.reduceMul, Int.reduceNeg, Int.reduceToNat, Int.reduceNe, reduceCtorEq]
    refine q _ _ ?_ (by first | exact Ext.refl | exact ⟨_, rfl⟩)
    unfold ordNum
    simp at h1
    rw [if_neg (by simp [h1]), if_neg (by simp [h2])]
end Ve
end Go.Proofs.YtnociodpfmlglaaGreatDoor
