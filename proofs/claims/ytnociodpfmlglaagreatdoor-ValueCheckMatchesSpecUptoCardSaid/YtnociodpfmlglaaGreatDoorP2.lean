import Derived.Test.YtnociodpfmlglaaGreatDoorIrE
set_option linter.unusedVariables false
set_option linter.unusedSimpArgs false
namespace Go.Proofs.YtnociodpfmlglaaGreatDoor
namespace Ve
open Go

set_option maxHeartbeats 1000000 in
theorem f80 {cs : List Value} {d : Doc} {H : Heap} (hd : DocAt H cs d) (hb : nodes d ≤ 1000000000) {Q : Out → Prop} (q : ∀ J, Q (.ret (.tuple ⟨[.int .i64 (nodes d), .int .i64 (levels d)]⟩) (H ++ J))) : Cl tab 80 [.agg ⟨cs⟩] H Q := by
  suffices h : ∀ n d cs H, nodes d < n → DocAt H cs d → nodes d ≤ 1000000000 → ∀ Q : Out → Prop, (∀ J, Q (.ret (.tuple ⟨[.int .i64 (nodes d), .int .i64 (levels d)]⟩) (H ++ J))) → Cl tab 80 [.agg ⟨cs⟩] H Q from h (nodes d + 1) d cs H (by omega) hd hb Q q
  clear hd hb q Q cs d H
  intro n
  induction n with
  | zero => intro d cs H hn; omega
  | succ n ih =>
    intro d cs H hn hd hb Q q
    obtain @⟨kind, b, num, text, list, keys, la, lc, ka, kc, cs, hi, hk, hg, hdl⟩ := hd
    have hnd : nodes (.mk kind b num text list keys) = 1 + nodesL list := by simp only [nodes]
    have hlv : levels (.mk kind b num text list keys) = levelsL list + 1 := by simp only [levels]
    rw [hnd] at hn hb q
    rw [hlv] at q
    apply e80
    simp (disch := (first | decide | omega | (simp only [go_sem]; done) | (simp only [go_sem]; omega))) only [go_sem, ↓reduceIte, Nat.reduceEqDiff, Nat.reduceAdd, Nat.reduceSub, Nat.reduceMul, Nat.reduceLT, Nat.reduceLeDiff, Int.reduceEq, Int.reduceLT, Int.reduceLE, Int.reduceAdd, Int.reduceSub, Int.reduceMul, Int.reduceNeg, Int.reduceToNat, Int.reduceNe, reduceCtorEq]
    refine w80_7 (ι := Nat) 0 (fun k e h => ∃ J, h = H ++ J ∧ e.length = 30 ∧ k ≤ list.length ∧ gt e 2 = .int .i64 (1 + nodesL (list.take k) : Nat) ∧ gt e 3 = .int .i64 (levelsL (list.take k)) ∧ gt e 9 = .slice la list.length lc ∧ gt e 10 = .int .i64 list.length ∧ gt e 11 = .int .i64 k) (fun k => list.length - k) ?_ ?_
    · refine ⟨_, rfl, ?_⟩
      simp (disch := (first | decide | omega | (simp only [go_sem, nodesL, levelsL]; done) | (simp only [go_sem, nodesL, levelsL]; omega))) only [go_sem, ↓reduceIte, Nat.reduceEqDiff, Nat.reduceAdd, Nat.reduceSub, Nat.reduceMul, Nat.reduceLT, Nat.reduceLeDiff, Int.reduceEq, Int.reduceLT, Int.reduceLE, Int.reduceAdd, Int.reduceSub, Int.reduceMul, Int.reduceNeg, Int.reduceToNat, Int.reduceNe, reduceCtorEq, nodesL, levelsL]
      simp
    · rintro k e h ⟨J, rfl, he, hk1, e2, e3, e9, e10, e11⟩ ih2
      simp (disch := (first | decide | omega | (simp only [go_sem, e2, e3, e9, e10, e11]; done) | (simp only [go_sem, e2, e3, e9, e10, e11]; omega))) only [go_sem, ↓reduceIte, Nat.reduceEqDiff, Nat.reduceAdd, Nat.reduceSub, Nat.reduceMul, Nat.reduceLT, Nat.reduceLeDiff, Int.reduceEq, Int.reduceLT, Int.reduceLE, Int.reduceAdd, Int.reduceSub, Int.reduceMul, Int.reduceNeg, Int.reduceToNat, Int.reduceNe, reduceCtorEq, e2, e3, e9, e10, e11]
      refine brK_prop (fun h => ?_) (fun h => ?_)
      · have hlt : k < list.length := by omega
        obtain ⟨i, o, s, rfl⟩ : ∃ i o s, la = some ⟨i, o, s⟩ := by
          have := hg k hlt
          cases la with
          | none => cases this
          | some a => exact ⟨a.block, a.off, a.spot, rfl⟩
        have hgk := hg k hlt
        simp only [elAt] at hgk
        have hil := getN_lt hgk
        have hdk := hdl k hlt
        obtain ⟨c1, c2, c3⟩ := hdk.cells
        simp (disch := (first | decide | omega | (simp only [go_sem, e2, e3, e9, e10, e11, hgk, c1, c2, c3]; done) | (simp only [go_sem, e2, e3, e9, e10, e11, hgk, c1, c2, c3]; omega))) only [go_sem, ↓reduceIte, Nat.reduceEqDiff, Nat.reduceAdd, Nat.reduceSub, Nat.reduceMul, Nat.reduceLT, Nat.reduceLeDiff, Int.reduceEq, Int.reduceLT, Int.reduceLE, Int.reduceAdd, Int.reduceSub, Int.reduceMul, Int.reduceNeg, Int.reduceToNat, Int.reduceNe, reduceCtorEq, e2, e3, e9, e10, e11, hgk, c1, c2, c3]
        have hnk := nodes_le hlt
        have hll := length_le_nodesL list
        refine ih _ _ _ (by omega) hdk.ext (by omega) _ (fun J2 => ?_)
        have htk := nodesL_take hlt
        have hsk := nodesL_take_le list (k + 1)
        have hvk := levelsL_take hlt
        simp (disch := (first | decide | omega | (simp only [go_sem, e2, e3, e9, e10, e11]; done) | (simp only [go_sem, e2, e3, e9, e10, e11]; omega))) only [go_sem, ↓reduceIte, Nat.reduceEqDiff, Nat.reduceAdd, Nat.reduceSub, Nat.reduceMul, Nat.reduceLT, Nat.reduceLeDiff, Int.reduceEq, Int.reduceLT, Int.reduceLE, Int.reduceAdd, Int.reduceSub, Int.reduceMul, Int.reduceNeg, Int.reduceToNat, Int.reduceNe, reduceCtorEq, e2, e3, e9, e10, e11]
        refine ih2 (k + 1) _ _ (by omega) ⟨_, rfl, ?_⟩
        simp (disch := (first | decide | omega | (simp only [go_sem, e2, e3, e9, e10, e11]; done) | (simp only [go_sem, e2, e3, e9, e10, e11]; omega))) only [go_sem, ↓reduceIte, Nat.reduceEqDiff, Nat.reduceAdd, Nat.reduceSub, Nat.reduceMul, Nat.reduceLT, Nat.reduceLeDiff, Int.reduceEq, Int.reduceLT, Int.reduceLE, Int.reduceAdd, Int.reduceSub, Int.reduceMul, Int.reduceNeg, Int.reduceToNat, Int.reduceNe, reduceCtorEq, e2, e3, e9, e10, e11]
        refine ⟨he, by omega, ?_, ?_, ?_⟩ <;> (first | rfl | (congr 1; omega))
      · have hke : k = list.length := by omega
        subst hke
        have hlk := levelsL_le list
        simp only [List.take_length] at e2 e3
        simp (disch := (first | decide | omega | (simp only [go_sem, e2, e3]; done) | (simp only [go_sem, e2, e3]; omega))) only [go_sem, ↓reduceIte, Nat.reduceEqDiff, Nat.reduceAdd, Nat.reduceSub, Nat.reduceMul, Nat.reduceLT, Nat.reduceLeDiff, Int.reduceEq, Int.reduceLT, Int.reduceLE, Int.reduceAdd, Int.reduceSub, Int.reduceMul, Int.reduceNeg, Int.reduceToNat, Int.reduceNe, reduceCtorEq, e2, e3]
        simpa using q _
end Ve
end Go.Proofs.YtnociodpfmlglaaGreatDoor
