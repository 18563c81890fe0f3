/-
  Compare of documents: the reference's.
-/
import Derived.Test.YtnociodpfmlglaaGreatDoorPB
set_option linter.unusedVariables false
set_option linter.unusedSimpArgs false
namespace Go.Proofs.YtnociodpfmlglaaGreatDoor
namespace Ve
open Go

theorem key_at {H : Heap} {ka : Option Addr} {keys : List Str} (hk : ∀ k, (h : k < keys.length) → elAt H 1 ka k = some [strOf keys[k]]) {k : Nat} (h : k < keys.length) : ∃ i o s, ka = some ⟨i, o, s⟩ ∧ get1 H i (o + k) = some (strOf keys[k]) := by
  obtain ⟨i, o, s, e, g⟩ := elAt_some (hk k h)
  refine ⟨i, o, s, e, ?_⟩
  rw [Nat.mul_one] at g
  have := get1_getN (k := 0) g (by omega)
  simpa using this
theorem rankD_mk {k : Int} {b : Bool} {n : Num} {t : Str} {l : List Doc} {ks : List Str} : rankD (.mk k b n t l ks) = if k = 2 ∧ b = true then 5 else 2 * k := rfl
theorem rank_cmp {k k' : Int} {b b' : Bool} {n n' : Num} {t t' : Str} {l l' : List Doc} {ks ks' : List Str} (h : 1 ≤ k ∧ k ≤ 6) (h' : 1 ≤ k' ∧ k' ≤ 6) :
    (rankD (.mk k b n t l ks) ≠ rankD (.mk k' b' n' t' l' ks') → ordD (.mk k b n t l ks) (.mk k' b' n' t' l' ks') = if rankD (.mk k b n t l ks) < rankD (.mk k' b' n' t' l' ks') then -1 else 1) ∧
    (rankD (.mk k b n t l ks) = rankD (.mk k' b' n' t' l' ks') → k = k' ∧ (k = 2 → b = b')) := by
  simp only [rankD_mk, ordD]
  constructor
  · intro hne
    by_cases hk : k = k'
    · subst hk
      by_cases h2 : k = 2
      · subst h2
        cases b <;> cases b' <;> simp [cmpB] at hne ⊢
      · simp [h2] at hne
    · rw [if_pos hk]
      unfold sgn
      by_cases g1 : k = 2 ∧ b = true <;> by_cases g2 : k' = 2 ∧ b' = true <;> simp only [g1, g2, if_true, if_false] <;> (try rw [if_pos g1]) <;> (try rw [if_neg g1]) <;> (try rw [if_pos g2]) <;> (try rw [if_neg g2]) <;> split <;> omega
  · intro he
    by_cases g1 : k = 2 ∧ b = true
    · rw [if_pos g1] at he
      by_cases g2 : k' = 2 ∧ b' = true
      · exact ⟨by omega, fun _ => by rw [g1.2, g2.2]⟩
      · rw [if_neg g2] at he; omega
    · rw [if_neg g1] at he
      by_cases g2 : k' = 2 ∧ b' = true
      · rw [if_pos g2] at he; omega
      · rw [if_neg g2] at he
        have : k = k' := by omega
        refine ⟨this, fun e => ?_⟩
        subst this
        cases b <;> cases b' <;> simp_all

set_option maxHeartbeats 2000000 in
theorem f97 {cs cs' : List Value} {d d' : Doc} {H : Heap} (hd : DocAt H cs d) (hd' : DocAt H cs' d') (hv : nodesFault d = 0) (hv' : nodesFault d' = 0) (hb : bulk d ≤ 1000000000) (hb' : bulk d' ≤ 1000000000) {Q : Out → Prop} (q : ∀ v H', v = .int .i64 (ordD d d') → Ext H H' → Q (.ret v H')) : Cl tab 97 [.agg ⟨cs⟩, .agg ⟨cs'⟩] H Q := by
  suffices h : ∀ n d d' cs cs' H, bulk d < n → DocAt H cs d → DocAt H cs' d' → nodesFault d = 0 → nodesFault d' = 0 → bulk d ≤ 1000000000 → bulk d' ≤ 1000000000 → ∀ Q : Out → Prop, (∀ v H', v = .int .i64 (ordD d d') → Ext H H' → Q (.ret v H')) → Cl tab 97 [.agg ⟨cs⟩, .agg ⟨cs'⟩] H Q from h (bulk d + 1) d d' cs cs' H (by omega) hd hd' hv hv' hb hb' Q q
  clear hd hd' hv hv' hb hb' q Q cs cs' d d' H
  intro n
  induction n with
  | zero => intro d d' cs cs' H hn; omega
  | succ n ih =>
    intro d d' cs cs' H hn hd hd' hv hv' hb hb' Q q
    have hd0 := hd
    have hd0' := hd'
    obtain ⟨c1, c2, c3⟩ := hd0.cells
    obtain ⟨c1', c2', c3'⟩ := hd0'.cells
    have c4' := hd0'.beq
    obtain @⟨kind, b, num, text, list, keys, la, lc, ka, kc, cs, hi, hk, hg, hdl⟩ := hd
    obtain @⟨kind', b', num', text', list', keys', la', lc', ka', kc', cs', hi', hk', hg', hdl'⟩ := hd'
    obtain ⟨hn1, hl1⟩ := valid_node hv
    obtain ⟨hn2, hl2⟩ := valid_node hv'
    obtain ⟨k1, k6, hsb, h3, h6, h5, _⟩ := node_ok hn1
    obtain ⟨k1', k6', hsb', h3', h6', h5', _⟩ := node_ok hn2
    simp only [Doc.list] at hl1 hl2
    have hrk := rank_cmp (b := b) (b' := b') (n := num) (n' := num') (t := text) (t' := text') (l := list) (l' := list') (ks := keys) (ks' := keys') ⟨k1, k6⟩ ⟨k1', k6'⟩
    simp only [bulk] at hn hb hb'
    have hbl := nodesL_bulk list
    have hll := length_le_nodesL list
    have hbl' := nodesL_bulk list'
    have hll' := length_le_nodesL list'
    apply e97
    simp (disch := (first | decide | omega | (simp only [go_sem, c1, c2, c3, c1', c2', c3', c4']; done) | (simp only [go_sem, c1, c2, c3, c1', c2', c3', c4']; omega))) only [go_sem, ↓reduceIte, Nat.reduceEqDiff, Nat.reduceAdd, Nat.reduceSub, Nat.reduceMul, Nat.reduceLT, Nat.reduceLeDiff, Int.reduceEq, Int.reduceLT, Int.reduceLE, Int.reduceAdd, Int.reduceSub, Int.reduceMul, Int.reduceNeg, Int.reduceToNat, Int.reduceNe, reduceCtorEq, c1, c2, c3, c1', c2', c3', c4']
    refine f185 hd0.ext (by simp only [Doc.kind]; omega) ?_
    rintro _ _ rfl ⟨J, rfl⟩
    simp (disch := (first | decide | omega | (simp only [go_sem, c1, c2, c3, c1', c2', c3', c4']; done) | (simp only [go_sem, c1, c2, c3, c1', c2', c3', c4']; omega))) only [go_sem, ↓reduceIte, Nat.reduceEqDiff, Nat.reduceAdd, Nat.reduceSub, Nat.reduceMul, Nat.reduceLT, Nat.reduceLeDiff, Int.reduceEq, Int.reduceLT, Int.reduceLE, Int.reduceAdd, Int.reduceSub, Int.reduceMul, Int.reduceNeg, Int.reduceToNat, Int.reduceNe, reduceCtorEq, c1, c2, c3, c1', c2', c3', c4']
    refine f185 hd0'.ext (by simp only [Doc.kind]; omega) ?_
    rintro _ _ rfl ⟨J2, rfl⟩
    simp (disch := (first | decide | omega | (simp only [go_sem, c1, c2, c3, c1', c2', c3', c4']; done) | (simp only [go_sem, c1, c2, c3, c1', c2', c3', c4']; omega))) only [go_sem, ↓reduceIte, Nat.reduceEqDiff, Nat.reduceAdd, Nat.reduceSub, Nat.reduceMul, Nat.reduceLT, Nat.reduceLeDiff, Int.reduceEq, Int.reduceLT, Int.reduceLE, Int.reduceAdd, Int.reduceSub, Int.reduceMul, Int.reduceNeg, Int.reduceToNat, Int.reduceNe, reduceCtorEq, c1, c2, c3, c1', c2', c3', c4']
    refine brK_of (fun hr => ?_) (fun hr => ?_)
    · simp (disch := (first | decide | omega | (simp only [go_sem, c1, c2, c3, c1', c2', c3', c4']; done) | (simp only [go_sem, c1, c2, c3, c1', c2', c3', c4']; omega))) only [go_sem, ↓reduceIte, Nat.reduceEqDiff, Nat.reduceAdd, Nat.reduceSub, Nat.reduceMul, Nat.reduceLT, Nat.reduceLeDiff, Int.reduceEq, Int.reduceLT, Int.reduceLE, Int.reduceAdd, Int.reduceSub, Int.reduceMul, Int.reduceNeg, Int.reduceToNat, Int.reduceNe, reduceCtorEq, c1, c2, c3, c1', c2', c3', c4']
      refine f185 hd0.ext (by simp only [Doc.kind]; omega) ?_
      rintro _ _ rfl ⟨J3, rfl⟩
      simp (disch := (first | decide | omega | (simp only [go_sem, c1, c2, c3, c1', c2', c3', c4']; done) | (simp only [go_sem, c1, c2, c3, c1', c2', c3', c4']; omega))) only [go_sem, ↓reduceIte, Nat.reduceEqDiff, Nat.reduceAdd, Nat.reduceSub, Nat.reduceMul, Nat.reduceLT, Nat.reduceLeDiff, Int.reduceEq, Int.reduceLT, Int.reduceLE, Int.reduceAdd, Int.reduceSub, Int.reduceMul, Int.reduceNeg, Int.reduceToNat, Int.reduceNe, reduceCtorEq, c1, c2, c3, c1', c2', c3', c4']
      refine f185 hd0'.ext (by simp only [Doc.kind]; omega) ?_
      rintro _ _ rfl ⟨J4, rfl⟩
      simp (disch := (first | decide | omega | (simp only [go_sem, c1, c2, c3, c1', c2', c3', c4']; done) | (simp only [go_sem, c1, c2, c3, c1', c2', c3', c4']; omega))) only [go_sem, ↓reduceIte, Nat.reduceEqDiff, Nat.reduceAdd, Nat.reduceSub, Nat.reduceMul, Nat.reduceLT, Nat.reduceLeDiff, Int.reduceEq, Int.reduceLT, Int.reduceLE, Int.reduceAdd, Int.reduceSub, Int.reduceMul, Int.reduceNeg, Int.reduceToNat, Int.reduceNe, reduceCtorEq, c1, c2, c3, c1', c2', c3', c4']
      have hr' := hrk.1 (by simpa using hr)
      refine brK_prop (fun h => ?_) (fun h => ?_)
      · simp (disch := (first | decide | omega | (simp only [go_sem]; done) | (simp only [go_sem]; omega))) only [go_sem, ↓reduceIte, Nat.reduceEqDiff, Nat.reduceAdd, Nat.reduceSub, Nat.reduceMul, Nat.reduceLT, Nat.reduceLeDiff, Int.reduceEq, Int.reduceLT, Int.reduceLE, Int.reduceAdd, Int.reduceSub, Int.reduceMul, Int.reduceNeg, Int.reduceToNat, Int.reduceNe, reduceCtorEq]
        refine q _ _ ?_ (by first | exact Ext.refl | exact ⟨_, rfl⟩)
        rw [hr', if_pos h]
      · simp (disch := (first | decide | omega | (simp only [go_sem]; done) | (simp only [go_sem]; omega))) only [go_sem, ↓reduceIte, Nat.reduceEqDiff, Nat.reduceAdd, Nat.reduceSub, Nat.reduceMul, Nat.reduceLT, Nat.reduceLeDiff, Int.reduceEq, Int.reduceLT, Int.reduceLE, Int.reduceAdd, Int.reduceSub, Int.reduceMul, Int.reduceNeg, Int.reduceToNat, Int.reduceNe, reduceCtorEq]
        refine q _ _ ?_ (by first | exact Ext.refl | exact ⟨_, rfl⟩)
        rw [hr', if_neg h]
    obtain ⟨rfl, hbb⟩ := hrk.2 (by simpa using hr)
    clear hrk
    simp (disch := (first | decide | omega | (simp only [go_sem]; done) | (simp only [go_sem]; omega))) only [go_sem, ↓reduceIte, Nat.reduceEqDiff, Nat.reduceAdd, Nat.reduceSub, Nat.reduceMul, Nat.reduceLT, Nat.reduceLeDiff, Int.reduceEq, Int.reduceLT, Int.reduceLE, Int.reduceAdd, Int.reduceSub, Int.reduceMul, Int.reduceNeg, Int.reduceToNat, Int.reduceNe, reduceCtorEq]
    refine brK_of (fun g3 => ?_) (fun g3 => ?_)
    · simp (disch := (first | decide | omega | (simp only [go_sem]; done) | (simp only [go_sem]; omega))) only [go_sem, ↓reduceIte, Nat.reduceEqDiff, Nat.reduceAdd, Nat.reduceSub, Nat.reduceMul, Nat.reduceLT, Nat.reduceLeDiff, Int.reduceEq, Int.reduceLT, Int.reduceLE, Int.reduceAdd, Int.reduceSub, Int.reduceMul, Int.reduceNeg, Int.reduceToNat, Int.reduceNe, reduceCtorEq]
      simp at g3
      refine f115 (h3 g3) (h3' g3) ?_
      rintro _ _ rfl ⟨J3, rfl⟩
      simp (disch := (first | decide | omega | (simp only [go_sem]; done) | (simp only [go_sem]; omega))) only [go_sem, ↓reduceIte, Nat.reduceEqDiff, Nat.reduceAdd, Nat.reduceSub, Nat.reduceMul, Nat.reduceLT, Nat.reduceLeDiff, Int.reduceEq, Int.reduceLT, Int.reduceLE, Int.reduceAdd, Int.reduceSub, Int.reduceMul, Int.reduceNeg, Int.reduceToNat, Int.reduceNe, reduceCtorEq]
      refine q _ _ ?_ (by first | exact Ext.refl | exact ⟨_, rfl⟩)
      simp [ordD, g3]
    simp (disch := (first | decide | omega | (simp only [go_sem]; done) | (simp only [go_sem]; omega))) only [go_sem, ↓reduceIte, Nat.reduceEqDiff, Nat.reduceAdd, Nat.reduceSub, Nat.reduceMul, Nat.reduceLT, Nat.reduceLeDiff, Int.reduceEq, Int.reduceLT, Int.reduceLE, Int.reduceAdd, Int.reduceSub, Int.reduceMul, Int.reduceNeg, Int.reduceToNat, Int.reduceNe, reduceCtorEq]
    refine brK_of (fun g4 => ?_) (fun g4 => ?_)
    · simp (disch := (first | decide | omega | (simp only [go_sem]; done) | (simp only [go_sem]; omega))) only [go_sem, ↓reduceIte, Nat.reduceEqDiff, Nat.reduceAdd, Nat.reduceSub, Nat.reduceMul, Nat.reduceLT, Nat.reduceLeDiff, Int.reduceEq, Int.reduceLT, Int.reduceLE, Int.reduceAdd, Int.reduceSub, Int.reduceMul, Int.reduceNeg, Int.reduceToNat, Int.reduceNe, reduceCtorEq]
      simp at g4
      refine f186 ?_
      rintro _ _ rfl ⟨J3, rfl⟩
      simp (disch := (first | decide | omega | (simp only [go_sem]; done) | (simp only [go_sem]; omega))) only [go_sem, ↓reduceIte, Nat.reduceEqDiff, Nat.reduceAdd, Nat.reduceSub, Nat.reduceMul, Nat.reduceLT, Nat.reduceLeDiff, Int.reduceEq, Int.reduceLT, Int.reduceLE, Int.reduceAdd, Int.reduceSub, Int.reduceMul, Int.reduceNeg, Int.reduceToNat, Int.reduceNe, reduceCtorEq]
      refine q _ _ ?_ (by first | exact Ext.refl | exact ⟨_, rfl⟩)
      simp [ordD, g4]
    simp at g3 g4
    have hR : ordD (.mk kind b num text list keys) (.mk kind b' num' text' list' keys') = ordL (decide (kind = 6)) list list' keys keys' := by
      simp only [ordD, ne_eq, not_true_eq_false, if_false, g3, g4]
      by_cases e2 : kind = 2
      · have := h5 (by omega); have := h5' (by omega); subst this; subst e2
        rw [if_pos rfl, hbb rfl, ordL_end (.inr rfl), ‹list = []›]; simp [cmpB, sgn]; omega
      · rw [if_neg e2]
        by_cases e5 : kind = 5 ∨ kind = 6
        · rw [if_pos e5]
        · rw [if_neg e5]
          have := h5 (by omega); have := h5' (by omega); subst this
          rw [ordL_end (.inr rfl), ‹list = []›]; simp [sgn]; omega
    rw [hR] at q
    simp (disch := (first | decide | omega | (simp only [go_sem]; done) | (simp only [go_sem]; omega))) only [go_sem, ↓reduceIte, Nat.reduceEqDiff, Nat.reduceAdd, Nat.reduceSub, Nat.reduceMul, Nat.reduceLT, Nat.reduceLeDiff, Int.reduceEq, Int.reduceLT, Int.reduceLE, Int.reduceAdd, Int.reduceSub, Int.reduceMul, Int.reduceNeg, Int.reduceToNat, Int.reduceNe, reduceCtorEq]
    refine w97_28 (ι := Nat) 0 (fun k e h => (∃ J, h = H ++ (.cells [.int .i64 kind, .bool b, .bool num.neg, strOf num.dig, .int .i64 num.exp, strOf text, .slice la list.length lc, .slice ka keys.length kc] (.fix (some 27)) 0 :: .cells [.int .i64 kind, .bool b', .bool num'.neg, strOf num'.dig, .int .i64 num'.exp, strOf text', .slice la' list'.length lc', .slice ka' keys'.length kc'] (.fix (some 27)) 0 :: J)) ∧ e.length = 91 ∧ k ≤ list.length ∧ k ≤ list'.length ∧
        ordL (decide (kind = 6)) list list' keys keys' = ordL (decide (kind = 6)) (list.drop k) (list'.drop k) (keys.drop k) (keys'.drop k) ∧ gt e 2 = .pointer (some ⟨H.length, 0, none⟩) ∧ gt e 3 = .pointer (some ⟨H.length + 1, 0, none⟩) ∧ gt e 5 = .int .i64 k) (fun k => list.length - k) ?_ ?_
    · refine ⟨⟨_, rfl⟩, ?_⟩
      simp (disch := (first | decide | omega | (simp only [go_sem]; done) | (simp only [go_sem]; omega))) only [go_sem, ↓reduceIte, Nat.reduceEqDiff, Nat.reduceAdd, Nat.reduceSub, Nat.reduceMul, Nat.reduceLT, Nat.reduceLeDiff, Int.reduceEq, Int.reduceLT, Int.reduceLE, Int.reduceAdd, Int.reduceSub, Int.reduceMul, Int.reduceNeg, Int.reduceToNat, Int.reduceNe, reduceCtorEq]
      simp
    · rintro k e h ⟨⟨J3, rfl⟩, he, hk1, hk2, hO, e2, e3, e5⟩ ih2
      simp (disch := (first | decide | omega | (simp only [go_sem, e2, e3, e5]; done) | (simp only [go_sem, e2, e3, e5]; omega))) only [go_sem, ↓reduceIte, Nat.reduceEqDiff, Nat.reduceAdd, Nat.reduceSub, Nat.reduceMul, Nat.reduceLT, Nat.reduceLeDiff, Int.reduceEq, Int.reduceLT, Int.reduceLE, Int.reduceAdd, Int.reduceSub, Int.reduceMul, Int.reduceNeg, Int.reduceToNat, Int.reduceNe, reduceCtorEq, e2, e3, e5]
      (repeat (refine guO_merge (fun hb => by (have hb' := hb; (try simp only [nrm] at hb'); have hc := hb; (try simp only [Bool.and_eq_true] at hc); first | (simp (disch := (first | decide | omega | (simp only [go_sem, hb, e2, e3, e5]; done) | (simp only [go_sem, hb, e2, e3, e5]; omega))) only [go_sem, ↓reduceIte, Nat.reduceEqDiff, Nat.reduceAdd, Nat.reduceSub, Nat.reduceMul, Nat.reduceLT, Nat.reduceLeDiff, Int.reduceEq, Int.reduceLT, Int.reduceLE, Int.reduceAdd, Int.reduceSub, Int.reduceMul, Int.reduceNeg, Int.reduceToNat, Int.reduceNe, reduceCtorEq, hb, e2, e3, e5]; rfl) | (simp (disch := (first | decide | omega | (simp only [go_sem, hc, e2, e3, e5]; done) | (simp only [go_sem, hc, e2, e3, e5]; omega))) only [go_sem, ↓reduceIte, Nat.reduceEqDiff, Nat.reduceAdd, Nat.reduceSub, Nat.reduceMul, Nat.reduceLT, Nat.reduceLeDiff, Int.reduceEq, Int.reduceLT, Int.reduceLE, Int.reduceAdd, Int.reduceSub, Int.reduceMul, Int.reduceNeg, Int.reduceToNat, Int.reduceNe, reduceCtorEq, hc, e2, e3, e5]; rfl))) rfl ?_; simp (disch := (first | decide | omega | (simp only [go_sem, e2, e3, e5]; done) | (simp only [go_sem, e2, e3, e5]; omega))) only [go_sem, ↓reduceIte, Nat.reduceEqDiff, Nat.reduceAdd, Nat.reduceSub, Nat.reduceMul, Nat.reduceLT, Nat.reduceLeDiff, Int.reduceEq, Int.reduceLT, Int.reduceLE, Int.reduceAdd, Int.reduceSub, Int.reduceMul, Int.reduceNeg, Int.reduceToNat, Int.reduceNe, reduceCtorEq, e2, e3, e5]))
      refine brK_of (fun hh => ?_) (fun hh => ?_)
      · simp only [nrm] at hh
        obtain ⟨hh1, hh2⟩ := hh
        have hlt : k < list.length := by omega
        have hlt' : k < list'.length := by omega
        have hst := ordL_step (o := decide (kind = 6)) (ks := keys) (ks' := keys') hlt hlt'
        obtain ⟨i, o, s, rfl, hgk⟩ := elAt_some (hg k hlt)
        obtain ⟨i', o', s', rfl, hgk'⟩ := elAt_some (hg' k hlt')
        have hdk := hdl k hlt
        have hdk' := hdl' k hlt'
        obtain ⟨d1, d2, d3⟩ := hdk.cells
        obtain ⟨d1', d2', d3'⟩ := hdk'.cells
        have hil := getN_lt hgk
        have hil' := getN_lt hgk'
        have hnk := bulk_le hlt
        have hnk' := bulk_le hlt'
        have hvk := valid_kid hlt hl1
        have hvk' := valid_kid hlt' hl2
        have next : ∀ (J5 : Heap) (e' : Env), e'.length = 91 → gt e' 2 = .pointer (some ⟨H.length, 0, none⟩) → gt e' 3 = .pointer (some ⟨H.length + 1, 0, none⟩) → gt e' 5 = .int .i64 (k + 1) → ((decide (kind = 6)) && decide (cmpS (keys.getD k []) (keys'.getD k []) ≠ 0)) = false → ordD list[k] list'[k] = 0 →
            EvK tab l97_28 [.block 1, .seq b97_52] e' (H ++ (.cells [.int .i64 kind, .bool b, .bool num.neg, strOf num.dig, .int .i64 num.exp, strOf text, .slice (some ⟨i, o, s⟩) list.length lc, .slice ka keys.length kc] (.fix (some 27)) 0 :: .cells [.int .i64 kind, .bool b', .bool num'.neg, strOf num'.dig, .int .i64 num'.exp, strOf text', .slice (some ⟨i', o', s'⟩) list'.length lc', .slice ka' keys'.length kc'] (.fix (some 27)) 0 :: J5)) (finO [.tmp 4] Q) := by
          intro J5 e' x1 x2 x3 x5 x6 x7
          refine ih2 (k + 1) _ _ (by omega) ⟨⟨_, rfl⟩, x1, by omega, by omega, ?_, x2, x3, by rw [x5]; rfl⟩
          rw [hO, hst, x6, x7]; simp
        by_cases g6 : kind = 6
        · subst g6
          have hkl := h6 rfl
          have hkl' := h6' rfl
          obtain ⟨j, p, r, rfl, hkk⟩ := key_at hk (k := k) (by omega)
          obtain ⟨j', p', r', rfl, hkk'⟩ := key_at hk' (k := k) (by omega)
          have hjl := get1_lt hkk
          have hjl' := get1_lt hkk'
          have eK : keys.getD k [] = keys[k]'(by omega) := by simp [List.getD_eq_getElem?_getD, hkl, hlt]
          have eK' : keys'.getD k [] = keys'[k]'(by omega) := by simp [List.getD_eq_getElem?_getD, hkl', hlt']
          rw [eK, eK'] at hst next
          have hkx : (k : Int) < keys.length := by omega
          have hkx' : (k : Int) < keys'.length := by omega
          simp (disch := (first | decide | omega | (simp only [go_sem, e2, e3, e5, hkk, hkk']; done) | (simp only [go_sem, e2, e3, e5, hkk, hkk']; omega))) only [go_sem, ↓reduceIte, Nat.reduceEqDiff, Nat.reduceAdd, Nat.reduceSub, Nat.reduceMul, Nat.reduceLT, Nat.reduceLeDiff, Int.reduceEq, Int.reduceLT, Int.reduceLE, Int.reduceAdd, Int.reduceSub, Int.reduceMul, Int.reduceNeg, Int.reduceToNat, Int.reduceNe, reduceCtorEq, e2, e3, e5, hkk, hkk']
          refine f186 ?_
          rintro _ _ rfl ⟨J4, rfl⟩
          simp (disch := (first | decide | omega | (simp only [go_sem, e2, e3, e5]; done) | (simp only [go_sem, e2, e3, e5]; omega))) only [go_sem, ↓reduceIte, Nat.reduceEqDiff, Nat.reduceAdd, Nat.reduceSub, Nat.reduceMul, Nat.reduceLT, Nat.reduceLeDiff, Int.reduceEq, Int.reduceLT, Int.reduceLE, Int.reduceAdd, Int.reduceSub, Int.reduceMul, Int.reduceNeg, Int.reduceToNat, Int.reduceNe, reduceCtorEq, e2, e3, e5]
          refine brK_of (fun hc => ?_) (fun hc => ?_)
          · simp at hc
            simp (disch := (first | decide | omega | (simp only [go_sem, e2, e3, e5, hgk, hgk', d1, d2, d3, d1', d2', d3']; done) | (simp only [go_sem, e2, e3, e5, hgk, hgk', d1, d2, d3, d1', d2', d3']; omega))) only [go_sem, ↓reduceIte, Nat.reduceEqDiff, Nat.reduceAdd, Nat.reduceSub, Nat.reduceMul, Nat.reduceLT, Nat.reduceLeDiff, Int.reduceEq, Int.reduceLT, Int.reduceLE, Int.reduceAdd, Int.reduceSub, Int.reduceMul, Int.reduceNeg, Int.reduceToNat, Int.reduceNe, reduceCtorEq, e2, e3, e5, hgk, hgk', d1, d2, d3, d1', d2', d3']
            refine ih _ _ _ _ _ (by omega) hdk.ext hdk'.ext hvk hvk' (by omega) (by omega) _ ?_
            rintro _ _ rfl ⟨J5, rfl⟩
            simp (disch := (first | decide | omega | (simp only [go_sem, e2, e3, e5]; done) | (simp only [go_sem, e2, e3, e5]; omega))) only [go_sem, ↓reduceIte, Nat.reduceEqDiff, Nat.reduceAdd, Nat.reduceSub, Nat.reduceMul, Nat.reduceLT, Nat.reduceLeDiff, Int.reduceEq, Int.reduceLT, Int.reduceLE, Int.reduceAdd, Int.reduceSub, Int.reduceMul, Int.reduceNeg, Int.reduceToNat, Int.reduceNe, reduceCtorEq, e2, e3, e5]
            refine brK_of (fun hx => ?_) (fun hx => ?_)
            · simp (disch := (first | decide | omega | (simp only [go_sem, e2, e3, e5]; done) | (simp only [go_sem, e2, e3, e5]; omega))) only [go_sem, ↓reduceIte, Nat.reduceEqDiff, Nat.reduceAdd, Nat.reduceSub, Nat.reduceMul, Nat.reduceLT, Nat.reduceLeDiff, Int.reduceEq, Int.reduceLT, Int.reduceLE, Int.reduceAdd, Int.reduceSub, Int.reduceMul, Int.reduceNeg, Int.reduceToNat, Int.reduceNe, reduceCtorEq, e2, e3, e5]
              simp at hx
              refine q _ _ ?_ (by first | exact Ext.refl | exact ⟨_, rfl⟩)
              rw [hO, hst]; simp [hc, hx]
            · simp at hx
              simp (disch := (first | decide | omega | (simp only [go_sem, e2, e3, e5]; done) | (simp only [go_sem, e2, e3, e5]; omega))) only [go_sem, ↓reduceIte, Nat.reduceEqDiff, Nat.reduceAdd, Nat.reduceSub, Nat.reduceMul, Nat.reduceLT, Nat.reduceLeDiff, Int.reduceEq, Int.reduceLT, Int.reduceLE, Int.reduceAdd, Int.reduceSub, Int.reduceMul, Int.reduceNeg, Int.reduceToNat, Int.reduceNe, reduceCtorEq, e2, e3, e5]
              refine next _ _ ?_ ?_ ?_ ?_ (by simp [hc]) hx <;> simp (disch := (first | decide | omega | (simp only [go_sem, e2, e3, e5, he]; done) | (simp only [go_sem, e2, e3, e5, he]; omega))) only [go_sem, ↓reduceIte, Nat.reduceEqDiff, Nat.reduceAdd, Nat.reduceSub, Nat.reduceMul, Nat.reduceLT, Nat.reduceLeDiff, Int.reduceEq, Int.reduceLT, Int.reduceLE, Int.reduceAdd, Int.reduceSub, Int.reduceMul, Int.reduceNeg, Int.reduceToNat, Int.reduceNe, reduceCtorEq, e2, e3, e5, he]
          · simp at hc
            simp (disch := (first | decide | omega | (simp only [go_sem, e2, e3, e5, hc]; done) | (simp only [go_sem, e2, e3, e5, hc]; omega))) only [go_sem, ↓reduceIte, Nat.reduceEqDiff, Nat.reduceAdd, Nat.reduceSub, Nat.reduceMul, Nat.reduceLT, Nat.reduceLeDiff, Int.reduceEq, Int.reduceLT, Int.reduceLE, Int.reduceAdd, Int.reduceSub, Int.reduceMul, Int.reduceNeg, Int.reduceToNat, Int.reduceNe, reduceCtorEq, e2, e3, e5, hc]
            refine q _ _ ?_ (by first | exact Ext.refl | exact ⟨_, rfl⟩)
            rw [hO, hst]; simp [hc]
        · simp (disch := (first | decide | omega | (simp only [go_sem, e2, e3, e5, g6, hgk, hgk', d1, d2, d3, d1', d2', d3']; done) | (simp only [go_sem, e2, e3, e5, g6, hgk, hgk', d1, d2, d3, d1', d2', d3']; omega))) only [go_sem, ↓reduceIte, Nat.reduceEqDiff, Nat.reduceAdd, Nat.reduceSub, Nat.reduceMul, Nat.reduceLT, Nat.reduceLeDiff, Int.reduceEq, Int.reduceLT, Int.reduceLE, Int.reduceAdd, Int.reduceSub, Int.reduceMul, Int.reduceNeg, Int.reduceToNat, Int.reduceNe, reduceCtorEq, e2, e3, e5, g6, hgk, hgk', d1, d2, d3, d1', d2', d3']
          refine ih _ _ _ _ _ (by omega) hdk.ext hdk'.ext hvk hvk' (by omega) (by omega) _ ?_
          rintro _ _ rfl ⟨J5, rfl⟩
          simp (disch := (first | decide | omega | (simp only [go_sem, e2, e3, e5]; done) | (simp only [go_sem, e2, e3, e5]; omega))) only [go_sem, ↓reduceIte, Nat.reduceEqDiff, Nat.reduceAdd, Nat.reduceSub, Nat.reduceMul, Nat.reduceLT, Nat.reduceLeDiff, Int.reduceEq, Int.reduceLT, Int.reduceLE, Int.reduceAdd, Int.reduceSub, Int.reduceMul, Int.reduceNeg, Int.reduceToNat, Int.reduceNe, reduceCtorEq, e2, e3, e5]
          refine brK_of (fun hx => ?_) (fun hx => ?_)
          · simp (disch := (first | decide | omega | (simp only [go_sem, e2, e3, e5]; done) | (simp only [go_sem, e2, e3, e5]; omega))) only [go_sem, ↓reduceIte, Nat.reduceEqDiff, Nat.reduceAdd, Nat.reduceSub, Nat.reduceMul, Nat.reduceLT, Nat.reduceLeDiff, Int.reduceEq, Int.reduceLT, Int.reduceLE, Int.reduceAdd, Int.reduceSub, Int.reduceMul, Int.reduceNeg, Int.reduceToNat, Int.reduceNe, reduceCtorEq, e2, e3, e5]
            simp at hx
            refine q _ _ ?_ (by first | exact Ext.refl | exact ⟨_, rfl⟩)
            rw [hO, hst]; simp [g6, hx]
          · simp at hx
            simp (disch := (first | decide | omega | (simp only [go_sem, e2, e3, e5]; done) | (simp only [go_sem, e2, e3, e5]; omega))) only [go_sem, ↓reduceIte, Nat.reduceEqDiff, Nat.reduceAdd, Nat.reduceSub, Nat.reduceMul, Nat.reduceLT, Nat.reduceLeDiff, Int.reduceEq, Int.reduceLT, Int.reduceLE, Int.reduceAdd, Int.reduceSub, Int.reduceMul, Int.reduceNeg, Int.reduceToNat, Int.reduceNe, reduceCtorEq, e2, e3, e5]
            refine next _ _ ?_ ?_ ?_ ?_ (by simp [g6]) hx <;> simp (disch := (first | decide | omega | (simp only [go_sem, e2, e3, e5, he]; done) | (simp only [go_sem, e2, e3, e5, he]; omega))) only [go_sem, ↓reduceIte, Nat.reduceEqDiff, Nat.reduceAdd, Nat.reduceSub, Nat.reduceMul, Nat.reduceLT, Nat.reduceLeDiff, Int.reduceEq, Int.reduceLT, Int.reduceLE, Int.reduceAdd, Int.reduceSub, Int.reduceMul, Int.reduceNeg, Int.reduceToNat, Int.reduceNe, reduceCtorEq, e2, e3, e5, he]
      · simp (disch := (first | decide | omega | (simp only [go_sem, e2, e3, e5]; done) | (simp only [go_sem, e2, e3, e5]; omega))) only [go_sem, ↓reduceIte, Nat.reduceEqDiff, Nat.reduceAdd, Nat.reduceSub, Nat.reduceMul, Nat.reduceLT, Nat.reduceLeDiff, Int.reduceEq, Int.reduceLT, Int.reduceLE, Int.reduceAdd, Int.reduceSub, Int.reduceMul, Int.reduceNeg, Int.reduceToNat, Int.reduceNe, reduceCtorEq, e2, e3, e5]
        have hend : list.drop k = [] ∨ list'.drop k = [] := by
          simp at hh
          by_cases hk3 : k < list.length
          · right; exact List.drop_of_length_le (by omega)
          · left; exact List.drop_of_length_le (by omega)
        rw [ordL_end hend] at hO
        simp only [List.length_drop] at hO
        refine brK_of (fun hx => ?_) (fun hx => ?_)
        · simp at hx
          simp (disch := (first | decide | omega | (simp only [go_sem, e2, e3, e5]; done) | (simp only [go_sem, e2, e3, e5]; omega))) only [go_sem, ↓reduceIte, Nat.reduceEqDiff, Nat.reduceAdd, Nat.reduceSub, Nat.reduceMul, Nat.reduceLT, Nat.reduceLeDiff, Int.reduceEq, Int.reduceLT, Int.reduceLE, Int.reduceAdd, Int.reduceSub, Int.reduceMul, Int.reduceNeg, Int.reduceToNat, Int.reduceNe, reduceCtorEq, e2, e3, e5]
          refine brK_prop (fun hy => ?_) (fun hy => ?_)
          · simp (disch := (first | decide | omega | (simp only [go_sem, e2, e3, e5]; done) | (simp only [go_sem, e2, e3, e5]; omega))) only [go_sem, ↓reduceIte, Nat.reduceEqDiff, Nat.reduceAdd, Nat.reduceSub, Nat.reduceMul, Nat.reduceLT, Nat.reduceLeDiff, Int.reduceEq, Int.reduceLT, Int.reduceLE, Int.reduceAdd, Int.reduceSub, Int.reduceMul, Int.reduceNeg, Int.reduceToNat, Int.reduceNe, reduceCtorEq, e2, e3, e5]
            refine q _ _ ?_ (by first | exact Ext.refl | exact ⟨_, rfl⟩)
            rw [hO]; congr 1; unfold sgn; omega
          · simp (disch := (first | decide | omega | (simp only [go_sem, e2, e3, e5]; done) | (simp only [go_sem, e2, e3, e5]; omega))) only [go_sem, ↓reduceIte, Nat.reduceEqDiff, Nat.reduceAdd, Nat.reduceSub, Nat.reduceMul, Nat.reduceLT, Nat.reduceLeDiff, Int.reduceEq, Int.reduceLT, Int.reduceLE, Int.reduceAdd, Int.reduceSub, Int.reduceMul, Int.reduceNeg, Int.reduceToNat, Int.reduceNe, reduceCtorEq, e2, e3, e5]
            refine q _ _ ?_ (by first | exact Ext.refl | exact ⟨_, rfl⟩)
            rw [hO]; congr 1; unfold sgn; omega
        · simp at hx
          simp (disch := (first | decide | omega | (simp only [go_sem, e2, e3, e5]; done) | (simp only [go_sem, e2, e3, e5]; omega))) only [go_sem, ↓reduceIte, Nat.reduceEqDiff, Nat.reduceAdd, Nat.reduceSub, Nat.reduceMul, Nat.reduceLT, Nat.reduceLeDiff, Int.reduceEq, Int.reduceLT, Int.reduceLE, Int.reduceAdd, Int.reduceSub, Int.reduceMul, Int.reduceNeg, Int.reduceToNat, Int.reduceNe, reduceCtorEq, e2, e3, e5]
          refine q _ _ ?_ (by first | exact Ext.refl | exact ⟨_, rfl⟩)
          rw [hO]; congr 1; unfold sgn; omega
end Ve
end Go.Proofs.YtnociodpfmlglaaGreatDoor

/-
  Compare of documents: the program's.
-/
set_option linter.unusedVariables false
set_option linter.unusedSimpArgs false
namespace Go.Proofs.YtnociodpfmlglaaGreatDoor
namespace Ve
open Go

set_option maxHeartbeats 2000000 in
theorem f184_of {kind : Int} {b b' : Bool} {num num' : Num} {text text' : Str} {list list' : List Doc} {keys keys' : List Str} {cs cs' : List Value} {H : Heap}
    (hd : DocAt H cs (.mk kind b num text list keys)) (hd' : DocAt H cs' (.mk kind b' num' text' list' keys')) (h6 : kind = 6 → keys.length = list.length) (h6' : kind = 6 → keys'.length = list'.length) (hll : list.length ≤ 1000000000) (hll' : list'.length ≤ 1000000000)
    (ih : ∀ k, (h : k < list.length) → (h' : k < list'.length) → ∀ (x x' : List Value) (H : Heap) (Q : Out → Prop), DocAt H x list[k] → DocAt H x' list'[k] → (∀ v H', v = .int .i64 (ordD list[k] list'[k]) → Ext H H' → Q (.ret v H')) → Cl tab 95 [.agg ⟨x⟩, .agg ⟨x'⟩] H Q)
    {Q : Out → Prop} (q : ∀ v H', v = .int .i64 (ordL (decide (kind = 6)) list list' keys keys') → Ext H H' → Q (.ret v H')) : Cl tab 184 [.agg ⟨cs⟩, .agg ⟨cs'⟩] H Q := by
  have hd0 := hd
  have hd0' := hd'
  obtain ⟨c1, c2, c3⟩ := hd0.cells
  obtain ⟨c1', c2', c3'⟩ := hd0'.cells
  obtain @⟨_, _, _, _, _, _, la, lc, ka, kc, cs, hi, hk, hg, hdl⟩ := hd
  obtain @⟨_, _, _, _, _, _, la', lc', ka', kc', cs', hi', hk', hg', hdl'⟩ := hd'
  apply e184
  simp (disch := (first | decide | omega | (simp only [go_sem]; done) | (simp only [go_sem]; omega))) only [go_sem, ↓reduceIte, Nat.reduceEqDiff, Nat.reduceAdd, Nat.reduceSub, Nat.reduceMul, Nat.reduceLT, Nat.reduceLeDiff, Int.reduceEq, Int.reduceLT, Int.reduceLE, Int.reduceAdd, Int.reduceSub, Int.reduceMul, Int.reduceNeg, Int.reduceToNat, Int.reduceNe, reduceCtorEq]
  have hmin : min (list.length : Int) (list'.length : Int) = ((min list.length list'.length : Nat) : Int) := by omega
  simp (disch := (first | decide | omega | (simp only [go_sem, hmin]; done) | (simp only [go_sem, hmin]; omega))) only [go_sem, ↓reduceIte, Nat.reduceEqDiff, Nat.reduceAdd, Nat.reduceSub, Nat.reduceMul, Nat.reduceLT, Nat.reduceLeDiff, Int.reduceEq, Int.reduceLT, Int.reduceLE, Int.reduceAdd, Int.reduceSub, Int.reduceMul, Int.reduceNeg, Int.reduceToNat, Int.reduceNe, reduceCtorEq, hmin]
  refine w184_5 (ι := Nat) 0 (fun k e h => (∃ J, h = H ++ (.cells [.int .i64 kind, .bool b, .bool num.neg, strOf num.dig, .int .i64 num.exp, strOf text, .slice la list.length lc, .slice ka keys.length kc] (.fix (some 27)) 0 :: .cells [.int .i64 kind, .bool b', .bool num'.neg, strOf num'.dig, .int .i64 num'.exp, strOf text', .slice la' list'.length lc', .slice ka' keys'.length kc'] (.fix (some 27)) 0 :: J)) ∧ e.length = 58 ∧ k ≤ list.length ∧ k ≤ list'.length ∧
      ordL (decide (kind = 6)) list list' keys keys' = ordL (decide (kind = 6)) (list.drop k) (list'.drop k) (keys.drop k) (keys'.drop k) ∧ gt e 2 = .pointer (some ⟨H.length, 0, none⟩) ∧ gt e 3 = .pointer (some ⟨H.length + 1, 0, none⟩) ∧ gt e 14 = .int .i64 (min list.length list'.length : Nat) ∧ gt e 15 = .int .i64 k) (fun k => list.length - k) ?_ ?_
  · refine ⟨⟨_, rfl⟩, ?_⟩
    simp (disch := (first | decide | omega | (simp only [go_sem]; done) | (simp only [go_sem]; omega))) only [go_sem, ↓reduceIte, Nat.reduceEqDiff, Nat.reduceAdd, Nat.reduceSub, Nat.reduceMul, Nat.reduceLT, Nat.reduceLeDiff, Int.reduceEq, Int.reduceLT, Int.reduceLE, Int.reduceAdd, Int.reduceSub, Int.reduceMul, Int.reduceNeg, Int.reduceToNat, Int.reduceNe, reduceCtorEq]
    simp
  · rintro k e h ⟨⟨J3, rfl⟩, he, hk1, hk2, hO, e2, e3, e14, e15⟩ ih2
    simp (disch := (first | decide | omega | (simp only [go_sem, e2, e3, e14, e15]; done) | (simp only [go_sem, e2, e3, e14, e15]; omega))) only [go_sem, ↓reduceIte, Nat.reduceEqDiff, Nat.reduceAdd, Nat.reduceSub, Nat.reduceMul, Nat.reduceLT, Nat.reduceLeDiff, Int.reduceEq, Int.reduceLT, Int.reduceLE, Int.reduceAdd, Int.reduceSub, Int.reduceMul, Int.reduceNeg, Int.reduceToNat, Int.reduceNe, reduceCtorEq, e2, e3, e14, e15]
    refine brK_of (fun hh => ?_) (fun hh => ?_)
    · simp at hh
      have hlt : k < list.length := by omega
      have hlt' : k < list'.length := by omega
      have hst := ordL_step (o := decide (kind = 6)) (ks := keys) (ks' := keys') hlt hlt'
      obtain ⟨i, o, s, rfl, hgk⟩ := elAt_some (hg k hlt)
      obtain ⟨i', o', s', rfl, hgk'⟩ := elAt_some (hg' k hlt')
      have hdk := hdl k hlt
      have hdk' := hdl' k hlt'
      obtain ⟨d1, d2, d3⟩ := hdk.cells
      obtain ⟨d1', d2', d3'⟩ := hdk'.cells
      have hil := getN_lt hgk
      have hil' := getN_lt hgk'
      have next : ∀ (J5 : Heap) (e' : Env), e'.length = 58 → gt e' 2 = .pointer (some ⟨H.length, 0, none⟩) → gt e' 3 = .pointer (some ⟨H.length + 1, 0, none⟩) → gt e' 14 = .int .i64 (min list.length list'.length : Nat) → gt e' 15 = .int .i64 (k + 1) → ((decide (kind = 6)) && decide (cmpS (keys.getD k []) (keys'.getD k []) ≠ 0)) = false → ordD list[k] list'[k] = 0 →
          EvK tab l184_5 [.block 0, .seq b184_31] e' (H ++ (.cells [.int .i64 kind, .bool b, .bool num.neg, strOf num.dig, .int .i64 num.exp, strOf text, .slice (some ⟨i, o, s⟩) list.length lc, .slice ka keys.length kc] (.fix (some 27)) 0 :: .cells [.int .i64 kind, .bool b', .bool num'.neg, strOf num'.dig, .int .i64 num'.exp, strOf text', .slice (some ⟨i', o', s'⟩) list'.length lc', .slice ka' keys'.length kc'] (.fix (some 27)) 0 :: J5)) (finO [.tmp 4] Q) := by
        intro J5 e' x1 x2 x3 x14 x15 x6 x7
        refine ih2 (k + 1) _ _ (by omega) ⟨⟨_, rfl⟩, x1, by omega, by omega, ?_, x2, x3, x14, by rw [x15]; rfl⟩
        rw [hO, hst, x6, x7]; simp
      have kids : ∀ (J5 : Heap), ((decide (kind = 6)) && decide (cmpS (keys.getD k []) (keys'.getD k []) ≠ 0)) = false → True := fun _ _ => trivial
      by_cases g6 : kind = 6
      · subst g6
        have hkl := h6 rfl
        have hkl' := h6' rfl
        obtain ⟨j, p, r, rfl, hkk⟩ := key_at hk (k := k) (by omega)
        obtain ⟨j', p', r', rfl, hkk'⟩ := key_at hk' (k := k) (by omega)
        have hjl := get1_lt hkk
        have hjl' := get1_lt hkk'
        have eK : keys.getD k [] = keys[k]'(by omega) := by simp [List.getD_eq_getElem?_getD, hkl, hlt]
        have eK' : keys'.getD k [] = keys'[k]'(by omega) := by simp [List.getD_eq_getElem?_getD, hkl', hlt']
        rw [eK, eK'] at hst next
        have hkx : (k : Int) < keys.length := by omega
        have hkx' : (k : Int) < keys'.length := by omega
        simp (disch := (first | decide | omega | (simp only [go_sem, e2, e3, e14, e15, hkk, hkk']; done) | (simp only [go_sem, e2, e3, e14, e15, hkk, hkk']; omega))) only [go_sem, ↓reduceIte, Nat.reduceEqDiff, Nat.reduceAdd, Nat.reduceSub, Nat.reduceMul, Nat.reduceLT, Nat.reduceLeDiff, Int.reduceEq, Int.reduceLT, Int.reduceLE, Int.reduceAdd, Int.reduceSub, Int.reduceMul, Int.reduceNeg, Int.reduceToNat, Int.reduceNe, reduceCtorEq, e2, e3, e14, e15, hkk, hkk']
        refine f183 ?_
        rintro _ _ rfl ⟨J4, rfl⟩
        simp (disch := (first | decide | omega | (simp only [go_sem, e2, e3, e14, e15]; done) | (simp only [go_sem, e2, e3, e14, e15]; omega))) only [go_sem, ↓reduceIte, Nat.reduceEqDiff, Nat.reduceAdd, Nat.reduceSub, Nat.reduceMul, Nat.reduceLT, Nat.reduceLeDiff, Int.reduceEq, Int.reduceLT, Int.reduceLE, Int.reduceAdd, Int.reduceSub, Int.reduceMul, Int.reduceNeg, Int.reduceToNat, Int.reduceNe, reduceCtorEq, e2, e3, e14, e15]
        refine brK_of (fun hc => ?_) (fun hc => ?_)
        · simp at hc
          simp (disch := (first | decide | omega | (simp only [go_sem, e2, e3, e14, e15, hc]; done) | (simp only [go_sem, e2, e3, e14, e15, hc]; omega))) only [go_sem, ↓reduceIte, Nat.reduceEqDiff, Nat.reduceAdd, Nat.reduceSub, Nat.reduceMul, Nat.reduceLT, Nat.reduceLeDiff, Int.reduceEq, Int.reduceLT, Int.reduceLE, Int.reduceAdd, Int.reduceSub, Int.reduceMul, Int.reduceNeg, Int.reduceToNat, Int.reduceNe, reduceCtorEq, e2, e3, e14, e15, hc]
          refine q _ _ ?_ (by first | exact Ext.refl | exact ⟨_, rfl⟩)
          rw [hO, hst]; simp [hc]
        · simp at hc
          simp (disch := (first | decide | omega | (simp only [go_sem, e2, e3, e14, e15, hgk, hgk', d1, d2, d3, d1', d2', d3']; done) | (simp only [go_sem, e2, e3, e14, e15, hgk, hgk', d1, d2, d3, d1', d2', d3']; omega))) only [go_sem, ↓reduceIte, Nat.reduceEqDiff, Nat.reduceAdd, Nat.reduceSub, Nat.reduceMul, Nat.reduceLT, Nat.reduceLeDiff, Int.reduceEq, Int.reduceLT, Int.reduceLE, Int.reduceAdd, Int.reduceSub, Int.reduceMul, Int.reduceNeg, Int.reduceToNat, Int.reduceNe, reduceCtorEq, e2, e3, e14, e15, hgk, hgk', d1, d2, d3, d1', d2', d3']
          refine ih k hlt hlt' _ _ _ _ hdk.ext hdk'.ext ?_
          rintro _ _ rfl ⟨J5, rfl⟩
          simp (disch := (first | decide | omega | (simp only [go_sem, e2, e3, e14, e15]; done) | (simp only [go_sem, e2, e3, e14, e15]; omega))) only [go_sem, ↓reduceIte, Nat.reduceEqDiff, Nat.reduceAdd, Nat.reduceSub, Nat.reduceMul, Nat.reduceLT, Nat.reduceLeDiff, Int.reduceEq, Int.reduceLT, Int.reduceLE, Int.reduceAdd, Int.reduceSub, Int.reduceMul, Int.reduceNeg, Int.reduceToNat, Int.reduceNe, reduceCtorEq, e2, e3, e14, e15]
          refine brK_of (fun hx => ?_) (fun hx => ?_)
          · simp (disch := (first | decide | omega | (simp only [go_sem, e2, e3, e14, e15]; done) | (simp only [go_sem, e2, e3, e14, e15]; omega))) only [go_sem, ↓reduceIte, Nat.reduceEqDiff, Nat.reduceAdd, Nat.reduceSub, Nat.reduceMul, Nat.reduceLT, Nat.reduceLeDiff, Int.reduceEq, Int.reduceLT, Int.reduceLE, Int.reduceAdd, Int.reduceSub, Int.reduceMul, Int.reduceNeg, Int.reduceToNat, Int.reduceNe, reduceCtorEq, e2, e3, e14, e15]
            simp at hx
            refine q _ _ ?_ (by first | exact Ext.refl | exact ⟨_, rfl⟩)
            rw [hO, hst]; simp [hc, hx]
          · simp at hx
            simp (disch := (first | decide | omega | (simp only [go_sem, e2, e3, e14, e15]; done) | (simp only [go_sem, e2, e3, e14, e15]; omega))) only [go_sem, ↓reduceIte, Nat.reduceEqDiff, Nat.reduceAdd, Nat.reduceSub, Nat.reduceMul, Nat.reduceLT, Nat.reduceLeDiff, Int.reduceEq, Int.reduceLT, Int.reduceLE, Int.reduceAdd, Int.reduceSub, Int.reduceMul, Int.reduceNeg, Int.reduceToNat, Int.reduceNe, reduceCtorEq, e2, e3, e14, e15]
            refine next _ _ ?_ ?_ ?_ ?_ ?_ (by simp [hc]) hx <;> simp (disch := (first | decide | omega | (simp only [go_sem, e2, e3, e14, e15, he]; done) | (simp only [go_sem, e2, e3, e14, e15, he]; omega))) only [go_sem, ↓reduceIte, Nat.reduceEqDiff, Nat.reduceAdd, Nat.reduceSub, Nat.reduceMul, Nat.reduceLT, Nat.reduceLeDiff, Int.reduceEq, Int.reduceLT, Int.reduceLE, Int.reduceAdd, Int.reduceSub, Int.reduceMul, Int.reduceNeg, Int.reduceToNat, Int.reduceNe, reduceCtorEq, e2, e3, e14, e15, he]
      · simp (disch := (first | decide | omega | (simp only [go_sem, e2, e3, e14, e15, g6, hgk, hgk', d1, d2, d3, d1', d2', d3']; done) | (simp only [go_sem, e2, e3, e14, e15, g6, hgk, hgk', d1, d2, d3, d1', d2', d3']; omega))) only [go_sem, ↓reduceIte, Nat.reduceEqDiff, Nat.reduceAdd, Nat.reduceSub, Nat.reduceMul, Nat.reduceLT, Nat.reduceLeDiff, Int.reduceEq, Int.reduceLT, Int.reduceLE, Int.reduceAdd, Int.reduceSub, Int.reduceMul, Int.reduceNeg, Int.reduceToNat, Int.reduceNe, reduceCtorEq, e2, e3, e14, e15, g6, hgk, hgk', d1, d2, d3, d1', d2', d3']
        refine ih k hlt hlt' _ _ _ _ hdk.ext hdk'.ext ?_
        rintro _ _ rfl ⟨J5, rfl⟩
        simp (disch := (first | decide | omega | (simp only [go_sem, e2, e3, e14, e15]; done) | (simp only [go_sem, e2, e3, e14, e15]; omega))) only [go_sem, ↓reduceIte, Nat.reduceEqDiff, Nat.reduceAdd, Nat.reduceSub, Nat.reduceMul, Nat.reduceLT, Nat.reduceLeDiff, Int.reduceEq, Int.reduceLT, Int.reduceLE, Int.reduceAdd, Int.reduceSub, Int.reduceMul, Int.reduceNeg, Int.reduceToNat, Int.reduceNe, reduceCtorEq, e2, e3, e14, e15]
        refine brK_of (fun hx => ?_) (fun hx => ?_)
        · simp (disch := (first | decide | omega | (simp only [go_sem, e2, e3, e14, e15]; done) | (simp only [go_sem, e2, e3, e14, e15]; omega))) only [go_sem, ↓reduceIte, Nat.reduceEqDiff, Nat.reduceAdd, Nat.reduceSub, Nat.reduceMul, Nat.reduceLT, Nat.reduceLeDiff, Int.reduceEq, Int.reduceLT, Int.reduceLE, Int.reduceAdd, Int.reduceSub, Int.reduceMul, Int.reduceNeg, Int.reduceToNat, Int.reduceNe, reduceCtorEq, e2, e3, e14, e15]
          simp at hx
          refine q _ _ ?_ (by first | exact Ext.refl | exact ⟨_, rfl⟩)
          rw [hO, hst]; simp [g6, hx]
        · simp at hx
          simp (disch := (first | decide | omega | (simp only [go_sem, e2, e3, e14, e15]; done) | (simp only [go_sem, e2, e3, e14, e15]; omega))) only [go_sem, ↓reduceIte, Nat.reduceEqDiff, Nat.reduceAdd, Nat.reduceSub, Nat.reduceMul, Nat.reduceLT, Nat.reduceLeDiff, Int.reduceEq, Int.reduceLT, Int.reduceLE, Int.reduceAdd, Int.reduceSub, Int.reduceMul, Int.reduceNeg, Int.reduceToNat, Int.reduceNe, reduceCtorEq, e2, e3, e14, e15]
          refine next _ _ ?_ ?_ ?_ ?_ ?_ (by simp [g6]) hx <;> simp (disch := (first | decide | omega | (simp only [go_sem, e2, e3, e14, e15, he]; done) | (simp only [go_sem, e2, e3, e14, e15, he]; omega))) only [go_sem, ↓reduceIte, Nat.reduceEqDiff, Nat.reduceAdd, Nat.reduceSub, Nat.reduceMul, Nat.reduceLT, Nat.reduceLeDiff, Int.reduceEq, Int.reduceLT, Int.reduceLE, Int.reduceAdd, Int.reduceSub, Int.reduceMul, Int.reduceNeg, Int.reduceToNat, Int.reduceNe, reduceCtorEq, e2, e3, e14, e15, he]
    · simp at hh
      have hend : list.drop k = [] ∨ list'.drop k = [] := by
        by_cases hk3 : k < list.length
        · right; exact List.drop_of_length_le (by omega)
        · left; exact List.drop_of_length_le (by omega)
      rw [ordL_end hend] at hO
      simp only [List.length_drop] at hO
      simp (disch := (first | decide | omega | (simp only [go_sem, e2, e3, e14, e15]; done) | (simp only [go_sem, e2, e3, e14, e15]; omega))) only [go_sem, ↓reduceIte, Nat.reduceEqDiff, Nat.reduceAdd, Nat.reduceSub, Nat.reduceMul, Nat.reduceLT, Nat.reduceLeDiff, Int.reduceEq, Int.reduceLT, Int.reduceLE, Int.reduceAdd, Int.reduceSub, Int.reduceMul, Int.reduceNeg, Int.reduceToNat, Int.reduceNe, reduceCtorEq, e2, e3, e14, e15]
      refine f181 ?_
      rintro _ _ rfl ⟨J5, rfl⟩
      simp (disch := (first | decide | omega | (simp only [go_sem]; done) | (simp only [go_sem]; omega))) only [go_sem, ↓reduceIte, Nat.reduceEqDiff, Nat.reduceAdd, Nat.reduceSub, Nat.reduceMul, Nat.reduceLT, Nat.reduceLeDiff, Int.reduceEq, Int.reduceLT, Int.reduceLE, Int.reduceAdd, Int.reduceSub, Int.reduceMul, Int.reduceNeg, Int.reduceToNat, Int.reduceNe, reduceCtorEq]
      refine q _ _ ?_ (by first | exact Ext.refl | exact ⟨_, rfl⟩)
      rw [hO]; congr 1; unfold sgn; omega

set_option maxHeartbeats 2000000 in
theorem f95 {cs cs' : List Value} {d d' : Doc} {H : Heap} (hd : DocAt H cs d) (hd' : DocAt H cs' d') (hv : nodesFault d = 0) (hv' : nodesFault d' = 0) (hb : bulk d ≤ 1000000000) (hb' : bulk d' ≤ 1000000000) {Q : Out → Prop} (q : ∀ v H', v = .int .i64 (ordD d d') → Ext H H' → Q (.ret v H')) : Cl tab 95 [.agg ⟨cs⟩, .agg ⟨cs'⟩] H Q := by
  suffices h : ∀ n d d' cs cs' H, bulk d < n → DocAt H cs d → DocAt H cs' d' → nodesFault d = 0 → nodesFault d' = 0 → bulk d ≤ 1000000000 → bulk d' ≤ 1000000000 → ∀ Q : Out → Prop, (∀ v H', v = .int .i64 (ordD d d') → Ext H H' → Q (.ret v H')) → Cl tab 95 [.agg ⟨cs⟩, .agg ⟨cs'⟩] H Q from h (bulk d + 1) d d' cs cs' H (by omega) hd hd' hv hv' hb hb' Q q
  clear hd hd' hv hv' hb hb' q Q cs cs' d d' H
  intro n
  induction n with
  | zero => intro d d' cs cs' H hn; omega
  | succ n ih =>
    intro d d' cs cs' H hn hd hd' hv hv' hb hb' Q q
    have hd0 := hd
    have hd0' := hd'
    obtain ⟨c1, c2, c3⟩ := hd0.cells
    obtain ⟨c1', c2', c3'⟩ := hd0'.cells
    obtain @⟨kind, b, num, text, list, keys, la, lc, ka, kc, cs, hi, hk, hg, hdl⟩ := hd
    obtain @⟨kind', b', num', text', list', keys', la', lc', ka', kc', cs', hi', hk', hg', hdl'⟩ := hd'
    obtain ⟨hn1, hl1⟩ := valid_node hv
    obtain ⟨hn2, hl2⟩ := valid_node hv'
    obtain ⟨k1, k6, hsb, h3, h6, h5, _⟩ := node_ok hn1
    obtain ⟨k1', k6', hsb', h3', h6', h5', _⟩ := node_ok hn2
    simp only [Doc.list] at hl1 hl2
    simp only [bulk] at hn hb hb'
    have hbl := nodesL_bulk list
    have hll := length_le_nodesL list
    have hbl' := nodesL_bulk list'
    have hll' := length_le_nodesL list'
    apply e95
    simp (disch := (first | decide | omega | (simp only [go_sem, c1, c2, c3, c1', c2', c3']; done) | (simp only [go_sem, c1, c2, c3, c1', c2', c3']; omega))) only [go_sem, ↓reduceIte, Nat.reduceEqDiff, Nat.reduceAdd, Nat.reduceSub, Nat.reduceMul, Nat.reduceLT, Nat.reduceLeDiff, Int.reduceEq, Int.reduceLT, Int.reduceLE, Int.reduceAdd, Int.reduceSub, Int.reduceMul, Int.reduceNeg, Int.reduceToNat, Int.reduceNe, reduceCtorEq, c1, c2, c3, c1', c2', c3']
    refine brK_of (fun hr => ?_) (fun hr => ?_)
    · simp (disch := (first | decide | omega | (simp only [go_sem]; done) | (simp only [go_sem]; omega))) only [go_sem, ↓reduceIte, Nat.reduceEqDiff, Nat.reduceAdd, Nat.reduceSub, Nat.reduceMul, Nat.reduceLT, Nat.reduceLeDiff, Int.reduceEq, Int.reduceLT, Int.reduceLE, Int.reduceAdd, Int.reduceSub, Int.reduceMul, Int.reduceNeg, Int.reduceToNat, Int.reduceNe, reduceCtorEq]
      simp at hr
      refine f181 ?_
      rintro _ _ rfl ⟨J, rfl⟩
      simp (disch := (first | decide | omega | (simp only [go_sem]; done) | (simp only [go_sem]; omega))) only [go_sem, ↓reduceIte, Nat.reduceEqDiff, Nat.reduceAdd, Nat.reduceSub, Nat.reduceMul, Nat.reduceLT, Nat.reduceLeDiff, Int.reduceEq, Int.reduceLT, Int.reduceLE, Int.reduceAdd, Int.reduceSub, Int.reduceMul, Int.reduceNeg, Int.reduceToNat, Int.reduceNe, reduceCtorEq]
      refine q _ _ ?_ (by first | exact Ext.refl | exact ⟨_, rfl⟩)
      simp [ordD, hr]
    simp at hr
    subst hr
    simp (disch := (first | decide | omega | (simp only [go_sem]; done) | (simp only [go_sem]; omega))) only [go_sem, ↓reduceIte, Nat.reduceEqDiff, Nat.reduceAdd, Nat.reduceSub, Nat.reduceMul, Nat.reduceLT, Nat.reduceLeDiff, Int.reduceEq, Int.reduceLT, Int.reduceLE, Int.reduceAdd, Int.reduceSub, Int.reduceMul, Int.reduceNeg, Int.reduceToNat, Int.reduceNe, reduceCtorEq]
    refine brK_of (fun g2 => ?_) (fun g2 => ?_)
    · simp at g2
      simp (disch := (first | decide | omega | (simp only [go_sem]; done) | (simp only [go_sem]; omega))) only [go_sem, ↓reduceIte, Nat.reduceEqDiff, Nat.reduceAdd, Nat.reduceSub, Nat.reduceMul, Nat.reduceLT, Nat.reduceLeDiff, Int.reduceEq, Int.reduceLT, Int.reduceLE, Int.reduceAdd, Int.reduceSub, Int.reduceMul, Int.reduceNeg, Int.reduceToNat, Int.reduceNe, reduceCtorEq]
      refine f182 ?_
      rintro _ _ rfl ⟨J, rfl⟩
      simp (disch := (first | decide | omega | (simp only [go_sem]; done) | (simp only [go_sem]; omega))) only [go_sem, ↓reduceIte, Nat.reduceEqDiff, Nat.reduceAdd, Nat.reduceSub, Nat.reduceMul, Nat.reduceLT, Nat.reduceLeDiff, Int.reduceEq, Int.reduceLT, Int.reduceLE, Int.reduceAdd, Int.reduceSub, Int.reduceMul, Int.reduceNeg, Int.reduceToNat, Int.reduceNe, reduceCtorEq]
      refine q _ _ ?_ (by first | exact Ext.refl | exact ⟨_, rfl⟩)
      simp [ordD, g2]
    simp (disch := (first | decide | omega | (simp only [go_sem]; done) | (simp only [go_sem]; omega))) only [go_sem, ↓reduceIte, Nat.reduceEqDiff, Nat.reduceAdd, Nat.reduceSub, Nat.reduceMul, Nat.reduceLT, Nat.reduceLeDiff, Int.reduceEq, Int.reduceLT, Int.reduceLE, Int.reduceAdd, Int.reduceSub, Int.reduceMul, Int.reduceNeg, Int.reduceToNat, Int.reduceNe, reduceCtorEq]
    refine brK_of (fun g3 => ?_) (fun g3 => ?_)
    · simp at g3
      simp (disch := (first | decide | omega | (simp only [go_sem]; done) | (simp only [go_sem]; omega))) only [go_sem, ↓reduceIte, Nat.reduceEqDiff, Nat.reduceAdd, Nat.reduceSub, Nat.reduceMul, Nat.reduceLT, Nat.reduceLeDiff, Int.reduceEq, Int.reduceLT, Int.reduceLE, Int.reduceAdd, Int.reduceSub, Int.reduceMul, Int.reduceNeg, Int.reduceToNat, Int.reduceNe, reduceCtorEq]
      refine f103 (h3 g3) (h3' g3) ?_
      rintro _ _ rfl ⟨J, rfl⟩
      simp (disch := (first | decide | omega | (simp only [go_sem]; done) | (simp only [go_sem]; omega))) only [go_sem, ↓reduceIte, Nat.reduceEqDiff, Nat.reduceAdd, Nat.reduceSub, Nat.reduceMul, Nat.reduceLT, Nat.reduceLeDiff, Int.reduceEq, Int.reduceLT, Int.reduceLE, Int.reduceAdd, Int.reduceSub, Int.reduceMul, Int.reduceNeg, Int.reduceToNat, Int.reduceNe, reduceCtorEq]
      refine q _ _ ?_ (by first | exact Ext.refl | exact ⟨_, rfl⟩)
      simp [ordD, g3]
    simp (disch := (first | decide | omega | (simp only [go_sem]; done) | (simp only [go_sem]; omega))) only [go_sem, ↓reduceIte, Nat.reduceEqDiff, Nat.reduceAdd, Nat.reduceSub, Nat.reduceMul, Nat.reduceLT, Nat.reduceLeDiff, Int.reduceEq, Int.reduceLT, Int.reduceLE, Int.reduceAdd, Int.reduceSub, Int.reduceMul, Int.reduceNeg, Int.reduceToNat, Int.reduceNe, reduceCtorEq]
    refine brK_of (fun g4 => ?_) (fun g4 => ?_)
    · simp at g4
      simp (disch := (first | decide | omega | (simp only [go_sem]; done) | (simp only [go_sem]; omega))) only [go_sem, ↓reduceIte, Nat.reduceEqDiff, Nat.reduceAdd, Nat.reduceSub, Nat.reduceMul, Nat.reduceLT, Nat.reduceLeDiff, Int.reduceEq, Int.reduceLT, Int.reduceLE, Int.reduceAdd, Int.reduceSub, Int.reduceMul, Int.reduceNeg, Int.reduceToNat, Int.reduceNe, reduceCtorEq]
      refine f183 ?_
      rintro _ _ rfl ⟨J, rfl⟩
      simp (disch := (first | decide | omega | (simp only [go_sem]; done) | (simp only [go_sem]; omega))) only [go_sem, ↓reduceIte, Nat.reduceEqDiff, Nat.reduceAdd, Nat.reduceSub, Nat.reduceMul, Nat.reduceLT, Nat.reduceLeDiff, Int.reduceEq, Int.reduceLT, Int.reduceLE, Int.reduceAdd, Int.reduceSub, Int.reduceMul, Int.reduceNeg, Int.reduceToNat, Int.reduceNe, reduceCtorEq]
      refine q _ _ ?_ (by first | exact Ext.refl | exact ⟨_, rfl⟩)
      simp [ordD, g4]
    simp at g2 g3 g4
    have call : ∀ (H2 : Heap) (Q2 : Out → Prop), Ext H H2 → (∀ v H', v = .int .i64 (ordL (decide (kind = 6)) list list' keys keys') → Ext H2 H' → Q2 (.ret v H')) → Cl tab 184 [.agg ⟨[.int .i64 kind, .bool b, .bool num.neg, strOf num.dig, .int .i64 num.exp, strOf text, .slice la list.length lc, .slice ka keys.length kc]⟩, .agg ⟨[.int .i64 kind, .bool b', .bool num'.neg, strOf num'.dig, .int .i64 num'.exp, strOf text', .slice la' list'.length lc', .slice ka' keys'.length kc']⟩] H2 Q2 := by
      rintro H2 Q2 ⟨J, rfl⟩ q2
      refine f184_of hd0.ext hd0'.ext h6 h6' (by omega) (by omega) ?_ q2
      intro k hlt hlt' x x' H3 Q3 hx hx' q3
      have hnk := bulk_le hlt
      have hnk' := bulk_le hlt'
      exact ih _ _ _ _ _ (by omega) hx hx' (valid_kid hlt hl1) (valid_kid hlt' hl2) (by omega) (by omega) _ q3
    simp (disch := (first | decide | omega | (simp only [go_sem]; done) | (simp only [go_sem]; omega))) only [go_sem, ↓reduceIte, Nat.reduceEqDiff, Nat.reduceAdd, Nat.reduceSub, Nat.reduceMul, Nat.reduceLT, Nat.reduceLeDiff, Int.reduceEq, Int.reduceLT, Int.reduceLE, Int.reduceAdd, Int.reduceSub, Int.reduceMul, Int.reduceNeg, Int.reduceToNat, Int.reduceNe, reduceCtorEq]
    by_cases g5 : kind = 5
    · subst g5
      simp (disch := (first | decide | omega | (simp only [go_sem]; done) | (simp only [go_sem]; omega))) only [go_sem, ↓reduceIte, Nat.reduceEqDiff, Nat.reduceAdd, Nat.reduceSub, Nat.reduceMul, Nat.reduceLT, Nat.reduceLeDiff, Int.reduceEq, Int.reduceLT, Int.reduceLE, Int.reduceAdd, Int.reduceSub, Int.reduceMul, Int.reduceNeg, Int.reduceToNat, Int.reduceNe, reduceCtorEq]
      refine call _ _ (by first | exact Ext.refl | exact ⟨_, rfl⟩) ?_
      rintro _ _ rfl ⟨J, rfl⟩
      simp (disch := (first | decide | omega | (simp only [go_sem]; done) | (simp only [go_sem]; omega))) only [go_sem, ↓reduceIte, Nat.reduceEqDiff, Nat.reduceAdd, Nat.reduceSub, Nat.reduceMul, Nat.reduceLT, Nat.reduceLeDiff, Int.reduceEq, Int.reduceLT, Int.reduceLE, Int.reduceAdd, Int.reduceSub, Int.reduceMul, Int.reduceNeg, Int.reduceToNat, Int.reduceNe, reduceCtorEq]
      refine q _ _ ?_ (by first | exact Ext.refl | exact ⟨_, rfl⟩)
      simp [ordD]
    by_cases g6 : kind = 6
    · subst g6
      simp (disch := (first | decide | omega | (simp only [go_sem]; done) | (simp only [go_sem]; omega))) only [go_sem, ↓reduceIte, Nat.reduceEqDiff, Nat.reduceAdd, Nat.reduceSub, Nat.reduceMul, Nat.reduceLT, Nat.reduceLeDiff, Int.reduceEq, Int.reduceLT, Int.reduceLE, Int.reduceAdd, Int.reduceSub, Int.reduceMul, Int.reduceNeg, Int.reduceToNat, Int.reduceNe, reduceCtorEq]
      refine call _ _ (by first | exact Ext.refl | exact ⟨_, rfl⟩) ?_
      rintro _ _ rfl ⟨J, rfl⟩
      simp (disch := (first | decide | omega | (simp only [go_sem]; done) | (simp only [go_sem]; omega))) only [go_sem, ↓reduceIte, Nat.reduceEqDiff, Nat.reduceAdd, Nat.reduceSub, Nat.reduceMul, Nat.reduceLT, Nat.reduceLeDiff, Int.reduceEq, Int.reduceLT, Int.reduceLE, Int.reduceAdd, Int.reduceSub, Int.reduceMul, Int.reduceNeg, Int.reduceToNat, Int.reduceNe, reduceCtorEq]
      refine q _ _ ?_ (by first | exact Ext.refl | exact ⟨_, rfl⟩)
      simp [ordD]
    simp (disch := (first | decide | omega | (simp only [go_sem, g5, g6]; done) | (simp only [go_sem, g5, g6]; omega))) only [go_sem, ↓reduceIte, Nat.reduceEqDiff, Nat.reduceAdd, Nat.reduceSub, Nat.reduceMul, Nat.reduceLT, Nat.reduceLeDiff, Int.reduceEq, Int.reduceLT, Int.reduceLE, Int.reduceAdd, Int.reduceSub, Int.reduceMul, Int.reduceNeg, Int.reduceToNat, Int.reduceNe, reduceCtorEq, g5, g6]
    refine q _ _ ?_ (by first | exact Ext.refl | exact ⟨_, rfl⟩)
    simp [ordD, g2, g3, g4, g5, g6]
end Ve
end Go.Proofs.YtnociodpfmlglaaGreatDoor

/-
  The law about Compare.
-/
set_option linter.unusedVariables false
set_option linter.unusedSimpArgs false
namespace Go.Proofs.YtnociodpfmlglaaGreatDoor
namespace Ve
open Go

def bothFault (a b : Doc) : Int := if docFault a ≠ 0 then docFault a else docFault b
theorem f94 {cs cs' : List Value} {d d' : Doc} {H : Heap} (hd : DocAt H cs d) (hd' : DocAt H cs' d') (hb : bulk d ≤ 1000000000) (hb' : bulk d' ≤ 1000000000) {Q : Out → Prop} (q : ∀ v H', v = .int .i64 (bothFault d d') → Ext H H' → Q (.ret v H')) : Cl tab 94 [.agg ⟨cs⟩, .agg ⟨cs'⟩] H Q := by
  obtain ⟨c1, c2, c3⟩ := hd.cells
  obtain ⟨c1', c2', c3'⟩ := hd'.cells
  apply e94
  simp (disch := (first | decide | omega | (simp only [go_sem, c1, c2, c3, c1', c2', c3']; done) | (simp only [go_sem, c1, c2, c3, c1', c2', c3']; omega))) only [go_sem, ↓reduceIte, Nat.reduceEqDiff, Nat.reduceAdd, Nat.reduceSub, Nat.reduceMul, Nat.reduceLT, Nat.reduceLeDiff, Int.reduceEq, Int.reduceLT, Int.reduceLE, Int.reduceAdd, Int.reduceSub, Int.reduceMul, Int.reduceNeg, Int.reduceToNat, Int.reduceNe, reduceCtorEq, c1, c2, c3, c1', c2', c3']
  refine f20 hd.ext hb ?_
  rintro _ _ rfl ⟨J, rfl⟩
  simp (disch := (first | decide | omega | (simp only [go_sem, c1, c2, c3, c1', c2', c3']; done) | (simp only [go_sem, c1, c2, c3, c1', c2', c3']; omega))) only [go_sem, ↓reduceIte, Nat.reduceEqDiff, Nat.reduceAdd, Nat.reduceSub, Nat.reduceMul, Nat.reduceLT, Nat.reduceLeDiff, Int.reduceEq, Int.reduceLT, Int.reduceLE, Int.reduceAdd, Int.reduceSub, Int.reduceMul, Int.reduceNeg, Int.reduceToNat, Int.reduceNe, reduceCtorEq, c1, c2, c3, c1', c2', c3']
  refine brK_of (fun h1 => ?_) (fun h1 => ?_)
  · simp (disch := (first | decide | omega | (simp only [go_sem]; done) | (simp only [go_sem]; omega))) only [go_sem, ↓reduceIte, Nat.reduceEqDiff, Nat.reduceAdd, Nat.reduceSub, Nat.reduceMul, Nat.reduceLT, Nat.reduceLeDiff, Int.reduceEq, Int.reduceLT, Int.reduceLE, Int.reduceAdd, Int.reduceSub, Int.reduceMul, Int.reduceNeg, Int.reduceToNat, Int.reduceNe, reduceCtorEq]
    exact q _ _ (by first | rfl | (simp [bothFault]; done) | grind [bothFault]) (by first | exact Ext.refl | exact ⟨_, rfl⟩)
  simp (disch := (first | decide | omega | (simp only [go_sem, c1, c2, c3, c1', c2', c3']; done) | (simp only [go_sem, c1, c2, c3, c1', c2', c3']; omega))) only [go_sem, ↓reduceIte, Nat.reduceEqDiff, Nat.reduceAdd, Nat.reduceSub, Nat.reduceMul, Nat.reduceLT, Nat.reduceLeDiff, Int.reduceEq, Int.reduceLT, Int.reduceLE, Int.reduceAdd, Int.reduceSub, Int.reduceMul, Int.reduceNeg, Int.reduceToNat, Int.reduceNe, reduceCtorEq, c1, c2, c3, c1', c2', c3']
  refine f20 hd'.ext hb' ?_
  rintro _ _ rfl ⟨J2, rfl⟩
  simp (disch := (first | decide | omega | (simp only [go_sem]; done) | (simp only [go_sem]; omega))) only [go_sem, ↓reduceIte, Nat.reduceEqDiff, Nat.reduceAdd, Nat.reduceSub, Nat.reduceMul, Nat.reduceLT, Nat.reduceLeDiff, Int.reduceEq, Int.reduceLT, Int.reduceLE, Int.reduceAdd, Int.reduceSub, Int.reduceMul, Int.reduceNeg, Int.reduceToNat, Int.reduceNe, reduceCtorEq]
  exact q _ _ (by first | rfl | (simp [bothFault]; done) | grind [bothFault]) (by first | exact Ext.refl | exact ⟨_, rfl⟩)
theorem f96 {cs cs' : List Value} {d d' : Doc} {H : Heap} (hd : DocAt H cs d) (hd' : DocAt H cs' d') (hb : bulk d ≤ 1000000000) (hb' : bulk d' ≤ 1000000000) {Q : Out → Prop} (q : ∀ v H', v = .int .i64 (bothFault d d') → Ext H H' → Q (.ret v H')) : Cl tab 96 [.agg ⟨cs⟩, .agg ⟨cs'⟩] H Q := by
  obtain ⟨c1, c2, c3⟩ := hd.cells
  obtain ⟨c1', c2', c3'⟩ := hd'.cells
  apply e96
  simp (disch := (first | decide | omega | (simp only [go_sem, c1, c2, c3, c1', c2', c3']; done) | (simp only [go_sem, c1, c2, c3, c1', c2', c3']; omega))) only [go_sem, ↓reduceIte, Nat.reduceEqDiff, Nat.reduceAdd, Nat.reduceSub, Nat.reduceMul, Nat.reduceLT, Nat.reduceLeDiff, Int.reduceEq, Int.reduceLT, Int.reduceLE, Int.reduceAdd, Int.reduceSub, Int.reduceMul, Int.reduceNeg, Int.reduceToNat, Int.reduceNe, reduceCtorEq, c1, c2, c3, c1', c2', c3']
  refine f21 hd.ext hb ?_
  rintro _ _ rfl ⟨J, rfl⟩
  simp (disch := (first | decide | omega | (simp only [go_sem, c1, c2, c3, c1', c2', c3']; done) | (simp only [go_sem, c1, c2, c3, c1', c2', c3']; omega))) only [go_sem, ↓reduceIte, Nat.reduceEqDiff, Nat.reduceAdd, Nat.reduceSub, Nat.reduceMul, Nat.reduceLT, Nat.reduceLeDiff, Int.reduceEq, Int.reduceLT, Int.reduceLE, Int.reduceAdd, Int.reduceSub, Int.reduceMul, Int.reduceNeg, Int.reduceToNat, Int.reduceNe, reduceCtorEq, c1, c2, c3, c1', c2', c3']
  refine brK_of (fun h1 => ?_) (fun h1 => ?_)
  · simp (disch := (first | decide | omega | (simp only [go_sem]; done) | (simp only [go_sem]; omega))) only [go_sem, ↓reduceIte, Nat.reduceEqDiff, Nat.reduceAdd, Nat.reduceSub, Nat.reduceMul, Nat.reduceLT, Nat.reduceLeDiff, Int.reduceEq, Int.reduceLT, Int.reduceLE, Int.reduceAdd, Int.reduceSub, Int.reduceMul, Int.reduceNeg, Int.reduceToNat, Int.reduceNe, reduceCtorEq]
    exact q _ _ (by first | rfl | (simp [bothFault]; done) | grind [bothFault]) (by first | exact Ext.refl | exact ⟨_, rfl⟩)
  simp (disch := (first | decide | omega | (simp only [go_sem, c1, c2, c3, c1', c2', c3']; done) | (simp only [go_sem, c1, c2, c3, c1', c2', c3']; omega))) only [go_sem, ↓reduceIte, Nat.reduceEqDiff, Nat.reduceAdd, Nat.reduceSub, Nat.reduceMul, Nat.reduceLT, Nat.reduceLeDiff, Int.reduceEq, Int.reduceLT, Int.reduceLE, Int.reduceAdd, Int.reduceSub, Int.reduceMul, Int.reduceNeg, Int.reduceToNat, Int.reduceNe, reduceCtorEq, c1, c2, c3, c1', c2', c3']
  refine f21 hd'.ext hb' ?_
  rintro _ _ rfl ⟨J2, rfl⟩
  simp (disch := (first | decide | omega | (simp only [go_sem]; done) | (simp only [go_sem]; omega))) only [go_sem, ↓reduceIte, Nat.reduceEqDiff, Nat.reduceAdd, Nat.reduceSub, Nat.reduceMul, Nat.reduceLT, Nat.reduceLeDiff, Int.reduceEq, Int.reduceLT, Int.reduceLE, Int.reduceAdd, Int.reduceSub, Int.reduceMul, Int.reduceNeg, Int.reduceToNat, Int.reduceNe, reduceCtorEq]
  exact q _ _ (by first | rfl | (simp [bothFault]; done) | grind [bothFault]) (by first | exact Ext.refl | exact ⟨_, rfl⟩)
theorem bothFault_ok {a b : Doc} (h : bothFault a b = 0) : docFault a = 0 ∧ docFault b = 0 := by
  unfold bothFault at h
  by_cases h1 : docFault a = 0
  · simp [h1] at h; exact ⟨h1, h⟩
  · simp [h1] at h
def cmpD (a b : Doc) : Int := if bothFault a b = 0 then ordD a b else 0
theorem f32 {cs cs' : List Value} {d d' : Doc} {H : Heap} (hd : DocAt H cs d) (hd' : DocAt H cs' d') (hb : bulk d ≤ 1000000000) (hb' : bulk d' ≤ 1000000000) {Q : Out → Prop} (q : ∀ v H', v = .tuple ⟨[.int .i64 (cmpD d d'), .int .i64 (bothFault d d')]⟩ → Ext H H' → Q (.ret v H')) : Cl tab 32 [.agg ⟨cs⟩, .agg ⟨cs'⟩] H Q := by
  obtain ⟨c1, c2, c3⟩ := hd.cells
  obtain ⟨c1', c2', c3'⟩ := hd'.cells
  apply e32
  simp (disch := (first | decide | omega | (simp only [go_sem, c1, c2, c3, c1', c2', c3']; done) | (simp only [go_sem, c1, c2, c3, c1', c2', c3']; omega))) only [go_sem, ↓reduceIte, Nat.reduceEqDiff, Nat.reduceAdd, Nat.reduceSub, Nat.reduceMul, Nat.reduceLT, Nat.reduceLeDiff, Int.reduceEq, Int.reduceLT, Int.reduceLE, Int.reduceAdd, Int.reduceSub, Int.reduceMul, Int.reduceNeg, Int.reduceToNat, Int.reduceNe, reduceCtorEq, c1, c2, c3, c1', c2', c3']
  refine f94 hd.ext hd'.ext hb hb' ?_
  rintro _ _ rfl ⟨J, rfl⟩
  simp (disch := (first | decide | omega | (simp only [go_sem, c1, c2, c3, c1', c2', c3']; done) | (simp only [go_sem, c1, c2, c3, c1', c2', c3']; omega))) only [go_sem, ↓reduceIte, Nat.reduceEqDiff, Nat.reduceAdd, Nat.reduceSub, Nat.reduceMul, Nat.reduceLT, Nat.reduceLeDiff, Int.reduceEq, Int.reduceLT, Int.reduceLE, Int.reduceAdd, Int.reduceSub, Int.reduceMul, Int.reduceNeg, Int.reduceToNat, Int.reduceNe, reduceCtorEq, c1, c2, c3, c1', c2', c3']
  refine brK_of (fun h1 => ?_) (fun h1 => ?_)
  · simp (disch := (first | decide | omega | (simp only [go_sem]; done) | (simp only [go_sem]; omega))) only [go_sem, ↓reduceIte, Nat.reduceEqDiff, Nat.reduceAdd, Nat.reduceSub, Nat.reduceMul, Nat.reduceLT, Nat.reduceLeDiff, Int.reduceEq, Int.reduceLT, Int.reduceLE, Int.reduceAdd, Int.reduceSub, Int.reduceMul, Int.reduceNeg, Int.reduceToNat, Int.reduceNe, reduceCtorEq]
    exact q _ _ (by first | rfl | (simp [cmpD]; done) | grind [cmpD]) (by first | exact Ext.refl | exact ⟨_, rfl⟩)
  have h0 : bothFault d d' = 0 := by simpa using h1
  obtain ⟨g1, g2⟩ := bothFault_ok h0
  simp (disch := (first | decide | omega | (simp only [go_sem, c1, c2, c3, c1', c2', c3']; done) | (simp only [go_sem, c1, c2, c3, c1', c2', c3']; omega))) only [go_sem, ↓reduceIte, Nat.reduceEqDiff, Nat.reduceAdd, Nat.reduceSub, Nat.reduceMul, Nat.reduceLT, Nat.reduceLeDiff, Int.reduceEq, Int.reduceLT, Int.reduceLE, Int.reduceAdd, Int.reduceSub, Int.reduceMul, Int.reduceNeg, Int.reduceToNat, Int.reduceNe, reduceCtorEq, c1, c2, c3, c1', c2', c3']
  refine f95 hd.ext hd'.ext (docFault_nodes g1).2.2 (docFault_nodes g2).2.2 hb hb' ?_
  rintro _ _ rfl ⟨J2, rfl⟩
  simp (disch := (first | decide | omega | (simp only [go_sem]; done) | (simp only [go_sem]; omega))) only [go_sem, ↓reduceIte, Nat.reduceEqDiff, Nat.reduceAdd, Nat.reduceSub, Nat.reduceMul, Nat.reduceLT, Nat.reduceLeDiff, Int.reduceEq, Int.reduceLT, Int.reduceLE, Int.reduceAdd, Int.reduceSub, Int.reduceMul, Int.reduceNeg, Int.reduceToNat, Int.reduceNe, reduceCtorEq]
  exact q _ _ (by first | rfl | (simp [cmpD]; done) | grind [cmpD]) (by first | exact Ext.refl | exact ⟨_, rfl⟩)
theorem f33 {cs cs' : List Value} {d d' : Doc} {H : Heap} (hd : DocAt H cs d) (hd' : DocAt H cs' d') (hb : bulk d ≤ 1000000000) (hb' : bulk d' ≤ 1000000000) {Q : Out → Prop} (q : ∀ v H', v = .tuple ⟨[.int .i64 (cmpD d d'), .int .i64 (bothFault d d')]⟩ → Ext H H' → Q (.ret v H')) : Cl tab 33 [.agg ⟨cs⟩, .agg ⟨cs'⟩] H Q := by
  obtain ⟨c1, c2, c3⟩ := hd.cells
  obtain ⟨c1', c2', c3'⟩ := hd'.cells
  apply e33
  simp (disch := (first | decide | omega | (simp only [go_sem, c1, c2, c3, c1', c2', c3']; done) | (simp only [go_sem, c1, c2, c3, c1', c2', c3']; omega))) only [go_sem, ↓reduceIte, Nat.reduceEqDiff, Nat.reduceAdd, Nat.reduceSub, Nat.reduceMul, Nat.reduceLT, Nat.reduceLeDiff, Int.reduceEq, Int.reduceLT, Int.reduceLE, Int.reduceAdd, Int.reduceSub, Int.reduceMul, Int.reduceNeg, Int.reduceToNat, Int.reduceNe, reduceCtorEq, c1, c2, c3, c1', c2', c3']
  refine f96 hd.ext hd'.ext hb hb' ?_
  rintro _ _ rfl ⟨J, rfl⟩
  simp (disch := (first | decide | omega | (simp only [go_sem, c1, c2, c3, c1', c2', c3']; done) | (simp only [go_sem, c1, c2, c3, c1', c2', c3']; omega))) only [go_sem, ↓reduceIte, Nat.reduceEqDiff, Nat.reduceAdd, Nat.reduceSub, Nat.reduceMul, Nat.reduceLT, Nat.reduceLeDiff, Int.reduceEq, Int.reduceLT, Int.reduceLE, Int.reduceAdd, Int.reduceSub, Int.reduceMul, Int.reduceNeg, Int.reduceToNat, Int.reduceNe, reduceCtorEq, c1, c2, c3, c1', c2', c3']
  refine brK_of (fun h1 => ?_) (fun h1 => ?_)
  · simp (disch := (first | decide | omega | (simp only [go_sem]; done) | (simp only [go_sem]; omega))) only [go_sem, ↓reduceIte, Nat.reduceEqDiff, Nat.reduceAdd, Nat.reduceSub, Nat.reduceMul, Nat.reduceLT, Nat.reduceLeDiff, Int.reduceEq, Int.reduceLT, Int.reduceLE, Int.reduceAdd, Int.reduceSub, Int.reduceMul, Int.reduceNeg, Int.reduceToNat, Int.reduceNe, reduceCtorEq]
    exact q _ _ (by first | rfl | (simp [cmpD]; done) | grind [cmpD]) (by first | exact Ext.refl | exact ⟨_, rfl⟩)
  have h0 : bothFault d d' = 0 := by simpa using h1
  obtain ⟨g1, g2⟩ := bothFault_ok h0
  simp (disch := (first | decide | omega | (simp only [go_sem, c1, c2, c3, c1', c2', c3']; done) | (simp only [go_sem, c1, c2, c3, c1', c2', c3']; omega))) only [go_sem, ↓reduceIte, Nat.reduceEqDiff, Nat.reduceAdd, Nat.reduceSub, Nat.reduceMul, Nat.reduceLT, Nat.reduceLeDiff, Int.reduceEq, Int.reduceLT, Int.reduceLE, Int.reduceAdd, Int.reduceSub, Int.reduceMul, Int.reduceNeg, Int.reduceToNat, Int.reduceNe, reduceCtorEq, c1, c2, c3, c1', c2', c3']
  refine f97 hd.ext hd'.ext (docFault_nodes g1).2.2 (docFault_nodes g2).2.2 hb hb' ?_
  rintro _ _ rfl ⟨J2, rfl⟩
  simp (disch := (first | decide | omega | (simp only [go_sem]; done) | (simp only [go_sem]; omega))) only [go_sem, ↓reduceIte, Nat.reduceEqDiff, Nat.reduceAdd, Nat.reduceSub, Nat.reduceMul, Nat.reduceLT, Nat.reduceLeDiff, Int.reduceEq, Int.reduceLT, Int.reduceLE, Int.reduceAdd, Int.reduceSub, Int.reduceMul, Int.reduceNeg, Int.reduceToNat, Int.reduceNe, reduceCtorEq]
  exact q _ _ (by first | rfl | (simp [cmpD]; done) | grind [cmpD]) (by first | exact Ext.refl | exact ⟨_, rfl⟩)

theorem law6 {cs cs' : List Value} {d d' : Doc} {H : Heap} (hd : DocAt H cs d) (hb : bulk d ≤ 1000000000) (hd' : DocAt H cs' d') (hb' : bulk d' ≤ 1000000000) : Cl tab 6 [.agg ⟨cs⟩, .agg ⟨cs'⟩] H (fun out => ∃ H', out = .ret (.bool true) H') := by
  obtain ⟨c1, c2, c3⟩ := hd.cells
  obtain ⟨c1', c2', c3'⟩ := hd'.cells
  apply e6
  simp (disch := (first | decide | omega | (simp only [go_sem, c1, c2, c3, c1', c2', c3']; done) | (simp only [go_sem, c1, c2, c3, c1', c2', c3']; omega))) only [go_sem, ↓reduceIte, Nat.reduceEqDiff, Nat.reduceAdd, Nat.reduceSub, Nat.reduceMul, Nat.reduceLT, Nat.reduceLeDiff, Int.reduceEq, Int.reduceLT, Int.reduceLE, Int.reduceAdd, Int.reduceSub, Int.reduceMul, Int.reduceNeg, Int.reduceToNat, Int.reduceNe, reduceCtorEq, c1, c2, c3, c1', c2', c3']
  refine f32 hd.ext hd'.ext hb hb' ?_
  rintro _ _ rfl ⟨J, rfl⟩
  simp (disch := (first | decide | omega | (simp only [go_sem, c1, c2, c3, c1', c2', c3']; done) | (simp only [go_sem, c1, c2, c3, c1', c2', c3']; omega))) only [go_sem, ↓reduceIte, Nat.reduceEqDiff, Nat.reduceAdd, Nat.reduceSub, Nat.reduceMul, Nat.reduceLT, Nat.reduceLeDiff, Int.reduceEq, Int.reduceLT, Int.reduceLE, Int.reduceAdd, Int.reduceSub, Int.reduceMul, Int.reduceNeg, Int.reduceToNat, Int.reduceNe, reduceCtorEq, c1, c2, c3, c1', c2', c3']
  refine f33 hd.ext hd'.ext hb hb' ?_
  rintro _ _ rfl ⟨J2, rfl⟩
  simp (disch := (first | decide | omega | (simp only [go_sem]; done) | (simp only [go_sem]; omega))) only [go_sem, ↓reduceIte, Nat.reduceEqDiff, Nat.reduceAdd, Nat.reduceSub, Nat.reduceMul, Nat.reduceLT, Nat.reduceLeDiff, Int.reduceEq, Int.reduceLT, Int.reduceLE, Int.reduceAdd, Int.reduceSub, Int.reduceMul, Int.reduceNeg, Int.reduceToNat, Int.reduceNe, reduceCtorEq]
  refine f24 ?_
  simp (disch := (first | decide | omega | (simp only [go_sem]; done) | (simp only [go_sem]; omega))) only [go_sem, ↓reduceIte, Nat.reduceEqDiff, Nat.reduceAdd, Nat.reduceSub, Nat.reduceMul, Nat.reduceLT, Nat.reduceLeDiff, Int.reduceEq, Int.reduceLT, Int.reduceLE, Int.reduceAdd, Int.reduceSub, Int.reduceMul, Int.reduceNeg, Int.reduceToNat, Int.reduceNe, reduceCtorEq]
  exact ⟨_, rfl⟩
end Ve
end Go.Proofs.YtnociodpfmlglaaGreatDoor
