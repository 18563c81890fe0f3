/-
  What the arguments read as, as the machine sees them: texts, numbers, documents.
-/
import Derived.Test.YtnociodpfmlglaaGreatDoorVF
import Derived.Test.YtnociodpfmlglaaGreatDoorVE
import Derived.Test.YtnociodpfmlglaaGreatDoorRows
set_option linter.unusedVariables false
set_option linter.unusedSimpArgs false
namespace Go.Proofs.YtnociodpfmlglaaGreatDoor
namespace Ve
open Go Go.RowKit Go.WideShapes Go.ChangeShapes

section
variable {H : Type} {enc : TypeId × Value → H} {P : Program} {W : World}

theorem ub_pos (d : DataW H) : 1 ≤ Rows.uptoBulk d := by
  cases d with
  | lit l => cases l <;> simp [Rows.uptoBulk]
  | nil => simp [Rows.uptoBulk]
  | ptr d => simp [Rows.uptoBulk]
  | slice elems spare => simp [Rows.uptoBulk]
  | agg parts => simp [Rows.uptoBulk]
  | iface t d => simp [Rows.uptoBulk]
  | map entries => simp [Rows.uptoBulk]
  | held h => simp [Rows.uptoBulk]
theorem ub_append (l r : List (DataW H)) : Rows.uptoBulkAll (l ++ r) = Rows.uptoBulkAll l + Rows.uptoBulkAll r := by
  induction l with
  | nil => simp [Rows.uptoBulkAll]
  | cons x l ih => simp only [List.cons_append, Rows.uptoBulkAll, ih]; omega
theorem ub_map_range {n : Nat} (f : Nat → DataW H) (g : Nat → Nat) (h : ∀ i, i < n → g i ≤ Rows.uptoBulk (f i)) : ((List.range n).map g).sum ≤ Rows.uptoBulkAll ((List.range n).map f) := by
  induction n with
  | zero => simp
  | succ n ih =>
    rw [List.range_succ, List.map_append, List.map_append, List.sum_append, ub_append]
    have := ih fun i hi => h i (by omega)
    have := h n (by omega)
    simp [Rows.uptoBulkAll]; omega
theorem ub_part {d : DataW H} {l : List (DataW H)} (h : d ∈ l) : Rows.uptoBulk d ≤ Rows.uptoBulkAll l := by
  induction l with
  | nil => cases h
  | cons x r ih =>
    simp only [Rows.uptoBulkAll]
    cases List.mem_cons.1 h with
    | inl e => subst e; omega
    | inr e => have := ih e; omega

theorem open_str {t : TypeId} {fuel : Nat} {cs : List Value} {x : DataW H × List MemPlace} (ht : P.underlying t = some .string) (h : DataW.trod enc P W 0 (fun _ => true) true fuel t cs = some x) :
    ∃ s : Str, cs = [strOf s] ∧ s.length + 1 = Rows.uptoBulk x.1 := by
  obtain ⟨s, rfl, rfl, _⟩ := DataW.trod_string ht h
  obtain ⟨⟨l⟩⟩ := s
  exact ⟨l, rfl, by simp [Rows.uptoBulk]⟩
theorem open_i64 {t : TypeId} {fuel : Nat} {cs : List Value} {x : DataW H × List MemPlace} (ht : P.underlying t = some (.int .i64)) (h : DataW.trod enc P W 0 (fun _ => true) true fuel t cs = some x) :
    ∃ n : Int, cs = [.int .i64 n] ∧ i64 n := by
  obtain ⟨n, rfl, rfl, hw⟩ := DataW.trod_int ht h
  simp only [Lit.wf, Bool.and_eq_true, decide_eq_true_eq] at hw
  exact ⟨n, rfl, hw.1, hw.2⟩
theorem open_bool' {t : TypeId} {fuel : Nat} {cs : List Value} {x : DataW H × List MemPlace} (ht : P.underlying t = some .bool) (h : DataW.trod enc P W 0 (fun _ => true) true fuel t cs = some x) :
    ∃ b : Bool, cs = [.bool b] := by
  obtain ⟨b, rfl, rfl⟩ := DataW.trod_bool ht h
  exact ⟨b, rfl⟩

theorem absC_str {n : Nat} (s : Str) : absC n (strOf s) = strOf s := rfl

/-- A slice, as the machine sees it: its elements' cells. -/
theorem open_sl {t e : TypeId} {fuel : Nat} {cs : List Value} {x : DataW H × List MemPlace} (ht : P.underlying t = some (.slice e)) (hc : 0 < P.cellsOf e) (h : DataW.trod enc P W 0 (fun _ => true) true fuel t cs = some x) :
    ∃ (a : Option Addr) (cap n : Nat) (els : List (DataW H × List MemPlace)) (V : Nat → List Value), fuel = n + 1 ∧ cs.map (absC W.heap.size) = [.slice a els.length cap] ∧
      (∀ k, (hk : k < els.length) → elAt (absH W) (P.cellsOf e) a k = some ((V k).map (absC W.heap.size)) ∧ DataW.trod enc P W 0 (fun _ => true) true n e (V k) = some els[k]) ∧
      Rows.uptoBulkAll (els.map (·.1)) + 1 ≤ Rows.uptoBulk x.1 := by
  rcases DataW.trod_slice ht h with ⟨rfl, rfl⟩ | ⟨a, len, cap, elems, rest, n, rfl, rfl, rfl, hb, hl, hm, hlen, hel, hsp, hns⟩
  · cases fuel with
    | zero => simp [DataW.trod] at h
    | succ n => exact ⟨none, 0, n, [], fun _ => [], rfl, rfl, (by intro k hk; cases hk), by simp [Rows.uptoBulk, Rows.uptoBulkAll]⟩
  · have key : ∀ k, k < len → ∃ cs', W.cells? 0 (a.add (k * P.cellsOf e)) (P.cellsOf e) = some cs' ∧ (∀ hk : k < elems.length, DataW.trod enc P W 0 (fun _ => true) true n e cs' = some elems[k]) := by
      intro k hk
      have := hel k hk
      rw [List.getElem?_eq_getElem (by omega)] at this
      obtain ⟨cs', h1, h2⟩ := Option.bind_eq_some_iff.1 this
      exact ⟨cs', h1, fun _ => h2⟩
    have keyR : ∀ j, j < cap - len → ∃ cs', W.cells? 0 (a.add ((len + j) * P.cellsOf e)) (P.cellsOf e) = some cs' := by
      intro j hj
      obtain ⟨h1, h2⟩ := hsp rfl
      have := h2 j hj
      rw [List.getElem?_eq_getElem (by omega)] at this
      obtain ⟨cs', h1, h2⟩ := Option.bind_eq_some_iff.1 this
      exact ⟨cs', h1⟩
    have hbk : Rows.uptoBulkAll (elems.map (·.1)) + 1 ≤ Rows.uptoBulk (DataW.slice (elems.map (·.1)) (rest.map (·.1))) := by simp only [Rows.uptoBulk]; omega
    cases cap with
    | zero =>
      have hl0 : len = 0 := by omega
      subst hl0
      have he0 : elems = [] := List.eq_nil_of_length_eq_zero hlen
      subst he0
      exact ⟨some ⟨0, 0, none⟩, 0, n, [], fun _ => [], rfl, by simp [absC], (by intro k hk; cases hk), hbk⟩
    | succ c =>
      have hsp0 : a.spot = none ∧ a.block < W.heap.size := by
        by_cases hlen0 : 0 < len
        · obtain ⟨cs', h1, _⟩ := key 0 hlen0
          obtain ⟨h3, h4, _⟩ := getN_absH h1 hc
          simp [Addr.add] at h3 h4
          exact ⟨h3, h4⟩
        · obtain ⟨cs', h1⟩ := keyR 0 (by omega)
          obtain ⟨h3, h4, _⟩ := getN_absH h1 hc
          have : len = 0 := by omega
          subst this
          simp [Addr.add] at h3 h4
          exact ⟨h3, h4⟩
      obtain ⟨b, o, s⟩ := a
      obtain ⟨h3, h4⟩ := hsp0
      simp only at h3 h4
      subst h3
      have hch : ∃ V : Nat → List Value, ∀ k, k < len → W.cells? 0 ((⟨b, o, none⟩ : Addr).add (k * P.cellsOf e)) (P.cellsOf e) = some (V k) ∧ (∀ hk : k < elems.length, DataW.trod enc P W 0 (fun _ => true) true n e (V k) = some elems[k]) := by
        refine ⟨fun k => if hk : k < len then (key k hk).choose else [], fun k hk => ?_⟩
        simp only [dif_pos hk]
        exact (key k hk).choose_spec
      obtain ⟨V, hV⟩ := hch
      refine ⟨some ⟨b, o, none⟩, c + 1, n, elems, V, rfl, ?_, ?_, hbk⟩
      · simp [absC, h4, hl, hlen]
      · intro k hk
        obtain ⟨h1, h2⟩ := hV k (by omega)
        refine ⟨?_, h2 hk⟩
        obtain ⟨_, _, g⟩ := getN_absH h1 hc
        rw [add_none] at g
        exact g
end

/-- The types of documents. -/
structure DocTypes (P : Program) (tv tn ti tb ts tl tk : TypeId) : Prop where
  i : P.underlying ti = some (.int .i64)
  b : P.underlying tb = some .bool
  s : P.underlying ts = some .string
  l : P.underlying tl = some (.slice tv)
  k : P.underlying tk = some (.slice ts)
  n : ∃ f0 f1 f2 : Field, P.underlying tn = some (.struct #[f0, f1, f2]) ∧ f0.type = tb ∧ f0.offset = 0 ∧ f1.type = ts ∧ f1.offset = 1 ∧ f2.type = ti ∧ f2.offset = 2
  v : ∃ f0 f1 f2 f3 f4 f5 : Field, P.underlying tv = some (.struct #[f0, f1, f2, f3, f4, f5]) ∧ f0.type = ti ∧ f0.offset = 0 ∧ f1.type = tb ∧ f1.offset = 1 ∧ f2.type = tn ∧ f2.offset = 2 ∧ f3.type = ts ∧ f3.offset = 5 ∧ f4.type = tl ∧ f4.offset = 6 ∧ f5.type = tk ∧ f5.offset = 7
  ci : P.cellsOf ti = 1
  cb : P.cellsOf tb = 1
  cs : P.cellsOf ts = 1
  cl : P.cellsOf tl = 1
  ck : P.cellsOf tk = 1
  cn : P.cellsOf tn = 3
  cv : P.cellsOf tv = 8

section
variable {H : Type} {enc : TypeId × Value → H} {P : Program} {W : World} {tv tn ti tb ts tl tk : TypeId}

theorem open_num (D : DocTypes P tv tn ti tb ts tl tk) {fuel : Nat} {cs : List Value} {x : DataW H × List MemPlace} (h : DataW.trod enc P W 0 (fun _ => true) true fuel tn cs = some x) :
    ∃ n : Num, cs = [.bool n.neg, strOf n.dig, .int .i64 n.exp] ∧ i64 n.exp ∧ n.dig.length + 1 ≤ Rows.uptoBulk x.1 := by
  obtain ⟨f0, f1, f2, hu, a0, b0, a1, b1, a2, b2⟩ := D.n
  obtain ⟨xs, n, rfl, rfl, hlen, hxl, hf⟩ := DataW.trod_struct hu h
  rw [D.cn] at hlen
  match cs, hlen with
  | [c0, c1, c2], _ =>
    simp only [List.size_toArray, List.length_cons, List.length_nil] at hxl
    match xs, hxl with
    | [x0, x1, x2], _ =>
      have g0 := hf 0 f0 rfl
      have g1 := hf 1 f1 rfl
      have g2 := hf 2 f2 rfl
      rw [a0, b0, D.cb] at g0
      rw [a1, b1, D.cs] at g1
      rw [a2, b2, D.ci] at g2
      obtain ⟨b, hb⟩ := open_bool' D.b g0
      obtain ⟨s, hs, hl⟩ := open_str D.s g1
      obtain ⟨k, hk, hi⟩ := open_i64 D.i g2
      simp at hb hs hk
      subst hb; subst hs; subst hk
      exact ⟨⟨b, s, k⟩, rfl, hi, by simp [Rows.uptoBulk, Rows.uptoBulkAll]; omega⟩

theorem open_keys (D : DocTypes P tv tn ti tb ts tl tk) {fuel : Nat} {cs : List Value} {x : DataW H × List MemPlace} (h : DataW.trod enc P W 0 (fun _ => true) true fuel tk cs = some x) :
    ∃ (a : Option Addr) (cap : Nat) (keys : List Str), cs.map (absC W.heap.size) = [.slice a keys.length cap] ∧ (∀ k, (hk : k < keys.length) → elAt (absH W) 1 a k = some [strOf keys[k]]) ∧ (keys.map fun k => 1 + k.length).sum + 1 ≤ Rows.uptoBulk x.1 := by
  obtain ⟨a, cap, n, els, V, rfl, h1, h2, h3⟩ := open_sl D.k (by rw [D.cs]; omega) h
  have hs : ∀ k, (hk : k < els.length) → ∃ s : Str, V k = [strOf s] ∧ s.length + 1 = Rows.uptoBulk els[k].1 := fun k hk => open_str D.s (h2 k hk).2
  let keys : List Str := (List.range els.length).map fun k => if hk : k < els.length then (hs k hk).choose else []
  have hkl : keys.length = els.length := by simp [keys]
  have hkk : ∀ k, (hk : k < els.length) → V k = [strOf (keys[k]'(by omega))] ∧ (keys[k]'(by omega)).length + 1 = Rows.uptoBulk els[k].1 := by
    intro k hk
    have := (hs k hk).choose_spec
    simp only [keys, List.getElem_map, List.getElem_range, dif_pos hk]
    exact this
  refine ⟨a, cap, keys, by rw [h1, hkl], fun k hk => ?_, ?_⟩
  · have g := (h2 k (by omega)).1
    rw [D.cs, (hkk k (by omega)).1] at g
    exact g
  · have : ∀ n, (hn : n ≤ els.length) → ((keys.take n).map fun k => 1 + k.length).sum ≤ Rows.uptoBulkAll ((els.take n).map (·.1)) := by
      intro n
      induction n with
      | zero => intro _; simp
      | succ n ih =>
        intro hn
        have := ih (by omega)
        have h5 := (hkk n (by omega)).2
        rw [take_snoc (by omega : n < keys.length), take_snoc (by omega : n < els.length), List.map_append, List.map_append, List.sum_append, ub_append]
        simp only [List.map_cons, List.map_nil, List.sum_cons, List.sum_nil, Rows.uptoBulkAll]; omega
    have := this els.length (Nat.le_refl _)
    rw [List.take_length, List.take_of_length_le (by omega)] at this
    omega

theorem open_doc (D : DocTypes P tv tn ti tb ts tl tk) : ∀ (fuel : Nat) (cs : List Value) (x : DataW H × List MemPlace), DataW.trod enc P W 0 (fun _ => true) true fuel tv cs = some x →
    ∃ d : Doc, DocAt (absH W) (cs.map (absC W.heap.size)) d ∧ bulk d ≤ Rows.uptoBulk x.1 := by
  intro fuel
  induction fuel using Nat.strongRecOn with
  | ind fuel ih =>
    intro cs x h
    obtain ⟨f0, f1, f2, f3, f4, f5, hu, a0, b0, a1, b1, a2, b2, a3, b3, a4, b4, a5, b5⟩ := D.v
    obtain ⟨xs, n, rfl, rfl, hlen, hxl, hf⟩ := DataW.trod_struct hu h
    rw [D.cv] at hlen
    match cs, hlen with
    | [c0, c1, c2, c3, c4, c5, c6, c7], _ =>
      simp only [List.size_toArray, List.length_cons, List.length_nil] at hxl
      match xs, hxl with
      | [x0, x1, x2, x3, x4, x5], _ =>
        have g0 := hf 0 f0 rfl
        have g1 := hf 1 f1 rfl
        have g2 := hf 2 f2 rfl
        have g3 := hf 3 f3 rfl
        have g4 := hf 4 f4 rfl
        have g5 := hf 5 f5 rfl
        rw [a0, b0, D.ci] at g0
        rw [a1, b1, D.cb] at g1
        rw [a2, b2, D.cn] at g2
        rw [a3, b3, D.cs] at g3
        rw [a4, b4, D.cl] at g4
        rw [a5, b5, D.ck] at g5
        obtain ⟨kd, h0, i0⟩ := open_i64 D.i g0
        obtain ⟨b, h1⟩ := open_bool' D.b g1
        obtain ⟨nm, h2, i2, l2⟩ := open_num D g2
        obtain ⟨tx, h3, l3⟩ := open_str D.s g3
        obtain ⟨ka, kc, keys, h5, hk, l5⟩ := open_keys D g5
        obtain ⟨la, lc, m, els, V, rfl, h4, hg, l4⟩ := open_sl D.l (by rw [D.cv]; omega) g4
        rw [D.cv] at hg
        have hd : ∀ k, (hk : k < els.length) → ∃ d : Doc, DocAt (absH W) ((V k).map (absC W.heap.size)) d ∧ bulk d ≤ Rows.uptoBulk els[k].1 := fun k hk => ih m (by omega) _ _ (hg k hk).2
        let list : List Doc := (List.range els.length).map fun k => if hk : k < els.length then (hd k hk).choose else .mk 0 false ⟨false, [], 0⟩ [] [] []
        have hll : list.length = els.length := by simp [list]
        have hlk : ∀ k, (hk : k < els.length) → DocAt (absH W) ((V k).map (absC W.heap.size)) (list[k]'(by omega)) ∧ bulk (list[k]'(by omega)) ≤ Rows.uptoBulk els[k].1 := by
          intro k hk
          have := (hd k hk).choose_spec
          simp only [list, List.getElem_map, List.getElem_range, dif_pos hk]
          exact this
        simp at h0 h1 h2 h3 h4 h5
        subst h0; subst h1; subst h3
        obtain ⟨rfl, rfl, rfl⟩ := h2
        refine ⟨.mk kd b nm tx list keys, ?_, ?_⟩
        · simp only [List.map_cons, List.map_nil, h4, h5, absC_str, ← hll]
          refine .mk kd b nm tx list keys la lc ka kc (fun k => (V k).map (absC W.heap.size)) ⟨i0, i2⟩ hk (fun k hk => (hg k (by omega)).1) (fun k hk => (hlk k (by omega)).1)
        · have : ∀ n, (hn : n ≤ els.length) → bulkL (list.take n) ≤ Rows.uptoBulkAll ((els.take n).map (·.1)) := by
            intro n
            induction n with
            | zero => intro _; simp [bulkL]
            | succ n ih =>
              intro hn
              have := ih (by omega)
              have h5 := (hlk n (by omega)).2
              rw [take_snoc (by omega : n < list.length), take_snoc (by omega : n < els.length), List.map_append, ub_append]
              have e : ∀ (a b : List Doc), bulkL (a ++ b) = bulkL a + bulkL b := by
                intro a b
                induction a with
                | nil => simp [bulkL]
                | cons x a ih => simp only [List.cons_append, bulkL, ih]; omega
              rw [e]
              simp only [List.map_cons, List.map_nil, Rows.uptoBulkAll, bulkL]; omega
          have := this els.length (Nat.le_refl _)
          rw [List.take_length, List.take_of_length_le (by omega)] at this
          have p0 := ub_pos x0.1
          simp [bulk, Rows.uptoBulk, Rows.uptoBulkAll]
          omega
end
end Ve
end Go.Proofs.YtnociodpfmlglaaGreatDoor
