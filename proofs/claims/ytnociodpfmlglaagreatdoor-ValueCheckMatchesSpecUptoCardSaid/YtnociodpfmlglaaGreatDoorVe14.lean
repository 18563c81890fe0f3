/-
  Statements whose order is open, third part: one step, and all of them.
-/
import Derived.Test.YtnociodpfmlglaaGreatDoorVe13
set_option linter.unusedVariables false
set_option linter.unusedSimpArgs false
namespace Go.Proofs.YtnociodpfmlglaaGreatDoor
namespace Ve
open Go Go.RowKit
section
variable {P : Program} {D : List Deferred} {T : Tab} {E : C → Env → Heap → Option (Ex × Env × Heap)} {ops : Array Oper} {l0 : List IOper} {M : List Nat} {tr : Nat → Env × Heap}

/-- Listed. -/
def Lst (listed : Array Bool) (i : Nat) : Prop := listed[i]? = some true

def NlAt (l0 : List IOper) (listed : Array Bool) (j : Nat) : Prop :=
  (j = l0.length ∨ ∃ x, l0[j]? = some x ∧ loudI x.op = true ∧ ¬ Lst listed j) ∧ ∀ i x, i < j → l0[i]? = some x → loudI x.op = true → Lst listed i

def NwAt (l0 : List IOper) (listed : Array Bool) (t j : Nat) : Prop :=
  (j = l0.length ∨ ∃ x, l0[j]? = some x ∧ x.dst = some t ∧ ¬ Lst listed j) ∧ (∀ i x, i < j → l0[i]? = some x → x.dst = some t → Lst listed i) ∧ j ≤ l0.length

structure Inv (P : Program) (D : List Deferred) (α : Al) (w0 : World) (ops : Array Oper) (l0 : List IOper) (tr : Nat → Env × Heap) (listed : Array Bool) (a : Act) (w : World) : Prop where
  size : listed.size = ops.size
  closed : Closed ops.toList (Lst listed)
  heap : ∃ j, NlAt l0 listed j ∧ j ≤ l0.length ∧ Sim α w0 (tr j).2 w
  env : ∀ t, ∃ j, NwAt l0 listed t j ∧ VR α ((tr j).1.getD t undef) (a.tmps.toList.getD t undef)
  len : a.tmps.size = (tr 0).1.length
  glob : ∀ g, g < P.globals.size → α g = some (g, 0)
  defs : a.defers = D

theorem lst_set {listed : Array Bool} {i j : Nat} (hi : i < listed.size) : Lst (listed.setIfInBounds i true) j ↔ (j = i ∨ Lst listed j) := by
  unfold Lst
  rw [Array.getElem?_setIfInBounds]
  by_cases e : i = j
  · subst e; simp [hi]
  · simp [e]
    intro h
    exact absurd h.symm e

/-- What an operation names has, whatever has been listed, the value that it has in the text's order. -/
theorem Inv.named (h : DC P T E ops l0 M tr) {α : Al} {w0 w : World} {listed : Array Bool} {a : Act} (hI : Inv P D α w0 ops l0 tr listed a w) {i : Nat} {o : Oper} {x : IOper} (ho : ops[i]? = some o) (hx : l0[i]? = some x) (hu : ¬ Lst listed i)
    (hr : ∀ e ∈ binding o, Lst listed e) {t : Nat} (ht : t ∈ namesOf o x.guard) : VR α ((tr i).1.getD t undef) (a.tmps.toList.getD t undef) := by
  obtain ⟨j, ⟨hj1, hj2, hj3⟩, hv⟩ := hI.env t
  have hoL : ops.toList[i]? = some o := by simpa using ho
  have hil : i < l0.length := (List.getElem?_eq_some_iff.1 hx).1
  have hge : i ≤ j := by
    rcases Nat.lt_or_ge j i with g | g
    · exfalso
      rcases hj1 with e | ⟨y, hy, hyd, hyu⟩
      · omega
      · obtain ⟨oj, hoj⟩ : ∃ oj, ops[j]? = some oj := ⟨ops[j]'(by have := h.len; omega), by simp⟩
        obtain ⟨y', hy', hc⟩ := h.comp j oj hoj
        rw [hy] at hy'; cases hy'
        have hd : oj.dst = some t := by rw [← (compIO_spec hc).2.2]; exact hyd
        have := h.temps j i oj o x t (by omega) hoj ho hx hd ht
        rw [Nat.max_eq_right (by omega), Nat.min_eq_left (by omega), h.mdef] at this
        exact hyu (masks_ready hI.closed hoL hr this)
    · exact g
  have hconst : (tr j).1.getD t undef = (tr i).1.getD t undef := by
    refine h.env_const hge hj3 ?_
    intro k y hk1 hk2 hy hyd
    have hLk := hj2 k y hk2 hy hyd
    by_cases e : k = i
    · subst e; exact hu hLk
    · obtain ⟨ok, hok⟩ : ∃ ok, ops[k]? = some ok := ⟨ops[k]'(by have := h.len; omega), by simp⟩
      obtain ⟨y', hy', hc⟩ := h.comp k ok hok
      rw [hy] at hy'; cases hy'
      have hd : ok.dst = some t := by rw [← (compIO_spec hc).2.2]; exact hyd
      have := h.temps k i ok o x t e hok ho hx hd ht
      rw [Nat.max_eq_left (by omega), Nat.min_eq_right (by omega), h.mdef] at this
      exact hu (masks_in hI.closed hLk this)
  rw [← hconst]; exact hv

/-- Behind an operation: listed, its value in its place. -/
theorem Inv.next (h : DC P T E ops l0 M tr) {α β : Al} {w0 w w' : World} {listed : Array Bool} {a : Act} (hI : Inv P D α w0 ops l0 tr listed a w) (hle : α.le β) {i : Nat} {o : Oper} {x : IOper} (ho : ops[i]? = some o) (hx : l0[i]? = some x) (hu : ¬ Lst listed i)
    (hr : ∀ e ∈ binding o, Lst listed e) {v v' : Value} (hv : VR β v v') (hput : (tr (i + 1)).1 = put (tr i).1 x.dst v)
    (hh : (loudI x.op = true ∧ Sim β w0 (tr (i + 1)).2 w') ∨ (loudI x.op = false ∧ ∃ j, NlAt l0 listed j ∧ j ≤ l0.length ∧ Sim β w0 (tr j).2 w')) :
    Inv P D β w0 ops l0 tr (listed.setIfInBounds i true) (a.put o.dst v') w' := by
  have hoL : ops.toList[i]? = some o := by simpa using ho
  have hil : i < l0.length := (List.getElem?_eq_some_iff.1 hx).1
  have hisz : i < listed.size := by rw [hI.size, ← h.len]; exact hil
  obtain ⟨x', hx', hc⟩ := h.comp i o ho
  rw [hx] at hx'; cases hx'
  have hdst : x.dst = o.dst := (compIO_spec hc).2.2
  -- what comes behind i by the edges isn't listed
  have hbeh : ∀ k, Lst listed k → (M.getD k 0).testBit i = true → False := fun k hk hb => hu (masks_in hI.closed hk (by rw [← h.mdef]; exact hb))
  refine ⟨by simp [hI.size], ?_, ?_, ?_, ?_, glob_mono hI.glob hle, by rw [put_defs]; exact hI.defs⟩
  · intro k ok hok hk e he
    rw [lst_set hisz] at hk ⊢
    rcases hk with rfl | hk
    · rw [hoL] at hok; cases hok; exact .inr (hr e he)
    · exact .inr (hI.closed k ok hok hk e he)
  · rcases hh with ⟨hlo, hs⟩ | ⟨hlo, j, ⟨hj1, hj2⟩, hj3, hs⟩
    · -- the next loud one behind i
      obtain ⟨j, g1, g2, g3, g4⟩ := first_at (fun k => match l0[k]? with | some y => loudI y.op | none => false) l0.length (l0.length - (i + 1)) (i + 1) (by omega)
      have hsame : (tr j).2 = (tr (i + 1)).2 := h.heap_const g1 g2 (by
        intro k y k1 k2 hy
        have := g4 k k1 k2
        rw [hy] at this; exact this)
      refine ⟨j, ⟨?_, ?_⟩, g2, by rw [hsame]; exact hs⟩
      · rcases g3 with g3 | g3
        · exact .inl g3
        · right
          cases hy : l0[j]? with
          | none => rw [hy] at g3; cases g3
          | some y =>
            rw [hy] at g3
            refine ⟨y, rfl, g3, ?_⟩
            rw [lst_set hisz]
            rintro (e | hl)
            · omega
            · exact hbeh j hl (h.loud i j x y (by omega) hx hy hlo g3)
      · intro k y hk hy hyl
        rw [lst_set hisz]
        rcases Nat.lt_trichotomy k i with hki | hki | hki
        · right
          have := h.loud k i y x hki hy hx hyl hlo
          rw [h.mdef] at this
          exact masks_ready hI.closed hoL hr this
        · exact .inl hki
        · have := g4 k (by omega) hk
          rw [hy] at this
          simp only at this
          rw [this] at hyl; cases hyl
    · refine ⟨j, ⟨?_, ?_⟩, hj3, hs⟩
      · rcases hj1 with e | ⟨y, hy, hyl, hyu⟩
        · exact .inl e
        · refine .inr ⟨y, hy, hyl, ?_⟩
          rw [lst_set hisz]
          rintro (e | hl)
          · subst e; rw [hx] at hy; cases hy; rw [hlo] at hyl; cases hyl
          · exact hyu hl
      · intro k y hk hy hyl
        rw [lst_set hisz]
        exact .inr (hj2 k y hk hy hyl)
  · intro t
    by_cases hd : x.dst = some t
    · obtain ⟨j, g1, g2, g3, g4⟩ := first_at (fun k => match l0[k]? with | some y => decide (y.dst = some t) | none => false) l0.length (l0.length - (i + 1)) (i + 1) (by omega)
      have hsame : (tr j).1.getD t undef = (tr (i + 1)).1.getD t undef := h.env_const g1 g2 (by
        intro k y k1 k2 hy
        have := g4 k k1 k2
        rw [hy] at this; simpa using this)
      have hon : t ∈ namesOf o x.guard := by unfold namesOf; rw [← hdst, hd]; simp
      refine ⟨j, ⟨?_, ?_, g2⟩, ?_⟩
      · rcases g3 with g3 | g3
        · exact .inl g3
        · right
          cases hy : l0[j]? with
          | none => rw [hy] at g3; cases g3
          | some y =>
            rw [hy] at g3
            have hyd : y.dst = some t := by simpa using g3
            refine ⟨y, rfl, hyd, ?_⟩
            rw [lst_set hisz]
            rintro (e | hl)
            · omega
            · have hjl : j < l0.length := (List.getElem?_eq_some_iff.1 hy).1
              obtain ⟨oj, hoj⟩ : ∃ oj, ops[j]? = some oj := ⟨ops[j]'(by have := h.len; omega), by simp⟩
              obtain ⟨y', hy', hcj⟩ := h.comp j oj hoj
              rw [hy] at hy'; cases hy'
              have hdj : oj.dst = some t := by rw [← (compIO_spec hcj).2.2]; exact hyd
              have := h.temps j i oj o x t (by omega) hoj ho hx hdj hon
              rw [Nat.max_eq_left (by omega), Nat.min_eq_right (by omega)] at this
              exact hbeh j hl this
      · intro k y hk hy hyd
        rw [lst_set hisz]
        rcases Nat.lt_trichotomy k i with hki | hki | hki
        · right
          obtain ⟨ok, hok⟩ : ∃ ok, ops[k]? = some ok := ⟨ops[k]'(by have := h.len; omega), by simp⟩
          obtain ⟨y', hy', hck⟩ := h.comp k ok hok
          rw [hy] at hy'; cases hy'
          have hdk : ok.dst = some t := by rw [← (compIO_spec hck).2.2]; exact hyd
          have := h.temps k i ok o x t (by omega) hok ho hx hdk hon
          rw [Nat.max_eq_right (by omega), Nat.min_eq_left (by omega), h.mdef] at this
          exact masks_ready hI.closed hoL hr this
        · exact .inl hki
        · have := g4 k (by omega) hk
          rw [hy] at this
          simp only [decide_eq_false_iff_not] at this
          exact absurd hyd this
      · rw [hsame, hput, hd]
        have hlen1 : (tr i).1.length = a.tmps.size := by rw [hI.len]; exact h.env_len (by omega)
        simp only [put, Act.put, ← hdst, hd, List.getD_eq_getElem?_getD]
        by_cases ht : t < a.tmps.size
        · rw [List.getElem?_set_self (by omega)]
          simp [ht]
          exact hv
        · rw [List.getElem?_eq_none (by simp; omega)]
          simp [ht]
          exact VR.undef β
    · obtain ⟨j, ⟨hj1, hj2, hj3⟩, hvr⟩ := hI.env t
      refine ⟨j, ⟨?_, ?_, hj3⟩, ?_⟩
      · rcases hj1 with e | ⟨y, hy, hyd, hyu⟩
        · exact .inl e
        · refine .inr ⟨y, hy, hyd, ?_⟩
          rw [lst_set hisz]
          rintro (e | hl)
          · subst e; rw [hx] at hy; cases hy; exact hd hyd
          · exact hyu hl
      · intro k y hk hy hyd
        rw [lst_set hisz]
        exact .inr (hj2 k y hk hy hyd)
      · have : (a.put o.dst v').tmps.toList.getD t undef = a.tmps.toList.getD t undef := by
          rw [← hdst]
          cases hxd : x.dst with
          | none => rfl
          | some d =>
            simp only [Act.put, List.getD_eq_getElem?_getD]
            have hne : d ≠ t := by rintro rfl; exact hd hxd
            simp [List.getElem?_set_ne hne]
        rw [this]
        exact hvr.mono hle
  · have : (a.put o.dst v').tmps.size = a.tmps.size := by cases o.dst <;> simp [Act.put]
    rw [this]; exact hI.len


theorem mem_ready {listed : Array Bool} {i : Nat} (hsz : listed.size = ops.size) (h : i ∈ Region.ready .any ops listed) : ∃ o, ops[i]? = some o ∧ ¬ Lst listed i ∧ ∀ e ∈ binding o, Lst listed e := by
  unfold Region.ready at h
  simp only [List.mem_filter, List.mem_range, Bool.and_eq_true, Bool.not_eq_true'] at h
  obtain ⟨hi, h1, h2⟩ := h
  refine ⟨ops[i], by simp [hi], ?_, ?_⟩
  · intro hL
    unfold Lst at hL
    rw [Array.getD_eq_getD_getElem?, hL] at h1
    cases h1
  · intro e he
    unfold binding at he
    simp only [List.mem_map, List.mem_filter, Array.mem_toList_iff] at he
    obtain ⟨ed, ⟨he1, he2⟩, rfl⟩ := he
    rw [Array.getElem?_eq_getElem hi] at h2
    simp only [Option.map_some, Option.getD_some, Array.all_eq_true'] at h2
    have := h2 ed he1
    simp only [he2, Bool.not_true, Bool.false_or] at this
    unfold Lst
    rw [Array.getD_eq_getD_getElem?] at this
    cases hg : listed[ed.on]? with
    | none => rw [hg] at this; simp at this
    | some b => rw [hg] at this; simp at this; rw [this]

theorem ready_of {listed : Array Bool} {i : Nat} {o : Oper} (ho : ops[i]? = some o) (hsz : listed.size = ops.size) (hu : ¬ Lst listed i) (hr : ∀ e ∈ binding o, Lst listed e) : i ∈ Region.ready .any ops listed := by
  have hi : i < ops.size := (Array.getElem?_eq_some_iff.1 ho).1
  unfold Region.ready
  simp only [List.mem_filter, List.mem_range, Bool.and_eq_true, Bool.not_eq_true']
  refine ⟨hi, ?_, ?_⟩
  · rw [Array.getD_eq_getD_getElem?]
    have : listed[i]? = some listed[i] := by simp
    unfold Lst at hu
    rw [this] at hu ⊢
    simpa using hu
  · rw [ho]
    simp only [Option.map_some, Option.getD_some, Array.all_eq_true', Bool.or_eq_true, Bool.not_eq_true']
    intro e he
    by_cases hb : Region.binds .any e = true
    · right
      have := hr e.on (by unfold binding; simp only [List.mem_map, List.mem_filter, Array.mem_toList_iff]; exact ⟨e, ⟨he, hb⟩, rfl⟩)
      unfold Lst at this
      rw [Array.getD_eq_getD_getElem?, this]; rfl
    · left; simpa using hb

/-- If nothing is ready, all is listed. -/
theorem all_listed (h : DC P T E ops l0 M tr) {listed : Array Bool} (hsz : listed.size = ops.size) (hn : Region.ready .any ops listed = []) : ∀ i, i < ops.size → Lst listed i := by
  intro i
  induction i using Nat.strongRecOn with
  | _ i ih =>
    intro hi
    by_cases hL : Lst listed i
    · exact hL
    · exfalso
      obtain ⟨o, ho⟩ : ∃ o, ops[i]? = some o := ⟨ops[i], by simp [hi]⟩
      have := ready_of ho hsz hL (fun e he => by
        have hlt := h.edges i o ho e he
        exact ih e hlt (by omega))
      rw [hn] at this
      cases this

theorem winsOf_mem {ls : List Bool} {i j : Nat} (h1 : j = ls.length ∨ ls.getD j false = true) (hj : j ≤ ls.length) (h2 : ∀ l, ls.getD l false = true → (M.getD i 0).testBit l = true → l < j) (h3 : ∀ l, ls.getD l false = true → (M.getD l 0).testBit i = true → j ≤ l)
    (h4 : ¬ (i ≤ j ∧ ∀ l, ls.getD l false = true → l < i ∨ j ≤ l)) : j ∈ winsOf M ls i := by
  have hz : ∀ (b : Bool) (l : Nat), (b, l) ∈ ls.zipIdx → b = true → ls.getD l false = true := by
    intro b l hm hb
    have := List.mem_zipIdx_iff_getElem?.1 hm
    simp only at this
    rw [List.getD_eq_getElem?_getD, this, hb]; rfl
  unfold winsOf
  simp only [List.mem_filter, List.mem_range, Bool.and_eq_true, Bool.or_eq_true, List.all_eq_true, Bool.not_eq_true', decide_eq_true_eq, beq_iff_eq, Bool.not_eq_true, Prod.forall]
  refine ⟨by omega, ⟨h1, ?_⟩, ?_⟩
  · intro b l hm
    cases b with
    | false => exact .inl rfl
    | true =>
      right
      constructor
      · by_cases hb : (M.getD i 0).testBit l = true
        · exact .inr (h2 l (hz _ _ hm rfl) hb)
        · left; simpa using hb
      · by_cases hb : (M.getD l 0).testBit i = true
        · exact .inr (h3 l (hz _ _ hm rfl) hb)
        · left; simpa using hb
  · by_cases hij : i ≤ j
    · have : ∃ l, ls.getD l false = true ∧ ¬ (l < i ∨ j ≤ l) := by
        false_or_by_contra
        rename_i hne
        refine h4 ⟨hij, fun l hl => ?_⟩
        false_or_by_contra
        rename_i hne2
        exact hne ⟨l, hl, hne2⟩
      obtain ⟨l, hl, hne⟩ := this
      have hm : (true, l) ∈ ls.zipIdx := by
        rw [List.mem_zipIdx_iff_getElem?]
        rw [List.getD_eq_getElem?_getD] at hl
        cases e : ls[l]? with
        | none => rw [e] at hl; cases hl
        | some b => rw [e] at hl; simp at hl; simp [hl]
      simp only [Bool.and_eq_false_iff]
      right
      rw [List.all_eq_false]
      refine ⟨(true, l), hm, ?_⟩
      simp only [Bool.not_true, Bool.false_or, Bool.or_eq_true, decide_eq_true_eq]
      exact hne
    · simp [hij]


/-- One operation, in whatever place of the order. -/
theorem Inv.op (hk : CallOk P T E) (h : DC P T E ops l0 M tr) {α : Al} {w0 w : World} {listed : Array Bool} {a : Act} (hI : Inv P D α w0 ops l0 tr listed a w) {i : Nat} {o : Oper} (ho : ops[i]? = some o) (hu : ¬ Lst listed i) (hr : ∀ e ∈ binding o, Lst listed e)
    {K : Act → World → Prop} {Q : Exit → Act → World → Prop} (hK : ∀ β a' w', α.le β → Inv P D β w0 ops l0 tr (listed.setIfInBounds i true) a' w' → K a' w') : wpOp P ops Q i K a w := by
  obtain ⟨x, hx, hc⟩ := h.comp i o ho
  obtain ⟨hcf, hg, hdst⟩ := compIO_spec hc
  have hil : i < l0.length := (List.getElem?_eq_some_iff.1 hx).1
  have hnames : ∀ t, t ∈ namesOf o x.guard → VR α ((tr i).1.getD t undef) (a.tmps.toList.getD t undef) := fun t ht => hI.named h ho hx hu hr ht
  have hρ : ∀ y ∈ o.op.operands, VR α (rd (tr i).1 y) (a.eval y) := by
    intro y hy
    cases y with
    | tmp t =>
      simp only [rd, Act.eval, getD_list]
      refine hnames t ?_
      unfold namesOf
      simp only [List.mem_append, List.mem_filterMap]
      exact .inl (.inr ⟨.tmp t, by simpa using hy, rfl⟩)
    | const v =>
      have := (compFull_spec hcf).1
      simp only [Array.all_eq_true'] at this
      exact litOk_rel (this _ hy)
    | global g =>
      have := (compFull_spec hcf).1
      simp only [Array.all_eq_true'] at this
      exact .ptr0 (hI.glob g (by simpa [opdOk] using this _ hy))
    | func f => exact .func _ rfl .nil .nil
  have hgv : ∀ t w', x.guard = some (t, w') → VR α ((tr i).1.getD t undef) (a.tmps.toList.getD t undef) := by
    intro t w' e
    exact hnames t (by unfold namesOf; rw [e]; simp)
  unfold wpOp
  rw [ho]
  simp only
  obtain ⟨j, hNl, hjl, hsim⟩ := hI.heap
  -- where i is loud, it is the next loud one
  have hnl : loudI x.op = true → j = i := by
    intro hl
    rcases Nat.lt_trichotomy j i with g | g | g
    · exfalso
      rcases hNl.1 with e | ⟨y, hy, hyl, hyu⟩
      · omega
      · have := h.loud j i y x g hy hx hyl hl
        rw [h.mdef] at this
        exact hyu (masks_ready hI.closed (by simpa using ho) hr this)
    · exact g
    · exact absurd (hNl.2 i x g hx hl) hu
  rcases h.step i x hx with ⟨v, hw, hev, hput⟩ | ⟨hw, hskip⟩
  · rw [if_pos (wanted_rel hg hgv hw)]
    refine .inl ?_
    by_cases hl : loudI x.op = true
    · have := hnl hl
      subst this
      refine op_wp hk hcf hρ hsim hI.glob hev ?_ ?_
      · intro v2 H2 e β v' w' hle hv hs'
        cases e
        exact hK β _ w' hle (hI.next h hle ho hx hu hr hv hput (.inl ⟨hl, hs'⟩))
      · intro v2 H2 e; cases e
    · have hl' : loudI x.op = false := by simpa using hl
      by_cases hq : isQuiet x.op = true
      · -- nothing of memory
        have hkk : isCall x.op = false := by cases hop : x.op <;> rw [hop] at hq <;> first | rfl | cases hq
        have hcc : compOp P (forAppend ops o) o = some x.op := by
          rcases (compFull_spec hcf).2 with h1 | ⟨y, _, e⟩ | ⟨c, f, _, _, e⟩
          · exact h1.2
          · rw [e] at hkk; cases hkk
          · rw [e] at hkk; cases hkk
        have hev' : evI (tr i).1 (tr i).2 x.op = some (.ret v (tr (i + 1)).2) := by
          cases hop : x.op <;> rw [hop] at hev hkk <;> first | exact hev | cases hkk
        obtain ⟨v2, v', e, _, hv, hd⟩ := quiet_sound hcc hq hρ _ _ hev'
        injection e with e1 e2
        subst e1
        have hnext := hI.next h (Al.le_refl α) ho hx hu hr hv hput (.inr ⟨hl', j, hNl, hjl, hsim⟩)
        have hdw := hd w
        clear hd
        unfold Oper.wp
        rcases hdw with hd | ⟨hd, rfl⟩
        · rw [hd]; exact hK α _ w (Al.le_refl α) hnext
        · rw [hd]; exact hK α _ w (Al.le_refl α) hnext
      · -- a load
        have hld : isLd x.op = true ∨ isGsl x.op = true := by
          cases h1 : isLd x.op with
          | true => exact .inl rfl
          | false => right; simp only [loudI, h1, show isQuiet x.op = false by simpa using hq] at hl'; simpa using hl'
        cases hop : x.op with
        | ld n ad =>
          have hkk : isCall x.op = false := by rw [hop]; rfl
          have hcc : compOp P (forAppend ops o) o = some x.op := by
            rcases (compFull_spec hcf).2 with h1 | ⟨y, _, e⟩ | ⟨c, f, _, _, e⟩
            · exact h1.2
            · rw [e] at hkk; cases hkk
            · rw [e] at hkk; cases hkk
          have hev' : evI (tr i).1 (tr i).2 x.op = some (.ret v (tr (i + 1)).2) := by rw [hop] at hev ⊢; exact hev
          rw [hop] at hev'
          obtain ⟨v2, e, hv0⟩ := ld_heap hev'
          injection e with e1 e2
          subst e1
          have hval : ldv (tr j).2 n (rd (tr i).1 ad) = some v := by
            by_cases hown : i ≤ j ∧ ∀ l y, l0[l]? = some y → loudI y.op = true → l < i ∨ j ≤ l
            · have : (tr j).2 = (tr i).2 := h.heap_const hown.1 hjl (by
                intro k y k1 k2 hy
                cases hyl : loudI y.op with
                | false => rfl
                | true => rcases hown.2 k y hy hyl with g | g <;> omega)
              rw [this]; exact hv0
            · have hls : ∀ l, (l0.map fun o => loudI o.op).getD l false = true → ∃ y, l0[l]? = some y ∧ loudI y.op = true := by
                intro l hh
                rw [List.getD_eq_getElem?_getD, List.getElem?_map] at hh
                cases e : l0[l]? with
                | none => rw [e] at hh; cases hh
                | some y => rw [e] at hh; exact ⟨y, rfl, hh⟩
              have hls2 : ∀ l y, l0[l]? = some y → loudI y.op = true → (l0.map fun o => loudI o.op).getD l false = true := by
                intro l y hy hyl
                rw [List.getD_eq_getElem?_getD, List.getElem?_map, hy]; exact hyl
              refine h.wins i x n ad v hx hop hw hev j (winsOf_mem ?_ (by simpa using hjl) ?_ ?_ ?_)
              · rcases hNl.1 with e | ⟨y, hy, hyl, hyu⟩
                · exact .inl (by simpa using e)
                · exact .inr (hls2 j y hy hyl)
              · intro l hh hb
                obtain ⟨y, hy, hyl⟩ := hls l hh
                have hLl : Lst listed l := by
                  rw [h.mdef] at hb
                  exact masks_ready hI.closed (by simpa using ho) hr hb
                rcases Nat.lt_trichotomy l j with g | g | g
                · exact g
                · subst g
                  rcases hNl.1 with e | ⟨y', _, _, hyu⟩
                  · have := (List.getElem?_eq_some_iff.1 hy).1; omega
                  · exact absurd hLl hyu
                · exfalso
                  rcases hNl.1 with e | ⟨y', hy', hyl', hyu⟩
                  · have := (List.getElem?_eq_some_iff.1 hy).1; omega
                  · have := h.loud j l y' y g hy' hy hyl' hyl
                    rw [h.mdef] at this
                    exact hyu (masks_in hI.closed hLl this)
              · intro l hh hb
                obtain ⟨y, hy, hyl⟩ := hls l hh
                rcases Nat.lt_or_ge l j with g | g
                · exfalso
                  have hLl := hNl.2 l y g hy hyl
                  rw [h.mdef] at hb
                  exact hu (masks_in hI.closed hLl hb)
                · exact g
              · rintro ⟨g1, g2⟩
                exact hown ⟨g1, fun l y hy hyl => g2 l (hls2 l y hy hyl)⟩
          have hev2 : evI (tr i).1 (tr j).2 x.op = some (.ret v (tr j).2) := by rw [hop]; simp only [evI, hval]; rfl
          have hq' : isQuiet x.op = false := by simpa using hq
          obtain ⟨β, v2, v', H2, w', e, hle, hv, hs', hd⟩ := loud_sound hcc hq' hkk hρ hsim hev2
          cases e
          have hnext := hI.next h hle ho hx hu hr hv hput (.inr ⟨hl', j, hNl, hjl, hs'⟩)
          unfold Oper.wp
          rcases hd with hd | ⟨hd, rfl⟩
          · rw [hd]; exact hK β _ w' hle hnext
          · rw [hd]; exact hK β _ w' hle hnext
        | gsl n z parts =>
          have hkk : isCall x.op = false := by rw [hop]; rfl
          have hcc : compOp P (forAppend ops o) o = some x.op := by
            rcases (compFull_spec hcf).2 with h1 | ⟨y, _, e⟩ | ⟨c, f, _, _, e⟩
            · exact h1.2
            · rw [e] at hkk; cases hkk
            · rw [e] at hkk; cases hkk
          have hev' : evI (tr i).1 (tr i).2 x.op = some (.ret v (tr (i + 1)).2) := by rw [hop] at hev ⊢; exact hev
          have hev2 : evI (tr i).1 (tr j).2 x.op = some (.ret v (tr j).2) := by
            rw [hop] at hev' ⊢
            simp only [evI, Option.map_eq_some_iff] at hev' ⊢
            obtain ⟨l, h1, h2⟩ := hev'
            injection h2 with h2 _
            exact ⟨l, h1, by rw [h2]⟩
          have hq' : isQuiet x.op = false := by simpa using hq
          obtain ⟨β, v2, v', H2, w', e, hle, hv, hs', hd⟩ := loud_sound hcc hq' hkk hρ hsim hev2
          cases e
          have hnext := hI.next h hle ho hx hu hr hv hput (.inr ⟨hl', j, hNl, hjl, hs'⟩)
          unfold Oper.wp
          rcases hd with hd | ⟨hd, rfl⟩
          · rw [hd]; exact hK β _ w' hle hnext
          · rw [hd]; exact hK β _ w' hle hnext
        | _ => rw [hop] at hld; rcases hld with hld | hld <;> cases hld
  · rw [if_neg (by rw [wanted_rel hg hgv hw]; simp)]
    refine hK α _ w (Al.le_refl α) (hI.next h (Al.le_refl α) ho hx hu hr (VR.undef α) (by rw [hskip]) ?_)
    by_cases hl : loudI x.op = true
    · have := hnl hl
      subst this
      exact .inl ⟨hl, by rw [hskip]; exact hsim⟩
    · exact .inr ⟨by simpa using hl, j, hNl, hjl, hsim⟩

theorem Inv.done (h : DC P T E ops l0 M tr) {α : Al} {w0 w : World} {listed : Array Bool} {a : Act} (hI : Inv P D α w0 ops l0 tr listed a w) (hall : ∀ i, i < ops.size → Lst listed i) : St P D α w0 (tr l0.length).1 (tr l0.length).2 a w := by
  have hm : ∀ j x, l0[j]? = some x → Lst listed j := fun j x hx => hall j (by have := (List.getElem?_eq_some_iff.1 hx).1; have := h.len; omega)
  obtain ⟨j, hNl, hjl, hsim⟩ := hI.heap
  have hj : j = l0.length := by
    rcases hNl.1 with e | ⟨y, hy, _, hyu⟩
    · exact e
    · exact absurd (hm j y hy) hyu
  subst hj
  refine ⟨?_, hsim, hI.glob, hI.defs⟩
  have hlen : (tr l0.length).1.length = a.tmps.toList.length := by rw [h.env_len (Nat.le_refl _), ← hI.len]; simp
  have key : ∀ t, VR α ((tr l0.length).1.getD t undef) (a.tmps.toList.getD t undef) := by
    intro t
    obtain ⟨j, ⟨hj1, _, _⟩, hv⟩ := hI.env t
    have hj : j = l0.length := by
      rcases hj1 with e | ⟨y, hy, _, hyu⟩
      · exact e
      · exact absurd (hm j y hy) hyu
    rw [← hj]; exact hv
  have gen : ∀ (l l' : List Value), l.length = l'.length → (∀ t, VR α (l.getD t undef) (l'.getD t undef)) → VRs α l l' := by
    intro l
    induction l with
    | nil => intro l' hl _; cases l' with
      | nil => exact .nil
      | cons => cases hl
    | cons v l ih =>
      intro l' hl hg
      cases l' with
      | nil => cases hl
      | cons v' l' =>
        refine .cons (by simpa using hg 0) (ih l' (by simpa using hl) fun t => by simpa using hg (t + 1))
  exact gen _ _ hlen key

theorem count_set {listed : Array Bool} {i : Nat} (hi : i < listed.size) (hu : ¬ Lst listed i) : (listed.setIfInBounds i true).toList.count false + 1 = listed.toList.count false := by
  have hf : listed.toList[i]? = some false := by
    have : listed[i]? = some listed[i] := by simp
    unfold Lst at hu
    rw [this] at hu
    simp only [Option.some.injEq, Bool.not_eq_true] at hu
    simp [hi, hu]
  simp only [Array.toList_setIfInBounds]
  generalize listed.toList = l at hf
  clear hu hi
  induction l generalizing i with
  | nil => simp at hf
  | cons b l ih =>
    cases i with
    | zero => simp at hf; subst hf; simp
    | succ i =>
      simp at hf
      have := ih hf
      simp only [List.set_cons_succ, List.count_cons]
      omega

theorem any_sound (hk : CallOk P T E) (h : DC P T E ops l0 M tr) {w0 : World} {Q : Exit → Act → World → Prop} {r : Ex × Env × Heap} (hr : r = (.norm, tr l0.length)) : ∀ (fuel : Nat) (α : Al) (listed : Array Bool) (a : Act) (w : World), Inv P D α w0 ops l0 tr listed a w →
    listed.toList.count false ≤ fuel → Post P D α w0 r Q → wpAny P .any ops Q fuel listed a w
  | 0, α, listed, a, w, hI, hc, hQ => by
    have hn : Region.ready .any ops listed = [] := by
      cases e : Region.ready .any ops listed with
      | nil => rfl
      | cons i r =>
        exfalso
        obtain ⟨o, ho, hu, _⟩ := mem_ready (ops := ops) hI.size (by rw [e]; exact List.mem_cons_self : i ∈ Region.ready .any ops listed)
        have hi : i < listed.size := by rw [hI.size]; exact (Array.getElem?_eq_some_iff.1 ho).1
        have := count_set hi hu
        omega
    refine ⟨hn, ?_⟩
    have hst := hI.done h (all_listed h hI.size hn)
    subst hr
    exact hQ α .normal a w (Al.le_refl α) rfl hst
  | fuel + 1, α, listed, a, w, hI, hc, hQ => by
    refine ⟨fun hn => ?_, fun i hi => ?_⟩
    · have hst := hI.done h (all_listed h hI.size hn)
      subst hr
      exact hQ α .normal a w (Al.le_refl α) rfl hst
    · obtain ⟨o, ho, hu, hb⟩ := mem_ready hI.size hi
      have hil : i < listed.size := by rw [hI.size]; exact (Array.getElem?_eq_some_iff.1 ho).1
      have hcnt := count_set hil hu
      refine hI.op hk h ho hu hb ?_
      intro β a' w' hle hI'
      exact any_sound hk h hr fuel β _ a' w' hI' (by omega) (hQ.mono hle)


/-! the start -/
theorem compIOs_get {P : Program} {ops : Array Oper} : ∀ {os : List Oper} {l : List IOper}, compIOs P ops os = some l → l.length = os.length ∧ ∀ (i : Nat) (o : Oper), os[i]? = some o → ∃ x, l[i]? = some x ∧ compIO P ops o = some x
  | [], l, h => by simp [compIOs] at h; subst h; exact ⟨rfl, by intro i o h; simp at h⟩
  | o :: os, l, h => by
    unfold compIOs at h
    split at h
    · rename_i x l' e1 e2
      cases h
      obtain ⟨h1, h2⟩ := compIOs_get e2
      refine ⟨by simp [h1], ?_⟩
      intro i o' ho
      cases i with
      | zero => simp at ho; subst ho; exact ⟨x, by simp, e1⟩
      | succ i => simp at ho; obtain ⟨y, g1, g2⟩ := h2 i o' ho; exact ⟨y, by simpa using g1, g2⟩
    · cases h

theorem markD_get {M : List Nat} {ls : List Bool} : ∀ {l : List IOper} {k i : Nat}, (markD M ls l k)[i]? = (l[i]?).map fun o => ⟨o, loudI o.op, if isLd o.op then winsOf M ls (k + i) else []⟩
  | [], k, i => by simp [markD]
  | o :: r, k, 0 => by simp [markD]
  | o :: r, k, i + 1 => by
    simp only [markD, List.getElem?_cons_succ]
    rw [markD_get]
    rw [show k + 1 + i = k + (i + 1) by omega]

theorem markD_length {M : List Nat} {ls : List Bool} : ∀ {l : List IOper} {k : Nat}, (markD M ls l k).length = l.length
  | [], k => rfl
  | o :: r, k => by simp [markD, markD_length]

theorem mem_zip {α : Type} {l : List α} {i : Nat} {a : α} (ha : l[i]? = some a) : (a, i) ∈ l.zipIdx := by
  rw [List.mem_zipIdx_iff_getElem?]; exact ha

theorem compD_DC {l : List DOper} (hc : compD P ops = some l) {env : Env} {H : Heap} {r : Ex × Env × Heap} (he : evD T E l 0 env H [] [] = some r) :
    ∃ (l0 : List IOper) (M : List Nat) (tr : Nat → Env × Heap), DC P T E ops l0 M tr ∧ r = (.norm, tr l0.length) ∧ tr 0 = (env, H) := by
  unfold compD at hc
  split at hc
  · cases hc
  · rename_i l0 hl0
    simp only at hc
    split at hc
    · rename_i hcond
      cases hc
      simp only [Bool.and_eq_true] at hcond
      obtain ⟨⟨⟨c1, c2⟩, c3⟩, c4⟩ := hcond
      obtain ⟨hlen, hget⟩ := compIOs_get hl0
      obtain ⟨tr, t1, t2, t3, st', ps', t4, t5, t6, t7⟩ := evD_trace _ _ _ _ _ _ _ he
      rw [markD_length, Nat.zero_add] at t3
      have hls : ∀ (l : Nat) (y : IOper), l0[l]? = some y → (l0.map fun o => loudI o.op)[l]? = some (loudI y.op) := by
        intro l y hy; rw [List.getElem?_map, hy]; rfl
      refine ⟨l0, masks ops.toList [], tr, ?_, t3, t1⟩
      refine ⟨c1, by simpa using hlen, ?_, ?_, ?_, ?_, ?_, ?_, rfl⟩
      · intro i o ho; exact hget i o (by simpa using ho)
      · intro i o ho e hb
        have := List.all_eq_true.1 c2 (o, i) (mem_zip (by simpa using ho))
        simp only [List.all_eq_true] at this
        simpa using this e hb
      · intro i j x y hij hx hy hxl hyl
        have h1 := List.all_eq_true.1 c3 _ (mem_zip (hls i x hx))
        have h2 := List.all_eq_true.1 h1 _ (mem_zip (hls j y hy))
        simp only [hxl, hyl] at h2
        simpa [hij] using h2
      · intro i j o o' x' t hne ho ho' hx' hd ht
        obtain ⟨x, hx, _⟩ := hget i o (by simpa using ho)
        have hz : ∀ (k : Nat) (q : Oper) (y : IOper), ops[k]? = some q → l0[k]? = some y → ((ops.toList.zip l0).map fun (o, x) => (o.dst, namesOf o x.guard))[k]? = some (q.dst, namesOf q y.guard) := by
          intro k q y hq hy
          have : (ops.toList.zip l0)[k]? = some (q, y) := List.getElem?_zip_eq_some.2 ⟨by simpa using hq, hy⟩
          rw [List.getElem?_map, this]
          rfl
        have h1 := List.all_eq_true.1 c4 _ (mem_zip (hz i o x ho hx))
        have h2 := List.all_eq_true.1 h1 _ (mem_zip (hz j o' x' ho' hx'))
        simp only [hd, Bool.or_eq_true, beq_iff_eq, Bool.not_eq_true'] at h2
        rcases h2 with h2 | h2 | h2
        · exact absurd h2 hne
        · have : (namesOf o' x'.guard).contains t = true := by simpa using ht
          rw [this] at h2; cases h2
        · exact h2
      · intro i x hx
        have := t2 i ⟨x, loudI x.op, if isLd x.op then winsOf (masks ops.toList []) (l0.map fun o => loudI o.op) (0 + i) else []⟩ (by rw [markD_get, hx]; rfl)
        simpa using this
      · intro i x n a v hx hop hw hev j hj
        have hd : (markD (masks ops.toList []) (l0.map fun o => loudI o.op) l0 0)[i]? = some ⟨x, true && loudI x.op, winsOf (masks ops.toList []) (l0.map fun o => loudI o.op) i⟩ := by
          rw [markD_get, hx]
          simp [hop, isLd]
        have hne : winsOf (masks ops.toList []) (l0.map fun o => loudI o.op) i ≠ [] := by intro e; rw [e] at hj; cases hj
        have hp := t7 i _ n a v hd hop hne (by simpa using hw) (by simpa using hev)
        rw [List.all_eq_true] at t4
        have := t4 _ hp
        unfold pendOk at this
        rw [List.all_eq_true] at this
        have := this j hj
        split at this
        · rename_i X hX
          have hX' : X = (tr j).2 := by
            rcases t6 j X hX with h6 | h6
            · exact h6.1
            · simp [stageAt] at h6
          subst hX'
          simp only [Nat.zero_add] at this
          split at this
          · rename_i v' hv'
            rw [hv', beqA_eq this]
          · cases this
        · cases this
    · cases hc

/-- A statement whose order is open. -/
theorem dops_sound (hk : CallOk P T E) {id : Nat} {l : List DOper} (hc : compD P ops = some l) {α : Al} {w0 w : World} {env : Env} {H : Heap} {a : Act} {r : Ex × Env × Heap} (hst : St P D α w0 env H a w) (he : evD T E l 0 env H [] [] = some r)
    {Q : Exit → Act → World → Prop} (hQ : Post P D α w0 r Q) : (Code.region id ops true).wp P Q a w := by
  obtain ⟨l0, M, tr, h, hr, h0⟩ := compD_DC hc he
  refine wp_region_any h.mixed ?_
  have hnot : ∀ i, ¬ Lst (Array.replicate ops.size false) i := by
    intro i hi
    unfold Lst at hi
    rw [Array.getElem?_replicate] at hi
    split at hi <;> cases hi
  refine any_sound hk h hr ops.size α _ a _ ?_ ?_ hQ
  · have hsd := hst.sim.drawn (w.drawn + 1)
    refine ⟨by simp, fun i o _ hi => absurd hi (hnot i), ?_, ?_, ?_, hst.glob, hst.defs⟩
    · obtain ⟨j, g1, g2, g3, g4⟩ := first_at (fun k => match l0[k]? with | some y => loudI y.op | none => false) l0.length l0.length 0 (by omega)
      have hsame : (tr j).2 = (tr 0).2 := h.heap_const g1 g2 (by
        intro k y k1 k2 hy
        have := g4 k k1 k2
        rw [hy] at this; exact this)
      refine ⟨j, ⟨?_, ?_⟩, g2, by rw [hsame, h0]; exact hsd⟩
      · rcases g3 with g3 | g3
        · exact .inl g3
        · cases hy : l0[j]? with
          | none => rw [hy] at g3; cases g3
          | some y => rw [hy] at g3; exact .inr ⟨y, rfl, g3, hnot j⟩
      · intro k y hk hy hyl
        have := g4 k (by omega) hk
        rw [hy] at this
        simp only at this
        rw [this] at hyl; cases hyl
    · intro t
      obtain ⟨j, g1, g2, g3, g4⟩ := first_at (fun k => match l0[k]? with | some y => decide (y.dst = some t) | none => false) l0.length l0.length 0 (by omega)
      have hsame : (tr j).1.getD t undef = (tr 0).1.getD t undef := h.env_const g1 g2 (by
        intro k y k1 k2 hy
        have := g4 k k1 k2
        rw [hy] at this; simpa using this)
      refine ⟨j, ⟨?_, ?_, g2⟩, by rw [hsame, h0]; exact hst.env.getD t⟩
      · rcases g3 with g3 | g3
        · exact .inl g3
        · cases hy : l0[j]? with
          | none => rw [hy] at g3; cases g3
          | some y => rw [hy] at g3; exact .inr ⟨y, rfl, by simpa using g3, hnot j⟩
      · intro k y hk hy hyd
        have := g4 k (by omega) hk
        rw [hy] at this
        simp only [decide_eq_false_iff_not] at this
        exact absurd hyd this
    · rw [h0, ← hst.env.length]; simp
  · have : (Array.replicate ops.size false).toList.count false = ops.size := by simp
    omega

end
end Ve
end Go.Proofs.YtnociodpfmlglaaGreatDoor
