/-
  Operations on memory: what the deterministic machine computes, the model does.
-/
import Derived.Test.YtnociodpfmlglaaGreatDoorVe6
set_option linter.unusedVariables false
set_option linter.unusedSimpArgs false
namespace Go.Proofs.YtnociodpfmlglaaGreatDoor
namespace Ve
open Go Go.RowKit
section
variable {P : Program} {α : Al} {ρ : Operand → Value} {env : Env} {w0 w : World} {H : Heap}

/-- What an operation on memory owes. -/
def Loud (P : Program) (α : Al) (w0 w : World) (o : Oper) (ρ : Operand → Value) (out : Out) : Prop :=
  ∃ α' v v' H' w', out = .ret v H' ∧ α.le α' ∧ VR α' v v' ∧ Sim α' w0 H' w' ∧ Done ((execOp ρ o).run P w) v' w'

theorem VR.ptr0 {β : Al} {i b : Nat} (h : β i = some (b, 0)) : VR β (.pointer (some ⟨i, 0, none⟩)) (.pointer (some ⟨b, 0, none⟩)) := by
  have := VR.ptr (o := 0) h
  simpa using this

theorem VR.slx0 {β : Al} {i b n c : Nat} (h : β i = some (b, 0)) (hn : n ≤ c) : VR β (.slice (some ⟨i, 0, none⟩) n c) (.slice (some ⟨b, 0, none⟩) n c) :=
  VR.slx h hn (.inl (by simp))

theorem loud_new {o : Oper} {out : Out} {cs cs' : List Value} {ty : TypeId} (hs : Sim α w0 H w) (hr : VRs α cs cs')
    (hout : out = .ret (.pointer (some ⟨H.length, 0, none⟩)) (push H (.cells cs (.fix (some ty)) 0)))
    (hrun : (execOp ρ o).run P w = .ok (.value (.pointer (some ⟨w.heap.size, 0, none⟩))) (w.alloc (.cells ⟨cs'⟩ ty))) : Loud P α w0 w o ρ out := by
  exact ⟨α.ext H.length (w.heap.size, 0) cs.length, _, _, _, _, hout, hs.le_ext _, .ptr0 (Al.ext_new _ _ _ _), hs.alloc_cells hr (.fix (some ty)) (by simp) ty (fun _ e => nomatch e) (fun _ e => by injection e with e; injection e), .inl hrun⟩

theorem l_new {o : Oper} {t : TypeId} {z : List Value} {out : Out} (ho : o.op = .alloc t) (hz : zeroCells P t = some z) (hs : Sim α w0 H w) (he : evI env H (.new t z) = some out) : Loud P α w0 w o ρ out := by
  simp only [evI, Option.some.injEq] at he
  obtain ⟨zv, hz1, hz2, hl⟩ := run_zero (w := w) hz
  refine loud_new (ty := t) hs (VRs.lits hl) he.symm ?_
  simp only [execOp, ho, Instr.alloc, Sem.run_bind, hz1, Result.andThen_ok, newVar, newRow, hz2, run_newObj, Sem.run_pure]
  rfl

theorem l_box {o : Oper} {t : TypeId} {x : Operand} {out : Out} (ho : o.op = .box t x) (hx : VR α (rd env x) (ρ x)) (hs : Sim α w0 H w) (he : evI env H (.box t x) = some out) : Loud P α w0 w o ρ out := by
  simp only [evI] at he
  split at he
  · rename_i cs hc
    simp only [Option.some.injEq] at he
    obtain ⟨cs', h1, h2, h3⟩ := cellsOf_rel hx hc
    refine loud_new (ty := t) hs h2 he.symm ?_
    simp only [execOp, ho, Instr.box, Sem.run_bind, newVar, newRow, h1, run_newObj, Sem.run_pure, Result.andThen_ok]
    rfl
  · cases he

theorem rows_eq (z : List Value) (n : Nat) (hz : z.length = n) (hn : 0 < n) : ∀ len : Nat, (Array.range (len * n)).map (fun i => (⟨z⟩ : Array Value)[i % (⟨z⟩ : Array Value).size]!) = ⟨(List.replicate len z).flatten⟩ := by
  intro len
  apply Array.ext'
  simp only [Array.toList_map, Array.toList_range]
  have hsz : (⟨z⟩ : Array Value).size = n := hz
  rw [hsz]
  induction len with
  | zero => simp
  | succ k ih =>
    rw [Nat.succ_mul, List.range_add, List.map_append, ih, List.replicate_succ', List.flatten_append]
    congr 1
    simp only [List.flatten_cons, List.flatten_nil, List.append_nil, List.map_map]
    apply List.ext_getElem
    · simp [hz]
    · intro i h1 h2
      simp only [List.length_map, List.length_range] at h1
      simp only [List.getElem_map, List.getElem_range, Function.comp]
      have : (k * n + i) % n = i := by rw [Nat.mul_comm, Nat.mul_add_mod]; exact Nat.mod_eq_of_lt h1
      rw [this]
      simp [h2]

theorem flatten_lit {z : List Value} {n : Nat} (h : z.all isLit = true) : ((List.replicate n z).flatten).all isLit = true := by
  simp only [List.all_eq_true] at h ⊢
  intro x hx
  simp only [List.mem_flatten, List.mem_replicate] at hx
  obtain ⟨l, ⟨_, rfl⟩, hx⟩ := hx
  exact h x hx

theorem l_bslice {o : Oper} {t e : TypeId} {len n : Nat} {parts : Array (Nat × Operand)} {z : List Value} {ps : List (Nat × Nat × Operand)} {out : Out} (ho : o.op = .buildSlice t len parts) (ht : P.underlying t = some (.slice e))
    (hn : cells? P e = some n) (hz : zeroCells P e = some z) (hc : len * n ≤ 2 ^ 24 ∧ 0 < n ∧ z.length = n) (hps : partsOf (fun i => some (i * n, n)) parts.toList = some ps) (hx : ∀ x ∈ parts.toList.map (·.2), VR α (rd env x) (ρ x)) (hs : Sim α w0 H w)
    (he : evI env H (.bslice len (List.replicate len z).flatten ps) = some out) : Loud P α w0 w o ρ out := by
  simp only [evI] at he
  cases hl : lay env (List.replicate len z).flatten ps with
  | none => rw [hl] at he; cases he
  | some l =>
    rw [hl] at he
    simp only [Option.map_some, Option.some.injEq] at he
    obtain ⟨zv, hz1, hz2, hlit⟩ := run_zero (w := w) hz
    obtain ⟨l', h1, h2⟩ := fill_lay parts.toList ps _ _ l hps hx (VRs.lits (flatten_lit (n := len) hlit)) hl
    refine ⟨α.ext H.length (w.heap.size, 0) l.length, _, _, _, w.alloc (.cells ⟨l'⟩ e), he.symm, hs.le_ext _, .slx0 (Al.ext_new _ _ _ _) (Nat.le_refl _), hs.alloc_cells h2 (.fix none) (by simp) e (fun _ e => nomatch e) (fun _ e => nomatch e), .inl ?_⟩
    · have hmap : (parts.map fun (i, x) => (i, ρ x)).toList = parts.toList.map fun p => (p.1, ρ p.2) := by simp
      have hle : ¬ (len * n > 2 ^ 24) := by omega
      have hrow : ∀ zc : Array Value, (len * n = 0 ∨ zc = ⟨z⟩) → (Array.range (len * n)).map (fun i => zc[i % zc.size]!) = ⟨(List.replicate len z).flatten⟩ := by
        intro zc h
        rcases h with h | rfl
        · have : len = 0 := by rcases Nat.mul_eq_zero.1 h with h | h; exact h; omega
          subst this
          simp
        · exact rows_eq z n hc.2.2 hc.2.1 len
      simp only [execOp, ho, Instr.buildSlice, Sem.run_bind, run_und ht, Result.andThen_ok, run_size hn, hmap]
      rw [if_neg hle]
      simp only [Sem.run_pure, Sem.run_bind, Result.andThen_ok]
      by_cases h0 : len * n = 0
      · rw [if_pos h0]
        simp only [Sem.run_pure, Result.andThen_ok, Sem.run_bind, hrow #[] (.inl h0), h1, newRow, run_newObj]
        rfl
      · rw [if_neg h0]
        simp only [Sem.run_pure, Result.andThen_ok, Sem.run_bind, hz1, hz2, hrow ⟨z⟩ (.inr rfl), h1, newRow, run_newObj]
        rfl

theorem l_gsl {o : Oper} {t e : TypeId} {len n : Nat} {parts : Array (Nat × Operand)} {z : List Value} {ps : List (Nat × Nat × Operand)} {out : Out} (ho : o.op = .buildSlice t len parts) (ht : P.underlying t = some (.slice e))
    (hn : cells? P e = some n) (hz : zeroCells P e = some z) (hc : len * n ≤ 2 ^ 24 ∧ 0 < n ∧ z.length = n) (hps : partsOf (fun i => some (i * n, n)) parts.toList = some ps) (hx : ∀ x ∈ parts.toList.map (·.2), VR α (rd env x) (ρ x)) (hs : Sim α w0 H w)
    (he : evI env H (.gsl len (List.replicate len z).flatten ps) = some out) : Loud P α w0 w o ρ out := by
  simp only [evI] at he
  cases hl : lay env (List.replicate len z).flatten ps with
  | none => rw [hl] at he; cases he
  | some l =>
    rw [hl] at he
    simp only [Option.map_some, Option.some.injEq] at he
    obtain ⟨zv, hz1, hz2, hlit⟩ := run_zero (w := w) hz
    obtain ⟨l', h1, h2⟩ := fill_lay parts.toList ps _ _ l hps hx (VRs.lits (flatten_lit (n := len) hlit)) hl
    refine ⟨α.ghost w.heap.size (.cells ⟨l'⟩ e), _, .slice (some ⟨w.heap.size, 0, none⟩) len len, _, w.alloc (.cells ⟨l'⟩ e), he.symm, Al.le_ghost _ _ _, .gsl (List.mem_cons_self ..) (h2.mono (Al.le_ghost _ _ _)), hs.ghost _, .inl ?_⟩
    · have hmap : (parts.map fun (i, x) => (i, ρ x)).toList = parts.toList.map fun p => (p.1, ρ p.2) := by simp
      have hle : ¬ (len * n > 2 ^ 24) := by omega
      have hrow : ∀ zc : Array Value, (len * n = 0 ∨ zc = ⟨z⟩) → (Array.range (len * n)).map (fun i => zc[i % zc.size]!) = ⟨(List.replicate len z).flatten⟩ := by
        intro zc h
        rcases h with h | rfl
        · have : len = 0 := by rcases Nat.mul_eq_zero.1 h with h | h; exact h; omega
          subst this
          simp
        · exact rows_eq z n hc.2.2 hc.2.1 len
      simp only [execOp, ho, Instr.buildSlice, Sem.run_bind, run_und ht, Result.andThen_ok, run_size hn, hmap]
      rw [if_neg hle]
      simp only [Sem.run_pure, Sem.run_bind, Result.andThen_ok]
      by_cases h0 : len * n = 0
      · rw [if_pos h0]
        simp only [Sem.run_pure, Result.andThen_ok, Sem.run_bind, hrow #[] (.inl h0), h1, newRow, run_newObj]
        rfl
      · rw [if_neg h0]
        simp only [Sem.run_pure, Result.andThen_ok, Sem.run_bind, hz1, hz2, hrow ⟨z⟩ (.inr rfl), h1, newRow, run_newObj]
        rfl

theorem load_cell {b k : Nat} {v : Value} (h : w.cell? ⟨b, k, none⟩ = some v) : (load ⟨b, k, none⟩).run P w = .ok v w := by simp [h]

theorem ldv_run {t : TypeId} {n : Option Nat} {a a' v : Value} (hs : Sim α w0 H w) (ht : shapeOf P t = some n) (ha : VR α a a') (hv : ldv H n a = some v) : ∃ v', VR α v v' ∧ (Instr.loadAt t a').run P w = .ok v' w := by
  unfold ldv at hv
  split at hv
  · rename_i i o s
    cases ha with
    | ptr h =>
      obtain ⟨v', h1, h2⟩ := get1_cell hs hv h
      refine ⟨v', h2, ?_⟩
      simp only [Instr.loadAt, Instr.sureAddr, Sem.run_bind, Sem.run_pure, Result.andThen_ok, loadVar, run_isAgg_none ht, Bool.false_eq_true, if_false, load_cell h1]
  · rename_i i o s k
    cases ha with
    | ptr h =>
      cases hg : getN H i o k with
      | none => rw [hg] at hv; cases hv
      | some l =>
        rw [hg] at hv
        simp only [Option.map_some, Option.some.injEq] at hv
        subst hv
        obtain ⟨l', h1, h2, h3⟩ := getN_cells hs hg h P
        obtain ⟨g1, g2⟩ := run_isAgg_some (w := w) ht
        refine ⟨.agg ⟨l'⟩, .agg h2, ?_⟩
        simp only [Instr.loadAt, Instr.sureAddr, Sem.run_bind, Sem.run_pure, Result.andThen_ok, loadVar, g1, if_true, g2, h1]
  · cases hv

theorem l_ld {o : Oper} {t : TypeId} {n : Option Nat} {a : Operand} {out : Out} (ho : o.op = .load t a) (ht : shapeOf P t = some n) (ha : VR α (rd env a) (ρ a)) (hs : Sim α w0 H w) (he : evI env H (.ld n a) = some out) : Loud P α w0 w o ρ out := by
  simp only [evI] at he
  cases hv : ldv H n (rd env a) with
  | none => rw [hv] at he; cases he
  | some v =>
    rw [hv] at he
    simp only [ret, Option.map_some, Option.some.injEq] at he
    obtain ⟨v', h1, h2⟩ := ldv_run hs ht ha hv
    exact ⟨α, v, v', H, w, he.symm, Al.le_refl _, h1, hs, .inl (by simp only [execOp, ho, Sem.run_bind, h2, Result.andThen_ok, Sem.run_pure])⟩

theorem l_st {o : Oper} {t : TypeId} {n : Nat} {a x : Operand} {out : Out} (ho : o.op = .store t a x) (ht : cells? P t = some n) (ha : VR α (rd env a) (ρ a)) (hx : VR α (rd env x) (ρ x)) (hs : Sim α w0 H w) (he : evI env H (.st n a x) = some out) :
    Loud P α w0 w o ρ out := by
  simp only [evI] at he
  split at he
  · rename_i i k s cs e1 e2
    rw [e1] at ha
    obtain ⟨cs', h1, h2, h3⟩ := cellsOf_rel hx e2
    split at he
    · rename_i hn
      cases hp : putN H i k cs with
      | none => rw [hp] at he; cases he
      | some H' =>
        rw [hp] at he
        simp only [Option.map_some, Option.some.injEq] at he
        generalize hr : ρ a = a' at ha
        cases ha with
        | ptr h =>
          obtain ⟨w', g1, g2⟩ := hs.put hp h2 P h
          refine ⟨α, _, undef, _, _, he.symm, Al.le_refl _, VR.undef α, g2, .inr ⟨?_, rfl⟩⟩
          have hsz : ¬ ((⟨cs'⟩ : Array Value).size ≠ n) := by
            have : (⟨cs'⟩ : Array Value).size = cs'.length := rfl
            rw [this, h2.length]; omega
          simp only [execOp, ho, hr, Instr.storeAt, Instr.sureAddr, Sem.run_bind, Sem.run_pure, Result.andThen_ok, storeVar, h1, run_size ht]
          rw [if_neg hsz]
          simp only [Sem.run_pure, Result.andThen_ok, Sem.run_bind, g1]
    · cases he
  · cases he

end
end Ve
end Go.Proofs.YtnociodpfmlglaaGreatDoor
