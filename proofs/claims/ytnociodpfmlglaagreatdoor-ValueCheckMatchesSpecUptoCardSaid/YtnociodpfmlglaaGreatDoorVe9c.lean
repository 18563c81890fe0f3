/-
  Operations on maps with texts as keys, and type assertions.
-/
import Derived.Test.YtnociodpfmlglaaGreatDoorVe9b
import Derived.MapKept
set_option linter.unusedVariables false
set_option linter.unusedSimpArgs false
namespace Go.Proofs.YtnociodpfmlglaaGreatDoor
namespace Ve
open Go Go.RowKit

section
variable {P : Program} {α : Al} {ρ : Operand → Value} {env : Env} {w0 w : World} {H : Heap}

theorem find_none {s : ByteArray} : ∀ {es : List (ByteArray × Value)} {es' : List MapEntry}, KVs α es es' → mfind s es = none → ∀ i, Instr.findNow .string (.string s) es' i = some none ∧ ∀ v v' clk, VR α v v' → KVs α (mset s v es) (es' ++ [⟨.string s, v', clk⟩])
  | _, _, .nil, _, i => ⟨rfl, fun v v' clk h => .cons rfl h .nil⟩
  | _, _, .cons (k := k) (v := x) (e := e) hk hv hs, h, i => by
    unfold mfind at h
    split at h
    · cases h
    · rename_i hne
      obtain ⟨h1, h2⟩ := find_none hs h (i + 1)
      refine ⟨?_, fun v v' clk hv' => ?_⟩
      · have : (s == k) = false := by rw [bytes_eq]; simpa using hne
        simp [Instr.findNow, hk, Instr.sameNow, this, h1]
      · unfold mset
        rw [if_neg hne]
        exact .cons hk hv (h2 v v' clk hv')

theorem find_some {s : ByteArray} {x : Value} : ∀ {es : List (ByteArray × Value)} {es' : List MapEntry}, KVs α es es' → mfind s es = some x → ∀ i, ∃ j e, Instr.findNow .string (.string s) es' i = some (some (i + j, e.val)) ∧ es'[j]? = some e ∧ e.key = .string s ∧ VR α x e.val ∧
    ∀ v v', VR α v v' → KVs α (mset s v es) (es'.modify j fun e => { e with key := .string s, val := v' })
  | _, _, .cons (k := k) (v := y) (e := e) (l := l) (l' := l') hk hv hs, h, i => by
    unfold mfind at h
    split at h
    · rename_i he
      cases h
      have hsk : s = k := by
        have : (s == k) = true := by rw [bytes_eq]; exact he
        exact (MapKept.bytes_beq _ _).1 this
      subst hsk
      refine ⟨0, e, ?_, rfl, hk, hv, fun v v' hv' => ?_⟩
      · have hss : (s == s) = true := (MapKept.bytes_beq _ _).2 rfl
        simp [Instr.findNow, hk, Instr.sameNow, hss]
      · unfold mset
        rw [if_pos he]
        exact .cons rfl hv' hs
    · rename_i hne
      obtain ⟨j, e', h1, h2, h3, h4, h5⟩ := find_some hs h (i + 1)
      have hsk : (s == k) = false := by rw [bytes_eq]; simpa using hne
      refine ⟨j + 1, e', ?_, by simpa using h2, h3, h4, fun v v' hv' => ?_⟩
      · simp [Instr.findNow, hk, Instr.sameNow, hsk, h1]; omega
      · unfold mset
        rw [if_neg hne]
        exact .cons hk hv (h5 v v' hv')

theorem checkKey_str {kt : TypeId} (hk : P.underlying kt = some .string) (em : Bool) (s : ByteArray) : (Instr.checkKey em 10000 kt (.string s)).run P w = .ok () w :=
  MapKept.run_checkKey (k := .string s) hk (by simp [MapKept.IsKey]) em 9999

theorem Sim.alloc_map {α : Al} {w0 w : World} {H : Heap} (h : Sim α w0 H w) : Sim (α.ext H.length (w.heap.size, 0) 0) w0 (push H (.mp [])) (w.alloc (.map #[] 0)) := by
  refine h.grow (below_alloc w _) (by show w.heap.size < (w.heap.push _).size; simp) ?_
  exact ⟨w.heap.size, #[], 0, Al.ext_new _ _ _ _, h.below.size, heap_alloc_new _ _, .nil⟩

theorem l_mkmap {o : Oper} {t k e : TypeId} {r : Option Operand} {out : Out} (ho : o.op = .makeMap t r) (ht : P.underlying t = some (.map k e)) (hx : ∀ x, r = some x → VR α (rd env x) (ρ x)) (hs : Sim α w0 H w)
    (he : evI env H (.mkmap r) = some out) : Loud P α w0 w o ρ out := by
  have hrun : (Instr.makeMap t (r.map ρ)).run P w = .ok (.map (some w.heap.size)) (w.alloc (.map #[] 0)) → out = .ret (.map (some H.length)) (push H (.mp [])) → Loud P α w0 w o ρ out := by
    intro h1 h2
    refine ⟨_, _, _, _, _, h2, hs.le_ext 0, .map (Al.ext_new _ _ _ _), hs.alloc_map, .inl ?_⟩
    simp only [execOp, ho, Sem.run_bind, h1, Result.andThen_ok, Sem.run_pure]
  simp only [evI] at he
  split at he
  · simp only [Option.some.injEq] at he
    exact hrun (by simp [Instr.makeMap]) he.symm
  · rename_i x
    split at he
    · rename_i ik n e1
      simp only [Option.some.injEq] at he
      have h := hx x rfl
      rw [e1] at h
      exact hrun (by simp [Instr.makeMap, run_und ht, h.int_inv, asInt, asIntOf]) he.symm
    · cases he

theorem l_mlook {o : Oper} {t kt e : TypeId} {z : Value} {ok : Bool} {x k : Operand} {out : Out} (ho : o.op = .lookup t x k ok) (ht : P.underlying t = some (.map kt e)) (hkt : P.underlying kt = some .string) (hz : (P.info? e).bind (·.zero) = some z) (hl : isLit z = true)
    (hx : VR α (rd env x) (ρ x)) (hk : VR α (rd env k) (ρ k)) (hs : Sim α w0 H w) (he : evI env H (.mlook z ok x k) = some out) : Loud P α w0 w o ρ out := by
  have hzero : (zeroValue e).run P w = .ok z w := by
    cases hi : P.info? e with
    | none => rw [hi] at hz; cases hz
    | some i => rw [hi] at hz; simp only [Option.bind_some] at hz; simp [zeroValue, run_info hi, hz]
  have fin : ∀ v v' b, VR α v v' → (Instr.lookup t (ρ x) (ρ k) ok).run P w = .ok (if ok then .tuple #[v', .bool b] else v') w → out = .ret (if ok then .tuple ⟨[v, .bool b]⟩ else v) H → Loud P α w0 w o ρ out := by
    intro v v' b hv h1 h2
    refine ⟨α, _, (if ok then .tuple #[v', .bool b] else v'), _, w, h2, Al.le_refl _, ?_, hs, .inl ?_⟩
    · cases ok
      · exact hv
      · exact .tup (.cons hv (.cons (.bool b) .nil))
    · simp only [execOp, ho, Sem.run_bind, h1, Result.andThen_ok, Sem.run_pure]
  simp only [evI] at he
  split at he
  · rename_i s e1 e2
    rw [e1] at hx; rw [e2] at hk
    simp only [Option.some.injEq] at he
    refine fin z z false (VR.lit hl) ?_ he.symm
    rw [hk.str_inv]
    generalize hr : ρ x = r at hx
    cases hx
    have hf := MapKept.run_findKey (P := P) (w := w) (kt := kt) (k := .string s) (l := []) (a := none) hkt rfl
    cases ok <;> simp [Instr.lookup, run_und ht, checkKey_str hkt, hf, hzero]
  · rename_i i s e1 e2
    rw [e1] at hx; rw [e2] at hk
    generalize hr : ρ x = r at hx
    cases hx with
    | map h =>
      rename_i b
      split at he
      · rename_i es hb
        obtain ⟨b', es', clk, h1, h2, h3, h4⟩ := hs.blk i _ hb
        rw [h] at h1; cases h1
        have hget := MapKept.run_getObj_map (P := P) h3
        split at he
        · rename_i v hfd
          simp only [Option.some.injEq] at he
          obtain ⟨j, en, g1, g2, g3, g4, g5⟩ := find_some h4 hfd 0
          refine fin v en.val true g4 ?_ he.symm
          rw [hk.str_inv, hr]
          have hf := MapKept.run_findKey (P := P) (w := w) hkt g1
          cases ok <;> simp [Instr.lookup, run_und ht, hget, checkKey_str hkt, hf]
        · rename_i hfd
          simp only [Option.some.injEq] at he
          obtain ⟨g1, g2⟩ := find_none h4 hfd 0
          refine fin z z false (VR.lit hl) ?_ he.symm
          rw [hk.str_inv, hr]
          have hf := MapKept.run_findKey (P := P) (w := w) hkt g1
          cases ok <;> simp [Instr.lookup, run_und ht, hget, checkKey_str hkt, hf, hzero]
      · cases he
  · cases he

theorem l_mput {o : Oper} {t kt e : TypeId} {x k v : Operand} {out : Out} (ho : o.op = .mapUpdate t x k v) (ht : P.underlying t = some (.map kt e)) (hkt : P.underlying kt = some .string)
    (hx : VR α (rd env x) (ρ x)) (hk : VR α (rd env k) (ρ k)) (hv : VR α (rd env v) (ρ v)) (hs : Sim α w0 H w) (he : evI env H (.mput x k v) = some out) : Loud P α w0 w o ρ out := by
  simp only [evI] at he
  split at he
  · rename_i i s e1 e2
    rw [e1] at hx; rw [e2] at hk
    generalize hr : ρ x = r at hx
    cases hx with
    | map h =>
      rename_i b
      split at he
      · rename_i es hb
        simp only [Option.some.injEq] at he
        obtain ⟨b', es', clk, h1, h2, h3, h4⟩ := hs.blk i _ hb
        rw [h] at h1; cases h1
        have hget := MapKept.run_getObj_map (P := P) h3
        have fin : ∀ es2 clk2, KVs α (mset s (rd env v) es) es2.toList → (Instr.mapUpdate t (.map (some b)) (.string s) (ρ v)).run P w = .ok () { w with heap := w.heap.setIfInBounds b (.map es2 clk2) } → Loud P α w0 w o ρ out := by
          intro es2 clk2 h5 h6
          obtain ⟨s1, s2⟩ := MapKept.heap_set (o' := .map es2 clk2) h3
          refine ⟨α, _, undef, _, { w with heap := w.heap.setIfInBounds b (.map es2 clk2) }, he.symm, Al.le_refl _, VR.undef α, ?_, .inr ⟨?_, rfl⟩⟩
          · refine hs.turn hb rfl h ⟨b, es2, clk2, h, h2, s1, h5⟩ ?_ (by simp) (fun j hj => s2 j hj)
            exact Below.of_frame hs.below h2 s2 (by simp) rfl rfl rfl
          · simp only [execOp, ho, hr, hk.str_inv, Sem.run_bind, h6, Result.andThen_ok, Sem.run_pure]
        cases hfd : mfind s es with
        | some y =>
          obtain ⟨j, en, g1, g2, g3, g4, g5⟩ := find_some h4 hfd 0
          have hf := MapKept.run_findKey (P := P) (w := w) hkt g1
          have hj : es'[j]? = some en := by simpa using g2
          have hss : (s == s) = true := (MapKept.bytes_beq _ _).2 rfl
          refine fin (es'.modify j fun e => { e with key := .string s, val := ρ v }) clk ?_ ?_
          · rw [Array.toList_modify]; exact g5 _ _ hv
          · simp [Instr.mapUpdate, run_und ht, hget, checkKey_str hkt, hf, hj, g3, Instr.keyThatStays, Instr.sameBits, hss, MapKept.run_setObj_map _ h3]
        | none =>
          obtain ⟨g1, g2⟩ := find_none h4 hfd 0
          have hf := MapKept.run_findKey (P := P) (w := w) hkt g1
          refine fin (es'.push ⟨.string s, ρ v, clk⟩) (clk + 1) ?_ ?_
          · rw [Array.toList_push]; exact g2 _ _ _ hv
          · simp [Instr.mapUpdate, run_und ht, hget, checkKey_str hkt, hf, MapKept.run_setObj_map _ h3]
      · cases he
  · cases he

theorem q_tass {o : Oper} {xt t : TypeId} {d : TypeDesc} {z : Value} {ok : Bool} {x : Operand} (ho : o.op = .typeAssert x xt t ok) (ht : P.underlying t = some d) (hd : ∀ m, d ≠ .interface m) (hz : (P.info? t).bind (·.zero) = some z) (hl : VR α z z)
    (hx : VR α (rd env x) (ρ x)) : Quiet P α o ρ env (.tass t z ok x) := by
  have hzero : ∀ w, (zeroValue t).run P w = .ok z w := by
    intro w
    cases hi : P.info? t with
    | none => rw [hi] at hz; cases hz
    | some i => rw [hi] at hz; simp only [Option.bind_some] at hz; simp [zeroValue, run_info hi, hz]
  refine quiet_of (r := match rd env x with
    | .nilIface => if ok then some (.tuple ⟨[z, .bool false]⟩) else none
    | .iface t' v => if t' = t then some (if ok then .tuple ⟨[v, .bool true]⟩ else v) else if ok then some (.tuple ⟨[z, .bool false]⟩) else none
    | _ => none) ?_ ?_
  · intro H
    simp only [evI]
    cases rd env x <;> try rfl
    · simp only
      split
      · rfl
      · split <;> rfl
    · simp only
      split <;> rfl
  · intro v hv
    split at hv
    · rename_i e1
      rw [e1] at hx
      split at hv
      · rename_i hok
        cases hv
        subst hok
        refine ⟨.tuple #[z, .bool false], .tup (.cons hl (.cons (.bool _) .nil)), fun w => ?_⟩
        generalize hr : ρ x = r at hx
        cases hx
        cases d <;> simp_all [execOp, Instr.typeAssert, run_und ht]
      · cases hv
    · rename_i t' y e1
      rw [e1] at hx
      generalize hr : ρ x = r at hx
      cases hx with
      | iface _ hy =>
        rename_i y'
        split at hv
        · rename_i htt
          cases hv
          subst htt
          refine ⟨if ok then .tuple #[y', .bool true] else y', ?_, fun w => ?_⟩
          · cases ok
            · exact hy
            · exact .tup (.cons hy (.cons (.bool _) .nil))
          · cases d <;> cases ok <;> simp_all [execOp, Instr.typeAssert, run_und ht]
        · rename_i htt
          split at hv
          · rename_i hok
            cases hv
            subst hok
            refine ⟨.tuple #[z, .bool false], .tup (.cons hl (.cons (.bool _) .nil)), fun w => ?_⟩
            cases d <;> simp_all [execOp, Instr.typeAssert, run_und ht]
          · cases hv
    · cases hv

end
end Ve
end Go.Proofs.YtnociodpfmlglaaGreatDoor
