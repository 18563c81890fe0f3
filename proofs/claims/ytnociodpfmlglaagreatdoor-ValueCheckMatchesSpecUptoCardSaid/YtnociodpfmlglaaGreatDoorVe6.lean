/-
  Operations that don't look at memory, third part: lengths, least and greatest, aggregates, comparisons of structs.
-/
import Derived.Test.YtnociodpfmlglaaGreatDoorVe5
set_option linter.unusedVariables false
set_option linter.unusedSimpArgs false
namespace Go.Proofs.YtnociodpfmlglaaGreatDoor
namespace Ve
open Go Go.RowKit
section
variable {P : Program} {α : Al} {ρ : Operand → Value} {env : Env}

theorem builtin_exec {o : Oper} {c : Call} {b : Builtin} (ho : o.op = .call c) (hb : c.callee = .builtin b) :
    execOp ρ o = Go.builtin b c.argTypes o.type (c.args.map fun | .const _ => true | _ => false) (c.args.map ρ) := by
  simp only [execOp, ho, resolve, hb]
  rfl

theorem args_one {c : Call} {x : Operand} (h : c.args.toList = [x]) : c.args.map ρ = #[ρ x] := by
  obtain ⟨_, l, _⟩ := c
  obtain ⟨l⟩ := l
  simp at h; subst h; simp
theorem args_two {c : Call} {x y : Operand} (h : c.args.toList = [x, y]) : c.args.map ρ = #[ρ x, ρ y] := by
  obtain ⟨_, l, _⟩ := c
  obtain ⟨l⟩ := l
  simp at h; subst h; simp
theorem argType {c : Call} {k : Nat} {d : TypeDesc} (h : (c.argTypes[k]?).bind P.underlying = some d) : ∃ t, c.argTypes[k]? = some t ∧ P.underlying t = some d := by
  cases e : c.argTypes[k]? with
  | none => rw [e] at h; cases h
  | some t => rw [e] at h; exact ⟨t, rfl, h⟩

theorem q_lens {o : Oper} {c : Call} {x : Operand} (ho : o.op = .call c) (hb : c.callee = .builtin .len) (ha : c.args.toList = [x]) (ht : (c.argTypes[0]?).bind P.underlying = some .string) (hx : VR α (rd env x) (ρ x)) :
    Quiet P α o ρ env (.len true x) := by
  intro H out he
  simp only [evI] at he
  obtain ⟨t, ht1, ht2⟩ := argType ht
  split at he
  · rename_i s _ e
    rw [e] at hx
    simp only [Option.some.injEq] at he
    refine ⟨_, _, he.symm, fun H2 => by simp [evI, e], .int _ _, fun w => .inl ?_⟩
    rw [builtin_exec ho hb, args_one ha, hx.str_inv]
    simp [Go.builtin, Builtin.len_, ht1, run_und ht2, goInt]
  · rename_i h _; cases h
  · cases he

theorem q_lena {o : Oper} {c : Call} {x : Operand} {el : TypeId} (ho : o.op = .call c) (hb : c.callee = .builtin .len) (ha : c.args.toList = [x]) (ht : (c.argTypes[0]?).bind P.underlying = some (.slice el)) (hx : VR α (rd env x) (ρ x)) :
    Quiet P α o ρ env (.len false x) := by
  intro H out he
  simp only [evI] at he
  obtain ⟨t, ht1, ht2⟩ := argType ht
  split at he
  · rename_i h _; cases h
  · rename_i a n cp _ e
    rw [e] at hx
    simp only [Option.some.injEq] at he
    refine ⟨_, _, he.symm, fun H2 => by simp [evI, e], .int _ _, fun w => .inl ?_⟩
    rw [builtin_exec ho hb, args_one ha]
    generalize ρ x = r at hx
    cases hx <;> simp [Go.builtin, Builtin.len_, ht1, run_und ht2, goInt]
  · cases he

theorem q_cap {o : Oper} {c : Call} {x : Operand} {el : TypeId} (ho : o.op = .call c) (hb : c.callee = .builtin .cap) (ha : c.args.toList = [x]) (ht : (c.argTypes[0]?).bind P.underlying = some (.slice el)) (hx : VR α (rd env x) (ρ x)) :
    Quiet P α o ρ env (.capx x) := by
  intro H out he
  simp only [evI] at he
  obtain ⟨t, ht1, ht2⟩ := argType ht
  split at he
  · rename_i n cp e
    rw [e] at hx
    simp only [Option.some.injEq] at he
    refine ⟨_, _, he.symm, fun H2 => by simp [evI, e], .int _ _, fun w => .inl ?_⟩
    rw [builtin_exec ho hb, args_one ha]
    generalize ρ x = r at hx
    cases hx; simp [Go.builtin, Builtin.cap_, ht1, run_und ht2, goInt]
  · rename_i i k n cp e
    rw [e] at hx
    simp only [Option.some.injEq] at he
    refine ⟨_, _, he.symm, fun H2 => by simp [evI, e], .int _ _, fun w => .inl ?_⟩
    rw [builtin_exec ho hb, args_one ha]
    generalize ρ x = r at hx
    cases hx <;> simp [Go.builtin, Builtin.cap_, ht1, run_und ht2, goInt]
  · cases he

theorem fold_min {k : IntKind} (w : World) : ∀ {l l' : List Value} {a n : Int}, VRs α l l' → minInt false a l = some n → (l'.foldlM Builtin.min2 (.int k a)).run P w = .ok (.int k n) w
  | _, _, a, n, .nil, h => by simp [minInt] at h; subst h; rfl
  | v :: l, _, a, n, .cons hv hs, h => by
    unfold minInt at h
    cases v with
    | int k' b =>
      rw [hv.int_inv]
      simp only [List.foldlM_cons, Sem.run_bind, Builtin.min2, Sem.run_pure, Result.andThen_ok]
      simp only [Bool.false_eq_true, if_false] at h
      exact fold_min w hs h
    | _ => cases h
theorem fold_max {k : IntKind} (w : World) : ∀ {l l' : List Value} {a n : Int}, VRs α l l' → minInt true a l = some n → (l'.foldlM Builtin.max2 (.int k a)).run P w = .ok (.int k n) w
  | _, _, a, n, .nil, h => by simp [minInt] at h; subst h; rfl
  | v :: l, _, a, n, .cons hv hs, h => by
    unfold minInt at h
    cases v with
    | int k' b =>
      rw [hv.int_inv]
      simp only [List.foldlM_cons, Sem.run_bind, Builtin.max2, Sem.run_pure, Result.andThen_ok]
      simp only [if_true] at h
      exact fold_max w hs h
    | _ => cases h

theorem q_minmax {o : Oper} {c : Call} {mx : Bool} (ho : o.op = .call c) (hb : c.callee = .builtin (if mx then .max else .min)) (hx : ∀ x ∈ c.args.toList, VR α (rd env x) (ρ x)) : Quiet P α o ρ env (.minmax mx c.args.toList) := by
  intro H out he
  simp only [evI] at he
  split at he
  · rename_i k a r e
    cases hn : minInt mx a r with
    | none => rw [hn] at he; cases he
    | some n =>
      rw [hn] at he
      simp only [Option.map_some, Option.some.injEq] at he
      refine ⟨_, _, he.symm, fun H2 => by simp only [evI, e, hn]; rfl, .int _ _, fun w => .inl ?_⟩
      have hm := VRs.map hx
      rw [e] at hm
      have hargs : (c.args.map ρ).toList = c.args.toList.map ρ := by simp
      generalize c.args.toList.map ρ = l at hm hargs
      cases hm with
      | cons h1 h2 =>
        rw [h1.int_inv] at hargs
        cases mx with
        | false =>
          rw [builtin_exec ho hb]
          simp only [Bool.false_eq_true, if_false, Go.builtin, Builtin.min_, hargs, Sem.run_bind, fold_min w h2 hn, Result.andThen_ok, Sem.run_pure]
        | true =>
          rw [builtin_exec ho hb]
          simp only [if_true, Go.builtin, Builtin.max_, hargs, Sem.run_bind, fold_max w h2 hn, Result.andThen_ok, Sem.run_pure]
  · cases he


/-! aggregates -/
theorem foldl_splice : ∀ (vs : List Value) (off k : Nat) (z : List Value), off + k + vs.length ≤ z.length →
    (vs.zipIdx k).foldl (fun (cs : Array Value) (p : Value × Nat) => cs.setIfInBounds (off + p.2) p.1) ⟨z⟩ = ⟨splice z (off + k) vs⟩
  | [], off, k, z, h => by simp [splice]
  | v :: vs, off, k, z, h => by
    simp only [List.length_cons] at h
    simp only [List.zipIdx_cons, List.foldl_cons]
    have e : (Array.setIfInBounds (⟨z⟩ : Array Value) (off + k) v) = ⟨z.set (off + k) v⟩ := by simp
    rw [e, foldl_splice vs off (k + 1) (z.set (off + k) v) (by simp; omega)]
    congr 1
    unfold splice
    have e1 : (z.set (off + k) v).take (off + (k + 1)) = z.take (off + k) ++ [v] := by
      rw [show off + (k + 1) = (off + k) + 1 by omega, List.take_add_one, List.take_set_of_le (Nat.le_refl _)]
      simp [List.getElem?_set]
      omega
    have e2 : (z.set (off + k) v).drop (off + (k + 1) + vs.length) = z.drop (off + k + (v :: vs).length) := by
      rw [List.drop_set_of_lt (by omega)]
      congr 1
      simp; omega
    rw [e1, e2]; simp

theorem fill_lay {place : Nat → Option (Nat × Nat)} : ∀ (parts : List (Nat × Operand)) (ps : List (Nat × Nat × Operand)) (z z' l : List Value), partsOf place parts = some ps → (∀ x ∈ parts.map (·.2), VR α (rd env x) (ρ x)) → VRs α z z' →
    lay env z ps = some l → ∃ l', Instr.fill place ⟨z'⟩ (parts.map fun p => (p.1, ρ p.2)) = some ⟨l'⟩ ∧ VRs α l l'
  | [], ps, z, z', l, hp, hx, hz, hl => by
    simp [partsOf] at hp; subst hp
    simp [lay] at hl; subst hl
    exact ⟨z', rfl, hz⟩
  | (i, x) :: parts, ps, z, z', l, hp, hx, hz, hl => by
    unfold partsOf at hp
    cases e : place i with
    | none => rw [e] at hp; cases hp
    | some q =>
      obtain ⟨off, size⟩ := q
      rw [e] at hp
      simp only at hp
      cases e2 : partsOf place parts with
      | none => rw [e2] at hp; cases hp
      | some ps' =>
        rw [e2] at hp
        simp only [Option.map_some, Option.some.injEq] at hp
        subst hp
        unfold lay at hl
        split at hl
        · rename_i cs hcs
          split at hl
          · rename_i hc
            obtain ⟨cs', h1, h2, h3⟩ := cellsOf_rel (hx x (by simp)) hcs
            have hlen := h2.length
            have hzl := hz.length
            obtain ⟨l', g1, g2⟩ := fill_lay parts ps' (splice z off cs) (splice z' off cs') l e2 (fun y hy => hx y (by simp at hy ⊢; exact .inr hy)) (hz.splice off h2) hl
            refine ⟨l', ?_, g2⟩
            simp only [List.map_cons, Instr.fill, e, h1]
            have hsz : (⟨cs'⟩ : Array Value).size = cs'.length := rfl
            have hsz2 : (⟨z'⟩ : Array Value).size = z'.length := rfl
            have hcond : (((⟨cs'⟩ : Array Value).size ≠ size || off + (⟨cs'⟩ : Array Value).size > (⟨z'⟩ : Array Value).size)) = false := by
              rw [hsz, hsz2]
              simp; omega
            rw [if_neg (by rw [hcond]; simp)]
            have := foldl_splice cs' off 0 z' (by omega)
            rw [Nat.add_zero] at this
            rw [← this] at g1
            rw [← g1]
            congr 1
            rw [← Array.foldl_toList]
            simp
          · cases hl
        · cases hl

theorem places_run (w : World) : ∀ {fs : List Field} {pl : List (Nat × Nat)}, placesOf P fs = some pl → (fs.mapM fun f => (do pure (f.offset, ← sizeOf f.type) : Sem (Nat × Nat))).run P w = .ok pl w
  | [], pl, h => by simp [placesOf] at h; subst h; rfl
  | f :: r, pl, h => by
    unfold placesOf at h
    split at h
    · rename_i n l e1 e2
      cases h
      simp only [List.mapM_cons, Sem.run_bind, run_size e1, Result.andThen_ok, Sem.run_pure, places_run w e2]
    · cases h

theorem q_build_struct {o : Oper} {t : TypeId} {parts : Array (Nat × Operand)} {z : List Value} {fs : Array Field} {pl : List (Nat × Nat)} {ps : List (Nat × Nat × Operand)} (ho : o.op = .build t parts) (hz : zeroCells P t = some z)
    (ht : P.underlying t = some (.struct fs)) (hpl : placesOf P fs.toList = some pl) (hps : partsOf (pl[·]?) parts.toList = some ps) (hx : ∀ x ∈ parts.toList.map (·.2), VR α (rd env x) (ρ x)) : Quiet P α o ρ env (.build z ps) := by
  intro H out he
  simp only [evI] at he
  cases hl : lay env z ps with
  | none => rw [hl] at he; cases he
  | some l =>
    rw [hl] at he
    simp only [Option.map_some, Option.some.injEq] at he
    obtain ⟨zv, _, _, hlit⟩ := run_zero (w := default) hz
    obtain ⟨l', h1, h2⟩ := fill_lay parts.toList ps z z l hps hx (VRs.lits hlit) hl
    refine ⟨_, .agg ⟨l'⟩, he.symm, fun H2 => by simp only [evI, hl]; rfl, .agg h2, fun w => .inl ?_⟩
    obtain ⟨zv, hz1, hz2, _⟩ := run_zero (w := w) hz
    have hmap : (parts.map fun (i, x) => (i, ρ x)).toList = parts.toList.map fun p => (p.1, ρ p.2) := by simp
    simp only [execOp, ho, Instr.build, Sem.run_bind, hz1, Result.andThen_ok, Sem.run_pure, run_und ht, hz2, hmap]
    rw [Array.mapM_eq_mapM_toList]
    simp only [Sem.run_map, places_run w hpl, Result.andThen_ok]
    have : (fun i : Nat => (pl.toArray)[i]?) = (fun i : Nat => pl[i]?) := by funext i; simp
    simp only [this, h1]
    rfl

theorem q_build_array {o : Oper} {t el : TypeId} {k n : Nat} {parts : Array (Nat × Operand)} {z : List Value} {ps : List (Nat × Nat × Operand)} (ho : o.op = .build t parts) (hz : zeroCells P t = some z)
    (ht : P.underlying t = some (.array k el)) (hn : cells? P el = some n) (hps : partsOf (fun i => some (i * n, n)) parts.toList = some ps) (hx : ∀ x ∈ parts.toList.map (·.2), VR α (rd env x) (ρ x)) : Quiet P α o ρ env (.build z ps) := by
  intro H out he
  simp only [evI] at he
  cases hl : lay env z ps with
  | none => rw [hl] at he; cases he
  | some l =>
    rw [hl] at he
    simp only [Option.map_some, Option.some.injEq] at he
    obtain ⟨zv, _, _, hlit⟩ := run_zero (w := default) hz
    obtain ⟨l', h1, h2⟩ := fill_lay parts.toList ps z z l hps hx (VRs.lits hlit) hl
    refine ⟨_, .agg ⟨l'⟩, he.symm, fun H2 => by simp only [evI, hl]; rfl, .agg h2, fun w => .inl ?_⟩
    obtain ⟨zv, hz1, hz2, _⟩ := run_zero (w := w) hz
    have hmap : (parts.map fun (i, x) => (i, ρ x)).toList = parts.toList.map fun p => (p.1, ρ p.2) := by simp
    simp only [execOp, ho, Instr.build, Sem.run_bind, hz1, Result.andThen_ok, Sem.run_pure, run_und ht, hz2, hmap, run_size hn, h1]


/-! structs held against each other -/
theorem alike_rel : ∀ {ks : List SK} {x y x' y' : List Value} {r : Bool}, VRs α x x' → VRs α y y' → alike ks x y = some r → alike ks x' y' = some r
  | [], [], [], _, _, r, .nil, .nil, h => h
  | .b :: ks, a :: x, b :: y, _, _, r, .cons ha hx, .cons hb hy, h => by
    cases a <;> cases b <;> simp only [alike, reduceCtorEq] at h
    rw [ha.bool_inv, hb.bool_inv]
    simp only [alike]
    split at h
    · rename_i e; rw [if_pos e]; exact alike_rel hx hy h
    · rename_i e; rw [if_neg e]; exact h
  | .i :: ks, a :: x, b :: y, _, _, r, .cons ha hx, .cons hb hy, h => by
    cases a <;> cases b <;> simp only [alike, reduceCtorEq] at h
    rw [ha.int_inv, hb.int_inv]
    simp only [alike]
    split at h
    · rename_i ek
      rw [if_pos ek]
      split at h
      · rename_i e; rw [if_pos e]; exact alike_rel hx hy h
      · rename_i e; rw [if_neg e]; exact h
    · cases h
  | .s :: ks, a :: x, b :: y, _, _, r, .cons ha hx, .cons hb hy, h => by
    cases a <;> cases b <;> simp only [alike, reduceCtorEq] at h
    rw [ha.str_inv, hb.str_inv]
    simp only [alike]
    split at h
    · rename_i e; rw [if_pos e]; exact alike_rel hx hy h
    · rename_i e; rw [if_neg e]; exact h
  | [], [], _ :: _, _, _, r, _, _, h => by simp [alike] at h
  | [], _ :: _, _, _, _, r, _, _, h => by simp [alike] at h
  | k :: _, [], _, _, _, r, _, _, h => by cases k <;> simp [alike] at h
  | k :: _, a :: _, [], _, _, r, _, _, h => by cases k <;> cases a <;> simp [alike] at h

theorem bytes_eq (a b : ByteArray) : (a == b) = (bytesOf a == bytesOf b) := by
  unfold bytesOf
  rw [Array.beq_toList]
  rfl

/-- One field of two flat structs. -/
theorem field_eq {t : TypeId} {k : SK} (ht : flatTy P t = some k) {ks : List SK} {a b : Value} {x y : List Value} {r : Bool} (h : alike (k :: ks) (a :: x) (b :: y) = some r) (D : Nat) (w : World) :
    ∃ e, (Op.equalIn (D + 1) t a b).run P w = .ok e w ∧ (e = true → alike ks x y = some r) ∧ (e = false → r = false) := by
  unfold flatTy at ht
  split at ht
  · rename_i hu
    cases ht
    cases a <;> cases b <;> simp only [alike, reduceCtorEq] at h
    rename_i k1 p k2 q
    split at h
    · rename_i ek
      refine ⟨p == q, ?_, ?_, ?_⟩
      · simp only [Op.equalIn, Sem.run_bind, run_und hu, Result.andThen_ok, ek, if_true, Sem.run_pure]
      · intro e; rw [e] at h; simpa using h
      · intro e; rw [e] at h; simpa using h.symm
    · cases h
  · rename_i hu
    cases ht
    cases a <;> cases b <;> simp only [alike, reduceCtorEq] at h
    rename_i p q
    refine ⟨p == q, ?_, ?_, ?_⟩
    · simp only [Op.equalIn, Sem.run_bind, run_und hu, Result.andThen_ok, Sem.run_pure]
    · intro e; rw [bytes_eq] at e; rw [e] at h; simpa using h
    · intro e; rw [bytes_eq] at e; rw [e] at h; simpa using h.symm
  · rename_i hu
    cases ht
    cases a <;> cases b <;> simp only [alike, reduceCtorEq] at h
    rename_i p q
    refine ⟨p == q, ?_, ?_, ?_⟩
    · simp only [Op.equalIn, Sem.run_bind, run_und hu, Result.andThen_ok, Sem.run_pure]
    · intro e; rw [e] at h; simpa using h
    · intro e; rw [e] at h; simpa using h.symm
  · cases ht

theorem shapeOf_flat {t : TypeId} {k : SK} (ht : flatTy P t = some k) : shapeOf P t = some none := by
  unfold flatTy at ht
  unfold shapeOf
  split at ht <;> rename_i e <;> first | rw [e] | cases ht

theorem fields_eq {D : Nat} {xs ys : List Value} {r : Bool} (w : World) : ∀ (fs : List Field) (k : Nat) (ks : List SK),
    flatFields P fs k = some ks → k + fs.length = xs.length → k + fs.length = ys.length → alike ks (xs.drop k) (ys.drop k) = some r →
    (forIn fs ((none, ()) : Option Bool × Unit) fun f __s =>
      (if f.name ≠ "_" then do
        let a ← part f.type ⟨xs⟩ f.offset
        let b ← part f.type ⟨ys⟩ f.offset
        let e ← Op.equalIn (D + 1) f.type a b
        if (!e) = true then pure (ForInStep.done (some false, ())) else pure (ForInStep.yield (none, ()))
      else pure (ForInStep.yield (none, ())) : Sem (ForInStep (Option Bool × Unit)))).run P w = .ok (if r then (none, ()) else (some false, ())) w
  | [], k, ks, hf, h1, h2, ha => by
    rw [List.drop_of_length_le (by simp at h1; omega), List.drop_of_length_le (by simp at h2; omega)] at ha
    simp [flatFields] at hf
    subst hf
    simp [alike] at ha
    subst ha
    rfl
  | f :: fs, k, ks, hf, h1, h2, ha => by
    unfold flatFields at hf
    split at hf
    · rename_i kd l et el
      split at hf
      · rename_i hc
        cases hf
        simp only [Bool.and_eq_true] at hc
        simp only [List.length_cons] at h1 h2
        have hn' : f.name ≠ "_" := by simpa using hc.1
        have ho' : f.offset = k := by simpa using hc.2
        obtain ⟨a, ea⟩ : ∃ a, xs[k]? = some a := ⟨xs[k]'(by omega), by simp⟩
        obtain ⟨b, eb⟩ : ∃ b, ys[k]? = some b := ⟨ys[k]'(by omega), by simp⟩
        have da : xs.drop k = a :: xs.drop (k + 1) := by
          have hk : k < xs.length := by omega
          rw [List.drop_eq_getElem_cons hk]
          rw [List.getElem?_eq_getElem hk] at ea; cases ea; rfl
        have db : ys.drop k = b :: ys.drop (k + 1) := by
          have hk : k < ys.length := by omega
          rw [List.drop_eq_getElem_cons hk]
          rw [List.getElem?_eq_getElem hk] at eb; cases eb; rfl
        rw [da, db] at ha
        obtain ⟨e, g1, g2, g3⟩ := field_eq (P := P) et ha D w
        have hs := shapeOf_flat et
        have pa : (part f.type ⟨xs⟩ f.offset).run P w = .ok a w := part_run hs (by rw [ho']; exact ea) w
        have pb : (part f.type ⟨ys⟩ f.offset).run P w = .ok b w := part_run hs (by rw [ho']; exact eb) w
        simp only [List.forIn_cons, Sem.run_bind]
        rw [if_pos hn']
        simp only [Sem.run_bind, pa, Result.andThen_ok, pb, g1]
        cases e with
        | false =>
          simp only [Bool.not_false, if_true, Sem.run_pure, Result.andThen_ok, g3 rfl, Bool.false_eq_true, if_false]
        | true =>
          simp only [Bool.not_true, Bool.false_eq_true, if_false, Sem.run_pure, Result.andThen_ok]
          exact fields_eq w fs (k + 1) l el (by omega) (by omega) (g2 rfl)
      · cases hf
    · cases hf

theorem flatFields_length : ∀ {fs : List Field} {k : Nat} {ks : List SK}, flatFields P fs k = some ks → ks.length = fs.length
  | [], k, ks, h => by simp [flatFields] at h; subst h; rfl
  | f :: fs, k, ks, h => by
    unfold flatFields at h
    split at h
    · rename_i kd l et el
      split at h
      · cases h; simp [flatFields_length el]
      · cases h
    · cases h

theorem equal_step2 : ∃ d, ∀ (t : TypeId) (x y : Value), Op.equal t x y = Op.equalIn (d + 1 + 1) t x y := ⟨9998, fun _ _ _ => rfl⟩

theorem q_eqs {o : Oper} {neg : Bool} {t ty : TypeId} {x y : Operand} {n : List SK} (ho : o.op = .binOp (if neg then .neq else .eql) t x y ty) (hf : flat P t = some n) (hx : VR α (rd env x) (ρ x)) (hy : VR α (rd env y) (ρ y)) : Quiet P α o ρ env (.eqs neg n x y) := by
  intro H out he
  simp only [evI] at he
  split at he
  · rename_i a b e1 e2
    rw [e1] at hx; rw [e2] at hy
    split at he
    · rename_i hsz
      cases hr : alike n a.toList b.toList with
      | none => rw [hr] at he; cases he
      | some r =>
        rw [hr] at he
        simp only [Option.map_some, Option.some.injEq] at he
        refine ⟨_, _, he.symm, fun H2 => by simp only [evI, e1, e2]; rw [if_pos hsz, hr]; rfl, .bool _, fun w => .inl ?_⟩
        obtain ⟨a⟩ := a; obtain ⟨b⟩ := b
        generalize ea : ρ x = x' at hx
        generalize eb : ρ y = y' at hy
        cases hx with
        | agg ha =>
          cases hy with
          | agg hb =>
            rename_i a' b'
            have hal := alike_rel ha hb hr
            unfold flat at hf
            split at hf
            · rename_i fs hu
              split at hf
              · rename_i hc
                simp only [Bool.and_eq_true, Bool.not_eq_true'] at hc
                obtain ⟨c1, c2⟩ := hc
                have hlen := flatFields_length hf
                obtain ⟨D, hD⟩ := equal_step2
                have hla : a'.length = fs.toList.length := by rw [ha.length, ← hlen]; simpa using hsz.1
                have hlb : b'.length = fs.toList.length := by rw [hb.length, ← hlen]; simpa using hsz.2
                have hfe := fields_eq (P := P) (D := D) (xs := a') (ys := b') w fs.toList 0 n hf (by omega) (by omega) (by simpa using hal)
                have heq : (Op.equal t (.agg ⟨a'⟩) (.agg ⟨b'⟩)).run P w = .ok r w := by
                  rw [hD]
                  obtain ⟨D', hD'⟩ : ∃ D', D' = D + 1 := ⟨_, rfl⟩
                  rw [← hD'] at hfe ⊢
                  simp only [Op.equalIn, Sem.run_bind, run_und hu, Result.andThen_ok, run_program, c2, Bool.false_eq_true, if_false]
                  rw [← Array.forIn_toList, hfe]
                  cases r <;> rfl
                have hg : ∀ op, (eqGuard op t x y (.agg ⟨a'⟩) (.agg ⟨b'⟩)).run P w = .ok () w := by
                  intro op
                  cases op <;> simp [eqGuard, c1]
                simp only [execOp, ho, ea, eb, Sem.run_bind, hg, Result.andThen_ok]
                cases neg <;> simp [Go.binOp, heq] <;> cases r <;> rfl
              · cases hf
            · cases hf
    · cases he
  · cases he

end
end Ve
end Go.Proofs.YtnociodpfmlglaaGreatDoor
