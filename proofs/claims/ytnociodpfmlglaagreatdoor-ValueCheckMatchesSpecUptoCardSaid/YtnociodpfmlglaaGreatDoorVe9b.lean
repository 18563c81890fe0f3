/-
  Operations on unsafe pointers: a Builder's check, and its text.
-/
import Derived.Test.YtnociodpfmlglaaGreatDoorVe9
import Derived.Lib.UnsafeStr
import Derived.Lib.Builder
set_option linter.unusedVariables false
set_option linter.unusedSimpArgs false
namespace Go.Proofs.YtnociodpfmlglaaGreatDoor
namespace Ve
open Go Go.RowKit

section
variable {P : Program} {α : Al} {ρ : Operand → Value} {env : Env} {w0 w : World} {H : Heap}

theorem q_eqp {o : Oper} {neg : Bool} {t ty e : TypeId} {j : TypeInfo} {x y : Operand} (ho : o.op = .binOp (if neg then .neq else .eql) t x y ty) (ht : P.underlying t = some (.pointer e)) (hj : P.info? e = some j)
    (hx : VR α (rd env x) (ρ x)) (hy : VR α (rd env y) (ρ y)) : Quiet P α o ρ env (.eqp neg x y) := by
  intro H out he
  have hq := q_eqn (P := P) (α := α) (ρ := ρ) (env := env) (k := .ptr) ho ht rfl (fun e => nomatch e) hx hy
  simp only [evI] at he
  split at he
  · rename_i i o1 i' o2 e1 e2
    split at he
    · rename_i hio
      obtain ⟨rfl, rfl⟩ := hio
      simp only [Option.some.injEq] at he
      refine ⟨_, _, he.symm, fun H2 => by simp [evI, e1, e2], .bool _, fun w => .inl ?_⟩
      rw [e1] at hx; rw [e2] at hy
      have hc : ∃ a : Addr, ρ x = .pointer (some a) ∧ ρ y = .pointer (some a) := by
        generalize ρ x = r at hx
        generalize ρ y = s at hy
        cases hx with
        | ptr h =>
          cases hy with
          | ptr h' => rw [h] at h'; cases h'; exact ⟨_, rfl, rfl⟩
      obtain ⟨a, h1, h2⟩ := hc
      have hg : ∀ op, (eqGuard op t x y (ρ x) (ρ y)).run P w = .ok () w := by
        intro op
        refine eqGuard_other w ?_ ?_
        · rintro c d ⟨h3, h4⟩; rw [h1] at h3; cases h3
        · intro h3 h4; rw [h1] at h3; cases h3
      rw [h1, h2] at hg
      simp only [execOp, ho, Sem.run_bind, h1, h2, hg, Result.andThen_ok]
      cases neg
      · simp only [Bool.false_eq_true, if_false, run_eql_ptr_same w a ht hj, Result.andThen_ok, Sem.run_pure]; rfl
      · simp only [if_true, Lib.run_neq_ptr_same w a ht hj, Result.andThen_ok, Sem.run_pure]; rfl
    · cases he
  · rename_i a hn e1 e2
    have := hq H out (by simp only [evI, e1, e2, isNil]; exact he)
    obtain ⟨v, v', h1, h2, h3, h4⟩ := this
    refine ⟨v, v', h1, fun H2 => ?_, h3, h4⟩
    have := h2 H2
    simp only [evI, e1, e2, isNil] at this ⊢
    exact this
  · rename_i b hn e1 e2
    cases b with
    | none => (simp only [e1, e2] at hn; first | exact hn.elim | exact (hn _ rfl rfl).elim | exact (hn rfl).elim | simp_all)
    | some b =>
      obtain ⟨v, v', h1, h2, h3, h4⟩ := hq H out (by
        simp only [evI, e1, e2, isNil]
        exact he)
      refine ⟨v, v', h1, fun H2 => ?_, h3, h4⟩
      have := h2 H2
      simp only [evI, e1, e2, isNil] at this ⊢
      exact this
  · cases he

theorem shape_of {w : World} {b : Nat} {cs : List Value} {ty : TypeId} {fr : Nat × Nat} (h : w.heap[b]? = some (.cells ⟨cs⟩ ty fr)) : w.shape? b = some (ty, cs.length) := by
  simp [World.shape?, h]

theorem l_uof {o : Oper} {s d t : TypeId} {n : Nat} {x : Operand} {out : Out} (ho : o.op = .convert s d x) (hs1 : P.underlying s = some (.pointer t)) (hd : P.underlying d = some .unsafePointer) (hn : cells? P t = some (n + 1))
    (hx : VR α (rd env x) (ρ x)) (hs : Sim α w0 H w) (he : evI env H (.uof x) = some out) : Loud P α w0 w o ρ out := by
  simp only [evI] at he
  split at he
  · rename_i e1
    rw [e1] at hx
    simp only [Option.some.injEq] at he
    refine ⟨α, _, .pointer none, _, w, he.symm, Al.le_refl _, .pnil, hs, .inl ?_⟩
    generalize hr : ρ x = r at hx
    cases hx
    simp [execOp, ho, hr, Go.convert, run_und hs1, run_und hd, Conv.unsafePointer]
  · rename_i i k sp e1
    rw [e1] at hx
    split at he
    · rename_i c m fz hb
      split at he
      · rename_i hk
        simp only [Option.some.injEq] at he
        generalize hr : ρ x = r at hx
        cases hx with
        | ptr h =>
          rename_i b sh
          refine ⟨α, _, _, _, w, he.symm, Al.le_refl _, .ptr h, hs, .inl ?_⟩
          obtain ⟨b', sh', pre, c', post, ty, lo, hi, h1, h2, h3, h4, h5, h6⟩ := hs.blk i _ hb
          rw [h] at h1; cases h1
          have hl := h4.length
          cases hj : P.info? t with
          | none => simp [cells?, hj] at hn
          | some j =>
            have hjs : j.size ≠ 0 := by simp [cells?, hj] at hn; omega
            have := Lib.run_to_unsafe (P := P) w ⟨b, sh + k, none⟩ hs1 hd hj hjs (shape_of h2) (by simp; omega)
            simp only [execOp, ho, hr, Sem.run_bind, this, Result.andThen_ok, Sem.run_pure]
      · cases he
    · cases he
  · cases he

theorem l_upt {o : Oper} {s d u : TypeId} {j : TypeInfo} {x : Operand} {out : Out} (ho : o.op = .convert s d x) (hs1 : P.underlying s = some .unsafePointer) (hd : P.underlying d = some (.pointer u)) (hj : P.info? u = some j)
    (hx : VR α (rd env x) (ρ x)) (hs : Sim α w0 H w) (he : evI env H (.upt (typesAt P u) x) = some out) : Loud P α w0 w o ρ out := by
  simp only [evI] at he
  split at he
  · rename_i e1
    rw [e1] at hx
    simp only [Option.some.injEq] at he
    refine ⟨α, _, .pointer none, _, w, he.symm, Al.le_refl _, .pnil, hs, .inl ?_⟩
    generalize hr : ρ x = r at hx
    cases hx
    simp [execOp, ho, hr, Go.convert, run_und hs1, run_und hd, Conv.unsafePointer]
  · rename_i i sp e1
    rw [e1] at hx
    split at he
    · rename_i c t fz hb
      split at he
      · rename_i hk
        simp only [Option.some.injEq] at he
        generalize hr : ρ x = r at hx
        cases hx with
        | ptr h =>
          rename_i b sh
          refine ⟨α, _, _, _, w, he.symm, Al.le_refl _, .ptr h, hs, .inl ?_⟩
          obtain ⟨b', sh', pre, c', post, ty, lo, hi, h1, h2, h3, h4, h5, h6⟩ := hs.blk i _ hb
          rw [h] at h1; cases h1
          obtain ⟨_, _, _, _, h7⟩ := h6 (by simp)
          obtain ⟨rfl, rfl, rfl⟩ := h7 t rfl
          have hl := h4.length
          have hmem : (ty, c.length) ∈ typesAt P u := by simpa using hk
          simp only [typesAt, List.mem_filterMap, List.mem_range] at hmem
          obtain ⟨t2, _, h8⟩ := hmem
          split at h8
          · rename_i h9
            simp only [Option.some.injEq, Prod.mk.injEq] at h8
            obtain ⟨rfl, h8⟩ := h8
            simp only [List.length_nil] at h3
            subst h3
            have hdiv : ([] ++ c' ++ [] : List Value).length / P.cellsOf t2 = 1 := by
              simp only [List.nil_append, List.append_nil, hl, ← h8]
              exact Nat.div_self h9.1
            have := Lib.run_from_unsafe (P := P) w ⟨b, 0 + 0, none⟩ hs1 hd hj (shape_of h2) (by rw [hdiv]; exact h9.2)
            simp only [execOp, ho, hr, Sem.run_bind, this, Result.andThen_ok, Sem.run_pure]
          · cases h8
      · cases he
    · cases he
  · cases he

theorem l_uslice {o : Oper} {c : Call} {x : Operand} {out : Out} (ho : o.op = .call c) (hb : c.callee = .builtin .unsafeSliceData) (ha : c.args.toList = [x])
    (hx : VR α (rd env x) (ρ x)) (hs : Sim α w0 H w) (he : evI env H (.uslice x) = some out) : Loud P α w0 w o ρ out := by
  have hexec : ∀ v, ρ x = v → ∀ r, (Builtin.unsafeSliceData_ c.argTypes o.type #[v]).run P w = .ok r w → (execOp ρ o).run P w = .ok (.value r) w := by
    intro v hv r h
    rw [builtin_exec ho hb, args_one ha, hv]
    simp only [Go.builtin, Sem.run_bind, h, Result.andThen_ok, Sem.run_pure]
  simp only [evI] at he
  split at he
  · rename_i n cc e1
    rw [e1] at hx
    simp only [Option.some.injEq] at he
    generalize hr : ρ x = r at hx
    cases hx
    exact ⟨α, _, _, _, w, he.symm, Al.le_refl _, .pnil, hs, .inl (hexec _ hr _ rfl)⟩
  · rename_i i k sp n cc e1
    rw [e1] at hx
    split at he
    · rename_i h0
      simp only [Option.some.injEq] at he
      generalize hr : ρ x = r at hx
      cases hx with
      | slx h hn hoo =>
        rcases hoo with rfl | hoo
        · exact ⟨α, _, _, _, w, he.symm, Al.le_refl _, .ptr h, hs, .inl (hexec _ hr _ (Lib.run_unsafeSliceData_row w _ _ _ _ _ h0))⟩
        · omega
      | slz a => exact absurd rfl h0
      | sli h hn hcc hoo htt =>
        rcases hoo with rfl | hoo
        · exact ⟨α, _, _, _, w, he.symm, Al.le_refl _, .ptr h, hs, .inl (hexec _ hr _ (Lib.run_unsafeSliceData_row w _ _ _ _ _ (by omega)))⟩
        · omega
    · cases he
  · cases he

theorem liesAt_row {e : TypeId} (hc : P.cellsOf e = 1) (count off n : Nat) (hn : off + n ≤ count) : liesAt P P.depth e count off e n = true := by
  have hd : P.depth = (2 * (P.types.size + Made.depth) + 1) + 1 := rfl
  rw [hd]
  simp only [liesAt, Bool.or_eq_true]
  left
  rw [hd]
  simp [rowAt, hc, hn, sameLayout, Nat.mod_one]

theorem loadBytes_run {b : Nat} {cs : List Value} {ty : TypeId} {fr : Nat × Nat} (h : w.heap[b]? = some (.cells ⟨cs⟩ ty fr)) : ∀ (ns : List Int) (k : Nat) (acc : ByteArray), (cs.drop k).take ns.length = ns.map (Value.int .u8) →
    (loadBytes ⟨b, k, none⟩ acc ns.length).run P w = .ok ⟨acc.data ++ (ns.map fun n => UInt8.ofNat n.toNat).toArray⟩ w
  | [], k, acc, _ => by simp [loadBytes]
  | n :: ns, k, acc, hk => by
    cases hd : cs.drop k with
    | nil => rw [hd] at hk; simp at hk
    | cons v r =>
      rw [hd] at hk
      simp only [List.length_cons, List.take_succ_cons, List.map_cons, List.cons.injEq] at hk
      have hv : cs[k]? = some (.int .u8 n) := by
        have : (cs.drop k)[0]? = some v := by rw [hd]; rfl
        rw [List.getElem?_drop] at this
        rw [← hk.1]; simpa using this
      have hc : w.cell? ⟨b, k, none⟩ = some (.int .u8 n) := by rw [cell?_of h]; exact hv
      have hdrop : cs.drop (k + 1) = r := by
        rw [← List.drop_drop, hd]; rfl
      have ih := loadBytes_run h ns (k + 1) (acc.push n.toNat.toUInt8) (by rw [hdrop]; exact hk.2)
      have hadd : (⟨b, k, none⟩ : Addr).add 1 = ⟨b, k + 1, none⟩ := by simp [Addr.add]
      simp only [List.length_cons, loadBytes, Sem.run_bind, run_load, hc, Result.andThen, hadd]
      rw [ih]
      congr 1
      apply ByteArray.ext
      simp [ByteArray.push]

theorem freeze_heap {b k n : Nat} {cs : Array Value} {ty : TypeId} {lo hi : Nat} (h : w.heap[b]? = some (.cells cs ty (lo, hi))) (hn : n ≠ 0) :
    ∃ fr : Nat × Nat, (w.freeze ⟨b, k, none⟩ n).heap[b]? = some (.cells cs ty fr) ∧ fr.2 ≤ max hi (k + n) := by
  unfold World.freeze
  rw [if_neg hn]
  simp only [Array.getElem?_modify, if_true, h, Option.map_some]
  by_cases e : (lo == hi) = true
  · rw [if_pos e]
    exact ⟨_, rfl, by simp only; omega⟩
  · rw [if_neg e]
    exact ⟨_, rfl, by simp only; omega⟩

theorem freeze_ne {b k n j : Nat} (h : j ≠ b) : (w.freeze ⟨b, k, none⟩ n).heap[j]? = w.heap[j]? := by
  unfold World.freeze
  split
  · rfl
  · simp only [Array.getElem?_modify]
    rw [if_neg (fun e => h e.symm)]

/-- The call of unsafe.String, with its length at hand. -/
theorem ustr_eq {ts : Array TypeId} {ty pt : TypeId} {k : IntKind} {m : Int} (hpt : ts[0]? = some pt) (h0 : 0 ≤ m) (h1 : m ≤ 9223372036854775807) (a : Option Addr) :
    (Builtin.unsafeString_ ts ty #[.pointer a, .int k m]).run P w =
      (if m = 0 then pure (.string .empty) else
        match a with
        | none => runtimePanic (.error "unsafe.String: ptr is nil and len is not zero")
        | some a => do
          if ← variablesAt a (← elemOf pt) m.toNat then do
            let s ← loadBytes a .empty m.toNat
            freeze a m.toNat
            pure (Value.string s)
          else unsupported (.unsafePointer "String: not so many bytes at ptr") : Sem Value).run P w := by
  have e1 : ¬ m < 0 := by omega
  have e2 : ¬ m > IntKind.i64.max := by have : IntKind.i64.max = 9223372036854775807 := rfl; omega
  cases a with
  | none =>
    change (do
      let n ← asInt (.int k m)
      let some pt := ts[0]? | stuck "unsafe.String: no argument types"
      if n < 0 then runtimePanic (.error "unsafe.String: len out of range")
      if n > IntKind.i64.max then unsupported (.unsafePointer "String: a length above the largest int")
      if n = 0 then pure (.string .empty) else runtimePanic (.error "unsafe.String: ptr is nil and len is not zero") : Sem Value).run P w = _
    simp only [asInt, asIntOf, Sem.run_bind, Sem.run_pure, Result.andThen_ok, hpt, if_neg e1, if_neg e2]
  | some a =>
    change (do
      let n ← asInt (.int k m)
      let some pt := ts[0]? | stuck "unsafe.String: no argument types"
      if n < 0 then runtimePanic (.error "unsafe.String: len out of range")
      if n > IntKind.i64.max then unsupported (.unsafePointer "String: a length above the largest int")
      if n = 0 then pure (.string .empty)
      else if ← variablesAt a (← elemOf pt) n.toNat then do
        let s ← loadBytes a .empty n.toNat
        freeze a n.toNat
        pure (.string s)
      else unsupported (.unsafePointer "String: not so many bytes at ptr") : Sem Value).run P w = _
    simp only [asInt, asIntOf, Sem.run_bind, Sem.run_pure, Result.andThen_ok, hpt, if_neg e1, if_neg e2]

theorem l_ustr {o : Oper} {c : Call} {e : TypeId} {p n : Operand} {out : Out} (ho : o.op = .call c) (hb : c.callee = .builtin .unsafeString) (ha : c.args.toList = [p, n]) (ht : (c.argTypes[0]?).bind P.underlying = some (.pointer e)) (hc1 : P.cellsOf e = 1)
    (hp : VR α (rd env p) (ρ p)) (hn : VR α (rd env n) (ρ n)) (hs : Sim α w0 H w) (he : evI env H (.ustr e p n) = some out) : Loud P α w0 w o ρ out := by
  obtain ⟨pt, hpt, hpu⟩ := argType ht
  have hmax : IntKind.i64.max = 9223372036854775807 := rfl
  have hexec : ∀ a b, ρ p = .pointer a → ρ n = b → ∀ r w', (Builtin.unsafeString_ c.argTypes o.type #[.pointer a, b]).run P w = .ok r w' → (execOp ρ o).run P w = .ok (.value r) w' := by
    intro a b h1 h2 r w' h
    rw [builtin_exec ho hb, args_two ha, h1, h2]
    simp only [Go.builtin, Sem.run_bind, h, Result.andThen_ok, Sem.run_pure]
  simp only [evI] at he
  split at he
  · rename_i k m e1 e2
    rw [e1] at hp; rw [e2] at hn
    split at he
    · rename_i h0
      subst h0
      simp only [Option.some.injEq] at he
      generalize hr : ρ p = r at hp
      cases hp
      refine ⟨α, _, .string .empty, _, w, he.symm, Al.le_refl _, .str _, hs, .inl (hexec _ _ hr hn.int_inv _ _ ?_)⟩
      rw [ustr_eq hpt (by omega) (by omega), if_pos rfl]; rfl
    · cases he
  · rename_i i k sp ik m e1 e2
    rw [e1] at hp; rw [e2] at hn
    generalize hr : ρ p = r at hp
    cases hp with
    | ptr h =>
      rename_i b sh
      split at he
      · rename_i h0
        subst h0
        simp only [Option.some.injEq] at he
        refine ⟨α, _, .string .empty, _, w, he.symm, Al.le_refl _, .str _, hs, .inl (hexec _ _ hr hn.int_inv _ _ ?_)⟩
        rw [ustr_eq hpt (by omega) (by omega), if_pos rfl]; rfl
      · rename_i h0
        split at he
        · cases he
        · rename_i hr1
          split at he
          · rename_i cs t fz hbk
            split at he
            · rename_i hcnd
              obtain ⟨rfl, hle⟩ := hcnd
              cases hbs : toBytes ((cs.drop k).take m.toNat) with
              | none => rw [hbs] at he; cases he
              | some bs =>
                rw [hbs] at he
                simp only [Option.map_some, Option.some.injEq] at he
                obtain ⟨b', sh', pre, c', post, ty, lo, hi, h1, h2, h3, h4, h5, h6⟩ := hs.blk i _ hbk
                rw [h] at h1; cases h1
                obtain ⟨h7, h8, h9, h10, h11⟩ := h6 (by simp)
                obtain ⟨rfl, hhi⟩ := h10 e rfl
                have hl := h4.length
                obtain ⟨ns, g1, g2⟩ := toBytes_rel ((h4.drop k).take m.toNat) hbs
                have hnl : ns.length = m.toNat := by
                  have := congrArg List.length g1
                  simp at this
                  omega
                have hdt : ((pre ++ c' ++ post).drop (sh + k)).take ns.length = ns.map (Value.int .u8) := by
                  rw [← g1, hnl, ← h3]
                  rw [List.append_assoc, List.drop_append, List.drop_of_length_le (by omega)]
                  rw [show pre.length + k - pre.length = k by omega, List.drop_append, show k - c'.length = 0 by omega]
                  simp only [List.nil_append, List.drop_zero]
                  rw [List.take_append_of_le_length (by simp; omega)]
                have hrun := loadBytes_run (P := P) h2 ns (sh + k) .empty hdt
                have hm0 : m.toNat ≠ 0 := by omega
                obtain ⟨fr, f1, f2⟩ := freeze_heap (k := sh + k) (n := m.toNat) h2 hm0
                have hstr : (Builtin.unsafeString_ c.argTypes o.type #[.pointer (some ⟨b, sh + k, none⟩), .int ik m]).run P w = .ok (strOf bs) (w.freeze ⟨b, sh + k, none⟩ m.toNat) := by
                  have hlies := liesAt_row (P := P) hc1 ((pre ++ c' ++ post).length / P.cellsOf ty) (sh + k) m.toNat (by rw [hc1, Nat.div_one]; simp; omega)
                  rw [hnl] at hrun
                  have hneg : ¬ m < 0 := by omega
                  have hbig : ¬ (9223372036854775807 : Int) < m := by omega
                  have hse : (⟨(ns.map fun n => UInt8.ofNat n.toNat).toArray⟩ : ByteArray) = ⟨⟨bs⟩⟩ := by rw [g2]
                  have hlen2 : (pre ++ c' ++ post).length = pre.length + (c'.length + post.length) := by simp
                  rw [hlen2] at hlies
                  rw [ustr_eq hpt (by omega) (by omega), if_neg h0]
                  simp [variablesAt, shape_of h2, elemOf, run_und hpu, hlies, hrun, strOf, g2]
                refine ⟨α, _, _, _, _, he.symm, Al.le_refl _, .str _, ?_, .inl (hexec _ _ hr hn.int_inv _ _ hstr)⟩
                refine hs.turn hbk rfl h ?_ (Lib.below_freeze hs.below h7 _) ?_ (fun j hj => freeze_ne hj)
                · obtain ⟨lo', hi'⟩ := fr
                  refine ⟨b, sh, pre, c', post, ty, lo', hi', h, f1, h3, h4, fun e => (nomatch e), fun _ => ⟨h7, ?_, h9, ?_, fun _ e => nomatch e⟩⟩
                  · intro j hj1 hj2 hj3
                    simp only at f2
                    have : Nat.max fz (k + m.toNat) ≥ fz := Nat.le_max_left _ _
                    have : Nat.max fz (k + m.toNat) ≥ k + m.toNat := Nat.le_max_right _ _
                    omega
                  · intro t ht
                    have : Nat.max fz (k + m.toNat) ≥ fz := Nat.le_max_left _ _
                    have : Nat.max fz (k + m.toNat) ≥ k + m.toNat := Nat.le_max_right _ _
                    simp only at f2
                    exact ⟨by injection ht with ht; injection ht, by omega⟩
                · unfold World.freeze; split <;> simp
            · cases he
          · cases he
  · cases he

end
end Ve
end Go.Proofs.YtnociodpfmlglaaGreatDoor
