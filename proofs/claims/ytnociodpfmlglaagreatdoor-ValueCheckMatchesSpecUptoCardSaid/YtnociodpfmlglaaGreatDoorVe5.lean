/-
  Operations that don't look at memory, second part: cuts, places, parts, lengths.
-/
import Derived.Test.YtnociodpfmlglaaGreatDoorVe4
set_option linter.unusedVariables false
set_option linter.unusedSimpArgs false
namespace Go.Proofs.YtnociodpfmlglaaGreatDoor
namespace Ve
open Go Go.RowKit
section
variable {P : Program} {α : Al} {ρ : Operand → Value} {env : Env}

theorem asNat_run {y n : Nat} {v v' : Value} (h : VR α v v') (hn : asNat y v = some n) (c : BoundsCode) {y' : Nat} (hy : y ≤ y') (w : World) : (Instr.sliceBound v' y' c).run P w = .ok n w ∧ n ≤ y := by
  unfold asNat at hn
  split at hn
  · rename_i k m
    split at hn
    · rename_i hc
      cases hn
      rw [h.int_inv]
      have : (0 : Int) ≤ m ∧ m ≤ (y' : Int) := ⟨hc.1, by omega⟩
      refine ⟨?_, by omega⟩
      simp [Instr.sliceBound, asIntOf, this]
    · cases hn
  · cases hn

theorem bound_none {y d n : Nat} (h : bound env y d none = some n) : n = d := by simp [bound] at h; exact h.symm
theorem bound_some {y d n : Nat} {x : Operand} (h : bound env y d (some x) = some n) : asNat y (rd env x) = some n := by simpa [bound] using h

theorem extract_bytes (s : ByteArray) (l h : Nat) : s.extract l h = ⟨⟨((bytesOf s).take h).drop l⟩⟩ := by
  apply ByteArray.ext
  apply Array.ext'
  rw [Lib.extract_data]
  simp [bytesOf, List.drop_take]

theorem q_slstr {o : Oper} {t : TypeId} {x : Operand} {lo hi : Option Operand} (ho : o.op = .slice t x lo hi none) (ht : P.underlying t = some .string) (hx : VR α (rd env x) (ρ x))
    (hl : ∀ y, lo = some y → VR α (rd env y) (ρ y)) (hh : ∀ y, hi = some y → VR α (rd env y) (ρ y)) : Quiet P α o ρ env (.slstr x lo hi) := by
  cases e : rd env x with
  | string s =>
    refine quiet_of (r := strCut s env lo hi) (fun H => by simp [evI, e]) fun v hv => ⟨v, ?_, fun w => ?_⟩
    · unfold strCut at hv
      split at hv
      · cases hv
      · split at hv
        · cases hv
        · cases hv; exact .str _
    · rw [e] at hx
      unfold strCut at hv
      split at hv
      · cases hv
      · rename_i h hb
        split at hv
        · cases hv
        · rename_i l hb2
          cases hv
          have e1 : ((match hi.map ρ, (none : Option Value) with
              | some v, some _ => Instr.sliceBound v s.size .slice3B
              | some v, none => Instr.sliceBound v s.size (if false = true then .sliceAcap else .sliceAlen)
              | none, none => pure s.size
              | none, some _ => stuck "Slice: max without high")).run P w = .ok h w ∧ h ≤ s.size := by
            cases hi with
            | none => have := bound_none hb; subst this; exact ⟨rfl, Nat.le_refl _⟩
            | some y => exact asNat_run (hh y rfl) (bound_some hb) _ (Nat.le_refl _) w
          have e2 : ((match lo.map ρ with
              | some v => Instr.sliceBound v h (if (none : Option Value).isSome then .slice3C else .sliceB)
              | none => pure 0)).run P w = .ok l w ∧ l ≤ h := by
            cases lo with
            | none => have := bound_none hb2; subst this; exact ⟨rfl, Nat.zero_le _⟩
            | some y => exact asNat_run (hl y rfl) (bound_some hb2) _ (Nat.le_refl _) w
          have e3 : (Instr.sliceBounds false s.size s.size (lo.map ρ) (hi.map ρ) none).run P w = .ok (l, h, s.size) w := by
            have g1 := e1.1
            have g2 := e2.1
            unfold Instr.sliceBounds
            simp only [Sem.run_bind, Sem.run_pure, Result.andThen_ok]
            cases hi <;> cases lo <;> simp_all
          simp only [execOp, ho, Instr.sliceAt, Sem.run_bind, run_und ht, Result.andThen_ok, hx.str_inv, Instr.slice, Option.map_none]
          simp only [Option.isSome_none, Bool.false_eq_true, if_false, Sem.run_bind, e3, Result.andThen_ok, Sem.run_pure]
          congr 3
          exact extract_bytes s l h
  | _ => intro H out he; simp [evI, e] at he

/-- The bounds of a cut, run. -/
theorem bounds_run {isS : Bool} {len cap cap' m h l : Nat} {lo hi mx : Option Operand} (hl : ∀ y, lo = some y → VR α (rd env y) (ρ y)) (hh : ∀ y, hi = some y → VR α (rd env y) (ρ y))
    (hm : ∀ y, mx = some y → VR α (rd env y) (ρ y)) (b1 : bound env cap cap mx = some m) (b2 : bound env m (if mx.isSome then m + 1 else len) hi = some h) (b3 : bound env h 0 lo = some l) (hmh : h ≤ m) (hc : cap ≤ cap') (w : World) :
    (Instr.sliceBounds isS len cap' (lo.map ρ) (hi.map ρ) (mx.map ρ)).run P w = .ok (l, h, if mx.isSome then m else cap') w ∧ l ≤ h ∧ m ≤ cap ∧ (mx = none → m = cap) := by
  have e3 : ∀ c w, ((match lo.map ρ with
      | some v => Instr.sliceBound v h c
      | none => pure 0)).run P w = .ok l w ∧ l ≤ h := by
    intro c w
    cases lo with
    | none => have := bound_none b3; subst this; exact ⟨rfl, Nat.zero_le _⟩
    | some y => exact asNat_run (hl y rfl) (bound_some b3) _ (Nat.le_refl _) w
  cases mx with
  | none =>
    have hm' := bound_none b1
    subst hm'
    have e2 : ∀ c w, ((match hi.map ρ with
        | some v => Instr.sliceBound v cap' c
        | none => pure len)).run P w = .ok h w := by
      intro c w
      cases hi with
      | none => have := bound_none b2; simp at this; subst this; rfl
      | some y => exact (asNat_run (hh y rfl) (bound_some b2) c hc w).1
    refine ⟨?_, (e3 .sliceB w).2, Nat.le_refl _, fun _ => rfl⟩
    unfold Instr.sliceBounds
    have g2 := e2 (if isS then .sliceAcap else .sliceAlen) w
    have g3 := (e3 .sliceB w).1
    cases hi <;> cases lo <;> simp_all
  | some z =>
    obtain ⟨g1, g1'⟩ := asNat_run (P := P) (hm z rfl) (bound_some b1) (if isS then .slice3Acap else .slice3Alen) hc w
    cases hi with
    | none => have := bound_none b2; simp at this; omega
    | some y =>
      obtain ⟨g2, _⟩ := asNat_run (P := P) (hh y rfl) (bound_some b2) .slice3B (Nat.le_refl _) w
      have g3 := (e3 .slice3C w).1
      refine ⟨?_, (e3 .slice3C w).2, g1', fun e => by cases e⟩
      unfold Instr.sliceBounds
      cases lo <;> simp_all

theorem add_addr (b o n : Nat) : (⟨b, o, none⟩ : Addr).add n = ⟨b, o + n, none⟩ := add_none b o n

theorem slslV_run {size : Nat} {x x' : Value} {lo hi mx : Option Operand} {v : Value} (hv : slslV size x env lo hi mx = some v) (hx : VR α x x')
    (hl : ∀ y, lo = some y → VR α (rd env y) (ρ y)) (hh : ∀ y, hi = some y → VR α (rd env y) (ρ y)) (hm : ∀ y, mx = some y → VR α (rd env y) (ρ y)) :
    ∃ a len cap, x' = .slice a len cap ∧ ∃ v', VR α v v' ∧ ∀ isS w, ∃ l h m, (Instr.sliceBounds isS len cap (lo.map ρ) (hi.map ρ) (mx.map ρ)).run P w = .ok (l, h, m) w ∧
      v' = .slice (if m = l then a else a.map (·.add (l * size))) (h - l) (m - l) := by
  unfold slslV at hv
  split at hv
  · rename_i a len cap
    split at hv
    · cases hv
    · rename_i m b1
      split at hv
      · cases hv
      · rename_i h b2
        split at hv
        · cases hv
        · rename_i hmh
          split at hv
          · cases hv
          · rename_i l b3
            cases hx with
            | snil n c =>
              simp only [Option.some.injEq] at hv
              subst hv
              refine ⟨none, len, cap, rfl, _, .snil _ _, fun isS w => ?_⟩
              obtain ⟨r, h1, h2, h3⟩ := bounds_run (P := P) (isS := isS) hl hh hm b1 b2 b3 (by omega) (Nat.le_refl cap) w
              refine ⟨l, h, _, r, ?_⟩
              cases mx with
              | none => simp [h3 rfl]
              | some z => simp
            | slx h0 hn hoo =>
              rename_i i o b sh o'
              simp only [Option.some.injEq] at hv
              subst hv
              obtain ⟨r, h1, h2, h3⟩ := bounds_run (P := P) (isS := true) hl hh hm b1 b2 b3 (by omega) (Nat.le_refl cap) default
              refine ⟨some ⟨b, o', none⟩, len, cap, rfl, .slice (if m = l then some ⟨b, o', none⟩ else (some ⟨b, o', none⟩ : Option Addr).map (·.add (l * size))) (h - l) (m - l), ?_, fun isS w => ?_⟩
              · by_cases e : m = l
                · subst e
                  simp only [if_true]
                  exact .slx h0 (by omega) (.inr (by omega))
                · simp only [if_neg e, Option.map_some, add_addr]
                  refine .slx h0 (by omega) ?_
                  rcases hoo with hoo | hoo
                  · left; omega
                  · right; omega
              · obtain ⟨r, _, _, _⟩ := bounds_run (P := P) (isS := isS) hl hh hm b1 b2 b3 (by omega) (Nat.le_refl cap) w
                refine ⟨l, h, _, r, ?_⟩
                cases mx with
                | none => simp [h3 rfl]
                | some z => simp
            | slz a =>
              simp only [Option.some.injEq] at hv
              subst hv
              obtain ⟨r, h1, h2, h3⟩ := bounds_run (P := P) (isS := true) hl hh hm b1 b2 b3 (by omega) (Nat.le_refl 0) default
              have hm0 : m = 0 := by omega
              have hh0 : h = 0 := by omega
              have hl0 : l = 0 := by omega
              subst hm0; subst hh0; subst hl0
              refine ⟨some a, 0, 0, rfl, .slice (some a) 0 0, ?_, fun isS w => ?_⟩
              · simp only [if_true, Nat.sub_self]; exact .slz a
              · obtain ⟨r, _, _, _⟩ := bounds_run (P := P) (isS := isS) hl hh hm b1 b2 b3 (by omega) (Nat.le_refl 0) w
                exact ⟨0, 0, 0, by simpa using r, by simp⟩
            | sli h0 hn hcc hoo htt =>
              rename_i i o s b sh o' c'
              obtain ⟨r, h1, h2, h3⟩ := bounds_run (P := P) (isS := true) hl hh hm b1 b2 b3 (by omega) hcc default
              cases mx with
              | none =>
                have hmc := h3 rfl
                subst hmc
                simp only [Option.isSome_none, Bool.false_eq_true, if_false] at hv
                split at hv
                case isFalse => cases hv
                rename_i hss
                simp only [Option.some.injEq] at hv
                subst hv
                have hcl : l ≤ c' := by omega
                have hmul : (c' - l) * s + l * s = c' * s := by rw [← Nat.add_mul, Nat.sub_add_cancel hcl]
                refine ⟨some ⟨b, o', none⟩, len, c', rfl, .slice (if c' = l then some ⟨b, o', none⟩ else (some ⟨b, o', none⟩ : Option Addr).map (·.add (l * size))) (h - l) (c' - l), ?_, fun isS w => ?_⟩
                · subst hss
                  by_cases e : c' = l
                  · subst e
                    simp only [if_true]
                    refine .sli h0 (by omega) (by omega) (.inr (by omega)) ?_
                    rw [Nat.sub_self, Nat.zero_mul]; omega
                  · simp only [if_neg e, Option.map_some, add_addr]
                    refine .sli h0 (by omega) (by omega) ?_ (by omega)
                    rcases hoo with hoo | hoo
                    · left; omega
                    · right; omega
                · obtain ⟨r, _, _, _⟩ := bounds_run (P := P) (isS := isS) hl hh hm b1 b2 b3 (by omega) hcc w
                  exact ⟨l, h, _, r, by simp⟩
              | some z =>
                simp only [Option.isSome_some, if_true, Option.some.injEq] at hv
                subst hv
                refine ⟨some ⟨b, o', none⟩, len, c', rfl, .slice (if m = l then some ⟨b, o', none⟩ else (some ⟨b, o', none⟩ : Option Addr).map (·.add (l * size))) (h - l) (m - l), ?_, fun isS w => ?_⟩
                · by_cases e : m = l
                  · subst e
                    simp only [if_true]
                    exact .slx h0 (by omega) (.inr (by omega))
                  · simp only [if_neg e, Option.map_some, add_addr]
                    refine .slx h0 (by omega) ?_
                    rcases hoo with hoo | hoo
                    · left; omega
                    · omega
                · obtain ⟨r, _, _, _⟩ := bounds_run (P := P) (isS := isS) hl hh hm b1 b2 b3 (by omega) hcc w
                  exact ⟨l, h, _, r, by simp⟩
  · cases hv

theorem q_slsl {o : Oper} {t e : TypeId} {size : Nat} {x : Operand} {lo hi mx : Option Operand} (ho : o.op = .slice t x lo hi mx) (ht : P.underlying t = some (.slice e)) (hs : cells? P e = some size) (hx : VR α (rd env x) (ρ x))
    (hl : ∀ y, lo = some y → VR α (rd env y) (ρ y)) (hh : ∀ y, hi = some y → VR α (rd env y) (ρ y)) (hm : ∀ y, mx = some y → VR α (rd env y) (ρ y)) : Quiet P α o ρ env (.slsl size x lo hi mx) := by
  refine quiet_of (r := slslV size (rd env x) env lo hi mx) (fun H => rfl) fun v hv => ?_
  obtain ⟨a, len, cap, e1, v', hr, hrun⟩ := slslV_run (P := P) hv hx hl hh hm
  refine ⟨v', hr, fun w => ?_⟩
  obtain ⟨l, h, m, r1, r2⟩ := hrun true w
  simp only [execOp, ho, e1, Instr.sliceAt, Sem.run_bind, run_und ht, Result.andThen_ok, Instr.slice, r1, run_size hs, Sem.run_pure]
  rw [r2]

theorem q_slarr {o : Oper} {t e : TypeId} {n size : Nat} {x : Operand} {lo hi : Option Operand} (ho : o.op = .slice t x lo hi none) (ht : P.underlying t = some (.array n e)) (hs : cells? P e = some size) (hx : VR α (rd env x) (ρ x))
    (hl : ∀ y, lo = some y → VR α (rd env y) (ρ y)) (hh : ∀ y, hi = some y → VR α (rd env y) (ρ y)) : Quiet P α o ρ env (.slarr n size x lo hi) := by
  intro H out he
  simp only [evI] at he
  split at he
  · rename_i i k s e1
    rw [e1] at hx
    cases hv : slslV size (.slice (some ⟨i, k, none⟩) n n) env lo hi none with
    | none => rw [hv] at he; cases he
    | some v =>
      rw [hv] at he
      simp only [ret, Option.map_some, Option.some.injEq] at he
      have hx' : ∃ b sh, α i = some (b, sh) ∧ ρ x = .pointer (some ⟨b, sh + k, none⟩) := by
        generalize ρ x = r at hx
        cases hx with
        | ptr h => exact ⟨_, _, h, rfl⟩
      obtain ⟨b, sh, ha, hp⟩ := hx'
      obtain ⟨a, len, cap, e2, v', hr, hrun⟩ := slslV_run (P := P) (ρ := ρ) hv (.slx ha (Nat.le_refl n) (.inl rfl)) hl hh (fun y hy => by cases hy)
      cases e2
      refine ⟨v, v', he.symm, fun H2 => by simp only [evI, e1, hv]; rfl, hr, fun w => .inl ?_⟩
      obtain ⟨l, h, m, r1, r2⟩ := hrun false w
      simp only [Option.map_none] at r1
      simp only [execOp, ho, hp, Instr.sliceAt, Sem.run_bind, run_und ht, Result.andThen_ok, Instr.sureAddr, Option.map_none, r1, run_size hs, Sem.run_pure]
      rw [r2]
      split <;> rfl
  · cases he

theorem q_faddr {o : Oper} {s : TypeId} {x : Operand} {k n : Nat} {f : Field} (ho : o.op = .fieldAddr s x k) (hf : fieldOf P s k = some f) (hs : cells? P f.type = some (n + 1)) (hx : VR α (rd env x) (ρ x)) : Quiet P α o ρ env (.faddr f.offset x) := by
  intro H out he
  simp only [evI] at he
  split at he
  · rename_i i j sp e
    rw [e] at hx
    simp only [Option.some.injEq] at he
    unfold fieldOf at hf
    split at hf
    · rename_i fs hu
      generalize hr : ρ x = r at hx
      cases hx with
      | ptr h =>
        rename_i b sh
        refine ⟨_, .pointer (some ⟨b, sh + (j + f.offset), none⟩), he.symm, fun H2 => by simp [evI, e], .ptr h, fun w => .inl ?_⟩
        simp only [execOp, ho, hr, Instr.fieldAt, Sem.run_bind, run_und hu, Result.andThen_ok, hf, Instr.sureAddr, Sem.run_pure, fieldPlace, run_size hs]
        simp [add_addr, Nat.add_assoc]
    · cases hf
  · cases he

theorem part_run {t : TypeId} {n : Option Nat} (hs : shapeOf P t = some n) {l : List Value} {off : Nat} {v : Value} (hv : partV l off n = some v) (w : World) :
    (part t ⟨l⟩ off).run P w = .ok v w := by
  cases n with
  | none =>
    simp only [partV] at hv
    simp [part, run_isAgg_none hs, hv]
  | some n =>
    simp only [partV] at hv
    split at hv
    · cases hv
      obtain ⟨h1, h2⟩ := run_isAgg_some (w := w) hs
      simp only [part, Sem.run_bind, h1, Result.andThen_ok, if_true, h2, Sem.run_pure]
      congr 2
      apply Array.ext'
      simp [List.take_drop]
    · cases hv

theorem part_rel {l l' : List Value} (h : VRs α l l') {n : Option Nat} {off : Nat} {v : Value} (hv : partV l off n = some v) :
    ∃ v', partV l' off n = some v' ∧ VR α v v' := by
  cases n with
  | none => exact h.get hv
  | some n =>
    simp only [partV] at hv ⊢
    split at hv
    · cases hv
      rw [if_pos (by rw [h.length]; assumption)]
      exact ⟨_, rfl, .agg ((h.drop off).take n)⟩
    · cases hv

theorem q_field {o : Oper} {s : TypeId} {x : Operand} {k : Nat} {f : Field} {n : Option Nat} (ho : o.op = .field s x k) (hf : fieldOf P s k = some f) (hs : shapeOf P f.type = some n) (hx : VR α (rd env x) (ρ x)) : Quiet P α o ρ env (.field f.offset n x) := by
  cases e : rd env x with
  | agg cs =>
    obtain ⟨l⟩ := cs
    rw [e] at hx
    refine quiet_of (r := partV l f.offset n) (fun H => by simp [evI, e]) fun v hv => ?_
    unfold fieldOf at hf
    split at hf
    · rename_i fs hu
      generalize hr : ρ x = r at hx
      cases hx with
      | agg h =>
        obtain ⟨v', hv', hrel⟩ := part_rel h hv
        refine ⟨v', hrel, fun w => ?_⟩
        simp only [execOp, ho, hr, Instr.field, Sem.run_bind, run_und hu, Result.andThen_ok, hf, asAgg, Sem.run_pure, part_run hs hv']
    · cases hf
  | _ => intro H out he; simp [evI, e] at he

theorem q_iaddr {o : Oper} {t el : TypeId} {x i : Operand} {size : Nat} (ho : o.op = .indexAddr t x i) (ht : P.underlying t = some (.slice el)) (hs : cells? P el = some size) (hx : VR α (rd env x) (ρ x)) (hi : VR α (rd env i) (ρ i)) : Quiet P α o ρ env (.iaddr size x i) := by
  intro H out he
  simp only [evI] at he
  split at he
  · rename_i b k s len cap k' n e1 e2
    rw [e1] at hx; rw [e2] at hi
    split at he
    · rename_i hc
      simp only [Option.some.injEq] at he
      have hx' : ∃ c sh cap', α b = some (c, sh) ∧ ρ x = .slice (some ⟨c, sh + k, none⟩) len cap' := by
        generalize ρ x = r at hx
        cases hx with
        | slx h hn hoo => rcases hoo with rfl | hoo; exact ⟨_, _, _, h, rfl⟩; omega
        | slz a => omega
        | sli h hn hcc hoo htt => rcases hoo with rfl | hoo; exact ⟨_, _, _, h, rfl⟩; omega
      obtain ⟨c, sh, cap', ha, hr⟩ := hx'
      refine ⟨_, .pointer (some ⟨c, sh + (k + n.toNat * size), none⟩), he.symm, fun H2 => by simp [evI, e1, e2, hc], .ptr ha, fun w => .inl ?_⟩
      simp only [execOp, ho, hr, hi.int_inv, Instr.indexAt, asIntOf, Sem.run_bind, Sem.run_pure, run_und ht, Result.andThen_ok]
      simp [run_und ht, hc, run_size hs, add_addr, Nat.add_assoc]
    · cases he
  · cases he

theorem q_iarr {o : Oper} {t el : TypeId} {x i : Operand} {size len : Nat} (ho : o.op = .indexAddr t x i) (ht : P.underlying t = some (.array len el)) (hs : cells? P el = some size) (hx : VR α (rd env x) (ρ x)) (hi : VR α (rd env i) (ρ i)) : Quiet P α o ρ env (.iarr len size x i) := by
  intro H out he
  simp only [evI] at he
  split at he
  · rename_i b k s k' n e1 e2
    rw [e1] at hx; rw [e2] at hi
    split at he
    · rename_i hc
      simp only [Option.some.injEq] at he
      generalize hr : ρ x = r at hx
      cases hx with
      | ptr h =>
        rename_i c sh
        refine ⟨_, .pointer (some ⟨c, sh + (k + n.toNat * size), none⟩), he.symm, fun H2 => by simp [evI, e1, e2, hc], .ptr h, fun w => .inl ?_⟩
        simp only [execOp, ho, hr, hi.int_inv, Instr.indexAt, asIntOf, Sem.run_bind, Sem.run_pure, run_und ht, Result.andThen_ok, Instr.sureAddr]
        simp [run_und ht, hc, run_size hs, add_addr, Nat.add_assoc]
    · cases he
  · cases he

theorem q_ixstr {o : Oper} {t : TypeId} {x i : Operand} (ho : o.op = .index t x i) (ht : P.underlying t = some .string) (hx : VR α (rd env x) (ρ x)) (hi : VR α (rd env i) (ρ i)) : Quiet P α o ρ env (.ixstr x i) := by
  intro H out he
  simp only [evI] at he
  split at he
  · rename_i s k n e1 e2
    rw [e1] at hx; rw [e2] at hi
    split at he
    · rename_i hc
      cases hb : (bytesOf s)[n.toNat]? with
      | none => rw [hb] at he; cases he
      | some b =>
        rw [hb] at he
        simp only [ret, Option.map_some, Option.some.injEq] at he
        refine ⟨_, _, he.symm, fun H2 => by simp only [evI, e1, e2]; rw [if_pos hc, hb]; rfl, .int _ _, fun w => .inl ?_⟩
        have hg : s[n.toNat]? = some b := by
          have hlt := (List.getElem?_eq_some_iff.1 hb).1
          have hlt' : n.toNat < s.size := by simpa [bytesOf] using hlt
          rw [getElem?_pos s n.toNat hlt']
          have := (List.getElem?_eq_some_iff.1 hb).2
          rw [← this]; rfl
        simp only [execOp, ho, hx.str_inv, hi.int_inv, Instr.index, asIntOf, Sem.run_bind, Sem.run_pure, run_und ht, Result.andThen_ok]
        simp [hc, hg]
    · cases he
  · cases he

theorem q_ixagg {o : Oper} {t el : TypeId} {x i : Operand} {len size : Nat} {n : Option Nat} (ho : o.op = .index t x i) (ht : P.underlying t = some (.array len el)) (hz : cells? P el = some size) (hs : shapeOf P el = some n) (hx : VR α (rd env x) (ρ x)) (hi : VR α (rd env i) (ρ i)) :
    Quiet P α o ρ env (.ixagg len size n x i) := by
  cases e : rd env x with
  | agg cs =>
    obtain ⟨l⟩ := cs
    rw [e] at hx
    cases e2 : rd env i with
    | int k j =>
      rw [e2] at hi
      by_cases hc : 0 ≤ j ∧ j < (len : Int)
      · refine quiet_of (r := partV l (j.toNat * size) n) (fun H => ?_) fun v hv => ?_
        · simp [evI, e, e2, hc]
        · generalize hr : ρ x = r at hx
          cases hx with
          | agg h =>
            obtain ⟨v', hv', hrel⟩ := part_rel h hv
            refine ⟨v', hrel, fun w => ?_⟩
            simp only [execOp, ho, hr, hi.int_inv, Instr.index, asIntOf, Sem.run_bind, Sem.run_pure, run_und ht, Result.andThen_ok]
            simp [hc, run_size hz, part_run hs hv']
      · intro H out he; simp [evI, e, e2, hc] at he
    | _ => intro H out he; simp [evI, e, e2] at he
  | _ => intro H out he; simp [evI, e] at he

end
end Ve
end Go.Proofs.YtnociodpfmlglaaGreatDoor
