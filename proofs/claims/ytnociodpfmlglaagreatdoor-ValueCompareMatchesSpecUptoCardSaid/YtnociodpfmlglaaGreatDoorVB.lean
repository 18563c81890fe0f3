/-
  Operations that don't look at memory, second part: cuts, places, parts, lengths.
-/
import Derived.Test.YtnociodpfmlglaaGreatDoorVA
import Derived.Lib.ConvBytes
import Derived.Laws.IdiomStrings
import Derived.Laws.AppendOwn
import Derived.IntWalk
set_option linter.unusedVariables false
set_option linter.unusedSimpArgs false
namespace Go.Proofs.YtnociodpfmlglaaGreatDoor
namespace Ve
open Go Go.RowKit
section
variable {P : Program} {α : Al} {ρ : Operand → Value} {env : Env}

theorem asNat_run {y n : Nat} {v v' : Value} (h : VR α v v') (hn : asNat y v = some n) (c : BoundsCode) {y' : Nat} (hy : y ≤ y') (w : World) : (Instr.sliceBound v' y' c).run P w = .ok n w ∧ n ≤ y := by
  unfold asNat at hn
  split at hn
  · rename_i k m
    split at hn
    · rename_i hc
      cases hn
      rw [h.int_inv]
      have : (0 : Int) ≤ m ∧ m ≤ (y' : Int) := ⟨hc.1, by omega⟩
      refine ⟨?_, by omega⟩
      simp [Instr.sliceBound, asIntOf, this]
    · cases hn
  · cases hn

theorem bound_none {y d n : Nat} (h : bound env y d none = some n) : n = d := by simp [bound] at h; exact h.symm
theorem bound_some {y d n : Nat} {x : Operand} (h : bound env y d (some x) = some n) : asNat y (rd env x) = some n := by simpa [bound] using h

theorem extract_bytes (s : ByteArray) (l h : Nat) : s.extract l h = ⟨⟨((bytesOf s).take h).drop l⟩⟩ := by
  apply ByteArray.ext
  apply Array.ext'
  rw [Lib.extract_data]
  simp [bytesOf, List.drop_take]

theorem q_slstr {o : Oper} {t : TypeId} {x : Operand} {lo hi : Option Operand} (ho : o.op = .slice t x lo hi none) (ht : P.underlying t = some .string) (hx : VR α (rd env x) (ρ x))
    (hl : ∀ y, lo = some y → VR α (rd env y) (ρ y)) (hh : ∀ y, hi = some y → VR α (rd env y) (ρ y)) : Quiet P α o ρ env (.slstr x lo hi) := by
  cases e : rd env x with
  | string s =>
    refine quiet_of (r := strCut s env lo hi) (fun H => by simp [evI, e]) fun v hv => ⟨v, ?_, fun w => ?_⟩
    · unfold strCut at hv
      split at hv
      · cases hv
      · split at hv
        · cases hv
        · cases hv; exact .str _
    · rw [e] at hx
      unfold strCut at hv
      split at hv
      · cases hv
      · rename_i h hb
        split at hv
        · cases hv
        · rename_i l hb2
          cases hv
          have e1 : ((match hi.map ρ, (none : Option Value) with
              | some v, some _ => Instr.sliceBound v s.size .slice3B
              | some v, none => Instr.sliceBound v s.size (if false = true then .sliceAcap else .sliceAlen)
              | none, none => pure s.size
              | none, some _ => stuck "Slice: max without high")).run P w = .ok h w ∧ h ≤ s.size := by
            cases hi with
            | none => have := bound_none hb; subst this; exact ⟨rfl, Nat.le_refl _⟩
            | some y => exact asNat_run (hh y rfl) (bound_some hb) _ (Nat.le_refl _) w
          have e2 : ((match lo.map ρ with
              | some v => Instr.sliceBound v h (if (none : Option Value).isSome then .slice3C else .sliceB)
              | none => pure 0)).run P w = .ok l w ∧ l ≤ h := by
            cases lo with
            | none => have := bound_none hb2; subst this; exact ⟨rfl, Nat.zero_le _⟩
            | some y => exact asNat_run (hl y rfl) (bound_some hb2) _ (Nat.le_refl _) w
          have e3 : (Instr.sliceBounds false s.size s.size (lo.map ρ) (hi.map ρ) none).run P w = .ok (l, h, s.size) w := by
            have g1 := e1.1
            have g2 := e2.1
            unfold Instr.sliceBounds
            simp only [Sem.run_bind, Sem.run_pure, Result.andThen_ok]
            cases hi <;> cases lo <;> simp_all
          simp only [execOp, ho, Instr.sliceAt, Sem.run_bind, run_und ht, Result.andThen_ok, hx.str_inv, Instr.slice, Option.map_none]
          simp only [Option.isSome_none, Bool.false_eq_true, if_false, Sem.run_bind, e3, Result.andThen_ok, Sem.run_pure]
          congr 3
          exact extract_bytes s l h
  | _ => intro H out he; simp [evI, e] at he

/-- The bounds of a cut, run. -/
theorem bounds_run {isS : Bool} {len cap cap' m h l : Nat} {lo hi mx : Option Operand} (hl : ∀ y, lo = some y → VR α (rd env y) (ρ y)) (hh : ∀ y, hi = some y → VR α (rd env y) (ρ y))
    (hm : ∀ y, mx = some y → VR α (rd env y) (ρ y)) (b1 : bound env cap cap mx = some m) (b2 : bound env m (if mx.isSome then m + 1 else len) hi = some h) (b3 : bound env h 0 lo = some l) (hmh : h ≤ m) (hc : cap ≤ cap') (w : World) :
    (Instr.sliceBounds isS len cap' (lo.map ρ) (hi.map ρ) (mx.map ρ)).run P w = .ok (l, h, if mx.isSome then m else cap') w ∧ l ≤ h ∧ m ≤ cap ∧ (mx = none → m = cap) := by
  have e3 : ∀ c w, ((match lo.map ρ with
      | some v => Instr.sliceBound v h c
      | none => pure 0)).run P w = .ok l w ∧ l ≤ h := by
    intro c w
    cases lo with
    | none => have := bound_none b3; subst this; exact ⟨rfl, Nat.zero_le _⟩
    | some y => exact asNat_run (hl y rfl) (bound_some b3) _ (Nat.le_refl _) w
  cases mx with
  | none =>
    have hm' := bound_none b1
    subst hm'
    have e2 : ∀ c w, ((match hi.map ρ with
        | some v => Instr.sliceBound v cap' c
        | none => pure len)).run P w = .ok h w := by
      intro c w
      cases hi with
      | none => have := bound_none b2; simp at this; subst this; rfl
      | some y => exact (asNat_run (hh y rfl) (bound_some b2) c hc w).1
    refine ⟨?_, (e3 .sliceB w).2, Nat.le_refl _, fun _ => rfl⟩
    unfold Instr.sliceBounds
    have g2 := e2 (if isS then .sliceAcap else .sliceAlen) w
    have g3 := (e3 .sliceB w).1
    cases hi <;> cases lo <;> simp_all
  | some z =>
    obtain ⟨g1, g1'⟩ := asNat_run (P := P) (hm z rfl) (bound_some b1) (if isS then .slice3Acap else .slice3Alen) hc w
    cases hi with
    | none => have := bound_none b2; simp at this; omega
    | some y =>
      obtain ⟨g2, _⟩ := asNat_run (P := P) (hh y rfl) (bound_some b2) .slice3B (Nat.le_refl _) w
      have g3 := (e3 .slice3C w).1
      refine ⟨?_, (e3 .slice3C w).2, g1', fun e => by cases e⟩
      unfold Instr.sliceBounds
      cases lo <;> simp_all

theorem add_addr (b o n : Nat) : (⟨b, o, none⟩ : Addr).add n = ⟨b, o + n, none⟩ := add_none b o n

theorem slslV_run {size : Nat} {x x' : Value} {lo hi mx : Option Operand} {v : Value} (hv : slslV size x env lo hi mx = some v) (hx : VR α x x')
    (hl : ∀ y, lo = some y → VR α (rd env y) (ρ y)) (hh : ∀ y, hi = some y → VR α (rd env y) (ρ y)) (hm : ∀ y, mx = some y → VR α (rd env y) (ρ y)) :
    ∃ a len cap, x' = .slice a len cap ∧ ∃ v', VR α v v' ∧ ∀ isS w, ∃ l h m, (Instr.sliceBounds isS len cap (lo.map ρ) (hi.map ρ) (mx.map ρ)).run P w = .ok (l, h, m) w ∧
      v' = .slice (if m = l then a else a.map (·.add (l * size))) (h - l) (m - l) := by
  unfold slslV at hv
  split at hv
  · rename_i a len cap
    split at hv
    · cases hv
    · rename_i m b1
      split at hv
      · cases hv
      · rename_i h b2
        split at hv
        · cases hv
        · rename_i hmh
          split at hv
          · cases hv
          · rename_i l b3
            cases hx with
            | snil n c =>
              simp only [Option.some.injEq] at hv
              subst hv
              refine ⟨none, len, cap, rfl, _, .snil _ _, fun isS w => ?_⟩
              obtain ⟨r, h1, h2, h3⟩ := bounds_run (P := P) (isS := isS) hl hh hm b1 b2 b3 (by omega) (Nat.le_refl cap) w
              refine ⟨l, h, _, r, ?_⟩
              cases mx with
              | none => simp [h3 rfl]
              | some z => simp
            | slx h0 hn hoo =>
              rename_i i o b sh o'
              simp only [Option.some.injEq] at hv
              subst hv
              obtain ⟨r, h1, h2, h3⟩ := bounds_run (P := P) (isS := true) hl hh hm b1 b2 b3 (by omega) (Nat.le_refl cap) default
              refine ⟨some ⟨b, o', none⟩, len, cap, rfl, .slice (if m = l then some ⟨b, o', none⟩ else (some ⟨b, o', none⟩ : Option Addr).map (·.add (l * size))) (h - l) (m - l), ?_, fun isS w => ?_⟩
              · by_cases e : m = l
                · subst e
                  simp only [if_true]
                  exact .slx h0 (by omega) (.inr (by omega))
                · simp only [if_neg e, Option.map_some, add_addr]
                  refine .slx h0 (by omega) ?_
                  rcases hoo with hoo | hoo
                  · left; omega
                  · right; omega
              · obtain ⟨r, _, _, _⟩ := bounds_run (P := P) (isS := isS) hl hh hm b1 b2 b3 (by omega) (Nat.le_refl cap) w
                refine ⟨l, h, _, r, ?_⟩
                cases mx with
                | none => simp [h3 rfl]
                | some z => simp
            | slz a =>
              simp only [Option.some.injEq] at hv
              subst hv
              obtain ⟨r, h1, h2, h3⟩ := bounds_run (P := P) (isS := true) hl hh hm b1 b2 b3 (by omega) (Nat.le_refl 0) default
              have hm0 : m = 0 := by omega
              have hh0 : h = 0 := by omega
              have hl0 : l = 0 := by omega
              subst hm0; subst hh0; subst hl0
              refine ⟨some a, 0, 0, rfl, .slice (some a) 0 0, ?_, fun isS w => ?_⟩
              · simp only [if_true, Nat.sub_self]; exact .slz a
              · obtain ⟨r, _, _, _⟩ := bounds_run (P := P) (isS := isS) hl hh hm b1 b2 b3 (by omega) (Nat.le_refl 0) w
                exact ⟨0, 0, 0, by simpa using r, by simp⟩
            | sli h0 hn hcc hoo htt =>
              rename_i i o s b sh o' c'
              obtain ⟨r, h1, h2, h3⟩ := bounds_run (P := P) (isS := true) hl hh hm b1 b2 b3 (by omega) hcc default
              cases mx with
              | none =>
                have hmc := h3 rfl
                subst hmc
                simp only [Option.isSome_none, Bool.false_eq_true, if_false] at hv
                split at hv
                case isFalse => cases hv
                rename_i hss
                simp only [Option.some.injEq] at hv
                subst hv
                have hcl : l ≤ c' := by omega
                have hmul : (c' - l) * s + l * s = c' * s := by rw [← Nat.add_mul, Nat.sub_add_cancel hcl]
                refine ⟨some ⟨b, o', none⟩, len, c', rfl, .slice (if c' = l then some ⟨b, o', none⟩ else (some ⟨b, o', none⟩ : Option Addr).map (·.add (l * size))) (h - l) (c' - l), ?_, fun isS w => ?_⟩
                · subst hss
                  by_cases e : c' = l
                  · subst e
                    simp only [if_true]
                    refine .sli h0 (by omega) (by omega) (.inr (by omega)) ?_
                    rw [Nat.sub_self, Nat.zero_mul]; omega
                  · simp only [if_neg e, Option.map_some, add_addr]
                    refine .sli h0 (by omega) (by omega) ?_ (by omega)
                    rcases hoo with hoo | hoo
                    · left; omega
                    · right; omega
                · obtain ⟨r, _, _, _⟩ := bounds_run (P := P) (isS := isS) hl hh hm b1 b2 b3 (by omega) hcc w
                  exact ⟨l, h, _, r, by simp⟩
              | some z =>
                simp only [Option.isSome_some, if_true, Option.some.injEq] at hv
                subst hv
                refine ⟨some ⟨b, o', none⟩, len, c', rfl, .slice (if m = l then some ⟨b, o', none⟩ else (some ⟨b, o', none⟩ : Option Addr).map (·.add (l * size))) (h - l) (m - l), ?_, fun isS w => ?_⟩
                · by_cases e : m = l
                  · subst e
                    simp only [if_true]
                    exact .slx h0 (by omega) (.inr (by omega))
                  · simp only [if_neg e, Option.map_some, add_addr]
                    refine .slx h0 (by omega) ?_
                    rcases hoo with hoo | hoo
                    · left; omega
                    · omega
                · obtain ⟨r, _, _, _⟩ := bounds_run (P := P) (isS := isS) hl hh hm b1 b2 b3 (by omega) hcc w
                  exact ⟨l, h, _, r, by simp⟩
  · cases hv

theorem q_slsl {o : Oper} {t e : TypeId} {size : Nat} {x : Operand} {lo hi mx : Option Operand} (ho : o.op = .slice t x lo hi mx) (ht : P.underlying t = some (.slice e)) (hs : cells? P e = some size) (hx : VR α (rd env x) (ρ x))
    (hl : ∀ y, lo = some y → VR α (rd env y) (ρ y)) (hh : ∀ y, hi = some y → VR α (rd env y) (ρ y)) (hm : ∀ y, mx = some y → VR α (rd env y) (ρ y)) : Quiet P α o ρ env (.slsl size x lo hi mx) := by
  refine quiet_of (r := slslV size (rd env x) env lo hi mx) (fun H => rfl) fun v hv => ?_
  obtain ⟨a, len, cap, e1, v', hr, hrun⟩ := slslV_run (P := P) hv hx hl hh hm
  refine ⟨v', hr, fun w => ?_⟩
  obtain ⟨l, h, m, r1, r2⟩ := hrun true w
  simp only [execOp, ho, e1, Instr.sliceAt, Sem.run_bind, run_und ht, Result.andThen_ok, Instr.slice, r1, run_size hs, Sem.run_pure]
  rw [r2]

theorem q_slarr {o : Oper} {t e : TypeId} {n size : Nat} {x : Operand} {lo hi : Option Operand} (ho : o.op = .slice t x lo hi none) (ht : P.underlying t = some (.array n e)) (hs : cells? P e = some size) (hx : VR α (rd env x) (ρ x))
    (hl : ∀ y, lo = some y → VR α (rd env y) (ρ y)) (hh : ∀ y, hi = some y → VR α (rd env y) (ρ y)) : Quiet P α o ρ env (.slarr n size x lo hi) := by
  intro H out he
  simp only [evI] at he
  split at he
  · rename_i i k s e1
    rw [e1] at hx
    cases hv : slslV size (.slice (some ⟨i, k, none⟩) n n) env lo hi none with
    | none => rw [hv] at he; cases he
    | some v =>
      rw [hv] at he
      simp only [ret, Option.map_some, Option.some.injEq] at he
      have hx' : ∃ b sh, α i = some (b, sh) ∧ ρ x = .pointer (some ⟨b, sh + k, none⟩) := by
        generalize ρ x = r at hx
        cases hx with
        | ptr h => exact ⟨_, _, h, rfl⟩
      obtain ⟨b, sh, ha, hp⟩ := hx'
      obtain ⟨a, len, cap, e2, v', hr, hrun⟩ := slslV_run (P := P) (ρ := ρ) hv (.slx ha (Nat.le_refl n) (.inl rfl)) hl hh (fun y hy => by cases hy)
      cases e2
      refine ⟨v, v', he.symm, fun H2 => by simp only [evI, e1, hv]; rfl, hr, fun w => .inl ?_⟩
      obtain ⟨l, h, m, r1, r2⟩ := hrun false w
      simp only [Option.map_none] at r1
      simp only [execOp, ho, hp, Instr.sliceAt, Sem.run_bind, run_und ht, Result.andThen_ok, Instr.sureAddr, Option.map_none, r1, run_size hs, Sem.run_pure]
      rw [r2]
      split <;> rfl
  · cases he

theorem q_faddr {o : Oper} {s : TypeId} {x : Operand} {k n : Nat} {f : Field} (ho : o.op = .fieldAddr s x k) (hf : fieldOf P s k = some f) (hs : cells? P f.type = some (n + 1)) (hx : VR α (rd env x) (ρ x)) : Quiet P α o ρ env (.faddr f.offset x) := by
  intro H out he
  simp only [evI] at he
  split at he
  · rename_i i j sp e
    rw [e] at hx
    simp only [Option.some.injEq] at he
    unfold fieldOf at hf
    split at hf
    · rename_i fs hu
      generalize hr : ρ x = r at hx
      cases hx with
      | ptr h =>
        rename_i b sh
        refine ⟨_, .pointer (some ⟨b, sh + (j + f.offset), none⟩), he.symm, fun H2 => by simp [evI, e], .ptr h, fun w => .inl ?_⟩
        simp only [execOp, ho, hr, Instr.fieldAt, Sem.run_bind, run_und hu, Result.andThen_ok, hf, Instr.sureAddr, Sem.run_pure, fieldPlace, run_size hs]
        simp [add_addr, Nat.add_assoc]
    · cases hf
  · cases he

theorem part_run {t : TypeId} {n : Option Nat} (hs : shapeOf P t = some n) {l : List Value} {off : Nat} {v : Value} (hv : partV l off n = some v) (w : World) :
    (part t ⟨l⟩ off).run P w = .ok v w := by
  cases n with
  | none =>
    simp only [partV] at hv
    simp [part, run_isAgg_none hs, hv]
  | some n =>
    simp only [partV] at hv
    split at hv
    · cases hv
      obtain ⟨h1, h2⟩ := run_isAgg_some (w := w) hs
      simp only [part, Sem.run_bind, h1, Result.andThen_ok, if_true, h2, Sem.run_pure]
      congr 2
      apply Array.ext'
      simp [List.take_drop]
    · cases hv

theorem part_rel {l l' : List Value} (h : VRs α l l') {n : Option Nat} {off : Nat} {v : Value} (hv : partV l off n = some v) :
    ∃ v', partV l' off n = some v' ∧ VR α v v' := by
  cases n with
  | none => exact h.get hv
  | some n =>
    simp only [partV] at hv ⊢
    split at hv
    · cases hv
      rw [if_pos (by rw [h.length]; assumption)]
      exact ⟨_, rfl, .agg ((h.drop off).take n)⟩
    · cases hv

theorem q_field {o : Oper} {s : TypeId} {x : Operand} {k : Nat} {f : Field} {n : Option Nat} (ho : o.op = .field s x k) (hf : fieldOf P s k = some f) (hs : shapeOf P f.type = some n) (hx : VR α (rd env x) (ρ x)) : Quiet P α o ρ env (.field f.offset n x) := by
  cases e : rd env x with
  | agg cs =>
    obtain ⟨l⟩ := cs
    rw [e] at hx
    refine quiet_of (r := partV l f.offset n) (fun H => by simp [evI, e]) fun v hv => ?_
    unfold fieldOf at hf
    split at hf
    · rename_i fs hu
      generalize hr : ρ x = r at hx
      cases hx with
      | agg h =>
        obtain ⟨v', hv', hrel⟩ := part_rel h hv
        refine ⟨v', hrel, fun w => ?_⟩
        simp only [execOp, ho, hr, Instr.field, Sem.run_bind, run_und hu, Result.andThen_ok, hf, asAgg, Sem.run_pure, part_run hs hv']
    · cases hf
  | _ => intro H out he; simp [evI, e] at he

theorem q_iaddr {o : Oper} {t el : TypeId} {x i : Operand} {size : Nat} (ho : o.op = .indexAddr t x i) (ht : P.underlying t = some (.slice el)) (hs : cells? P el = some size) (hx : VR α (rd env x) (ρ x)) (hi : VR α (rd env i) (ρ i)) : Quiet P α o ρ env (.iaddr size x i) := by
  intro H out he
  simp only [evI] at he
  split at he
  · rename_i b k s len cap k' n e1 e2
    rw [e1] at hx; rw [e2] at hi
    split at he
    · rename_i hc
      simp only [Option.some.injEq] at he
      have hx' : ∃ c sh cap', α b = some (c, sh) ∧ ρ x = .slice (some ⟨c, sh + k, none⟩) len cap' := by
        generalize ρ x = r at hx
        cases hx with
        | slx h hn hoo => rcases hoo with rfl | hoo; exact ⟨_, _, _, h, rfl⟩; omega
        | slz a => omega
        | sli h hn hcc hoo htt => rcases hoo with rfl | hoo; exact ⟨_, _, _, h, rfl⟩; omega
      obtain ⟨c, sh, cap', ha, hr⟩ := hx'
      refine ⟨_, .pointer (some ⟨c, sh + (k + n.toNat * size), none⟩), he.symm, fun H2 => by simp [evI, e1, e2, hc], .ptr ha, fun w => .inl ?_⟩
      simp only [execOp, ho, hr, hi.int_inv, Instr.indexAt, asIntOf, Sem.run_bind, Sem.run_pure, run_und ht, Result.andThen_ok]
      simp [run_und ht, hc, run_size hs, add_addr, Nat.add_assoc]
    · cases he
  · cases he

theorem q_iarr {o : Oper} {t el : TypeId} {x i : Operand} {size len : Nat} (ho : o.op = .indexAddr t x i) (ht : P.underlying t = some (.array len el)) (hs : cells? P el = some size) (hx : VR α (rd env x) (ρ x)) (hi : VR α (rd env i) (ρ i)) : Quiet P α o ρ env (.iarr len size x i) := by
  intro H out he
  simp only [evI] at he
  split at he
  · rename_i b k s k' n e1 e2
    rw [e1] at hx; rw [e2] at hi
    split at he
    · rename_i hc
      simp only [Option.some.injEq] at he
      generalize hr : ρ x = r at hx
      cases hx with
      | ptr h =>
        rename_i c sh
        refine ⟨_, .pointer (some ⟨c, sh + (k + n.toNat * size), none⟩), he.symm, fun H2 => by simp [evI, e1, e2, hc], .ptr h, fun w => .inl ?_⟩
        simp only [execOp, ho, hr, hi.int_inv, Instr.indexAt, asIntOf, Sem.run_bind, Sem.run_pure, run_und ht, Result.andThen_ok, Instr.sureAddr]
        simp [run_und ht, hc, run_size hs, add_addr, Nat.add_assoc]
    · cases he
  · cases he

theorem q_ixstr {o : Oper} {t : TypeId} {x i : Operand} (ho : o.op = .index t x i) (ht : P.underlying t = some .string) (hx : VR α (rd env x) (ρ x)) (hi : VR α (rd env i) (ρ i)) : Quiet P α o ρ env (.ixstr x i) := by
  intro H out he
  simp only [evI] at he
  split at he
  · rename_i s k n e1 e2
    rw [e1] at hx; rw [e2] at hi
    split at he
    · rename_i hc
      cases hb : (bytesOf s)[n.toNat]? with
      | none => rw [hb] at he; cases he
      | some b =>
        rw [hb] at he
        simp only [ret, Option.map_some, Option.some.injEq] at he
        refine ⟨_, _, he.symm, fun H2 => by simp only [evI, e1, e2]; rw [if_pos hc, hb]; rfl, .int _ _, fun w => .inl ?_⟩
        have hg : s[n.toNat]? = some b := by
          have hlt := (List.getElem?_eq_some_iff.1 hb).1
          have hlt' : n.toNat < s.size := by simpa [bytesOf] using hlt
          rw [getElem?_pos s n.toNat hlt']
          have := (List.getElem?_eq_some_iff.1 hb).2
          rw [← this]; rfl
        simp only [execOp, ho, hx.str_inv, hi.int_inv, Instr.index, asIntOf, Sem.run_bind, Sem.run_pure, run_und ht, Result.andThen_ok]
        simp [hc, hg]
    · cases he
  · cases he

theorem q_ixagg {o : Oper} {t el : TypeId} {x i : Operand} {len size : Nat} {n : Option Nat} (ho : o.op = .index t x i) (ht : P.underlying t = some (.array len el)) (hz : cells? P el = some size) (hs : shapeOf P el = some n) (hx : VR α (rd env x) (ρ x)) (hi : VR α (rd env i) (ρ i)) :
    Quiet P α o ρ env (.ixagg len size n x i) := by
  cases e : rd env x with
  | agg cs =>
    obtain ⟨l⟩ := cs
    rw [e] at hx
    cases e2 : rd env i with
    | int k j =>
      rw [e2] at hi
      by_cases hc : 0 ≤ j ∧ j < (len : Int)
      · refine quiet_of (r := partV l (j.toNat * size) n) (fun H => ?_) fun v hv => ?_
        · simp [evI, e, e2, hc]
        · generalize hr : ρ x = r at hx
          cases hx with
          | agg h =>
            obtain ⟨v', hv', hrel⟩ := part_rel h hv
            refine ⟨v', hrel, fun w => ?_⟩
            simp only [execOp, ho, hr, hi.int_inv, Instr.index, asIntOf, Sem.run_bind, Sem.run_pure, run_und ht, Result.andThen_ok]
            simp [hc, run_size hz, part_run hs hv']
      · intro H out he; simp [evI, e, e2, hc] at he
    | _ => intro H out he; simp [evI, e, e2] at he
  | _ => intro H out he; simp [evI, e] at he

end
end Ve
end Go.Proofs.YtnociodpfmlglaaGreatDoor

/-
  Operations that don't look at memory, third part: lengths, least and greatest, aggregates, comparisons of structs.
-/
set_option linter.unusedVariables false
set_option linter.unusedSimpArgs false
namespace Go.Proofs.YtnociodpfmlglaaGreatDoor
namespace Ve
open Go Go.RowKit
section
variable {P : Program} {α : Al} {ρ : Operand → Value} {env : Env}

theorem builtin_exec {o : Oper} {c : Call} {b : Builtin} (ho : o.op = .call c) (hb : c.callee = .builtin b) :
    execOp ρ o = Go.builtin b c.argTypes o.type (c.args.map fun | .const _ => true | _ => false) (c.args.map ρ) := by
  simp only [execOp, ho, resolve, hb]
  rfl

theorem args_one {c : Call} {x : Operand} (h : c.args.toList = [x]) : c.args.map ρ = #[ρ x] := by
  obtain ⟨_, l, _⟩ := c
  obtain ⟨l⟩ := l
  simp at h; subst h; simp
theorem args_two {c : Call} {x y : Operand} (h : c.args.toList = [x, y]) : c.args.map ρ = #[ρ x, ρ y] := by
  obtain ⟨_, l, _⟩ := c
  obtain ⟨l⟩ := l
  simp at h; subst h; simp
theorem argType {c : Call} {k : Nat} {d : TypeDesc} (h : (c.argTypes[k]?).bind P.underlying = some d) : ∃ t, c.argTypes[k]? = some t ∧ P.underlying t = some d := by
  cases e : c.argTypes[k]? with
  | none => rw [e] at h; cases h
  | some t => rw [e] at h; exact ⟨t, rfl, h⟩

theorem q_lens {o : Oper} {c : Call} {x : Operand} (ho : o.op = .call c) (hb : c.callee = .builtin .len) (ha : c.args.toList = [x]) (ht : (c.argTypes[0]?).bind P.underlying = some .string) (hx : VR α (rd env x) (ρ x)) :
    Quiet P α o ρ env (.len true x) := by
  intro H out he
  simp only [evI] at he
  obtain ⟨t, ht1, ht2⟩ := argType ht
  split at he
  · rename_i s _ e
    rw [e] at hx
    simp only [Option.some.injEq] at he
    refine ⟨_, _, he.symm, fun H2 => by simp [evI, e], .int _ _, fun w => .inl ?_⟩
    rw [builtin_exec ho hb, args_one ha, hx.str_inv]
    simp [Go.builtin, Builtin.len_, ht1, run_und ht2, goInt]
  · rename_i h _; cases h
  · cases he

theorem q_lena {o : Oper} {c : Call} {x : Operand} {el : TypeId} (ho : o.op = .call c) (hb : c.callee = .builtin .len) (ha : c.args.toList = [x]) (ht : (c.argTypes[0]?).bind P.underlying = some (.slice el)) (hx : VR α (rd env x) (ρ x)) :
    Quiet P α o ρ env (.len false x) := by
  intro H out he
  simp only [evI] at he
  obtain ⟨t, ht1, ht2⟩ := argType ht
  split at he
  · rename_i h _; cases h
  · rename_i a n cp _ e
    rw [e] at hx
    simp only [Option.some.injEq] at he
    refine ⟨_, _, he.symm, fun H2 => by simp [evI, e], .int _ _, fun w => .inl ?_⟩
    rw [builtin_exec ho hb, args_one ha]
    generalize ρ x = r at hx
    cases hx <;> simp [Go.builtin, Builtin.len_, ht1, run_und ht2, goInt]
  · cases he

theorem q_cap {o : Oper} {c : Call} {x : Operand} {el : TypeId} (ho : o.op = .call c) (hb : c.callee = .builtin .cap) (ha : c.args.toList = [x]) (ht : (c.argTypes[0]?).bind P.underlying = some (.slice el)) (hx : VR α (rd env x) (ρ x)) :
    Quiet P α o ρ env (.capx x) := by
  intro H out he
  simp only [evI] at he
  obtain ⟨t, ht1, ht2⟩ := argType ht
  split at he
  · rename_i n cp e
    rw [e] at hx
    simp only [Option.some.injEq] at he
    refine ⟨_, _, he.symm, fun H2 => by simp [evI, e], .int _ _, fun w => .inl ?_⟩
    rw [builtin_exec ho hb, args_one ha]
    generalize ρ x = r at hx
    cases hx; simp [Go.builtin, Builtin.cap_, ht1, run_und ht2, goInt]
  · rename_i i k n cp e
    rw [e] at hx
    simp only [Option.some.injEq] at he
    refine ⟨_, _, he.symm, fun H2 => by simp [evI, e], .int _ _, fun w => .inl ?_⟩
    rw [builtin_exec ho hb, args_one ha]
    generalize ρ x = r at hx
    cases hx <;> simp [Go.builtin, Builtin.cap_, ht1, run_und ht2, goInt]
  · cases he

theorem fold_min {k : IntKind} (w : World) : ∀ {l l' : List Value} {a n : Int}, VRs α l l' → minInt false a l = some n → (l'.foldlM Builtin.min2 (.int k a)).run P w = .ok (.int k n) w
  | _, _, a, n, .nil, h => by simp [minInt] at h; subst h; rfl
  | v :: l, _, a, n, .cons hv hs, h => by
    unfold minInt at h
    cases v with
    | int k' b =>
      rw [hv.int_inv]
      simp only [List.foldlM_cons, Sem.run_bind, Builtin.min2, Sem.run_pure, Result.andThen_ok]
      simp only [Bool.false_eq_true, if_false] at h
      exact fold_min w hs h
    | _ => cases h
theorem fold_max {k : IntKind} (w : World) : ∀ {l l' : List Value} {a n : Int}, VRs α l l' → minInt true a l = some n → (l'.foldlM Builtin.max2 (.int k a)).run P w = .ok (.int k n) w
  | _, _, a, n, .nil, h => by simp [minInt] at h; subst h; rfl
  | v :: l, _, a, n, .cons hv hs, h => by
    unfold minInt at h
    cases v with
    | int k' b =>
      rw [hv.int_inv]
      simp only [List.foldlM_cons, Sem.run_bind, Builtin.max2, Sem.run_pure, Result.andThen_ok]
      simp only [if_true] at h
      exact fold_max w hs h
    | _ => cases h

theorem q_minmax {o : Oper} {c : Call} {mx : Bool} (ho : o.op = .call c) (hb : c.callee = .builtin (if mx then .max else .min)) (hx : ∀ x ∈ c.args.toList, VR α (rd env x) (ρ x)) : Quiet P α o ρ env (.minmax mx c.args.toList) := by
  intro H out he
  simp only [evI] at he
  split at he
  · rename_i k a r e
    cases hn : minInt mx a r with
    | none => rw [hn] at he; cases he
    | some n =>
      rw [hn] at he
      simp only [Option.map_some, Option.some.injEq] at he
      refine ⟨_, _, he.symm, fun H2 => by simp only [evI, e, hn]; rfl, .int _ _, fun w => .inl ?_⟩
      have hm := VRs.map hx
      rw [e] at hm
      have hargs : (c.args.map ρ).toList = c.args.toList.map ρ := by simp
      generalize c.args.toList.map ρ = l at hm hargs
      cases hm with
      | cons h1 h2 =>
        rw [h1.int_inv] at hargs
        cases mx with
        | false =>
          rw [builtin_exec ho hb]
          simp only [Bool.false_eq_true, if_false, Go.builtin, Builtin.min_, hargs, Sem.run_bind, fold_min w h2 hn, Result.andThen_ok, Sem.run_pure]
        | true =>
          rw [builtin_exec ho hb]
          simp only [if_true, Go.builtin, Builtin.max_, hargs, Sem.run_bind, fold_max w h2 hn, Result.andThen_ok, Sem.run_pure]
  · cases he


/-! aggregates -/
theorem foldl_splice : ∀ (vs : List Value) (off k : Nat) (z : List Value), off + k + vs.length ≤ z.length →
    (vs.zipIdx k).foldl (fun (cs : Array Value) (p : Value × Nat) => cs.setIfInBounds (off + p.2) p.1) ⟨z⟩ = ⟨splice z (off + k) vs⟩
  | [], off, k, z, h => by simp [splice]
  | v :: vs, off, k, z, h => by
    simp only [List.length_cons] at h
    simp only [List.zipIdx_cons, List.foldl_cons]
    have e : (Array.setIfInBounds (⟨z⟩ : Array Value) (off + k) v) = ⟨z.set (off + k) v⟩ := by simp
    rw [e, foldl_splice vs off (k + 1) (z.set (off + k) v) (by simp; omega)]
    congr 1
    unfold splice
    have e1 : (z.set (off + k) v).take (off + (k + 1)) = z.take (off + k) ++ [v] := by
      rw [show off + (k + 1) = (off + k) + 1 by omega, List.take_add_one, List.take_set_of_le (Nat.le_refl _)]
      simp [List.getElem?_set]
      omega
    have e2 : (z.set (off + k) v).drop (off + (k + 1) + vs.length) = z.drop (off + k + (v :: vs).length) := by
      rw [List.drop_set_of_lt (by omega)]
      congr 1
      simp; omega
    rw [e1, e2]; simp

theorem fill_lay {place : Nat → Option (Nat × Nat)} : ∀ (parts : List (Nat × Operand)) (ps : List (Nat × Nat × Operand)) (z z' l : List Value), partsOf place parts = some ps → (∀ x ∈ parts.map (·.2), VR α (rd env x) (ρ x)) → VRs α z z' →
    lay env z ps = some l → ∃ l', Instr.fill place ⟨z'⟩ (parts.map fun p => (p.1, ρ p.2)) = some ⟨l'⟩ ∧ VRs α l l'
  | [], ps, z, z', l, hp, hx, hz, hl => by
    simp [partsOf] at hp; subst hp
    simp [lay] at hl; subst hl
    exact ⟨z', rfl, hz⟩
  | (i, x) :: parts, ps, z, z', l, hp, hx, hz, hl => by
    unfold partsOf at hp
    cases e : place i with
    | none => rw [e] at hp; cases hp
    | some q =>
      obtain ⟨off, size⟩ := q
      rw [e] at hp
      simp only at hp
      cases e2 : partsOf place parts with
      | none => rw [e2] at hp; cases hp
      | some ps' =>
        rw [e2] at hp
        simp only [Option.map_some, Option.some.injEq] at hp
        subst hp
        unfold lay at hl
        split at hl
        · rename_i cs hcs
          split at hl
          · rename_i hc
            obtain ⟨cs', h1, h2, h3⟩ := cellsOf_rel (hx x (by simp)) hcs
            have hlen := h2.length
            have hzl := hz.length
            obtain ⟨l', g1, g2⟩ := fill_lay parts ps' (splice z off cs) (splice z' off cs') l e2 (fun y hy => hx y (by simp at hy ⊢; exact .inr hy)) (hz.splice off h2) hl
            refine ⟨l', ?_, g2⟩
            simp only [List.map_cons, Instr.fill, e, h1]
            have hsz : (⟨cs'⟩ : Array Value).size = cs'.length := rfl
            have hsz2 : (⟨z'⟩ : Array Value).size = z'.length := rfl
            have hcond : (((⟨cs'⟩ : Array Value).size ≠ size || off + (⟨cs'⟩ : Array Value).size > (⟨z'⟩ : Array Value).size)) = false := by
              rw [hsz, hsz2]
              simp; omega
            rw [if_neg (by rw [hcond]; simp)]
            have := foldl_splice cs' off 0 z' (by omega)
            rw [Nat.add_zero] at this
            rw [← this] at g1
            rw [← g1]
            congr 1
            rw [← Array.foldl_toList]
            simp
          · cases hl
        · cases hl

theorem places_run (w : World) : ∀ {fs : List Field} {pl : List (Nat × Nat)}, placesOf P fs = some pl → (fs.mapM fun f => (do pure (f.offset, ← sizeOf f.type) : Sem (Nat × Nat))).run P w = .ok pl w
  | [], pl, h => by simp [placesOf] at h; subst h; rfl
  | f :: r, pl, h => by
    unfold placesOf at h
    split at h
    · rename_i n l e1 e2
      cases h
      simp only [List.mapM_cons, Sem.run_bind, run_size e1, Result.andThen_ok, Sem.run_pure, places_run w e2]
    · cases h

theorem q_build_struct {o : Oper} {t : TypeId} {parts : Array (Nat × Operand)} {z : List Value} {fs : Array Field} {pl : List (Nat × Nat)} {ps : List (Nat × Nat × Operand)} (ho : o.op = .build t parts) (hz : zeroCells P t = some z)
    (ht : P.underlying t = some (.struct fs)) (hpl : placesOf P fs.toList = some pl) (hps : partsOf (pl[·]?) parts.toList = some ps) (hx : ∀ x ∈ parts.toList.map (·.2), VR α (rd env x) (ρ x)) : Quiet P α o ρ env (.build z ps) := by
  intro H out he
  simp only [evI] at he
  cases hl : lay env z ps with
  | none => rw [hl] at he; cases he
  | some l =>
    rw [hl] at he
    simp only [Option.map_some, Option.some.injEq] at he
    obtain ⟨zv, _, _, hlit⟩ := run_zero (w := default) hz
    obtain ⟨l', h1, h2⟩ := fill_lay parts.toList ps z z l hps hx (VRs.lits hlit) hl
    refine ⟨_, .agg ⟨l'⟩, he.symm, fun H2 => by simp only [evI, hl]; rfl, .agg h2, fun w => .inl ?_⟩
    obtain ⟨zv, hz1, hz2, _⟩ := run_zero (w := w) hz
    have hmap : (parts.map fun (i, x) => (i, ρ x)).toList = parts.toList.map fun p => (p.1, ρ p.2) := by simp
    simp only [execOp, ho, Instr.build, Sem.run_bind, hz1, Result.andThen_ok, Sem.run_pure, run_und ht, hz2, hmap]
    rw [Array.mapM_eq_mapM_toList]
    simp only [Sem.run_map, places_run w hpl, Result.andThen_ok]
    have : (fun i : Nat => (pl.toArray)[i]?) = (fun i : Nat => pl[i]?) := by funext i; simp
    simp only [this, h1]
    rfl

theorem q_build_array {o : Oper} {t el : TypeId} {k n : Nat} {parts : Array (Nat × Operand)} {z : List Value} {ps : List (Nat × Nat × Operand)} (ho : o.op = .build t parts) (hz : zeroCells P t = some z)
    (ht : P.underlying t = some (.array k el)) (hn : cells? P el = some n) (hps : partsOf (fun i => some (i * n, n)) parts.toList = some ps) (hx : ∀ x ∈ parts.toList.map (·.2), VR α (rd env x) (ρ x)) : Quiet P α o ρ env (.build z ps) := by
  intro H out he
  simp only [evI] at he
  cases hl : lay env z ps with
  | none => rw [hl] at he; cases he
  | some l =>
    rw [hl] at he
    simp only [Option.map_some, Option.some.injEq] at he
    obtain ⟨zv, _, _, hlit⟩ := run_zero (w := default) hz
    obtain ⟨l', h1, h2⟩ := fill_lay parts.toList ps z z l hps hx (VRs.lits hlit) hl
    refine ⟨_, .agg ⟨l'⟩, he.symm, fun H2 => by simp only [evI, hl]; rfl, .agg h2, fun w => .inl ?_⟩
    obtain ⟨zv, hz1, hz2, _⟩ := run_zero (w := w) hz
    have hmap : (parts.map fun (i, x) => (i, ρ x)).toList = parts.toList.map fun p => (p.1, ρ p.2) := by simp
    simp only [execOp, ho, Instr.build, Sem.run_bind, hz1, Result.andThen_ok, Sem.run_pure, run_und ht, hz2, hmap, run_size hn, h1]


/-! structs held against each other -/
theorem alike_rel : ∀ {ks : List SK} {x y x' y' : List Value} {r : Bool}, VRs α x x' → VRs α y y' → alike ks x y = some r → alike ks x' y' = some r
  | [], [], [], _, _, r, .nil, .nil, h => h
  | .b :: ks, a :: x, b :: y, _, _, r, .cons ha hx, .cons hb hy, h => by
    cases a <;> cases b <;> simp only [alike, reduceCtorEq] at h
    rw [ha.bool_inv, hb.bool_inv]
    simp only [alike]
    split at h
    · rename_i e; rw [if_pos e]; exact alike_rel hx hy h
    · rename_i e; rw [if_neg e]; exact h
  | .i :: ks, a :: x, b :: y, _, _, r, .cons ha hx, .cons hb hy, h => by
    cases a <;> cases b <;> simp only [alike, reduceCtorEq] at h
    rw [ha.int_inv, hb.int_inv]
    simp only [alike]
    split at h
    · rename_i ek
      rw [if_pos ek]
      split at h
      · rename_i e; rw [if_pos e]; exact alike_rel hx hy h
      · rename_i e; rw [if_neg e]; exact h
    · cases h
  | .s :: ks, a :: x, b :: y, _, _, r, .cons ha hx, .cons hb hy, h => by
    cases a <;> cases b <;> simp only [alike, reduceCtorEq] at h
    rw [ha.str_inv, hb.str_inv]
    simp only [alike]
    split at h
    · rename_i e; rw [if_pos e]; exact alike_rel hx hy h
    · rename_i e; rw [if_neg e]; exact h
  | [], [], _ :: _, _, _, r, _, _, h => by simp [alike] at h
  | [], _ :: _, _, _, _, r, _, _, h => by simp [alike] at h
  | k :: _, [], _, _, _, r, _, _, h => by cases k <;> simp [alike] at h
  | k :: _, a :: _, [], _, _, r, _, _, h => by cases k <;> cases a <;> simp [alike] at h

theorem bytes_eq (a b : ByteArray) : (a == b) = (bytesOf a == bytesOf b) := by
  unfold bytesOf
  rw [Array.beq_toList]
  rfl

/-- One field of two flat structs. -/
theorem field_eq {t : TypeId} {k : SK} (ht : flatTy P t = some k) {ks : List SK} {a b : Value} {x y : List Value} {r : Bool} (h : alike (k :: ks) (a :: x) (b :: y) = some r) (D : Nat) (w : World) :
    ∃ e, (Op.equalIn (D + 1) t a b).run P w = .ok e w ∧ (e = true → alike ks x y = some r) ∧ (e = false → r = false) := by
  unfold flatTy at ht
  split at ht
  · rename_i hu
    cases ht
    cases a <;> cases b <;> simp only [alike, reduceCtorEq] at h
    rename_i k1 p k2 q
    split at h
    · rename_i ek
      refine ⟨p == q, ?_, ?_, ?_⟩
      · simp only [Op.equalIn, Sem.run_bind, run_und hu, Result.andThen_ok, ek, if_true, Sem.run_pure]
      · intro e; rw [e] at h; simpa using h
      · intro e; rw [e] at h; simpa using h.symm
    · cases h
  · rename_i hu
    cases ht
    cases a <;> cases b <;> simp only [alike, reduceCtorEq] at h
    rename_i p q
    refine ⟨p == q, ?_, ?_, ?_⟩
    · simp only [Op.equalIn, Sem.run_bind, run_und hu, Result.andThen_ok, Sem.run_pure]
    · intro e; rw [bytes_eq] at e; rw [e] at h; simpa using h
    · intro e; rw [bytes_eq] at e; rw [e] at h; simpa using h.symm
  · rename_i hu
    cases ht
    cases a <;> cases b <;> simp only [alike, reduceCtorEq] at h
    rename_i p q
    refine ⟨p == q, ?_, ?_, ?_⟩
    · simp only [Op.equalIn, Sem.run_bind, run_und hu, Result.andThen_ok, Sem.run_pure]
    · intro e; rw [e] at h; simpa using h
    · intro e; rw [e] at h; simpa using h.symm
  · cases ht

theorem shapeOf_flat {t : TypeId} {k : SK} (ht : flatTy P t = some k) : shapeOf P t = some none := by
  unfold flatTy at ht
  unfold shapeOf
  split at ht <;> rename_i e <;> first | rw [e] | cases ht

theorem fields_eq {D : Nat} {xs ys : List Value} {r : Bool} (w : World) : ∀ (fs : List Field) (k : Nat) (ks : List SK),
    flatFields P fs k = some ks → k + fs.length = xs.length → k + fs.length = ys.length → alike ks (xs.drop k) (ys.drop k) = some r →
    (forIn fs ((none, ()) : Option Bool × Unit) fun f __s =>
      (if f.name ≠ "_" then do
        let a ← part f.type ⟨xs⟩ f.offset
        let b ← part f.type ⟨ys⟩ f.offset
        let e ← Op.equalIn (D + 1) f.type a b
        if (!e) = true then pure (ForInStep.done (some false, ())) else pure (ForInStep.yield (none, ()))
      else pure (ForInStep.yield (none, ())) : Sem (ForInStep (Option Bool × Unit)))).run P w = .ok (if r then (none, ()) else (some false, ())) w
  | [], k, ks, hf, h1, h2, ha => by
    rw [List.drop_of_length_le (by simp at h1; omega), List.drop_of_length_le (by simp at h2; omega)] at ha
    simp [flatFields] at hf
    subst hf
    simp [alike] at ha
    subst ha
    rfl
  | f :: fs, k, ks, hf, h1, h2, ha => by
    unfold flatFields at hf
    split at hf
    · rename_i kd l et el
      split at hf
      · rename_i hc
        cases hf
        simp only [Bool.and_eq_true] at hc
        simp only [List.length_cons] at h1 h2
        have hn' : f.name ≠ "_" := by simpa using hc.1
        have ho' : f.offset = k := by simpa using hc.2
        obtain ⟨a, ea⟩ : ∃ a, xs[k]? = some a := ⟨xs[k]'(by omega), by simp⟩
        obtain ⟨b, eb⟩ : ∃ b, ys[k]? = some b := ⟨ys[k]'(by omega), by simp⟩
        have da : xs.drop k = a :: xs.drop (k + 1) := by
          have hk : k < xs.length := by omega
          rw [List.drop_eq_getElem_cons hk]
          rw [List.getElem?_eq_getElem hk] at ea; cases ea; rfl
        have db : ys.drop k = b :: ys.drop (k + 1) := by
          have hk : k < ys.length := by omega
          rw [List.drop_eq_getElem_cons hk]
          rw [List.getElem?_eq_getElem hk] at eb; cases eb; rfl
        rw [da, db] at ha
        obtain ⟨e, g1, g2, g3⟩ := field_eq (P := P) et ha D w
        have hs := shapeOf_flat et
        have pa : (part f.type ⟨xs⟩ f.offset).run P w = .ok a w := part_run hs (by rw [ho']; exact ea) w
        have pb : (part f.type ⟨ys⟩ f.offset).run P w = .ok b w := part_run hs (by rw [ho']; exact eb) w
        simp only [List.forIn_cons, Sem.run_bind]
        rw [if_pos hn']
        simp only [Sem.run_bind, pa, Result.andThen_ok, pb, g1]
        cases e with
        | false =>
          simp only [Bool.not_false, if_true, Sem.run_pure, Result.andThen_ok, g3 rfl, Bool.false_eq_true, if_false]
        | true =>
          simp only [Bool.not_true, Bool.false_eq_true, if_false, Sem.run_pure, Result.andThen_ok]
          exact fields_eq w fs (k + 1) l el (by omega) (by omega) (g2 rfl)
      · cases hf
    · cases hf

theorem flatFields_length : ∀ {fs : List Field} {k : Nat} {ks : List SK}, flatFields P fs k = some ks → ks.length = fs.length
  | [], k, ks, h => by simp [flatFields] at h; subst h; rfl
  | f :: fs, k, ks, h => by
    unfold flatFields at h
    split at h
    · rename_i kd l et el
      split at h
      · cases h; simp [flatFields_length el]
      · cases h
    · cases h

theorem equal_step2 : ∃ d, ∀ (t : TypeId) (x y : Value), Op.equal t x y = Op.equalIn (d + 1 + 1) t x y := ⟨9998, fun _ _ _ => rfl⟩

theorem q_eqs {o : Oper} {neg : Bool} {t ty : TypeId} {x y : Operand} {n : List SK} (ho : o.op = .binOp (if neg then .neq else .eql) t x y ty) (hf : flat P t = some n) (hx : VR α (rd env x) (ρ x)) (hy : VR α (rd env y) (ρ y)) : Quiet P α o ρ env (.eqs neg n x y) := by
  intro H out he
  simp only [evI] at he
  split at he
  · rename_i a b e1 e2
    rw [e1] at hx; rw [e2] at hy
    split at he
    · rename_i hsz
      cases hr : alike n a.toList b.toList with
      | none => rw [hr] at he; cases he
      | some r =>
        rw [hr] at he
        simp only [Option.map_some, Option.some.injEq] at he
        refine ⟨_, _, he.symm, fun H2 => by simp only [evI, e1, e2]; rw [if_pos hsz, hr]; rfl, .bool _, fun w => .inl ?_⟩
        obtain ⟨a⟩ := a; obtain ⟨b⟩ := b
        generalize ea : ρ x = x' at hx
        generalize eb : ρ y = y' at hy
        cases hx with
        | agg ha =>
          cases hy with
          | agg hb =>
            rename_i a' b'
            have hal := alike_rel ha hb hr
            unfold flat at hf
            split at hf
            · rename_i fs hu
              split at hf
              · rename_i hc
                simp only [Bool.and_eq_true, Bool.not_eq_true'] at hc
                obtain ⟨c1, c2⟩ := hc
                have hlen := flatFields_length hf
                obtain ⟨D, hD⟩ := equal_step2
                have hla : a'.length = fs.toList.length := by rw [ha.length, ← hlen]; simpa using hsz.1
                have hlb : b'.length = fs.toList.length := by rw [hb.length, ← hlen]; simpa using hsz.2
                have hfe := fields_eq (P := P) (D := D) (xs := a') (ys := b') w fs.toList 0 n hf (by omega) (by omega) (by simpa using hal)
                have heq : (Op.equal t (.agg ⟨a'⟩) (.agg ⟨b'⟩)).run P w = .ok r w := by
                  rw [hD]
                  obtain ⟨D', hD'⟩ : ∃ D', D' = D + 1 := ⟨_, rfl⟩
                  rw [← hD'] at hfe ⊢
                  simp only [Op.equalIn, Sem.run_bind, run_und hu, Result.andThen_ok, run_program, c2, Bool.false_eq_true, if_false]
                  rw [← Array.forIn_toList, hfe]
                  cases r <;> rfl
                have hg : ∀ op, (eqGuard op t x y (.agg ⟨a'⟩) (.agg ⟨b'⟩)).run P w = .ok () w := by
                  intro op
                  cases op <;> simp [eqGuard, c1]
                simp only [execOp, ho, ea, eb, Sem.run_bind, hg, Result.andThen_ok]
                cases neg <;> simp [Go.binOp, heq] <;> cases r <;> rfl
              · cases hf
            · cases hf
    · cases he
  · cases he

end
end Ve
end Go.Proofs.YtnociodpfmlglaaGreatDoor

/-
  Operations on memory: what the deterministic machine computes, the model does.
-/
set_option linter.unusedVariables false
set_option linter.unusedSimpArgs false
namespace Go.Proofs.YtnociodpfmlglaaGreatDoor
namespace Ve
open Go Go.RowKit
section
variable {P : Program} {α : Al} {ρ : Operand → Value} {env : Env} {w0 w : World} {H : Heap}

/-- What an operation on memory owes. -/
def Loud (P : Program) (α : Al) (w0 w : World) (o : Oper) (ρ : Operand → Value) (out : Out) : Prop :=
  ∃ α' v v' H' w', out = .ret v H' ∧ α.le α' ∧ VR α' v v' ∧ Sim α' w0 H' w' ∧ Done ((execOp ρ o).run P w) v' w'

theorem VR.ptr0 {β : Al} {i b : Nat} (h : β i = some (b, 0)) : VR β (.pointer (some ⟨i, 0, none⟩)) (.pointer (some ⟨b, 0, none⟩)) := by
  have := VR.ptr (o := 0) h
  simpa using this

theorem VR.slx0 {β : Al} {i b n c : Nat} (h : β i = some (b, 0)) (hn : n ≤ c) : VR β (.slice (some ⟨i, 0, none⟩) n c) (.slice (some ⟨b, 0, none⟩) n c) :=
  VR.slx h hn (.inl (by simp))

theorem loud_new {o : Oper} {out : Out} {cs cs' : List Value} {ty : TypeId} (hs : Sim α w0 H w) (hr : VRs α cs cs')
    (hout : out = .ret (.pointer (some ⟨H.length, 0, none⟩)) (push H (.cells cs (.fix (some ty)) 0)))
    (hrun : (execOp ρ o).run P w = .ok (.value (.pointer (some ⟨w.heap.size, 0, none⟩))) (w.alloc (.cells ⟨cs'⟩ ty))) : Loud P α w0 w o ρ out := by
  exact ⟨α.ext H.length (w.heap.size, 0) cs.length, _, _, _, _, hout, hs.le_ext _, .ptr0 (Al.ext_new _ _ _ _), hs.alloc_cells hr (.fix (some ty)) (by simp) ty (fun _ e => nomatch e) (fun _ e => by injection e with e; injection e), .inl hrun⟩

theorem l_new {o : Oper} {t : TypeId} {z : List Value} {out : Out} (ho : o.op = .alloc t) (hz : zeroCells P t = some z) (hs : Sim α w0 H w) (he : evI env H (.new t z) = some out) : Loud P α w0 w o ρ out := by
  simp only [evI, Option.some.injEq] at he
  obtain ⟨zv, hz1, hz2, hl⟩ := run_zero (w := w) hz
  refine loud_new (ty := t) hs (VRs.lits hl) he.symm ?_
  simp only [execOp, ho, Instr.alloc, Sem.run_bind, hz1, Result.andThen_ok, newVar, newRow, hz2, run_newObj, Sem.run_pure]
  rfl

theorem l_box {o : Oper} {t : TypeId} {x : Operand} {out : Out} (ho : o.op = .box t x) (hx : VR α (rd env x) (ρ x)) (hs : Sim α w0 H w) (he : evI env H (.box t x) = some out) : Loud P α w0 w o ρ out := by
  simp only [evI] at he
  split at he
  · rename_i cs hc
    simp only [Option.some.injEq] at he
    obtain ⟨cs', h1, h2, h3⟩ := cellsOf_rel hx hc
    refine loud_new (ty := t) hs h2 he.symm ?_
    simp only [execOp, ho, Instr.box, Sem.run_bind, newVar, newRow, h1, run_newObj, Sem.run_pure, Result.andThen_ok]
    rfl
  · cases he

theorem rows_eq (z : List Value) (n : Nat) (hz : z.length = n) (hn : 0 < n) : ∀ len : Nat, (Array.range (len * n)).map (fun i => (⟨z⟩ : Array Value)[i % (⟨z⟩ : Array Value).size]!) = ⟨(List.replicate len z).flatten⟩ := by
  intro len
  apply Array.ext'
  simp only [Array.toList_map, Array.toList_range]
  have hsz : (⟨z⟩ : Array Value).size = n := hz
  rw [hsz]
  induction len with
  | zero => simp
  | succ k ih =>
    rw [Nat.succ_mul, List.range_add, List.map_append, ih, List.replicate_succ', List.flatten_append]
    congr 1
    simp only [List.flatten_cons, List.flatten_nil, List.append_nil, List.map_map]
    apply List.ext_getElem
    · simp [hz]
    · intro i h1 h2
      simp only [List.length_map, List.length_range] at h1
      simp only [List.getElem_map, List.getElem_range, Function.comp]
      have : (k * n + i) % n = i := by rw [Nat.mul_comm, Nat.mul_add_mod]; exact Nat.mod_eq_of_lt h1
      rw [this]
      simp [h2]

theorem flatten_lit {z : List Value} {n : Nat} (h : z.all isLit = true) : ((List.replicate n z).flatten).all isLit = true := by
  simp only [List.all_eq_true] at h ⊢
  intro x hx
  simp only [List.mem_flatten, List.mem_replicate] at hx
  obtain ⟨l, ⟨_, rfl⟩, hx⟩ := hx
  exact h x hx

theorem l_bslice {o : Oper} {t e : TypeId} {len n : Nat} {parts : Array (Nat × Operand)} {z : List Value} {ps : List (Nat × Nat × Operand)} {out : Out} (ho : o.op = .buildSlice t len parts) (ht : P.underlying t = some (.slice e))
    (hn : cells? P e = some n) (hz : zeroCells P e = some z) (hc : len * n ≤ 2 ^ 24 ∧ 0 < n ∧ z.length = n) (hps : partsOf (fun i => some (i * n, n)) parts.toList = some ps) (hx : ∀ x ∈ parts.toList.map (·.2), VR α (rd env x) (ρ x)) (hs : Sim α w0 H w)
    (he : evI env H (.bslice len (List.replicate len z).flatten ps) = some out) : Loud P α w0 w o ρ out := by
  simp only [evI] at he
  cases hl : lay env (List.replicate len z).flatten ps with
  | none => rw [hl] at he; cases he
  | some l =>
    rw [hl] at he
    simp only [Option.map_some, Option.some.injEq] at he
    obtain ⟨zv, hz1, hz2, hlit⟩ := run_zero (w := w) hz
    obtain ⟨l', h1, h2⟩ := fill_lay parts.toList ps _ _ l hps hx (VRs.lits (flatten_lit (n := len) hlit)) hl
    refine ⟨α.ext H.length (w.heap.size, 0) l.length, _, _, _, w.alloc (.cells ⟨l'⟩ e), he.symm, hs.le_ext _, .slx0 (Al.ext_new _ _ _ _) (Nat.le_refl _), hs.alloc_cells h2 (.fix none) (by simp) e (fun _ e => nomatch e) (fun _ e => nomatch e), .inl ?_⟩
    · have hmap : (parts.map fun (i, x) => (i, ρ x)).toList = parts.toList.map fun p => (p.1, ρ p.2) := by simp
      have hle : ¬ (len * n > 2 ^ 24) := by omega
      have hrow : ∀ zc : Array Value, (len * n = 0 ∨ zc = ⟨z⟩) → (Array.range (len * n)).map (fun i => zc[i % zc.size]!) = ⟨(List.replicate len z).flatten⟩ := by
        intro zc h
        rcases h with h | rfl
        · have : len = 0 := by rcases Nat.mul_eq_zero.1 h with h | h; exact h; omega
          subst this
          simp
        · exact rows_eq z n hc.2.2 hc.2.1 len
      simp only [execOp, ho, Instr.buildSlice, Sem.run_bind, run_und ht, Result.andThen_ok, run_size hn, hmap]
      rw [if_neg hle]
      simp only [Sem.run_pure, Sem.run_bind, Result.andThen_ok]
      by_cases h0 : len * n = 0
      · rw [if_pos h0]
        simp only [Sem.run_pure, Result.andThen_ok, Sem.run_bind, hrow #[] (.inl h0), h1, newRow, run_newObj]
        rfl
      · rw [if_neg h0]
        simp only [Sem.run_pure, Result.andThen_ok, Sem.run_bind, hz1, hz2, hrow ⟨z⟩ (.inr rfl), h1, newRow, run_newObj]
        rfl

theorem l_gsl {o : Oper} {t e : TypeId} {len n : Nat} {parts : Array (Nat × Operand)} {z : List Value} {ps : List (Nat × Nat × Operand)} {out : Out} (ho : o.op = .buildSlice t len parts) (ht : P.underlying t = some (.slice e))
    (hn : cells? P e = some n) (hz : zeroCells P e = some z) (hc : len * n ≤ 2 ^ 24 ∧ 0 < n ∧ z.length = n) (hps : partsOf (fun i => some (i * n, n)) parts.toList = some ps) (hx : ∀ x ∈ parts.toList.map (·.2), VR α (rd env x) (ρ x)) (hs : Sim α w0 H w)
    (he : evI env H (.gsl len (List.replicate len z).flatten ps) = some out) : Loud P α w0 w o ρ out := by
  simp only [evI] at he
  cases hl : lay env (List.replicate len z).flatten ps with
  | none => rw [hl] at he; cases he
  | some l =>
    rw [hl] at he
    simp only [Option.map_some, Option.some.injEq] at he
    obtain ⟨zv, hz1, hz2, hlit⟩ := run_zero (w := w) hz
    obtain ⟨l', h1, h2⟩ := fill_lay parts.toList ps _ _ l hps hx (VRs.lits (flatten_lit (n := len) hlit)) hl
    refine ⟨α.ghost w.heap.size (.cells ⟨l'⟩ e), _, .slice (some ⟨w.heap.size, 0, none⟩) len len, _, w.alloc (.cells ⟨l'⟩ e), he.symm, Al.le_ghost _ _ _, .gsl (List.mem_cons_self ..) (h2.mono (Al.le_ghost _ _ _)), hs.ghost _, .inl ?_⟩
    · have hmap : (parts.map fun (i, x) => (i, ρ x)).toList = parts.toList.map fun p => (p.1, ρ p.2) := by simp
      have hle : ¬ (len * n > 2 ^ 24) := by omega
      have hrow : ∀ zc : Array Value, (len * n = 0 ∨ zc = ⟨z⟩) → (Array.range (len * n)).map (fun i => zc[i % zc.size]!) = ⟨(List.replicate len z).flatten⟩ := by
        intro zc h
        rcases h with h | rfl
        · have : len = 0 := by rcases Nat.mul_eq_zero.1 h with h | h; exact h; omega
          subst this
          simp
        · exact rows_eq z n hc.2.2 hc.2.1 len
      simp only [execOp, ho, Instr.buildSlice, Sem.run_bind, run_und ht, Result.andThen_ok, run_size hn, hmap]
      rw [if_neg hle]
      simp only [Sem.run_pure, Sem.run_bind, Result.andThen_ok]
      by_cases h0 : len * n = 0
      · rw [if_pos h0]
        simp only [Sem.run_pure, Result.andThen_ok, Sem.run_bind, hrow #[] (.inl h0), h1, newRow, run_newObj]
        rfl
      · rw [if_neg h0]
        simp only [Sem.run_pure, Result.andThen_ok, Sem.run_bind, hz1, hz2, hrow ⟨z⟩ (.inr rfl), h1, newRow, run_newObj]
        rfl

theorem load_cell {b k : Nat} {v : Value} (h : w.cell? ⟨b, k, none⟩ = some v) : (load ⟨b, k, none⟩).run P w = .ok v w := by simp [h]

theorem ldv_run {t : TypeId} {n : Option Nat} {a a' v : Value} (hs : Sim α w0 H w) (ht : shapeOf P t = some n) (ha : VR α a a') (hv : ldv H n a = some v) : ∃ v', VR α v v' ∧ (Instr.loadAt t a').run P w = .ok v' w := by
  unfold ldv at hv
  split at hv
  · rename_i i o s
    cases ha with
    | ptr h =>
      obtain ⟨v', h1, h2⟩ := get1_cell hs hv h
      refine ⟨v', h2, ?_⟩
      simp only [Instr.loadAt, Instr.sureAddr, Sem.run_bind, Sem.run_pure, Result.andThen_ok, loadVar, run_isAgg_none ht, Bool.false_eq_true, if_false, load_cell h1]
  · rename_i i o s k
    cases ha with
    | ptr h =>
      cases hg : getN H i o k with
      | none => rw [hg] at hv; cases hv
      | some l =>
        rw [hg] at hv
        simp only [Option.map_some, Option.some.injEq] at hv
        subst hv
        obtain ⟨l', h1, h2, h3⟩ := getN_cells hs hg h P
        obtain ⟨g1, g2⟩ := run_isAgg_some (w := w) ht
        refine ⟨.agg ⟨l'⟩, .agg h2, ?_⟩
        simp only [Instr.loadAt, Instr.sureAddr, Sem.run_bind, Sem.run_pure, Result.andThen_ok, loadVar, g1, if_true, g2, h1]
  · cases hv

theorem l_ld {o : Oper} {t : TypeId} {n : Option Nat} {a : Operand} {out : Out} (ho : o.op = .load t a) (ht : shapeOf P t = some n) (ha : VR α (rd env a) (ρ a)) (hs : Sim α w0 H w) (he : evI env H (.ld n a) = some out) : Loud P α w0 w o ρ out := by
  simp only [evI] at he
  cases hv : ldv H n (rd env a) with
  | none => rw [hv] at he; cases he
  | some v =>
    rw [hv] at he
    simp only [ret, Option.map_some, Option.some.injEq] at he
    obtain ⟨v', h1, h2⟩ := ldv_run hs ht ha hv
    exact ⟨α, v, v', H, w, he.symm, Al.le_refl _, h1, hs, .inl (by simp only [execOp, ho, Sem.run_bind, h2, Result.andThen_ok, Sem.run_pure])⟩

theorem l_st {o : Oper} {t : TypeId} {n : Nat} {a x : Operand} {out : Out} (ho : o.op = .store t a x) (ht : cells? P t = some n) (ha : VR α (rd env a) (ρ a)) (hx : VR α (rd env x) (ρ x)) (hs : Sim α w0 H w) (he : evI env H (.st n a x) = some out) :
    Loud P α w0 w o ρ out := by
  simp only [evI] at he
  split at he
  · rename_i i k s cs e1 e2
    rw [e1] at ha
    obtain ⟨cs', h1, h2, h3⟩ := cellsOf_rel hx e2
    split at he
    · rename_i hn
      cases hp : putN H i k cs with
      | none => rw [hp] at he; cases he
      | some H' =>
        rw [hp] at he
        simp only [Option.map_some, Option.some.injEq] at he
        generalize hr : ρ a = a' at ha
        cases ha with
        | ptr h =>
          obtain ⟨w', g1, g2⟩ := hs.put hp h2 P h
          refine ⟨α, _, undef, _, _, he.symm, Al.le_refl _, VR.undef α, g2, .inr ⟨?_, rfl⟩⟩
          have hsz : ¬ ((⟨cs'⟩ : Array Value).size ≠ n) := by
            have : (⟨cs'⟩ : Array Value).size = cs'.length := rfl
            rw [this, h2.length]; omega
          simp only [execOp, ho, hr, Instr.storeAt, Instr.sureAddr, Sem.run_bind, Sem.run_pure, Result.andThen_ok, storeVar, h1, run_size ht]
          rw [if_neg hsz]
          simp only [Sem.run_pure, Result.andThen_ok, Sem.run_bind, g1]
    · cases he
  · cases he

end
end Ve
end Go.Proofs.YtnociodpfmlglaaGreatDoor

/-
  Operations on memory, second part: conversions of texts, make, copy, append.
-/
set_option linter.unusedVariables false
set_option linter.unusedSimpArgs false
namespace Go.Proofs.YtnociodpfmlglaaGreatDoor
namespace Ve
open Go Go.RowKit
section
variable {P : Program} {α : Al} {ρ : Operand → Value} {env : Env} {w0 w : World} {H : Heap}

theorem isU8_und {e : TypeId} (h : isU8 P e = true) : P.underlying e = some (.int .u8) := by
  unfold isU8 at h
  split at h
  · assumption
  · cases h

theorem VR.sli0 {β : Al} {i b n c c' s : Nat} (h : β i = some (b, 0)) (hn : n ≤ c) (hc : c ≤ c') (ht : c' * s ≤ β.tot b) : VR β (.slice (some ⟨i, 0, some s⟩) n c) (.slice (some ⟨b, 0, none⟩) n c') :=
  VR.sli h hn hc (.inl (by simp)) (by omega)

theorem byteCells_lit (l : List UInt8) : (byteCells l).all isLit = true := by simp [byteCells, isLit]

theorem l_s2b {o : Oper} {s d e : TypeId} {x : Operand} {out : Out} (ho : o.op = .convert s d x) (hs1 : P.underlying s = some .string) (hd : P.underlying d = some (.slice e)) (hu : isU8 P e = true) (hx : VR α (rd env x) (ρ x))
    (hs : Sim α w0 H w) (he : evI env H (.s2b x) = some out) : Loud P α w0 w o ρ out := by
  simp only [evI] at he
  split at he
  · rename_i t e1
    split at he
    · rename_i hle
      simp only [Option.some.injEq] at he
      rw [e1] at hx
      have hrun := Lib.run_convert_string_bytes (P := P) w s d e t hs1 hd (isU8_und hu)
      have hcap := grownCap_ge w t.size 0 e
      have hB : Below w.heap.size w (Lib.bytesWorld w e t) :=
        ⟨by unfold Lib.bytesWorld World.freeze; split <;> rfl, by unfold Lib.bytesWorld World.freeze; split <;> rfl, by unfold Lib.bytesWorld World.freeze; split <;> rfl, by rw [Lib.bytesWorld_size]; omega, fun k hk => Lib.bytesWorld_at_old w e t k hk⟩
      have hnew := Lib.bytesWorld_at_new w e t
      have hcells : Lib.bytesCells w e t = ⟨byteCells (bytesOf t) ++ List.replicate (grownCap w t.size 0 e - t.size) (.int .u8 0)⟩ := by
        apply Array.ext'
        simp [Lib.bytesCells, byteCells, bytesOf]
      rw [hcells] at hnew
      have hlen : (byteCells (bytesOf t)).length = t.size := by simp [byteCells, bytesOf]
      have hsim := hs.grow_cells hB (VRs.lits (byteCells_lit (bytesOf t))) (.loose none) (by simp) 0 (fun _ e => nomatch e) (fun _ e => nomatch e) hnew (by
        intro j hj
        have : (⟨byteCells (bytesOf t) ++ List.replicate (grownCap w t.size 0 e - t.size) (Value.int .u8 0)⟩ : Array Value).size = (byteCells (bytesOf t)).length + (List.replicate (grownCap w t.size 0 e - t.size) (Value.int .u8 0)).length := by simp
        simp only [this]
        omega)
      refine ⟨_, _, .slice (some ⟨w.heap.size, 0, none⟩) t.size (grownCap w t.size 0 e), _, Lib.bytesWorld w e t, he.symm, hs.le_ext _, .sli0 (Al.ext_new _ _ _ _) (Nat.le_refl _) hcap ?_, hsim, .inl ?_⟩
      · rw [Al.ext_tot, hlen, List.length_replicate]; omega
      · simp only [execOp, ho, hx.str_inv, Sem.run_bind, hrun, Result.andThen_ok, Sem.run_pure]
    · cases he
  · cases he

theorem toBytes_rel : ∀ {l l' : List Value} {b : List UInt8}, VRs α l l' → toBytes l = some b → ∃ ns : List Int, l' = ns.map (Value.int .u8) ∧ ns.map (fun n => UInt8.ofNat n.toNat) = b
  | [], _, b, .nil, h => ⟨[], rfl, by simpa [toBytes] using h⟩
  | v :: l, _, b, .cons hv hs, h => by
    cases v with
    | int k n =>
      cases k <;> simp only [toBytes, reduceCtorEq] at h
      cases e : toBytes l with
      | none => rw [e] at h; cases h
      | some b' =>
        rw [e] at h
        simp only [Option.map_some, Option.some.injEq] at h
        obtain ⟨ns, h1, h2⟩ := toBytes_rel hs e
        exact ⟨n :: ns, by rw [hv.int_inv, h1]; rfl, by simp [h2, ← h]⟩
    | _ => simp [toBytes] at h

theorem foldl_push_ints : ∀ (ns : List Int) (r : ByteArray), ns.foldl (fun r n => r.push (UInt8.ofNat n.toNat)) r = ⟨r.data ++ (ns.map fun n => UInt8.ofNat n.toNat).toArray⟩
  | [], r => by simp
  | n :: ns, r => by
    simp only [List.foldl_cons]
    rw [foldl_push_ints ns]
    simp [ByteArray.push]

theorem l_b2s {o : Oper} {s d e : TypeId} {x : Operand} {out : Out} (ho : o.op = .convert s d x) (hs1 : P.underlying s = some (.slice e)) (hd : P.underlying d = some .string) (hu : isU8 P e = true) (hx : VR α (rd env x) (ρ x))
    (hs : Sim α w0 H w) (he : evI env H (.b2s x) = some out) : Loud P α w0 w o ρ out := by
  simp only [evI] at he
  have hconv : ∀ a l c, (Go.convert s d (.slice a l c)).run P w = (Conv.bytesToString (.slice a l c)).run P w := fun a l c => run_convert_bytes_string w s d e a l c hs1 (isU8_und hu) hd
  have fin : ∀ b : List UInt8, out = .ret (strOf b) H → (∃ a l c, ρ x = .slice a l c ∧ (Conv.bytesToString (.slice a l c)).run P w = .ok (strOf b) w) → Loud P α w0 w o ρ out := by
    rintro b h ⟨a, l, c, h1, h2⟩
    refine ⟨α, _, strOf b, _, w, h, Al.le_refl _, .str _, hs, .inl ?_⟩
    simp only [execOp, ho, h1, Sem.run_bind, hconv, h2, Result.andThen_ok, Sem.run_pure]
  split at he
  · rename_i n c e1
    rw [e1] at hx
    simp only [Option.some.injEq] at he
    refine fin [] he.symm ⟨none, n, c, ?_, rfl⟩
    generalize ρ x = r at hx
    cases hx; rfl
  · rename_i i k sp len c e1
    rw [e1] at hx
    split at he
    · rename_i h0
      subst h0
      simp only [Option.some.injEq] at he
      generalize hr : ρ x = r at hx
      have : ∃ b c', r = .slice (some b) 0 c' := by cases hx <;> exact ⟨_, _, rfl⟩
      obtain ⟨b, c', rfl⟩ := this
      refine fin [] he.symm ⟨_, _, _, hr, ?_⟩
      have := run_bytesToString (P := P) w b 0 c' [] rfl
      rw [this]
      rfl
    · rename_i h0
      split at he
      · rename_i l hg
        cases hb : toBytes l with
        | none => rw [hb] at he; cases he
        | some b =>
          rw [hb] at he
          simp only [Option.map_some, Option.some.injEq] at he
          generalize hr : ρ x = r at hx
          have : ∃ q sh c', r = .slice (some ⟨q, sh + k, none⟩) len c' ∧ α i = some (q, sh) := by
            cases hx with
            | slx h hn hoo => rcases hoo with rfl | hoo; exact ⟨_, _, _, rfl, h⟩; omega
            | slz a => exact absurd rfl h0
            | sli h hn hcc hoo htt => rcases hoo with rfl | hoo; exact ⟨_, _, _, rfl, h⟩; omega
          obtain ⟨q, sh, c', rfl, ha⟩ := this
          obtain ⟨l', h1, h2, h3⟩ := getN_cells hs hg ha P
          obtain ⟨ns, h4, h5⟩ := toBytes_rel h2 hb
          refine fin b he.symm ⟨_, _, _, hr, ?_⟩
          rw [h4] at h1
          have := run_bytesToString (P := P) w ⟨q, sh + k, none⟩ len c' ns h1
          rw [this, foldl_push_ints, h5]
          simp [strOf]
      · cases he
  · cases he

theorem wrap_i64 {n : Int} (h0 : 0 ≤ n) (h1 : n ≤ 140737488355328) : IntKind.i64.wrap n = n := IntWalk.i64_in n (by omega)

theorem l_mksl {o : Oper} {t e : TypeId} {l c : Operand} {i : TypeInfo} {z : List Value} {out : Out} (ho : o.op = .makeSlice t l c) (ht : P.underlying t = some (.slice e)) (hi : P.info? e = some i) (hz : zeroCells P e = some z)
    (hc : 0 < i.size ∧ z.length = i.size) (hl : VR α (rd env l) (ρ l)) (hcp : VR α (rd env c) (ρ c)) (hs : Sim α w0 H w) (he : evI env H (.mksl z i.bytes l c) = some out) : Loud P α w0 w o ρ out := by
  simp only [evI] at he
  split at he
  · rename_i k1 len k2 cap e1 e2
    rw [e1] at hl; rw [e2] at hcp
    split at he
    · rename_i hb
      obtain ⟨b1, b2, b3, b4⟩ := hb
      simp only [Option.some.injEq] at he
      obtain ⟨zv, hz1, hz2, hlit⟩ := run_zero (w := w) hz
      refine ⟨_, _, _, _, w.alloc (.cells ⟨(List.replicate cap.toNat z).flatten⟩ e), he.symm, hs.le_ext _, .slx0 (Al.ext_new _ _ _ _) (by omega), hs.alloc_cells (VRs.lits (flatten_lit (n := cap.toNat) hlit)) (.fix none) (by simp) e (fun _ e => nomatch e) (fun _ e => nomatch e), .inl ?_⟩
      · have hwl := wrap_i64 b1 (by omega : len ≤ 140737488355328)
        have hwc := wrap_i64 (by omega : 0 ≤ cap) b3
        have hcells : cells? P e = some i.size := by simp [cells?, hi]
        have hbig : ¬ ((i.bytes : Int) * cap > 2 ^ 48) := by
          have : ((cap.toNat * i.bytes : Nat) : Int) = cap * i.bytes := by
            rw [Int.natCast_mul, Int.toNat_of_nonneg (by omega)]
          rw [Int.mul_comm]
          omega
        simp only [execOp, ho, hl.int_inv, hcp.int_inv, Instr.makeSlice, Sem.run_bind, run_und ht, Result.andThen_ok, asInt, asIntOf, Sem.run_pure, run_info hi, hwl, hwc]
        have hcond : ((decide (cap < 0) || decide ((i.bytes : Int) * cap > 2 ^ 48)) || decide (len < 0) || decide (len > cap)) = false := by
          simp only [Bool.or_eq_false_iff, decide_eq_false_iff_not]
          exact ⟨⟨⟨by omega, hbig⟩, by omega⟩, by omega⟩
        rw [if_neg (by rw [hcond]; simp)]
        simp only [Sem.run_bind, Sem.run_pure, Result.andThen_ok, run_askRoom, run_size hcells]
        by_cases h0 : cap.toNat * i.size = 0
        · have hcz : cap.toNat = 0 := by rcases Nat.mul_eq_zero.1 h0 with h | h; exact h; omega
          rw [if_pos h0]
          have hrow : (Array.range (cap.toNat * i.size)).map (fun j => (#[] : Array Value)[j % (#[] : Array Value).size]!) = ⟨(List.replicate cap.toNat z).flatten⟩ := by
            rw [hcz]; simp
          simp only [Sem.run_pure, Result.andThen_ok, Sem.run_bind, newRow, run_newObj, hrow]
          rfl
        · rw [if_neg h0]
          simp only [Sem.run_pure, Result.andThen_ok, Sem.run_bind, hz1, hz2, newRow, run_newObj, rows_eq z i.size hc.2 hc.1]
          rfl
    · cases he
  · cases he


/-! copy and append -/
theorem bytes_take (s : ByteArray) (n : Nat) : ((s.extract 0 n).data.map fun b => (.int .u8 b.toNat : Value)) = ⟨byteCells ((bytesOf s).take n)⟩ := by
  apply Array.ext'
  have := Lib.extract_data s 0 n
  simp only [Array.toList_map, this]
  simp [byteCells, bytesOf]

theorem cellsIn_run (hs : Sim α w0 H w) {size n : Nat} {x x' : Value} {cs : List Value} (hx : VR α x x') (hc : cellsIn H size n x = some cs) :
    ∃ cs', (Builtin.firstCells size n x').run P w = .ok ⟨cs'⟩ w ∧ VRs α cs cs' := by
  unfold cellsIn at hc
  split at hc
  · split at hc
    · cases hc
      cases hx
      exact ⟨[], rfl, .nil⟩
    · cases hc
  · rename_i i o s len cap
    split at hc
    · rename_i h0
      cases hc
      have : ∃ b c', x' = .slice (some b) len c' := by cases hx <;> exact ⟨_, _, rfl⟩
      obtain ⟨b, c', rfl⟩ := this
      refine ⟨[], ?_, .nil⟩
      simp only [Builtin.firstCells, h0]
      rfl
    · rename_i h0
      split at hc
      · rename_i hle
        have : ∃ b sh c', x' = .slice (some ⟨b, sh + o, none⟩) len c' ∧ α i = some (b, sh) := by
          have hn0 : n ≠ 0 := by rintro rfl; simp at h0
          cases hx with
          | slx h hn hoo => rcases hoo with rfl | hoo; exact ⟨_, _, _, rfl, h⟩; omega
          | slz a => omega
          | sli h hn hcc hoo htt => rcases hoo with rfl | hoo; exact ⟨_, _, _, rfl, h⟩; omega
        obtain ⟨b, sh, c', rfl, ha⟩ := this
        obtain ⟨l', h1, h2, h3⟩ := getN_cells hs hc ha P
        exact ⟨l', h1, h2⟩
      · cases hc
  · split at hc
    · rename_i h1
      cases hc
      rw [hx.str_inv]
      refine ⟨_, ?_, VRs.lits (byteCells_lit _)⟩
      simp only [Builtin.firstCells, Sem.run_pure, bytes_take]
    · cases hc
  · split at hc
    · rename_i h1
      simp only [Option.some.injEq] at hc
      subst hc
      cases hx with
      | func _ hf _ _ => cases hf
      | gsl h hr =>
        rename_i l' m b ty
        obtain ⟨g1, g2, g3⟩ := hs.gh _ _ h
        refine ⟨l', ?_, hr⟩
        have := run_loadCells_list (P := P) (w := w) ⟨b, 0, none⟩ l' (by
          intro j v hj
          rw [add_none, cell?_of g2, Nat.zero_add]
          exact hj)
        rw [hr.length, h1.1] at this
        simp only [Builtin.firstCells]
        exact this
    · cases hc
  · cases hc

theorem lenOf_run {x x' : Value} {n : Nat} (hx : VR α x x') (h : lenOf x = some n) (w : World) : (Builtin.lenOf x').run P w = .ok n w := by
  unfold lenOf at h
  split at h
  · cases h
    cases hx with
    | func _ hf _ _ => cases hf
    | gsl h hr => rfl
  · cases h; cases hx <;> rfl
  · cases h; rw [hx.str_inv]; rfl
  · cases h

theorem l_copy {o : Oper} {c : Call} {t e : TypeId} {size : Nat} {d x : Operand} {out : Out} (ho : o.op = .call c) (hb : c.callee = .builtin .copy) (ha : c.args.toList = [d, x]) (ht : (c.argTypes[0]?).bind P.underlying = some (.slice e)) (hn : cells? P e = some size)
    (hd : VR α (rd env d) (ρ d)) (hx : VR α (rd env x) (ρ x)) (hs : Sim α w0 H w) (he : evI env H (.copy size d x) = some out) : Loud P α w0 w o ρ out := by
  simp only [evI] at he
  obtain ⟨t, ht1, ht2⟩ := argType ht
  split at he
  · rename_i base dl dc n e1 e2
    rw [e1] at hd
    split at he
    · rename_i cs e3
      obtain ⟨cs', h1, h2⟩ := cellsIn_run (P := P) hs hx e3
      have hlen := lenOf_run (P := P) hx e2 w
      have hrun : ∀ b' c', ρ d = .slice b' dl c' → ∀ w', ((match b' with | some a => storeCells a cs' | none => (pure () : Sem Unit)).run P w = .ok () w') → (execOp ρ o).run P w = .ok (.value (.int .i64 (Nat.min n dl))) w' := by
        intro b' c' hr w' hst
        rw [builtin_exec ho hb, args_two ha, hr]
        simp only [Go.builtin, Builtin.copy_, Sem.run_bind, ht1]
        simp only [List.getElem?_toArray, List.getElem?_cons_zero, List.getElem?_cons_succ, Sem.run_bind, run_und ht2, Result.andThen_ok, hlen, run_size hn, h1, Sem.run_pure]
        cases b' with
        | none =>
          simp only [Sem.run_pure] at hst
          cases hst
          rfl
        | some a =>
          simp only at hst
          simp only [Sem.run_bind, hst, Result.andThen_ok, Sem.run_pure, goInt]
      split at he
      · split at he
        · rename_i hemp
          simp only [Option.some.injEq] at he
          generalize hr : ρ d = r at hd
          cases hd
          exact ⟨α, _, _, _, w, he.symm, Al.le_refl _, .int _ _, hs, .inl (hrun none dc hr w rfl)⟩
        · cases he
      · rename_i i k s
        cases hp : putN H i k cs with
        | none => rw [hp] at he; cases he
        | some H' =>
          rw [hp] at he
          simp only [Option.map_some, Option.some.injEq] at he
          generalize hr : ρ d = r at hd
          by_cases hnil : cs = []
          · subst hnil
            cases h2
            have : H' = H := by simp [putN] at hp; exact hp.symm
            subst this
            have : ∃ b c', r = .slice (some b) dl c' := by cases hd <;> exact ⟨_, _, rfl⟩
            obtain ⟨b, c', rfl⟩ := this
            exact ⟨α, _, _, _, w, he.symm, Al.le_refl _, .int _ _, hs, .inl (hrun _ c' hr w rfl)⟩
          · have hdl : dl ≠ 0 := by
              rintro rfl
              have : Nat.min n 0 = 0 := Nat.min_zero n
              rw [this] at e3
              unfold cellsIn at e3
              split at e3 <;> simp at e3
              · exact hnil e3
              · exact hnil e3
              · exact hnil (by rw [← e3.2]; rfl)
            have : ∃ b sh c', r = .slice (some ⟨b, sh + k, none⟩) dl c' ∧ α i = some (b, sh) := by
              cases hd with
              | slx h hn hoo => rcases hoo with rfl | hoo; exact ⟨_, _, _, rfl, h⟩; omega
              | slz a => exact absurd rfl hdl
              | sli h hn hcc hoo htt => rcases hoo with rfl | hoo; exact ⟨_, _, _, rfl, h⟩; omega
            obtain ⟨b, sh, c', rfl, hai⟩ := this
            obtain ⟨w', g1, g2⟩ := hs.put hp h2 P hai
            exact ⟨α, _, _, _, w', he.symm, Al.le_refl _, .int _ _, g2, .inl (hrun _ c' hr w' g1)⟩
    · cases he
  · cases he

theorem growBy_ge : ∀ (r c n : Nat), n ≤ c → Builtin.growBy n r c = c
  | 0, c, n, h => rfl
  | r + 1, c, n, h => by simp [Builtin.growBy, h]
theorem growBy_le : ∀ (r c n : Nat), c < n → Builtin.growBy n r c ≤ n + (n + 768) / 4
  | 0, c, n, h => by simp [Builtin.growBy]; omega
  | r + 1, c, n, h => by
    simp only [Builtin.growBy]
    rw [if_neg (by omega)]
    by_cases h2 : c + (c + 768) / 4 < n
    · exact growBy_le r _ n h2
    · rw [growBy_ge r _ n (by omega)]; omega
theorem nextcap_le {n c : Nat} (h : c < n) : Builtin.nextslicecap n c ≤ 2 * n + 1024 := by
  unfold Builtin.nextslicecap
  split
  · omega
  · split
    · omega
    · have := growBy_le 4 c n h; omega

end
end Ve
end Go.Proofs.YtnociodpfmlglaaGreatDoor
