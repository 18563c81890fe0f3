/-
  append: whatever capacity there is.
-/
import Derived.Test.YtnociodpfmlglaaGreatDoorVB
import Derived.Lib.UnsafeStr
import Derived.Lib.Builder
import Derived.MapKept
set_option linter.unusedVariables false
set_option linter.unusedSimpArgs false
namespace Go.Proofs.YtnociodpfmlglaaGreatDoor
namespace Ve
open Go Go.RowKit
section
variable {P : Program} {α : Al} {ρ : Operand → Value} {env : Env} {w0 w : World} {H : Heap}

/-- What append asks of its operands' types. -/
structure AppTypes (P : Program) (c : Call) (e : TypeId) (i : TypeInfo) (z : Value) : Prop where
  t0 : ∃ t, c.argTypes[0]? = some t ∧ P.underlying t = some (.slice e)
  t1 : ∃ t d, c.argTypes[1]? = some t ∧ P.underlying t = some d ∧ ((∃ e, d = .slice e) ∨ d = .string)
  info : P.info? e = some i
  zero : i.zero = some z
  size : z.cells.size = i.size

theorem AppTypes.cells {c : Call} {e : TypeId} {i : TypeInfo} {z : Value} (h : AppTypes P c e i z) : cells? P e = some i.size := by simp [cells?, h.info]

/-- There is room. -/
theorem append_room {c : Call} {e : TypeId} {i : TypeInfo} {z : Value} (T : AppTypes P c e i z) {b : Option Addr} {sLen cap n : Nat} {x : Value} {new : List Value} (hn : (Builtin.lenOf x).run P w = .ok n w) (hx : (Builtin.firstCells i.size n x).run P w = .ok ⟨new⟩ w)
    (hc : sLen + n ≤ cap) {w' : World} (hst : (match b with | some a => storeCells (a.add (sLen * i.size)) new | none => (pure () : Sem Unit)).run P w = .ok () w') (ty : TypeId) :
    (Builtin.append_ c.argTypes ty #[.slice b sLen cap, x]).run P w = .ok (.slice b (sLen + n) cap) w' := by
  obtain ⟨t0, h1, h2⟩ := T.t0
  obtain ⟨t1, d, h3, h4, h5⟩ := T.t1
  unfold Builtin.append_
  simp only [Sem.run_bind, h1, List.getElem?_toArray, List.getElem?_cons_zero, List.getElem?_cons_succ, run_und h2, Result.andThen_ok, run_size T.cells, h3, Sem.run_pure, run_und h4]
  rcases h5 with ⟨e', rfl⟩ | rfl
  all_goals
    simp only [Bool.false_eq_true, if_false, hn, Result.andThen_ok, if_pos hc, Bool.not_false, if_true, Sem.run_bind, hx]
    cases b with
    | none =>
      simp only [Sem.run_pure] at hst
      cases hst
      rfl
    | some a =>
      simp only at hst
      simp only [Sem.run_bind, hst, Result.andThen_ok, Sem.run_pure]

/-- There is none. -/
theorem append_none {c : Call} {e : TypeId} {i : TypeInfo} {z : Value} (T : AppTypes P c e i z) {b : Option Addr} {sLen cap n : Nat} {x : Value} {old new : List Value} (hn : (Builtin.lenOf x).run P w = .ok n w)
    (ho : (Builtin.firstCells i.size sLen (.slice b sLen cap)).run P w.drew = .ok ⟨old⟩ w.drew) (hx : (Builtin.firstCells i.size n x).run P w.drew = .ok ⟨new⟩ w.drew)
    (hc : cap < sLen + n) (hb : (2 * (sLen + n) + 1024) * i.bytes ≤ 140737488355328) (hb2 : sLen + n ≤ 140737488355328) (ty : TypeId) :
    ∃ post : List Value, post.length = (grownCap w (sLen + n) cap e - (sLen + n)) * i.size ∧
    (Builtin.append_ c.argTypes ty #[.slice b sLen cap, x]).run P w = .ok (.slice (some ⟨w.heap.size, 0, none⟩) (sLen + n) (grownCap w (sLen + n) cap e)) (w.drew.alloc (.cells ⟨old ++ new ++ post⟩ e)) := by
  obtain ⟨t0, h1, h2⟩ := T.t0
  obtain ⟨t1, d, h3, h4, h5⟩ := T.t1
  refine ⟨(Builtin.zeroCells z.cells (grownCap w (sLen + n) cap e - (sLen + n))).toList, ?_, ?_⟩
  · simp [Builtin.zeroCells, T.size]
  · unfold Builtin.append_
    simp only [Sem.run_bind, h1, List.getElem?_toArray, List.getElem?_cons_zero, List.getElem?_cons_succ, run_und h2, Result.andThen_ok, run_size T.cells, h3, Sem.run_pure, run_und h4]
    have hmax : ¬ (((sLen + n : Nat) : Int) > IntKind.i64.max ∧ (False ∨ i.bytes = 0)) := by
      have : IntKind.i64.max = 9223372036854775807 := by decide
      rw [this]; omega
    have hnext : ¬ (Builtin.nextslicecap (sLen + n) cap * i.bytes > 2 ^ 48) := by
      have h1 := nextcap_le hc
      have h2 := Nat.mul_le_mul_right i.bytes h1
      omega
    have hforced : (Question.appendCap (sLen + n) cap e).forced = false := rfl
    have hch : (choose (.appendCap (sLen + n) cap e)).run P w = .ok (grownCap w (sLen + n) cap e) w.drew := by
      rw [run_choose, hforced]; rfl
    have hzero : ∀ w', (zeroValue e).run P w' = .ok z w' := by intro w'; simp [zeroValue, run_info T.info, T.zero]
    have harr : ((⟨old⟩ : Array Value) ++ ⟨new⟩ ++ Builtin.zeroCells z.cells (grownCap w (sLen + n) cap e - (sLen + n))) = ⟨old ++ new ++ (Builtin.zeroCells z.cells (grownCap w (sLen + n) cap e - (sLen + n))).toList⟩ := by
      apply Array.ext'; simp
    rcases h5 with ⟨e', rfl⟩ | rfl
    all_goals
      simp only [Bool.false_eq_true, if_false, hn, Result.andThen_ok, if_neg (Nat.not_le.2 hc), Sem.run_bind, run_info T.info]
      simp only [if_neg hmax]
      simp only [Sem.run_pure, Result.andThen_ok, Sem.run_bind, run_info T.info]
      simp only [if_neg hnext]
      simp only [Sem.run_pure, Result.andThen_ok, Sem.run_bind, hch, run_askRoom, run_info T.info, ho, Bool.not_false, if_true, hx, hzero, newRow, run_newObj]
      rw [harr]
      rfl

theorem cellsIn_nil {size : Nat} {x : Value} {cs : List Value} (h : cellsIn H size 0 x = some cs) : cs = [] := by
  unfold cellsIn at h
  split at h
  · simp at h; exact h
  · simp at h; exact h
  · split at h
    · cases h; rfl
    · cases h
  · simp at h
  · cases h

theorem cellsIn_length {size n : Nat} {x : Value} {cs : List Value} (h : cellsIn H size n x = some cs) (hl : lenOf x = some n) (h0 : 0 < size) : cs.length = n * size := by
  unfold cellsIn at h
  split at h
  · split at h
    · rename_i e; cases h; simp [e]
    · cases h
  · split at h
    · rename_i e; cases h; rw [e]; rfl
    · split at h
      · unfold getN at h
        split at h
        · split at h
          · cases h; simp; omega
          · cases h
        · cases h
      · cases h
  · split at h
    · rename_i e
      cases h
      simp only [lenOf, Option.some.injEq] at hl
      simp [byteCells, bytesOf, ← hl, e]
    · cases h
  · split at h
    · rename_i e
      simp only [Option.some.injEq] at h
      rw [← h]; exact e.1
    · cases h
  · cases h

theorem Sim.kill {α : Al} {w0 w : World} {H : Heap} (h : Sim α w0 H w) (i : Nat) : Sim α w0 (H.set i .dead) w := by
  refine ⟨h.lt, fun j hj => h.dom j (by simpa using hj), h.below, ?_, ?_, ?_⟩
  · intro j b hb
    rcases set_get hb with ⟨rfl, rfl⟩ | ⟨hne, hb⟩
    · trivial
    · exact h.blk j b hb
  · intro bb oo hm
    obtain ⟨g1, g2, g3⟩ := h.gh bb oo hm
    refine ⟨g1, g2, fun j x p hx ox hp => ?_⟩
    rcases set_get hx with ⟨rfl, rfl⟩ | ⟨hne, hx⟩
    · simp [own] at ox
    · exact g3 j x p hx ox hp
  · intro j k bj bk p q hjk hj hk oj ok hp hq
    rcases set_get hj with ⟨_, rfl⟩ | ⟨hnj, gj⟩
    · simp [own] at oj
    · rcases set_get hk with ⟨_, rfl⟩ | ⟨hnk, gk⟩
      · simp [own] at ok
      · exact h.inj j k bj bk p q hjk gj gk oj ok hp hq

/-- The old block's memory is taken over: what lies from its cell o on, and new cells behind it. -/
theorem Sim.steal {α : Al} {w0 w : World} {H : Heap} (h : Sim α w0 H w) {i o fz b sh : Nat} {t t' : Option Nat} (htt' : t' = t ∨ t' = none) {c new new' : List Value} (hb : H[i]? = some (.cells c (.loose t) fz)) (ha : α i = some (b, sh)) (hn : VRs α new new') (hone : new.all one = true)
    (hr : sh + c.length + new.length ≤ α.tot b) (ho : o ≤ c.length) (hfz : fz ≤ c.length) (P : Program) :
    ∃ w', (storeCells ⟨b, sh + c.length, none⟩ new').run P w = .ok () w' ∧ Sim (α.ext H.length (b, sh + o) (α.tot b)) w0 (push (H.set i .dead) (.cells (c.drop o ++ new) (.loose t') (fz - o))) w' ∧ α.le (α.ext H.length (b, sh + o) (α.tot b)) := by
  have hle : α.le (α.ext H.length (b, sh + o) (α.tot b)) := Al.le_ext (h.dom _ (Nat.le_refl _)) fun _ _ _ _ => rfl
  obtain ⟨b', sh', pre, c', post, ty, lo, hi, h1, h2, h3, h4, h5, h6⟩ := h.blk i _ hb
  rw [ha] at h1; cases h1
  obtain ⟨h7, h8, h9, h10, h11⟩ := h6 (by simp)
  have hl := hn.length
  have hl' := h4.length
  obtain ⟨w', r1, r2, r3, r4, r5, r6, r7⟩ := run_storeCells (P := P) new' (sh + c.length) 0 (pre ++ c' ++ post) w h2 (by simp; omega) (fun j hj1 hj2 => h8 j (by omega) (by omega)) (hn.one hone)
  refine ⟨w', r1, ?_, hle⟩
  have hB := Below.of_frame h.below h7 r3 r4 r5 r6 r7
  have hk := h.kill i
  refine ⟨?_, ?_, hB, ?_, ?_, ?_⟩
  · intro j p hp
    rw [r4]
    by_cases e : j = H.length
    · subst e; rw [Al.ext_new] at hp; cases hp; exact h.lt i (b, sh) ha
    · rw [Al.ext_old α _ _ e] at hp; exact h.lt j p hp
  · intro j hj
    simp only [push, List.length_append, List.length_singleton, List.length_set] at hj
    rw [Al.ext_old α _ _ (by omega)]
    exact h.dom j (by omega)
  · intro j x hx
    rcases push_get hx with ⟨hj, gx⟩ | ⟨e1, e2⟩
    · rw [List.length_set] at hj
      by_cases hd : x = .dead
      · subst hd; trivial
      · refine ((hk.blk j x gx).mono hle).congr ?_
        intro p hp
        rw [Al.ext_old α _ _ (Nat.ne_of_lt hj)] at hp
        refine r3 _ ?_
        rcases set_get gx with ⟨_, rfl⟩ | ⟨hne, gx⟩
        · exact absurd rfl hd
        · by_cases ox : own x = true
          · exact h.inj j i x _ p (b, sh) hne gx hb ox rfl hp ha
          · intro e
            cases x with
            | dead => exact hd rfl
            | siter s q => simp [own] at ox
            | mp es => simp [own] at ox
            | cells cc m ff =>
              have hm : m = .ro := by cases m <;> simp [own] at ox ⊢
              obtain ⟨b', sh', pre', c'', post', ty', lo', hi', g1, g2, g3, g4, g5, _⟩ := h.blk j _ gx
              rw [hp] at g1; cases g1
              have := g5 hm
              simp only at e; omega
    · rw [List.length_set] at e1
      subst e1; subst e2
      refine ⟨b, sh + o, pre ++ c'.take o, c'.drop o ++ new', post.drop new.length, ty, lo, hi, Al.ext_new _ _ _ _, ?_, ?_, ?_, (fun e => nomatch e), fun _ => ⟨h7, ?_, ?_⟩⟩
      · rw [r2, Nat.add_zero]
        congr 3
        unfold splice
        have e1 : (pre ++ c' ++ post).take (sh + c.length) = pre ++ c' := by
          rw [List.take_append_of_le_length (by simp; omega), List.take_of_length_le (by simp; omega)]
        have e2 : (pre ++ c' ++ post).drop (sh + c.length + new'.length) = post.drop new.length := by
          rw [List.drop_append, List.drop_of_length_le (by simp; omega)]
          simp only [List.nil_append]
          congr 1
          simp; omega
        rw [e1, e2]
        simp only [List.append_assoc]
        rw [← List.append_assoc (c'.take o) (c'.drop o), List.take_append_drop]
      · simp; omega
      · exact ((h4.drop o).append hn).mono hle
      · intro j hj1 hj2
        simp only [List.length_append, List.length_drop] at hj2
        exact h8 j (by omega) (by omega)
      · have ht : (α.ext H.length (b, sh + o) (α.tot b)).tot b = α.tot b := Al.ext_tot α H.length (b, sh + o) (α.tot b)
        rw [ht]
        simp only [List.length_append, List.length_drop]
        refine ⟨by omega, fun u hu => ?_, fun _ e => nomatch e⟩
        rcases htt' with e | e
        · have := h10 u (by rw [← e]; exact hu)
          exact ⟨this.1, by omega⟩
        · rw [e] at hu; cases hu
  · intro bb oo hm
    obtain ⟨g1, g2, g3⟩ := h.gh bb oo hm
    have hne : b ≠ bb := g3 i _ (b, sh) hb rfl ha
    refine ⟨g1, (r3 bb (fun e => hne e.symm)).trans g2, ?_⟩
    intro j x p hx ox hp
    rcases push_get hx with ⟨lj, gj⟩ | ⟨ej, fj⟩
    · rw [List.length_set] at lj
      rw [Al.ext_old α _ _ (Nat.ne_of_lt lj)] at hp
      rcases set_get gj with ⟨_, rfl⟩ | ⟨nj, gj⟩
      · simp [own] at ox
      · exact g3 j x p gj ox hp
    · rw [List.length_set] at ej
      subst ej
      rw [Al.ext_new] at hp; cases hp
      exact hne
  · intro j k bj bk p q hjk hj hk' oj ok hp hq
    rcases push_get hj with ⟨lj, gj⟩ | ⟨ej, fj⟩
    · rw [List.length_set] at lj
      rw [Al.ext_old α _ _ (Nat.ne_of_lt lj)] at hp
      rcases set_get gj with ⟨_, rfl⟩ | ⟨nj, gj⟩
      · simp [own] at oj
      · rcases push_get hk' with ⟨lk, gk⟩ | ⟨ek, fk⟩
        · rw [List.length_set] at lk
          rw [Al.ext_old α _ _ (Nat.ne_of_lt lk)] at hq
          rcases set_get gk with ⟨_, rfl⟩ | ⟨nk, gk⟩
          · simp [own] at ok
          · exact h.inj j k bj bk p q hjk gj gk oj ok hp hq
        · rw [List.length_set] at ek
          subst ek
          rw [Al.ext_new] at hq; cases hq
          exact h.inj j i bj _ p (b, sh) nj gj hb oj rfl hp ha
    · rw [List.length_set] at ej
      subst ej
      rw [Al.ext_new] at hp; cases hp
      rcases push_get hk' with ⟨lk, gk⟩ | ⟨ek, fk⟩
      · rw [List.length_set] at lk
        rw [Al.ext_old α _ _ (Nat.ne_of_lt lk)] at hq
        rcases set_get gk with ⟨_, rfl⟩ | ⟨nk, gk⟩
        · simp [own] at ok
        · have := h.inj k i bk _ q (b, sh) nk gk hb ok rfl hq ha
          exact fun e => this e.symm
      · rw [List.length_set] at ek; exact absurd ek.symm hjk


theorem l_append {o : Oper} {c : Call} {e : TypeId} {i : TypeInfo} {z : Value} {s x : Operand} {out : Out} (ho : o.op = .call c) (hb : c.callee = .builtin .append) (ha : c.args.toList = [s, x]) (T : AppTypes P c e i z)
    (hsv : VR α (rd env s) (ρ s)) (hx : VR α (rd env x) (ρ x)) (hs : Sim α w0 H w) (he : evI env H (.append e i.size i.bytes s x) = some out) : Loud P α w0 w o ρ out := by
  simp only [evI] at he
  split at he
  case h_2 => cases he
  rename_i n hn
  split at he
  case h_2 => cases he
  rename_i new hnew
  have hlen := lenOf_run (P := P) hx hn w
  obtain ⟨new', hf, hr⟩ := cellsIn_run (P := P) hs hx hnew
  have hsd : Sim α w0 H w.drew := hs.drawn _
  obtain ⟨new2, hf2, hr2⟩ := cellsIn_run (P := P) hsd hx hnew
  -- the call, out of append's own run
  have hexec : ∀ v, ρ s = v → ∀ r w', (Builtin.append_ c.argTypes o.type #[v, ρ x]).run P w = .ok r w' → (execOp ρ o).run P w = .ok (.value r) w' := by
    intro v hv r w' h
    rw [builtin_exec ho hb, args_two ha, hv]
    simp only [Go.builtin, Sem.run_bind, h, Result.andThen_ok, Sem.run_pure]
  unfold appendV at he
  split at he
  case h_2 => cases he
  rename_i base sLen sCap e1
  rw [e1] at hsv
  split at he
  · -- room for sure
    rename_i hroom
    split at he
    · split at he
      · rename_i hemp
        simp only [Option.some.injEq] at he
        have hnil : new = [] := by simpa using hemp
        subst hnil
        cases hr
        generalize hrs : ρ s = r at hsv
        cases hsv
        exact ⟨α, _, _, _, w, he.symm, Al.le_refl _, .snil _ _, hs, .inl (hexec _ hrs _ _ (append_room T hlen hf hroom (b := none) rfl _))⟩
      · cases he
    · rename_i j k sp
      split at he
      · rename_i H' hp
        simp only [Option.some.injEq] at he
        generalize hrs : ρ s = r at hsv
        by_cases hnil : new = []
        · subst hnil
          cases hr
          have : H' = H := by simp [putN] at hp; exact hp.symm
          subst this
          cases hsv with
          | slx h hn' hoo =>
            exact ⟨α, _, _, _, w, he.symm, Al.le_refl _, .slx h hroom hoo, hs, .inl (hexec _ hrs _ _ (append_room T hlen hf hroom (b := some _) rfl _))⟩
          | slz a =>
            have hn0 : n = 0 := by omega
            subst hn0
            exact ⟨α, _, _, _, w, he.symm, Al.le_refl _, .slz a, hs, .inl (hexec _ hrs _ _ (append_room T hlen hf hroom (b := some _) rfl _))⟩
          | sli h hn' hcc hoo htt =>
            exact ⟨α, _, _, _, w, he.symm, Al.le_refl _, .sli h hroom hcc hoo htt, hs, .inl (hexec _ hrs _ _ (append_room T hlen hf (by omega) (b := some _) rfl _))⟩
        · have hn0 : n ≠ 0 := by rintro rfl; exact hnil (cellsIn_nil hnew)
          cases hsv with
          | slx h hn' hoo =>
            rcases hoo with rfl | hoo
            · obtain ⟨w', g1, g2⟩ := hs.put hp hr P h
              refine ⟨α, _, _, _, w', he.symm, Al.le_refl _, .slx h hroom (.inl rfl), g2, .inl (hexec _ hrs _ _ (append_room T hlen hf hroom (b := some _) ?_ _))⟩
              simp only [add_addr, Nat.add_assoc]
              exact g1
            · omega
          | slz a => omega
          | sli h hn' hcc hoo htt =>
            rcases hoo with rfl | hoo
            · obtain ⟨w', g1, g2⟩ := hs.put hp hr P h
              refine ⟨α, _, _, _, w', he.symm, Al.le_refl _, .sli h hroom hcc (.inl rfl) htt, g2, .inl (hexec _ hrs _ _ (append_room T hlen hf (by omega) (b := some _) ?_ _))⟩
              simp only [add_addr, Nat.add_assoc]
              exact g1
            · omega
      · cases he
  · rename_i hroom
    split at he
    case isFalse => cases he
    rename_i hcond
    obtain ⟨c1, c2, c3, c4⟩ := hcond
    have hnn : new.length = n * i.size := cellsIn_length hnew hn c3
    have hgrow := hr2.length
    -- a new row
    have fresh : ∀ (mt : Option Nat), (∀ t, mt = some t → e = t) → ∀ (H0 : Heap) (old old' : List Value) (fz : Nat) (b : Option Addr) (cap' : Nat), ρ s = .slice b sLen cap' → cap' < sLen + n → (Builtin.firstCells i.size sLen (.slice b sLen cap')).run P w.drew = .ok ⟨old'⟩ w.drew → VRs α old old' → old.length = sLen * i.size →
        Sim α w0 H0 w.drew → (new.length = n * i.size) → Loud P α w0 w o ρ (.ret (.slice (some ⟨H0.length, 0, some i.size⟩) (sLen + n) (sLen + n)) (push H0 (.cells (old ++ new) (.loose mt) fz))) := by
      intro mt hmt H0 old old' fz b cap' hrs hcap hold hro hol hs0 hnn
      obtain ⟨post, hpl, hrun⟩ := append_none T hlen hold hf2 hcap c1 c2 o.type
      have hge := grownCap_ge w (sLen + n) cap' e
      have hsim := hs0.grow_cells (w' := w.drew.alloc (.cells ⟨old' ++ new2 ++ post⟩ e)) (below_alloc _ _) (hro.append hr2) (.loose mt) (by simp) fz (ty := e) (fr := (0, 0)) (fun t e => ⟨hmt t (by injection e), Nat.zero_le _⟩) (fun _ e => nomatch e) (by rw [heap_alloc_new]) (by intro j _; omega)
      refine ⟨_, _, _, _, _, rfl, hs0.le_ext _, .sli0 (Al.ext_new _ _ _ _) (Nat.le_refl _) hge ?_, hsim, .inl (hexec _ hrs _ _ hrun)⟩
      have ht := Al.ext_tot α H0.length (w.drew.heap.size, 0) ((old ++ new).length + post.length)
      simp only at ht
      rw [ht, List.length_append, hol, hnn, hpl, ← Nat.add_mul, ← Nat.add_mul]
      exact Nat.mul_le_mul_right _ (by omega)
    split at he
    · split at he
      · rename_i h0
        subst h0
        simp only [Option.some.injEq] at he
        generalize hrs : ρ s = r at hsv
        cases hsv
        have := fresh (some e) (fun _ h => by injection h) H [] [] 0 none sCap hrs (by omega) rfl .nil (by simp) hsd hnn
        simp only [Nat.zero_add, List.nil_append] at this
        rw [← he]; exact this
      · cases he
    · rename_i j k
      split at he
      · rename_i old hg
        simp only [Option.some.injEq] at he
        have hol : old.length = sLen * i.size := by
          unfold getN at hg
          split at hg
          · split at hg
            · cases hg; simp; omega
            · cases hg
          · cases hg
        generalize hrs : ρ s = r at hsv
        cases hsv with
        | slx h hn' hoo =>
          rename_i b sh o'
          rw [← he]
          by_cases h0 : sLen * i.size = 0
          · have : old = [] := List.eq_nil_of_length_eq_zero (by omega)
            subst this
            exact fresh (some e) (fun _ h => by injection h) H [] [] 0 (some ⟨b, o', none⟩) sCap hrs (by omega) (by simp only [Builtin.firstCells, h0]; rfl) .nil (by simp; omega) hsd hnn
          · have hs0 : sLen ≠ 0 := by rintro rfl; simp at h0
            rcases hoo with rfl | hoo
            · obtain ⟨old', h1, h2, h3⟩ := getN_cells hsd hg h P
              exact fresh (some e) (fun _ h => by injection h) H old old' 0 (some ⟨b, sh + k, none⟩) sCap hrs (by omega) h1 h2 hol hsd hnn
            · omega
        | slz a =>
          rw [← he]
          have : old = [] := List.eq_nil_of_length_eq_zero (by omega)
          subst this
          exact fresh (some e) (fun _ h => by injection h) H [] [] 0 (some a) 0 hrs (by omega) (by simp only [Builtin.firstCells, Nat.zero_mul]; rfl) .nil (by simp) hsd hnn
      · cases he
    · rename_i j k sp
      split at he
      · rename_i cc tt fz hbk
        split at he
        · rename_i hcond
          obtain ⟨d1, d2, d3⟩ := hcond
          subst d2
          simp only [Option.some.injEq] at he
          rw [← he]
          have hmt : ∀ t, (if tt = some e then some e else none) = some t → e = t := fun t h => by split at h <;> cases h; rfl
          have htt' : (if tt = some e then some e else none) = tt ∨ (if tt = some e then some e else none) = none := by
            by_cases h : tt = some e
            · left; rw [if_pos h]; exact h.symm
            · right; rw [if_neg h]
          generalize hrs : ρ s = r at hsv
          cases hsv with
          | sli h hn' hcc hoo htt =>
            rename_i b sh o' cap'
            have hkl : k ≤ cc.length := by omega
            by_cases hroom' : sLen + n ≤ cap'
            · -- the old row had room
              have hoff : o' = sh + k ∨ new = [] := by
                rcases hoo with hoo | hoo
                · exact .inl hoo
                · right
                  have : n = 0 := by omega
                  subst this
                  exact cellsIn_nil hnew
              have hoff2 : o' = sh + k := by
                rcases hoo with hoo | hoo
                · exact hoo
                · omega
              subst hoff2
              have hfit : sh + cc.length + new.length ≤ α.tot b := by
                have := Nat.mul_le_mul_right i.size hroom'
                rw [Nat.add_mul] at this
                omega
              obtain ⟨w', g1, g2, g3⟩ := hs.steal htt' hbk h hr c4 hfit hkl d3 P
              refine ⟨_, _, .slice (some ⟨b, sh + k, none⟩) (sLen + n) cap', _, w', rfl, g3, ?_, g2, .inl (hexec _ hrs _ _ (append_room T hlen hf hroom' (b := some _) ?_ _))⟩
              · have ht : (α.ext H.length (b, sh + k) (α.tot b)).tot b = α.tot b := Al.ext_tot α H.length (b, sh + k) (α.tot b)
                have := VR.sli (α := α.ext H.length (b, sh + k) (α.tot b)) (i := H.length) (o := 0) (s := i.size) (b := b) (sh := sh + k) (o' := sh + k) (n := sLen + n) (c := sLen + n) (c' := cap') (Al.ext_new _ _ _ _) (Nat.le_refl _) hroom' (.inl (by simp)) (by rw [ht]; exact htt)
                exact this
              · simp only [add_addr]
                rw [show sh + k + sLen * i.size = sh + cc.length by omega]
                exact g1
            · -- it had none
              have hg : getN H j k (sLen * i.size) = some (cc.drop k) := by
                unfold getN
                rw [hbk]
                simp only
                rw [if_pos (by omega), List.take_of_length_le (by simp; omega)]
              have hlen2 : (H.set j .dead).length = H.length := List.length_set
              rw [← hlen2]
              by_cases h0 : sLen * i.size = 0
              · have : cc.drop k = [] := by
                  apply List.drop_of_length_le; omega
                rw [this]
                exact fresh _ hmt (H.set j .dead) [] [] _ (some ⟨b, o', none⟩) cap' hrs (by omega) (by simp only [Builtin.firstCells, h0]; rfl) .nil (by simp; omega) (hsd.kill j) hnn
              · have hs0 : sLen ≠ 0 := by rintro rfl; simp at h0
                rcases hoo with rfl | hoo
                · obtain ⟨old', h1, h2, h3⟩ := getN_cells hsd hg h P
                  exact fresh _ hmt (H.set j .dead) (cc.drop k) old' _ (some ⟨b, sh + k, none⟩) cap' hrs (by omega) h1 h2 (by simp; omega) (hsd.kill j) hnn
                · omega
        · cases he
      · cases he

end
end Ve
end Go.Proofs.YtnociodpfmlglaaGreatDoor

/-
  Operations on unsafe pointers: a Builder's check, and its text.
-/
set_option linter.unusedVariables false
set_option linter.unusedSimpArgs false
namespace Go.Proofs.YtnociodpfmlglaaGreatDoor
namespace Ve
open Go Go.RowKit

section
variable {P : Program} {α : Al} {ρ : Operand → Value} {env : Env} {w0 w : World} {H : Heap}

theorem q_eqp {o : Oper} {neg : Bool} {t ty e : TypeId} {j : TypeInfo} {x y : Operand} (ho : o.op = .binOp (if neg then .neq else .eql) t x y ty) (ht : P.underlying t = some (.pointer e)) (hj : P.info? e = some j)
    (hx : VR α (rd env x) (ρ x)) (hy : VR α (rd env y) (ρ y)) : Quiet P α o ρ env (.eqp neg x y) := by
  intro H out he
  have hq := q_eqn (P := P) (α := α) (ρ := ρ) (env := env) (k := .ptr) ho ht rfl (fun e => nomatch e) hx hy
  simp only [evI] at he
  split at he
  · rename_i i o1 i' o2 e1 e2
    split at he
    · rename_i hio
      obtain ⟨rfl, rfl⟩ := hio
      simp only [Option.some.injEq] at he
      refine ⟨_, _, he.symm, fun H2 => by simp [evI, e1, e2], .bool _, fun w => .inl ?_⟩
      rw [e1] at hx; rw [e2] at hy
      have hc : ∃ a : Addr, ρ x = .pointer (some a) ∧ ρ y = .pointer (some a) := by
        generalize ρ x = r at hx
        generalize ρ y = s at hy
        cases hx with
        | ptr h =>
          cases hy with
          | ptr h' => rw [h] at h'; cases h'; exact ⟨_, rfl, rfl⟩
      obtain ⟨a, h1, h2⟩ := hc
      have hg : ∀ op, (eqGuard op t x y (ρ x) (ρ y)).run P w = .ok () w := by
        intro op
        refine eqGuard_other w ?_ ?_
        · rintro c d ⟨h3, h4⟩; rw [h1] at h3; cases h3
        · intro h3 h4; rw [h1] at h3; cases h3
      rw [h1, h2] at hg
      simp only [execOp, ho, Sem.run_bind, h1, h2, hg, Result.andThen_ok]
      cases neg
      · simp only [Bool.false_eq_true, if_false, run_eql_ptr_same w a ht hj, Result.andThen_ok, Sem.run_pure]; rfl
      · simp only [if_true, Lib.run_neq_ptr_same w a ht hj, Result.andThen_ok, Sem.run_pure]; rfl
    · cases he
  · rename_i a hn e1 e2
    have := hq H out (by simp only [evI, e1, e2, isNil]; exact he)
    obtain ⟨v, v', h1, h2, h3, h4⟩ := this
    refine ⟨v, v', h1, fun H2 => ?_, h3, h4⟩
    have := h2 H2
    simp only [evI, e1, e2, isNil] at this ⊢
    exact this
  · rename_i b hn e1 e2
    cases b with
    | none => (simp only [e1, e2] at hn; first | exact hn.elim | exact (hn _ rfl rfl).elim | exact (hn rfl).elim | simp_all)
    | some b =>
      obtain ⟨v, v', h1, h2, h3, h4⟩ := hq H out (by
        simp only [evI, e1, e2, isNil]
        exact he)
      refine ⟨v, v', h1, fun H2 => ?_, h3, h4⟩
      have := h2 H2
      simp only [evI, e1, e2, isNil] at this ⊢
      exact this
  · cases he

theorem shape_of {w : World} {b : Nat} {cs : List Value} {ty : TypeId} {fr : Nat × Nat} (h : w.heap[b]? = some (.cells ⟨cs⟩ ty fr)) : w.shape? b = some (ty, cs.length) := by
  simp [World.shape?, h]

theorem l_uof {o : Oper} {s d t : TypeId} {n : Nat} {x : Operand} {out : Out} (ho : o.op = .convert s d x) (hs1 : P.underlying s = some (.pointer t)) (hd : P.underlying d = some .unsafePointer) (hn : cells? P t = some (n + 1))
    (hx : VR α (rd env x) (ρ x)) (hs : Sim α w0 H w) (he : evI env H (.uof x) = some out) : Loud P α w0 w o ρ out := by
  simp only [evI] at he
  split at he
  · rename_i e1
    rw [e1] at hx
    simp only [Option.some.injEq] at he
    refine ⟨α, _, .pointer none, _, w, he.symm, Al.le_refl _, .pnil, hs, .inl ?_⟩
    generalize hr : ρ x = r at hx
    cases hx
    simp [execOp, ho, hr, Go.convert, run_und hs1, run_und hd, Conv.unsafePointer]
  · rename_i i k sp e1
    rw [e1] at hx
    split at he
    · rename_i c m fz hb
      split at he
      · rename_i hk
        simp only [Option.some.injEq] at he
        generalize hr : ρ x = r at hx
        cases hx with
        | ptr h =>
          rename_i b sh
          refine ⟨α, _, _, _, w, he.symm, Al.le_refl _, .ptr h, hs, .inl ?_⟩
          obtain ⟨b', sh', pre, c', post, ty, lo, hi, h1, h2, h3, h4, h5, h6⟩ := hs.blk i _ hb
          rw [h] at h1; cases h1
          have hl := h4.length
          cases hj : P.info? t with
          | none => simp [cells?, hj] at hn
          | some j =>
            have hjs : j.size ≠ 0 := by simp [cells?, hj] at hn; omega
            have := Lib.run_to_unsafe (P := P) w ⟨b, sh + k, none⟩ hs1 hd hj hjs (shape_of h2) (by simp; omega)
            simp only [execOp, ho, hr, Sem.run_bind, this, Result.andThen_ok, Sem.run_pure]
      · cases he
    · cases he
  · cases he

theorem l_upt {o : Oper} {s d u : TypeId} {j : TypeInfo} {x : Operand} {out : Out} (ho : o.op = .convert s d x) (hs1 : P.underlying s = some .unsafePointer) (hd : P.underlying d = some (.pointer u)) (hj : P.info? u = some j)
    (hx : VR α (rd env x) (ρ x)) (hs : Sim α w0 H w) (he : evI env H (.upt (typesAt P u) x) = some out) : Loud P α w0 w o ρ out := by
  simp only [evI] at he
  split at he
  · rename_i e1
    rw [e1] at hx
    simp only [Option.some.injEq] at he
    refine ⟨α, _, .pointer none, _, w, he.symm, Al.le_refl _, .pnil, hs, .inl ?_⟩
    generalize hr : ρ x = r at hx
    cases hx
    simp [execOp, ho, hr, Go.convert, run_und hs1, run_und hd, Conv.unsafePointer]
  · rename_i i sp e1
    rw [e1] at hx
    split at he
    · rename_i c t fz hb
      split at he
      · rename_i hk
        simp only [Option.some.injEq] at he
        generalize hr : ρ x = r at hx
        cases hx with
        | ptr h =>
          rename_i b sh
          refine ⟨α, _, _, _, w, he.symm, Al.le_refl _, .ptr h, hs, .inl ?_⟩
          obtain ⟨b', sh', pre, c', post, ty, lo, hi, h1, h2, h3, h4, h5, h6⟩ := hs.blk i _ hb
          rw [h] at h1; cases h1
          obtain ⟨_, _, _, _, h7⟩ := h6 (by simp)
          obtain ⟨rfl, rfl, rfl⟩ := h7 t rfl
          have hl := h4.length
          have hmem : (ty, c.length) ∈ typesAt P u := by simpa using hk
          simp only [typesAt, List.mem_filterMap, List.mem_range] at hmem
          obtain ⟨t2, _, h8⟩ := hmem
          split at h8
          · rename_i h9
            simp only [Option.some.injEq, Prod.mk.injEq] at h8
            obtain ⟨rfl, h8⟩ := h8
            simp only [List.length_nil] at h3
            subst h3
            have hdiv : ([] ++ c' ++ [] : List Value).length / P.cellsOf t2 = 1 := by
              simp only [List.nil_append, List.append_nil, hl, ← h8]
              exact Nat.div_self h9.1
            have := Lib.run_from_unsafe (P := P) w ⟨b, 0 + 0, none⟩ hs1 hd hj (shape_of h2) (by rw [hdiv]; exact h9.2)
            simp only [execOp, ho, hr, Sem.run_bind, this, Result.andThen_ok, Sem.run_pure]
          · cases h8
      · cases he
    · cases he
  · cases he

theorem l_uslice {o : Oper} {c : Call} {x : Operand} {out : Out} (ho : o.op = .call c) (hb : c.callee = .builtin .unsafeSliceData) (ha : c.args.toList = [x])
    (hx : VR α (rd env x) (ρ x)) (hs : Sim α w0 H w) (he : evI env H (.uslice x) = some out) : Loud P α w0 w o ρ out := by
  have hexec : ∀ v, ρ x = v → ∀ r, (Builtin.unsafeSliceData_ c.argTypes o.type #[v]).run P w = .ok r w → (execOp ρ o).run P w = .ok (.value r) w := by
    intro v hv r h
    rw [builtin_exec ho hb, args_one ha, hv]
    simp only [Go.builtin, Sem.run_bind, h, Result.andThen_ok, Sem.run_pure]
  simp only [evI] at he
  split at he
  · rename_i n cc e1
    rw [e1] at hx
    simp only [Option.some.injEq] at he
    generalize hr : ρ x = r at hx
    cases hx
    exact ⟨α, _, _, _, w, he.symm, Al.le_refl _, .pnil, hs, .inl (hexec _ hr _ rfl)⟩
  · rename_i i k sp n cc e1
    rw [e1] at hx
    split at he
    · rename_i h0
      simp only [Option.some.injEq] at he
      generalize hr : ρ x = r at hx
      cases hx with
      | slx h hn hoo =>
        rcases hoo with rfl | hoo
        · exact ⟨α, _, _, _, w, he.symm, Al.le_refl _, .ptr h, hs, .inl (hexec _ hr _ (Lib.run_unsafeSliceData_row w _ _ _ _ _ h0))⟩
        · omega
      | slz a => exact absurd rfl h0
      | sli h hn hcc hoo htt =>
        rcases hoo with rfl | hoo
        · exact ⟨α, _, _, _, w, he.symm, Al.le_refl _, .ptr h, hs, .inl (hexec _ hr _ (Lib.run_unsafeSliceData_row w _ _ _ _ _ (by omega)))⟩
        · omega
    · cases he
  · cases he

theorem liesAt_row {e : TypeId} (hc : P.cellsOf e = 1) (count off n : Nat) (hn : off + n ≤ count) : liesAt P P.depth e count off e n = true := by
  have hd : P.depth = (2 * (P.types.size + Made.depth) + 1) + 1 := rfl
  rw [hd]
  simp only [liesAt, Bool.or_eq_true]
  left
  rw [hd]
  simp [rowAt, hc, hn, sameLayout, Nat.mod_one]

theorem loadBytes_run {b : Nat} {cs : List Value} {ty : TypeId} {fr : Nat × Nat} (h : w.heap[b]? = some (.cells ⟨cs⟩ ty fr)) : ∀ (ns : List Int) (k : Nat) (acc : ByteArray), (cs.drop k).take ns.length = ns.map (Value.int .u8) →
    (loadBytes ⟨b, k, none⟩ acc ns.length).run P w = .ok ⟨acc.data ++ (ns.map fun n => UInt8.ofNat n.toNat).toArray⟩ w
  | [], k, acc, _ => by simp [loadBytes]
  | n :: ns, k, acc, hk => by
    cases hd : cs.drop k with
    | nil => rw [hd] at hk; simp at hk
    | cons v r =>
      rw [hd] at hk
      simp only [List.length_cons, List.take_succ_cons, List.map_cons, List.cons.injEq] at hk
      have hv : cs[k]? = some (.int .u8 n) := by
        have : (cs.drop k)[0]? = some v := by rw [hd]; rfl
        rw [List.getElem?_drop] at this
        rw [← hk.1]; simpa using this
      have hc : w.cell? ⟨b, k, none⟩ = some (.int .u8 n) := by rw [cell?_of h]; exact hv
      have hdrop : cs.drop (k + 1) = r := by
        rw [← List.drop_drop, hd]; rfl
      have ih := loadBytes_run h ns (k + 1) (acc.push n.toNat.toUInt8) (by rw [hdrop]; exact hk.2)
      have hadd : (⟨b, k, none⟩ : Addr).add 1 = ⟨b, k + 1, none⟩ := by simp [Addr.add]
      simp only [List.length_cons, loadBytes, Sem.run_bind, run_load, hc, Result.andThen, hadd]
      rw [ih]
      congr 1
      apply ByteArray.ext
      simp [ByteArray.push]

theorem freeze_heap {b k n : Nat} {cs : Array Value} {ty : TypeId} {lo hi : Nat} (h : w.heap[b]? = some (.cells cs ty (lo, hi))) (hn : n ≠ 0) :
    ∃ fr : Nat × Nat, (w.freeze ⟨b, k, none⟩ n).heap[b]? = some (.cells cs ty fr) ∧ fr.2 ≤ max hi (k + n) := by
  unfold World.freeze
  rw [if_neg hn]
  simp only [Array.getElem?_modify, if_true, h, Option.map_some]
  by_cases e : (lo == hi) = true
  · rw [if_pos e]
    exact ⟨_, rfl, by simp only; omega⟩
  · rw [if_neg e]
    exact ⟨_, rfl, by simp only; omega⟩

theorem freeze_ne {b k n j : Nat} (h : j ≠ b) : (w.freeze ⟨b, k, none⟩ n).heap[j]? = w.heap[j]? := by
  unfold World.freeze
  split
  · rfl
  · simp only [Array.getElem?_modify]
    rw [if_neg (fun e => h e.symm)]

/-- The call of unsafe.String, with its length at hand. -/
theorem ustr_eq {ts : Array TypeId} {ty pt : TypeId} {k : IntKind} {m : Int} (hpt : ts[0]? = some pt) (h0 : 0 ≤ m) (h1 : m ≤ 9223372036854775807) (a : Option Addr) :
    (Builtin.unsafeString_ ts ty #[.pointer a, .int k m]).run P w =
      (if m = 0 then pure (.string .empty) else
        match a with
        | none => runtimePanic (.error "unsafe.String: ptr is nil and len is not zero")
        | some a => do
          if ← variablesAt a (← elemOf pt) m.toNat then do
            let s ← loadBytes a .empty m.toNat
            freeze a m.toNat
            pure (Value.string s)
          else unsupported (.unsafePointer "String: not so many bytes at ptr") : Sem Value).run P w := by
  have e1 : ¬ m < 0 := by omega
  have e2 : ¬ m > IntKind.i64.max := by have : IntKind.i64.max = 9223372036854775807 := rfl; omega
  cases a with
  | none =>
    change (do
      let n ← asInt (.int k m)
      let some pt := ts[0]? | stuck "unsafe.String: no argument types"
      if n < 0 then runtimePanic (.error "unsafe.String: len out of range")
      if n > IntKind.i64.max then unsupported (.unsafePointer "String: a length above the largest int")
      if n = 0 then pure (.string .empty) else runtimePanic (.error "unsafe.String: ptr is nil and len is not zero") : Sem Value).run P w = _
    simp only [asInt, asIntOf, Sem.run_bind, Sem.run_pure, Result.andThen_ok, hpt, if_neg e1, if_neg e2]
  | some a =>
    change (do
      let n ← asInt (.int k m)
      let some pt := ts[0]? | stuck "unsafe.String: no argument types"
      if n < 0 then runtimePanic (.error "unsafe.String: len out of range")
      if n > IntKind.i64.max then unsupported (.unsafePointer "String: a length above the largest int")
      if n = 0 then pure (.string .empty)
      else if ← variablesAt a (← elemOf pt) n.toNat then do
        let s ← loadBytes a .empty n.toNat
        freeze a n.toNat
        pure (.string s)
      else unsupported (.unsafePointer "String: not so many bytes at ptr") : Sem Value).run P w = _
    simp only [asInt, asIntOf, Sem.run_bind, Sem.run_pure, Result.andThen_ok, hpt, if_neg e1, if_neg e2]

theorem l_ustr {o : Oper} {c : Call} {e : TypeId} {p n : Operand} {out : Out} (ho : o.op = .call c) (hb : c.callee = .builtin .unsafeString) (ha : c.args.toList = [p, n]) (ht : (c.argTypes[0]?).bind P.underlying = some (.pointer e)) (hc1 : P.cellsOf e = 1)
    (hp : VR α (rd env p) (ρ p)) (hn : VR α (rd env n) (ρ n)) (hs : Sim α w0 H w) (he : evI env H (.ustr e p n) = some out) : Loud P α w0 w o ρ out := by
  obtain ⟨pt, hpt, hpu⟩ := argType ht
  have hmax : IntKind.i64.max = 9223372036854775807 := rfl
  have hexec : ∀ a b, ρ p = .pointer a → ρ n = b → ∀ r w', (Builtin.unsafeString_ c.argTypes o.type #[.pointer a, b]).run P w = .ok r w' → (execOp ρ o).run P w = .ok (.value r) w' := by
    intro a b h1 h2 r w' h
    rw [builtin_exec ho hb, args_two ha, h1, h2]
    simp only [Go.builtin, Sem.run_bind, h, Result.andThen_ok, Sem.run_pure]
  simp only [evI] at he
  split at he
  · rename_i k m e1 e2
    rw [e1] at hp; rw [e2] at hn
    split at he
    · rename_i h0
      subst h0
      simp only [Option.some.injEq] at he
      generalize hr : ρ p = r at hp
      cases hp
      refine ⟨α, _, .string .empty, _, w, he.symm, Al.le_refl _, .str _, hs, .inl (hexec _ _ hr hn.int_inv _ _ ?_)⟩
      rw [ustr_eq hpt (by omega) (by omega), if_pos rfl]; rfl
    · cases he
  · rename_i i k sp ik m e1 e2
    rw [e1] at hp; rw [e2] at hn
    generalize hr : ρ p = r at hp
    cases hp with
    | ptr h =>
      rename_i b sh
      split at he
      · rename_i h0
        subst h0
        simp only [Option.some.injEq] at he
        refine ⟨α, _, .string .empty, _, w, he.symm, Al.le_refl _, .str _, hs, .inl (hexec _ _ hr hn.int_inv _ _ ?_)⟩
        rw [ustr_eq hpt (by omega) (by omega), if_pos rfl]; rfl
      · rename_i h0
        split at he
        · cases he
        · rename_i hr1
          split at he
          · rename_i cs t fz hbk
            split at he
            · rename_i hcnd
              obtain ⟨rfl, hle⟩ := hcnd
              cases hbs : toBytes ((cs.drop k).take m.toNat) with
              | none => rw [hbs] at he; cases he
              | some bs =>
                rw [hbs] at he
                simp only [Option.map_some, Option.some.injEq] at he
                obtain ⟨b', sh', pre, c', post, ty, lo, hi, h1, h2, h3, h4, h5, h6⟩ := hs.blk i _ hbk
                rw [h] at h1; cases h1
                obtain ⟨h7, h8, h9, h10, h11⟩ := h6 (by simp)
                obtain ⟨rfl, hhi⟩ := h10 e rfl
                have hl := h4.length
                obtain ⟨ns, g1, g2⟩ := toBytes_rel ((h4.drop k).take m.toNat) hbs
                have hnl : ns.length = m.toNat := by
                  have := congrArg List.length g1
                  simp at this
                  omega
                have hdt : ((pre ++ c' ++ post).drop (sh + k)).take ns.length = ns.map (Value.int .u8) := by
                  rw [← g1, hnl, ← h3]
                  rw [List.append_assoc, List.drop_append, List.drop_of_length_le (by omega)]
                  rw [show pre.length + k - pre.length = k by omega, List.drop_append, show k - c'.length = 0 by omega]
                  simp only [List.nil_append, List.drop_zero]
                  rw [List.take_append_of_le_length (by simp; omega)]
                have hrun := loadBytes_run (P := P) h2 ns (sh + k) .empty hdt
                have hm0 : m.toNat ≠ 0 := by omega
                obtain ⟨fr, f1, f2⟩ := freeze_heap (k := sh + k) (n := m.toNat) h2 hm0
                have hstr : (Builtin.unsafeString_ c.argTypes o.type #[.pointer (some ⟨b, sh + k, none⟩), .int ik m]).run P w = .ok (strOf bs) (w.freeze ⟨b, sh + k, none⟩ m.toNat) := by
                  have hlies := liesAt_row (P := P) hc1 ((pre ++ c' ++ post).length / P.cellsOf ty) (sh + k) m.toNat (by rw [hc1, Nat.div_one]; simp; omega)
                  rw [hnl] at hrun
                  have hneg : ¬ m < 0 := by omega
                  have hbig : ¬ (9223372036854775807 : Int) < m := by omega
                  have hse : (⟨(ns.map fun n => UInt8.ofNat n.toNat).toArray⟩ : ByteArray) = ⟨⟨bs⟩⟩ := by rw [g2]
                  have hlen2 : (pre ++ c' ++ post).length = pre.length + (c'.length + post.length) := by simp
                  rw [hlen2] at hlies
                  rw [ustr_eq hpt (by omega) (by omega), if_neg h0]
                  simp [variablesAt, shape_of h2, elemOf, run_und hpu, hlies, hrun, strOf, g2]
                refine ⟨α, _, _, _, _, he.symm, Al.le_refl _, .str _, ?_, .inl (hexec _ _ hr hn.int_inv _ _ hstr)⟩
                refine hs.turn hbk rfl h ?_ (Lib.below_freeze hs.below h7 _) ?_ (fun j hj => freeze_ne hj)
                · obtain ⟨lo', hi'⟩ := fr
                  refine ⟨b, sh, pre, c', post, ty, lo', hi', h, f1, h3, h4, fun e => (nomatch e), fun _ => ⟨h7, ?_, h9, ?_, fun _ e => nomatch e⟩⟩
                  · intro j hj1 hj2 hj3
                    simp only at f2
                    have : Nat.max fz (k + m.toNat) ≥ fz := Nat.le_max_left _ _
                    have : Nat.max fz (k + m.toNat) ≥ k + m.toNat := Nat.le_max_right _ _
                    omega
                  · intro t ht
                    have : Nat.max fz (k + m.toNat) ≥ fz := Nat.le_max_left _ _
                    have : Nat.max fz (k + m.toNat) ≥ k + m.toNat := Nat.le_max_right _ _
                    simp only at f2
                    exact ⟨by injection ht with ht; injection ht, by omega⟩
                · unfold World.freeze; split <;> simp
            · cases he
          · cases he
  · cases he

end
end Ve
end Go.Proofs.YtnociodpfmlglaaGreatDoor

/-
  Operations on maps with texts as keys, and type assertions.
-/
set_option linter.unusedVariables false
set_option linter.unusedSimpArgs false
namespace Go.Proofs.YtnociodpfmlglaaGreatDoor
namespace Ve
open Go Go.RowKit

section
variable {P : Program} {α : Al} {ρ : Operand → Value} {env : Env} {w0 w : World} {H : Heap}

theorem find_none {s : ByteArray} : ∀ {es : List (ByteArray × Value)} {es' : List MapEntry}, KVs α es es' → mfind s es = none → ∀ i, Instr.findNow .string (.string s) es' i = some none ∧ ∀ v v' clk, VR α v v' → KVs α (mset s v es) (es' ++ [⟨.string s, v', clk⟩])
  | _, _, .nil, _, i => ⟨rfl, fun v v' clk h => .cons rfl h .nil⟩
  | _, _, .cons (k := k) (v := x) (e := e) hk hv hs, h, i => by
    unfold mfind at h
    split at h
    · cases h
    · rename_i hne
      obtain ⟨h1, h2⟩ := find_none hs h (i + 1)
      refine ⟨?_, fun v v' clk hv' => ?_⟩
      · have : (s == k) = false := by rw [bytes_eq]; simpa using hne
        simp [Instr.findNow, hk, Instr.sameNow, this, h1]
      · unfold mset
        rw [if_neg hne]
        exact .cons hk hv (h2 v v' clk hv')

theorem find_some {s : ByteArray} {x : Value} : ∀ {es : List (ByteArray × Value)} {es' : List MapEntry}, KVs α es es' → mfind s es = some x → ∀ i, ∃ j e, Instr.findNow .string (.string s) es' i = some (some (i + j, e.val)) ∧ es'[j]? = some e ∧ e.key = .string s ∧ VR α x e.val ∧
    ∀ v v', VR α v v' → KVs α (mset s v es) (es'.modify j fun e => { e with key := .string s, val := v' })
  | _, _, .cons (k := k) (v := y) (e := e) (l := l) (l' := l') hk hv hs, h, i => by
    unfold mfind at h
    split at h
    · rename_i he
      cases h
      have hsk : s = k := by
        have : (s == k) = true := by rw [bytes_eq]; exact he
        exact (MapKept.bytes_beq _ _).1 this
      subst hsk
      refine ⟨0, e, ?_, rfl, hk, hv, fun v v' hv' => ?_⟩
      · have hss : (s == s) = true := (MapKept.bytes_beq _ _).2 rfl
        simp [Instr.findNow, hk, Instr.sameNow, hss]
      · unfold mset
        rw [if_pos he]
        exact .cons rfl hv' hs
    · rename_i hne
      obtain ⟨j, e', h1, h2, h3, h4, h5⟩ := find_some hs h (i + 1)
      have hsk : (s == k) = false := by rw [bytes_eq]; simpa using hne
      refine ⟨j + 1, e', ?_, by simpa using h2, h3, h4, fun v v' hv' => ?_⟩
      · simp [Instr.findNow, hk, Instr.sameNow, hsk, h1]; omega
      · unfold mset
        rw [if_neg hne]
        exact .cons hk hv (h5 v v' hv')

theorem checkKey_str {kt : TypeId} (hk : P.underlying kt = some .string) (em : Bool) (s : ByteArray) : (Instr.checkKey em 10000 kt (.string s)).run P w = .ok () w :=
  MapKept.run_checkKey (k := .string s) hk (by simp [MapKept.IsKey]) em 9999

theorem Sim.alloc_map {α : Al} {w0 w : World} {H : Heap} (h : Sim α w0 H w) : Sim (α.ext H.length (w.heap.size, 0) 0) w0 (push H (.mp [])) (w.alloc (.map #[] 0)) := by
  refine h.grow (below_alloc w _) (by show w.heap.size < (w.heap.push _).size; simp) ?_
  exact ⟨w.heap.size, #[], 0, Al.ext_new _ _ _ _, h.below.size, heap_alloc_new _ _, .nil⟩

theorem l_mkmap {o : Oper} {t k e : TypeId} {r : Option Operand} {out : Out} (ho : o.op = .makeMap t r) (ht : P.underlying t = some (.map k e)) (hx : ∀ x, r = some x → VR α (rd env x) (ρ x)) (hs : Sim α w0 H w)
    (he : evI env H (.mkmap r) = some out) : Loud P α w0 w o ρ out := by
  have hrun : (Instr.makeMap t (r.map ρ)).run P w = .ok (.map (some w.heap.size)) (w.alloc (.map #[] 0)) → out = .ret (.map (some H.length)) (push H (.mp [])) → Loud P α w0 w o ρ out := by
    intro h1 h2
    refine ⟨_, _, _, _, _, h2, hs.le_ext 0, .map (Al.ext_new _ _ _ _), hs.alloc_map, .inl ?_⟩
    simp only [execOp, ho, Sem.run_bind, h1, Result.andThen_ok, Sem.run_pure]
  simp only [evI] at he
  split at he
  · simp only [Option.some.injEq] at he
    exact hrun (by simp [Instr.makeMap]) he.symm
  · rename_i x
    split at he
    · rename_i ik n e1
      simp only [Option.some.injEq] at he
      have h := hx x rfl
      rw [e1] at h
      exact hrun (by simp [Instr.makeMap, run_und ht, h.int_inv, asInt, asIntOf]) he.symm
    · cases he

theorem l_mlook {o : Oper} {t kt e : TypeId} {z : Value} {ok : Bool} {x k : Operand} {out : Out} (ho : o.op = .lookup t x k ok) (ht : P.underlying t = some (.map kt e)) (hkt : P.underlying kt = some .string) (hz : (P.info? e).bind (·.zero) = some z) (hl : isLit z = true)
    (hx : VR α (rd env x) (ρ x)) (hk : VR α (rd env k) (ρ k)) (hs : Sim α w0 H w) (he : evI env H (.mlook z ok x k) = some out) : Loud P α w0 w o ρ out := by
  have hzero : (zeroValue e).run P w = .ok z w := by
    cases hi : P.info? e with
    | none => rw [hi] at hz; cases hz
    | some i => rw [hi] at hz; simp only [Option.bind_some] at hz; simp [zeroValue, run_info hi, hz]
  have fin : ∀ v v' b, VR α v v' → (Instr.lookup t (ρ x) (ρ k) ok).run P w = .ok (if ok then .tuple #[v', .bool b] else v') w → out = .ret (if ok then .tuple ⟨[v, .bool b]⟩ else v) H → Loud P α w0 w o ρ out := by
    intro v v' b hv h1 h2
    refine ⟨α, _, (if ok then .tuple #[v', .bool b] else v'), _, w, h2, Al.le_refl _, ?_, hs, .inl ?_⟩
    · cases ok
      · exact hv
      · exact .tup (.cons hv (.cons (.bool b) .nil))
    · simp only [execOp, ho, Sem.run_bind, h1, Result.andThen_ok, Sem.run_pure]
  simp only [evI] at he
  split at he
  · rename_i s e1 e2
    rw [e1] at hx; rw [e2] at hk
    simp only [Option.some.injEq] at he
    refine fin z z false (VR.lit hl) ?_ he.symm
    rw [hk.str_inv]
    generalize hr : ρ x = r at hx
    cases hx
    have hf := MapKept.run_findKey (P := P) (w := w) (kt := kt) (k := .string s) (l := []) (a := none) hkt rfl
    cases ok <;> simp [Instr.lookup, run_und ht, checkKey_str hkt, hf, hzero]
  · rename_i i s e1 e2
    rw [e1] at hx; rw [e2] at hk
    generalize hr : ρ x = r at hx
    cases hx with
    | map h =>
      rename_i b
      split at he
      · rename_i es hb
        obtain ⟨b', es', clk, h1, h2, h3, h4⟩ := hs.blk i _ hb
        rw [h] at h1; cases h1
        have hget := MapKept.run_getObj_map (P := P) h3
        split at he
        · rename_i v hfd
          simp only [Option.some.injEq] at he
          obtain ⟨j, en, g1, g2, g3, g4, g5⟩ := find_some h4 hfd 0
          refine fin v en.val true g4 ?_ he.symm
          rw [hk.str_inv, hr]
          have hf := MapKept.run_findKey (P := P) (w := w) hkt g1
          cases ok <;> simp [Instr.lookup, run_und ht, hget, checkKey_str hkt, hf]
        · rename_i hfd
          simp only [Option.some.injEq] at he
          obtain ⟨g1, g2⟩ := find_none h4 hfd 0
          refine fin z z false (VR.lit hl) ?_ he.symm
          rw [hk.str_inv, hr]
          have hf := MapKept.run_findKey (P := P) (w := w) hkt g1
          cases ok <;> simp [Instr.lookup, run_und ht, hget, checkKey_str hkt, hf, hzero]
      · cases he
  · cases he

theorem l_mput {o : Oper} {t kt e : TypeId} {x k v : Operand} {out : Out} (ho : o.op = .mapUpdate t x k v) (ht : P.underlying t = some (.map kt e)) (hkt : P.underlying kt = some .string)
    (hx : VR α (rd env x) (ρ x)) (hk : VR α (rd env k) (ρ k)) (hv : VR α (rd env v) (ρ v)) (hs : Sim α w0 H w) (he : evI env H (.mput x k v) = some out) : Loud P α w0 w o ρ out := by
  simp only [evI] at he
  split at he
  · rename_i i s e1 e2
    rw [e1] at hx; rw [e2] at hk
    generalize hr : ρ x = r at hx
    cases hx with
    | map h =>
      rename_i b
      split at he
      · rename_i es hb
        simp only [Option.some.injEq] at he
        obtain ⟨b', es', clk, h1, h2, h3, h4⟩ := hs.blk i _ hb
        rw [h] at h1; cases h1
        have hget := MapKept.run_getObj_map (P := P) h3
        have fin : ∀ es2 clk2, KVs α (mset s (rd env v) es) es2.toList → (Instr.mapUpdate t (.map (some b)) (.string s) (ρ v)).run P w = .ok () { w with heap := w.heap.setIfInBounds b (.map es2 clk2) } → Loud P α w0 w o ρ out := by
          intro es2 clk2 h5 h6
          obtain ⟨s1, s2⟩ := MapKept.heap_set (o' := .map es2 clk2) h3
          refine ⟨α, _, undef, _, { w with heap := w.heap.setIfInBounds b (.map es2 clk2) }, he.symm, Al.le_refl _, VR.undef α, ?_, .inr ⟨?_, rfl⟩⟩
          · refine hs.turn hb rfl h ⟨b, es2, clk2, h, h2, s1, h5⟩ ?_ (by simp) (fun j hj => s2 j hj)
            exact Below.of_frame hs.below h2 s2 (by simp) rfl rfl rfl
          · simp only [execOp, ho, hr, hk.str_inv, Sem.run_bind, h6, Result.andThen_ok, Sem.run_pure]
        cases hfd : mfind s es with
        | some y =>
          obtain ⟨j, en, g1, g2, g3, g4, g5⟩ := find_some h4 hfd 0
          have hf := MapKept.run_findKey (P := P) (w := w) hkt g1
          have hj : es'[j]? = some en := by simpa using g2
          have hss : (s == s) = true := (MapKept.bytes_beq _ _).2 rfl
          refine fin (es'.modify j fun e => { e with key := .string s, val := ρ v }) clk ?_ ?_
          · rw [Array.toList_modify]; exact g5 _ _ hv
          · simp [Instr.mapUpdate, run_und ht, hget, checkKey_str hkt, hf, hj, g3, Instr.keyThatStays, Instr.sameBits, hss, MapKept.run_setObj_map _ h3]
        | none =>
          obtain ⟨g1, g2⟩ := find_none h4 hfd 0
          have hf := MapKept.run_findKey (P := P) (w := w) hkt g1
          refine fin (es'.push ⟨.string s, ρ v, clk⟩) (clk + 1) ?_ ?_
          · rw [Array.toList_push]; exact g2 _ _ _ hv
          · simp [Instr.mapUpdate, run_und ht, hget, checkKey_str hkt, hf, MapKept.run_setObj_map _ h3]
      · cases he
  · cases he

theorem q_tass {o : Oper} {xt t : TypeId} {d : TypeDesc} {z : Value} {ok : Bool} {x : Operand} (ho : o.op = .typeAssert x xt t ok) (ht : P.underlying t = some d) (hd : ∀ m, d ≠ .interface m) (hz : (P.info? t).bind (·.zero) = some z) (hl : VR α z z)
    (hx : VR α (rd env x) (ρ x)) : Quiet P α o ρ env (.tass t z ok x) := by
  have hzero : ∀ w, (zeroValue t).run P w = .ok z w := by
    intro w
    cases hi : P.info? t with
    | none => rw [hi] at hz; cases hz
    | some i => rw [hi] at hz; simp only [Option.bind_some] at hz; simp [zeroValue, run_info hi, hz]
  refine quiet_of (r := match rd env x with
    | .nilIface => if ok then some (.tuple ⟨[z, .bool false]⟩) else none
    | .iface t' v => if t' = t then some (if ok then .tuple ⟨[v, .bool true]⟩ else v) else if ok then some (.tuple ⟨[z, .bool false]⟩) else none
    | _ => none) ?_ ?_
  · intro H
    simp only [evI]
    cases rd env x <;> try rfl
    · simp only
      split
      · rfl
      · split <;> rfl
    · simp only
      split <;> rfl
  · intro v hv
    split at hv
    · rename_i e1
      rw [e1] at hx
      split at hv
      · rename_i hok
        cases hv
        subst hok
        refine ⟨.tuple #[z, .bool false], .tup (.cons hl (.cons (.bool _) .nil)), fun w => ?_⟩
        generalize hr : ρ x = r at hx
        cases hx
        cases d <;> simp_all [execOp, Instr.typeAssert, run_und ht]
      · cases hv
    · rename_i t' y e1
      rw [e1] at hx
      generalize hr : ρ x = r at hx
      cases hx with
      | iface _ hy =>
        rename_i y'
        split at hv
        · rename_i htt
          cases hv
          subst htt
          refine ⟨if ok then .tuple #[y', .bool true] else y', ?_, fun w => ?_⟩
          · cases ok
            · exact hy
            · exact .tup (.cons hy (.cons (.bool _) .nil))
          · cases d <;> cases ok <;> simp_all [execOp, Instr.typeAssert, run_und ht]
        · rename_i htt
          split at hv
          · rename_i hok
            cases hv
            subst hok
            refine ⟨.tuple #[z, .bool false], .tup (.cons hl (.cons (.bool _) .nil)), fun w => ?_⟩
            cases d <;> simp_all [execOp, Instr.typeAssert, run_und ht]
          · cases hv
    · cases hv

end
end Ve
end Go.Proofs.YtnociodpfmlglaaGreatDoor

/-
  All operations but calls of functions.
-/
set_option linter.unusedVariables false
set_option linter.unusedSimpArgs false
namespace Go.Proofs.YtnociodpfmlglaaGreatDoor
namespace Ve
open Go Go.RowKit

/-- Operations that neither look at memory nor turn it. -/
def isQuiet : I → Bool
  | .new _ _ | .box _ _ | .bslice _ _ _ | .gsl _ _ _ | .ld _ _ | .st _ _ _ | .s2b _ | .b2s _ | .mksl _ _ _ _ | .append _ _ _ _ _ | .copy _ _ _ | .uslice _ | .ustr _ _ _ | .uof _ | .upt _ _ | .mkmap _ | .mlook _ _ _ _ | .mput _ _ _ | .call _ _ | .pan _ => false
  | _ => true

section
variable {P : Program} {gs : Bool} {α : Al} {ρ : Operand → Value} {env : Env} {w0 w : World} {H : Heap} {o : Oper} {i : I}

theorem bin_sound {op : BinOp} {t ty : TypeId} {x y : Operand} (ho : o.op = .binOp op t x y ty) (hc : compBin P op t x y = some i) (hx : VR α (rd env x) (ρ x)) (hy : VR α (rd env y) (ρ y)) : Quiet P α o ρ env i := by
  unfold compBin at hc
  split at hc
  case h_1 h => cases hc; exact q_eqb (neg := false) ho h hx hy
  case h_2 h => cases hc; exact q_eqb (neg := true) ho h hx hy
  case h_3 h => simp only [Option.map_eq_some_iff] at hc; obtain ⟨j, hj, rfl⟩ := hc; exact q_eqp (neg := false) ho h hj hx hy
  case h_4 h => simp only [Option.map_eq_some_iff] at hc; obtain ⟨j, hj, rfl⟩ := hc; exact q_eqp (neg := true) ho h hj hx hy
  case h_5 h => cases hc; exact q_eqn (neg := false) ho h rfl (fun e => by cases e) hx hy
  case h_6 h => cases hc; exact q_eqn (neg := true) ho h rfl (fun e => by cases e) hx hy
  case h_7 h => cases hc; exact q_eqn (neg := false) ho h rfl (fun e => by cases e) hx hy
  case h_8 h => cases hc; exact q_eqn (neg := true) ho h rfl (fun e => by cases e) hx hy
  case h_9 h => cases hc; exact q_eqn (neg := false) ho h rfl (fun e => by cases e) hx hy
  case h_10 h => cases hc; exact q_eqn (neg := true) ho h rfl (fun e => by cases e) hx hy
  case h_11 h =>
    split at hc
    · cases hc; exact q_eqn (neg := false) ho h rfl (fun _ => ⟨_, rfl⟩) hx hy
    · cases hc
  case h_12 h =>
    split at hc
    · cases hc; exact q_eqn (neg := true) ho h rfl (fun _ => ⟨_, rfl⟩) hx hy
    · cases hc
  case h_13 h =>
    cases e : flat P t with
    | none => rw [e] at hc; cases hc
    | some ks => rw [e] at hc; cases hc; exact q_eqs (neg := false) ho e hx hy
  case h_14 h =>
    cases e : flat P t with
    | none => rw [e] at hc; cases hc
    | some ks => rw [e] at hc; cases hc; exact q_eqs (neg := true) ho e hx hy
  case h_15 => cases hc; exact q_bin ho hx hy
  case h_16 => cases hc; exact q_bin ho hx hy
  case h_17 => cases hc

theorem mem_opt {l : Option Operand} {y : Operand} (h : l = some y) : y ∈ l.toArray := by subst h; simp

theorem quiet_sound (hc : compOp P gs o = some i) (hq : isQuiet i = true) (hρ : ∀ x ∈ o.op.operands, VR α (rd env x) (ρ x)) : Quiet P α o ρ env i := by
  cases hop : o.op with
  | move x => simp only [compOp, hop, Option.some.injEq] at hc; subst hc; exact q_mov (.inl hop) (hρ x (by simp [hop, Op.operands]))
  | assign x => simp only [compOp, hop, Option.some.injEq] at hc; subst hc; exact q_mov (.inr hop) (hρ x (by simp [hop, Op.operands]))
  | pick c a b => simp only [compOp, hop, Option.some.injEq] at hc; subst hc; exact q_pick hop (hρ c (by simp [hop, Op.operands])) (hρ a (by simp [hop, Op.operands])) (hρ b (by simp [hop, Op.operands]))
  | alloc t => simp only [compOp, hop] at hc; cases e : zeroCells P t <;> rw [e] at hc <;> cases hc; cases hq
  | box t x => simp only [compOp, hop, Option.some.injEq] at hc; subst hc; cases hq
  | build t parts =>
    simp only [compOp, hop] at hc
    have hx : ∀ x ∈ parts.toList.map (·.2), VR α (rd env x) (ρ x) := fun x hx => hρ x (by simp only [hop, Op.operands]; simpa using hx)
    split at hc
    · rename_i z fs hz ht
      cases e1 : placesOf P fs.toList with
      | none => rw [e1] at hc; cases hc
      | some pl =>
        rw [e1] at hc
        simp only [Option.bind_some] at hc
        cases e2 : partsOf (fun i => pl[i]?) parts.toList with
        | none => rw [e2] at hc; cases hc
        | some ps => rw [e2] at hc; cases hc; exact q_build_struct hop hz ht e1 e2 hx
    · rename_i z k e hz ht
      cases e1 : cells? P e with
      | none => rw [e1] at hc; cases hc
      | some n =>
        rw [e1] at hc
        simp only [Option.bind_some] at hc
        cases e2 : partsOf (fun i => some (i * n, n)) parts.toList with
        | none => rw [e2] at hc; cases hc
        | some ps => rw [e2] at hc; cases hc; exact q_build_array hop hz ht e1 e2 hx
    · cases hc
  | buildSlice t len parts =>
    simp only [compOp, hop] at hc
    split at hc
    · split at hc
      · split at hc
        · rename_i ps _
          simp only [Option.map_eq_some_iff] at hc
          obtain ⟨_, _, rfl⟩ := hc
          cases gs <;> cases hq
        · cases hc
      · cases hc
    · cases hc
  | load t a => simp only [compOp, hop, Option.map_eq_some_iff] at hc; obtain ⟨_, _, rfl⟩ := hc; cases hq
  | store t a x => simp only [compOp, hop, Option.map_eq_some_iff] at hc; obtain ⟨_, _, rfl⟩ := hc; cases hq
  | nilCheck x => simp only [compOp, hop, Option.some.injEq] at hc; subst hc; exact q_nilck hop (hρ x (by simp [hop, Op.operands]))
  | binOp op t x y ty => simp only [compOp, hop] at hc; exact bin_sound hop hc (hρ x (by simp [hop, Op.operands])) (hρ y (by simp [hop, Op.operands]))
  | unOp op t x => simp only [compOp, hop, Option.some.injEq] at hc; subst hc; exact q_un hop (hρ x (by simp [hop, Op.operands]))
  | convert s d x =>
    simp only [compOp, hop, compConv] at hc
    have hx := hρ x (by simp [hop, Op.operands])
    split at hc
    · rename_i h1 h2; cases hc; exact q_toint hop h1 h2 hx
    · rename_i h1 h2; cases hc; exact q_tostr hop h1 h2 hx
    · split at hc
      · cases hc; cases hq
      · cases hc
    · split at hc
      · cases hc; cases hq
      · cases hc
    · split at hc
      · cases hc; cases hq
      · cases hc
    · simp only [Option.map_eq_some_iff] at hc; obtain ⟨_, _, rfl⟩ := hc; cases hq
    · cases hc
  | makeInterface t x =>
    simp only [compOp, hop] at hc
    split at hc
    · cases hc
    · rename_i d hne hd
      cases hc
      exact q_mkif hop hd (fun m e => hne m (by rw [← e])) (hρ x (by simp [hop, Op.operands]))
    · cases hc
  | makeFunc fn a c =>
    simp only [compOp, hop, Option.some.injEq] at hc
    subst hc
    exact q_mkfn hop (fun x hx => hρ x (by simp [hop, Op.operands, hx])) (fun x hx => hρ x (by simp [hop, Op.operands, hx]))
  | makeSlice t l c =>
    simp only [compOp, hop] at hc
    split at hc
    · split at hc
      · split at hc
        · cases hc; cases hq
        · cases hc
      · cases hc
    · cases hc
  | slice t x lo hi mx =>
    have hx := hρ x (by simp [hop, Op.operands])
    have hlo : ∀ y, lo = some y → VR α (rd env y) (ρ y) := fun y e => hρ y (by subst e; simp [hop, Op.operands])
    have hhi : ∀ y, hi = some y → VR α (rd env y) (ρ y) := fun y e => hρ y (by subst e; simp [hop, Op.operands])
    have hmx : ∀ y, mx = some y → VR α (rd env y) (ρ y) := fun y e => hρ y (by subst e; simp [hop, Op.operands])
    simp only [compOp, hop] at hc
    split at hc
    · rename_i ht
      split at hc
      · rename_i hm
        cases hc
        have hm' : mx = none := by simpa using hm
        subst hm'
        exact q_slstr hop ht hx hlo hhi
      · cases hc
    · rename_i e ht
      simp only [Option.map_eq_some_iff] at hc
      obtain ⟨n, hn, rfl⟩ := hc
      exact q_slsl hop ht hn hx hlo hhi hmx
    · rename_i n e ht
      split at hc
      · rename_i hm
        simp only [Option.map_eq_some_iff] at hc
        obtain ⟨k, hk, rfl⟩ := hc
        have hm' : mx = none := by simpa using hm
        subst hm'
        exact q_slarr hop ht hk hx hlo hhi
      · cases hc
    · cases hc
  | fieldAddr s x k =>
    simp only [compOp, hop] at hc
    cases e : fieldOf P s k with
    | none => rw [e] at hc; cases hc
    | some f =>
      rw [e] at hc
      simp only [Option.bind_some] at hc
      split at hc
      · rename_i n hn
        cases hc
        exact q_faddr hop e hn (hρ x (by simp [hop, Op.operands]))
      · cases hc
  | field s x k =>
    simp only [compOp, hop] at hc
    cases e : fieldOf P s k with
    | none => rw [e] at hc; cases hc
    | some f =>
      rw [e] at hc
      simp only [Option.bind_some, Option.map_eq_some_iff] at hc
      obtain ⟨n, hn, rfl⟩ := hc
      exact q_field hop e hn (hρ x (by simp [hop, Op.operands]))
  | indexAddr t x ix =>
    have hx := hρ x (by simp [hop, Op.operands])
    have hi := hρ ix (by simp [hop, Op.operands])
    simp only [compOp, hop] at hc
    split at hc
    · rename_i e ht
      simp only [Option.map_eq_some_iff] at hc
      obtain ⟨n, hn, rfl⟩ := hc
      exact q_iaddr hop ht hn hx hi
    · rename_i len e ht
      split at hc
      · simp only [Option.map_eq_some_iff] at hc
        obtain ⟨n, hn, rfl⟩ := hc
        exact q_iarr hop ht hn hx hi
      · cases hc
    · cases hc
  | index t x ix =>
    have hx := hρ x (by simp [hop, Op.operands])
    have hi := hρ ix (by simp [hop, Op.operands])
    simp only [compOp, hop] at hc
    split at hc
    · rename_i ht
      cases hc
      exact q_ixstr hop ht hx hi
    · rename_i len e ht
      cases e1 : cells? P e with
      | none => rw [e1] at hc; cases hc
      | some n =>
        rw [e1] at hc
        simp only [Option.bind_some, Option.map_eq_some_iff] at hc
        obtain ⟨k, hk, rfl⟩ := hc
        exact q_ixagg hop ht e1 hk hx hi
    · cases hc
  | extract t k => simp only [compOp, hop, Option.some.injEq] at hc; subst hc; exact q_ext hop (hρ t (by simp [hop, Op.operands]))
  | call c =>
    have hargs : ∀ x ∈ c.args.toList, VR α (rd env x) (ρ x) := fun x hx => hρ x (by simp [hop, Op.operands, Call.operands]; exact .inr (by simpa using hx))
    simp only [compOp, hop, compCall] at hc
    split at hc
    · cases hc; cases hq
    · rename_i hb
      split at hc
      · rename_i x ht ha
        cases hc
        exact q_lens hop hb ha ht (hargs x (by rw [ha]; simp))
      · rename_i e x ht ha
        cases hc
        exact q_lena hop hb ha ht (hargs x (by rw [ha]; simp))
      · cases hc
    · rename_i hb
      split at hc
      · rename_i e x ht ha
        cases hc
        exact q_cap hop hb ha ht (hargs x (by rw [ha]; simp))
      · cases hc
    · rename_i hb
      cases hc
      exact q_minmax (mx := false) hop hb hargs
    · rename_i hb
      cases hc
      exact q_minmax (mx := true) hop hb hargs
    · split at hc
      · simp only [Option.bind_eq_some_iff] at hc
        obtain ⟨_, _, h⟩ := hc
        split at h <;> cases h
        cases hq
      · simp only [Option.bind_eq_some_iff] at hc
        obtain ⟨_, _, h⟩ := hc
        split at h <;> cases h
        cases hq
      · cases hc
    · split at hc
      · simp only [Option.map_eq_some_iff] at hc; obtain ⟨_, _, rfl⟩ := hc; cases hq
      · cases hc
    · split at hc
      · cases hc; cases hq
      · cases hc
    · split at hc
      · split at hc
        · cases hc; cases hq
        · cases hc
      · cases hc
    · cases hc
  | panic x => simp only [compOp, hop, Option.some.injEq] at hc; subst hc; cases hq
  | makeMap t r => simp only [compOp, hop] at hc; split at hc <;> cases hc; cases hq
  | lookup t x k ok =>
    simp only [compOp, hop] at hc
    split at hc
    · split at hc
      · split at hc <;> cases hc; cases hq
      · cases hc
    · cases hc
  | mapUpdate t x k v =>
    simp only [compOp, hop] at hc
    split at hc
    · split at hc <;> cases hc; cases hq
    · cases hc
  | typeAssert x xt t ok =>
    simp only [compOp, hop] at hc
    split at hc
    · cases hc
    · rename_i d z hd ht hz
      split at hc
      · rename_i hl
        cases hc
        refine q_tass hop ht (fun m e => hd m e) hz ?_ (hρ x (by simp [hop, Op.operands]))
        simp only [Bool.or_eq_true, Bool.and_eq_true] at hl
        rcases hl with hl | ⟨hl, ha⟩
        · exact VR.lit hl
        · cases z with
          | agg cs => obtain ⟨l⟩ := cs; exact .agg (VRs.lits (by simpa [Value.cells] using hl))
          | _ => cases ha
      · cases hc
    · cases hc
  | _ => simp [compOp, hop] at hc

/-- Is it a call of a function, or a panic? -/
def isCall : I → Bool
  | .call _ _ | .pan _ => true
  | _ => false

theorem loud_sound {out : Out} (hc : compOp P gs o = some i) (hq : isQuiet i = false) (hk : isCall i = false) (hρ : ∀ x ∈ o.op.operands, VR α (rd env x) (ρ x)) (hs : Sim α w0 H w) (he : evI env H i = some out) : Loud P α w0 w o ρ out := by
  cases hop : o.op with
  | alloc t =>
    simp only [compOp, hop, Option.map_eq_some_iff] at hc
    obtain ⟨z, hz, rfl⟩ := hc
    exact l_new hop hz hs he
  | box t x =>
    simp only [compOp, hop, Option.some.injEq] at hc
    subst hc
    exact l_box hop (hρ x (by simp [hop, Op.operands])) hs he
  | buildSlice t len parts =>
    have hx : ∀ x ∈ parts.toList.map (·.2), VR α (rd env x) (ρ x) := fun x hx => hρ x (by simp only [hop, Op.operands]; simpa using hx)
    simp only [compOp, hop] at hc
    split at hc
    · rename_i e ht
      split at hc
      · rename_i n z hn hz
        split at hc
        · rename_i hcnd
          simp only [Option.map_eq_some_iff] at hc
          obtain ⟨ps, hps, rfl⟩ := hc
          cases gs
          · exact l_bslice hop ht hn hz hcnd hps hx hs he
          · exact l_gsl hop ht hn hz hcnd hps hx hs he
        · cases hc
      · cases hc
    · cases hc
  | load t a =>
    simp only [compOp, hop, Option.map_eq_some_iff] at hc
    obtain ⟨n, hn, rfl⟩ := hc
    exact l_ld hop hn (hρ a (by simp [hop, Op.operands])) hs he
  | store t a x =>
    simp only [compOp, hop, Option.map_eq_some_iff] at hc
    obtain ⟨n, hn, rfl⟩ := hc
    exact l_st hop hn (hρ a (by simp [hop, Op.operands])) (hρ x (by simp [hop, Op.operands])) hs he
  | convert s d x =>
    simp only [compOp, hop, compConv] at hc
    have hx := hρ x (by simp [hop, Op.operands])
    split at hc
    · cases hc; cases hq
    · cases hc; cases hq
    · rename_i h1 h2
      split at hc
      · rename_i hu; cases hc; exact l_s2b hop h1 h2 hu hx hs he
      · cases hc
    · rename_i h1 h2
      split at hc
      · rename_i hu; cases hc; exact l_b2s hop h1 h2 hu hx hs he
      · cases hc
    · rename_i h1 h2
      split at hc
      · rename_i n hn; cases hc; exact l_uof hop h1 h2 hn hx hs he
      · cases hc
    · rename_i h1 h2
      simp only [Option.map_eq_some_iff] at hc
      obtain ⟨j, hj, rfl⟩ := hc
      exact l_upt hop h1 h2 hj hx hs he
    · cases hc
  | makeSlice t l c =>
    simp only [compOp, hop] at hc
    split at hc
    · rename_i e ht
      split at hc
      · rename_i ti z hti hz
        split at hc
        · rename_i hcnd
          cases hc
          exact l_mksl hop ht hti hz hcnd (hρ l (by simp [hop, Op.operands])) (hρ c (by simp [hop, Op.operands])) hs he
        · cases hc
      · cases hc
    · cases hc
  | call c =>
    have hargs : ∀ x ∈ c.args.toList, VR α (rd env x) (ρ x) := fun x hx => hρ x (by simp [hop, Op.operands, Call.operands]; exact .inr (by simpa using hx))
    simp only [compOp, hop, compCall] at hc
    split at hc
    · cases hc; cases hk
    · split at hc <;> cases hc <;> cases hq
    · split at hc <;> cases hc; cases hq
    · cases hc; cases hq
    · cases hc; cases hq
    · rename_i hb
      have key : ∀ e s x, (c.argTypes[0]?).bind P.underlying = some (.slice e) → (∃ d, (c.argTypes[1]?).bind P.underlying = some d ∧ ((∃ e, d = .slice e) ∨ d = .string)) → c.args.toList = [s, x] →
          ((P.info? e).bind fun i => if (i.zero.map fun z => z.cells.size) = some i.size then some (I.append e i.size i.bytes s x) else none) = some i → Loud P α w0 w o ρ out := by
        intro e s x h0 ⟨d, h1, hd⟩ ha h
        simp only [Option.bind_eq_some_iff] at h
        obtain ⟨ti, hti, h⟩ := h
        split at h
        · rename_i hz
          cases h
          simp only [Option.map_eq_some_iff] at hz
          obtain ⟨z, hz1, hz2⟩ := hz
          obtain ⟨t0, g1, g2⟩ := argType h0
          obtain ⟨t1, g3, g4⟩ := argType h1
          exact l_append hop hb ha ⟨⟨t0, g1, g2⟩, ⟨t1, d, g3, g4, hd⟩, hti, hz1, hz2⟩ (hargs s (by rw [ha]; simp)) (hargs x (by rw [ha]; simp)) hs he
        · cases h
      split at hc
      · rename_i e e' s x h0 h1 ha
        exact key e s x h0 ⟨_, h1, .inl ⟨_, rfl⟩⟩ ha hc
      · rename_i e s x h0 h1 ha
        exact key e s x h0 ⟨_, h1, .inr rfl⟩ ha hc
      · cases hc
    · rename_i hb
      split at hc
      · rename_i e d x h0 ha
        simp only [Option.map_eq_some_iff] at hc
        obtain ⟨n, hn, rfl⟩ := hc
        exact l_copy (t := 0) hop hb ha h0 hn (hargs d (by rw [ha]; simp)) (hargs x (by rw [ha]; simp)) hs he
      · cases hc
    · rename_i hb
      split at hc
      · rename_i x ha
        cases hc
        exact l_uslice hop hb ha (hargs x (by rw [ha]; simp)) hs he
      · cases hc
    · rename_i hb
      split at hc
      · rename_i e p n h0 ha
        split at hc
        · rename_i hc1
          cases hc
          exact l_ustr hop hb ha h0 hc1 (hargs p (by rw [ha]; simp)) (hargs n (by rw [ha]; simp)) hs he
        · cases hc
      · cases hc
    · cases hc
  | panic x => simp only [compOp, hop, Option.some.injEq] at hc; subst hc; cases hk
  | binOp op t x y ty =>
    simp only [compOp, hop, compBin] at hc
    split at hc
    all_goals first
      | (cases hc; done)
      | (cases hc; cases hq; done)
      | (split at hc <;> first | (cases hc; done) | (cases hc; cases hq; done))
      | (simp only [Option.map_eq_some_iff] at hc; obtain ⟨_, _, rfl⟩ := hc; cases hq)
  | build t parts =>
    simp only [compOp, hop] at hc
    split at hc
    · simp only [Option.map_eq_some_iff, Option.bind_eq_some_iff] at hc; obtain ⟨_, _, _, _, rfl⟩ := hc; cases hq
    · simp only [Option.map_eq_some_iff, Option.bind_eq_some_iff] at hc; obtain ⟨_, _, _, _, rfl⟩ := hc; cases hq
    · cases hc
  | slice t x lo hi mx =>
    simp only [compOp, hop] at hc
    split at hc
    · split at hc <;> cases hc; cases hq
    · simp only [Option.map_eq_some_iff] at hc; obtain ⟨_, _, rfl⟩ := hc; cases hq
    · split at hc
      · simp only [Option.map_eq_some_iff] at hc; obtain ⟨_, _, rfl⟩ := hc; cases hq
      · cases hc
    · cases hc
  | makeInterface t x =>
    simp only [compOp, hop] at hc
    split at hc <;> cases hc; cases hq
  | fieldAddr s x k =>
    simp only [compOp, hop, Option.bind_eq_some_iff] at hc
    obtain ⟨_, _, hc⟩ := hc
    split at hc <;> cases hc; cases hq
  | field s x k =>
    simp only [compOp, hop, Option.bind_eq_some_iff, Option.map_eq_some_iff] at hc
    obtain ⟨_, _, _, _, rfl⟩ := hc; cases hq
  | indexAddr t x ix =>
    simp only [compOp, hop] at hc
    split at hc
    · simp only [Option.map_eq_some_iff] at hc; obtain ⟨_, _, rfl⟩ := hc; cases hq
    · split at hc
      · simp only [Option.map_eq_some_iff] at hc; obtain ⟨_, _, rfl⟩ := hc; cases hq
      · cases hc
    · cases hc
  | index t x ix =>
    simp only [compOp, hop] at hc
    split at hc
    · cases hc; cases hq
    · simp only [Option.map_eq_some_iff, Option.bind_eq_some_iff] at hc; obtain ⟨_, _, _, _, rfl⟩ := hc; cases hq
    · cases hc
  | move x => simp only [compOp, hop, Option.some.injEq] at hc; subst hc; cases hq
  | assign x => simp only [compOp, hop, Option.some.injEq] at hc; subst hc; cases hq
  | pick c a b => simp only [compOp, hop, Option.some.injEq] at hc; subst hc; cases hq
  | nilCheck x => simp only [compOp, hop, Option.some.injEq] at hc; subst hc; cases hq
  | unOp op t x => simp only [compOp, hop, Option.some.injEq] at hc; subst hc; cases hq
  | makeFunc fn a c => simp only [compOp, hop, Option.some.injEq] at hc; subst hc; cases hq
  | extract t k => simp only [compOp, hop, Option.some.injEq] at hc; subst hc; cases hq
  | makeMap t r =>
    simp only [compOp, hop] at hc
    split at hc
    · rename_i k e ht
      cases hc
      exact l_mkmap hop ht (fun x h => hρ x (by subst h; simp [hop, Op.operands])) hs he
    · cases hc
  | lookup t x k ok =>
    simp only [compOp, hop] at hc
    split at hc
    · rename_i kt e ht
      split at hc
      · rename_i z hkt hz
        split at hc
        · rename_i hl
          cases hc
          exact l_mlook hop ht hkt hz hl (hρ x (by simp [hop, Op.operands])) (hρ k (by simp [hop, Op.operands])) hs he
        · cases hc
      · cases hc
    · cases hc
  | mapUpdate t x k v =>
    simp only [compOp, hop] at hc
    split at hc
    · rename_i kt e ht
      split at hc
      · rename_i hkt
        cases hc
        exact l_mput hop ht hkt (hρ x (by simp [hop, Op.operands])) (hρ k (by simp [hop, Op.operands])) (hρ v (by simp [hop, Op.operands])) hs he
      · cases hc
    · cases hc
  | typeAssert x xt t ok =>
    simp only [compOp, hop] at hc
    split at hc
    · cases hc
    · split at hc <;> cases hc; cases hq
    · cases hc
  | _ => simp [compOp, hop] at hc

theorem pan_sound {x : Operand} {out : Out} (hop : o.op = .panic x) (hρ : ∀ x ∈ o.op.operands, VR α (rd env x) (ρ x)) (he : evI env H (.pan x) = some out) : ∃ v v', out = .pan v H ∧ VR α v v' ∧ (execOp ρ o).run P w = .halt (.panic v') w := by
  simp only [evI] at he
  split at he
  · rename_i t v e
    cases he
    have hx := hρ x (by simp [hop, Op.operands])
    rw [e] at hx
    refine ⟨_, ρ x, rfl, hx, ?_⟩
    generalize hr : ρ x = r at hx
    cases hx
    simp only [execOp, hop, hr, Instr.panic, Sem.run_bind, run_goPanic, Result.andThen_halt]
  · cases he

end
end Ve
end Go.Proofs.YtnociodpfmlglaaGreatDoor
