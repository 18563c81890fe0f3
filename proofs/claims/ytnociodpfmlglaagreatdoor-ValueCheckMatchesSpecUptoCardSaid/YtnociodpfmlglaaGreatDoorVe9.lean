/-
  append: whatever capacity there is.
-/
import Derived.Test.YtnociodpfmlglaaGreatDoorVe8
set_option linter.unusedVariables false
set_option linter.unusedSimpArgs false
namespace Go.Proofs.YtnociodpfmlglaaGreatDoor
namespace Ve
open Go Go.RowKit
section
variable {P : Program} {α : Al} {ρ : Operand → Value} {env : Env} {w0 w : World} {H : Heap}

/-- What append asks of its operands' types. -/
structure AppTypes (P : Program) (c : Call) (e : TypeId) (i : TypeInfo) (z : Value) : Prop where
  t0 : ∃ t, c.argTypes[0]? = some t ∧ P.underlying t = some (.slice e)
  t1 : ∃ t d, c.argTypes[1]? = some t ∧ P.underlying t = some d ∧ ((∃ e, d = .slice e) ∨ d = .string)
  info : P.info? e = some i
  zero : i.zero = some z
  size : z.cells.size = i.size

theorem AppTypes.cells {c : Call} {e : TypeId} {i : TypeInfo} {z : Value} (h : AppTypes P c e i z) : cells? P e = some i.size := by simp [cells?, h.info]

/-- There is room. -/
theorem append_room {c : Call} {e : TypeId} {i : TypeInfo} {z : Value} (T : AppTypes P c e i z) {b : Option Addr} {sLen cap n : Nat} {x : Value} {new : List Value} (hn : (Builtin.lenOf x).run P w = .ok n w) (hx : (Builtin.firstCells i.size n x).run P w = .ok ⟨new⟩ w)
    (hc : sLen + n ≤ cap) {w' : World} (hst : (match b with | some a => storeCells (a.add (sLen * i.size)) new | none => (pure () : Sem Unit)).run P w = .ok () w') (ty : TypeId) :
    (Builtin.append_ c.argTypes ty #[.slice b sLen cap, x]).run P w = .ok (.slice b (sLen + n) cap) w' := by
  obtain ⟨t0, h1, h2⟩ := T.t0
  obtain ⟨t1, d, h3, h4, h5⟩ := T.t1
  unfold Builtin.append_
  simp only [Sem.run_bind, h1, List.getElem?_toArray, List.getElem?_cons_zero, List.getElem?_cons_succ, run_und h2, Result.andThen_ok, run_size T.cells, h3, Sem.run_pure, run_und h4]
  rcases h5 with ⟨e', rfl⟩ | rfl
  all_goals
    simp only [Bool.false_eq_true, if_false, hn, Result.andThen_ok, if_pos hc, Bool.not_false, if_true, Sem.run_bind, hx]
    cases b with
    | none =>
      simp only [Sem.run_pure] at hst
      cases hst
      rfl
    | some a =>
      simp only at hst
      simp only [Sem.run_bind, hst, Result.andThen_ok, Sem.run_pure]

/-- There is none. -/
theorem append_none {c : Call} {e : TypeId} {i : TypeInfo} {z : Value} (T : AppTypes P c e i z) {b : Option Addr} {sLen cap n : Nat} {x : Value} {old new : List Value} (hn : (Builtin.lenOf x).run P w = .ok n w)
    (ho : (Builtin.firstCells i.size sLen (.slice b sLen cap)).run P w.drew = .ok ⟨old⟩ w.drew) (hx : (Builtin.firstCells i.size n x).run P w.drew = .ok ⟨new⟩ w.drew)
    (hc : cap < sLen + n) (hb : (2 * (sLen + n) + 1024) * i.bytes ≤ 140737488355328) (hb2 : sLen + n ≤ 140737488355328) (ty : TypeId) :
    ∃ post : List Value, post.length = (grownCap w (sLen + n) cap e - (sLen + n)) * i.size ∧
    (Builtin.append_ c.argTypes ty #[.slice b sLen cap, x]).run P w = .ok (.slice (some ⟨w.heap.size, 0, none⟩) (sLen + n) (grownCap w (sLen + n) cap e)) (w.drew.alloc (.cells ⟨old ++ new ++ post⟩ e)) := by
  obtain ⟨t0, h1, h2⟩ := T.t0
  obtain ⟨t1, d, h3, h4, h5⟩ := T.t1
  refine ⟨(Builtin.zeroCells z.cells (grownCap w (sLen + n) cap e - (sLen + n))).toList, ?_, ?_⟩
  · simp [Builtin.zeroCells, T.size]
  · unfold Builtin.append_
    simp only [Sem.run_bind, h1, List.getElem?_toArray, List.getElem?_cons_zero, List.getElem?_cons_succ, run_und h2, Result.andThen_ok, run_size T.cells, h3, Sem.run_pure, run_und h4]
    have hmax : ¬ (((sLen + n : Nat) : Int) > IntKind.i64.max ∧ (False ∨ i.bytes = 0)) := by
      have : IntKind.i64.max = 9223372036854775807 := by decide
      rw [this]; omega
    have hnext : ¬ (Builtin.nextslicecap (sLen + n) cap * i.bytes > 2 ^ 48) := by
      have h1 := nextcap_le hc
      have h2 := Nat.mul_le_mul_right i.bytes h1
      omega
    have hforced : (Question.appendCap (sLen + n) cap e).forced = false := rfl
    have hch : (choose (.appendCap (sLen + n) cap e)).run P w = .ok (grownCap w (sLen + n) cap e) w.drew := by
      rw [run_choose, hforced]; rfl
    have hzero : ∀ w', (zeroValue e).run P w' = .ok z w' := by intro w'; simp [zeroValue, run_info T.info, T.zero]
    have harr : ((⟨old⟩ : Array Value) ++ ⟨new⟩ ++ Builtin.zeroCells z.cells (grownCap w (sLen + n) cap e - (sLen + n))) = ⟨old ++ new ++ (Builtin.zeroCells z.cells (grownCap w (sLen + n) cap e - (sLen + n))).toList⟩ := by
      apply Array.ext'; simp
    rcases h5 with ⟨e', rfl⟩ | rfl
    all_goals
      simp only [Bool.false_eq_true, if_false, hn, Result.andThen_ok, if_neg (Nat.not_le.2 hc), Sem.run_bind, run_info T.info]
      simp only [if_neg hmax]
      simp only [Sem.run_pure, Result.andThen_ok, Sem.run_bind, run_info T.info]
      simp only [if_neg hnext]
      simp only [Sem.run_pure, Result.andThen_ok, Sem.run_bind, hch, run_askRoom, run_info T.info, ho, Bool.not_false, if_true, hx, hzero, newRow, run_newObj]
      rw [harr]
      rfl

theorem cellsIn_nil {size : Nat} {x : Value} {cs : List Value} (h : cellsIn H size 0 x = some cs) : cs = [] := by
  unfold cellsIn at h
  split at h
  · simp at h; exact h
  · simp at h; exact h
  · split at h
    · cases h; rfl
    · cases h
  · simp at h
  · cases h

theorem cellsIn_length {size n : Nat} {x : Value} {cs : List Value} (h : cellsIn H size n x = some cs) (hl : lenOf x = some n) (h0 : 0 < size) : cs.length = n * size := by
  unfold cellsIn at h
  split at h
  · split at h
    · rename_i e; cases h; simp [e]
    · cases h
  · split at h
    · rename_i e; cases h; rw [e]; rfl
    · split at h
      · unfold getN at h
        split at h
        · split at h
          · cases h; simp; omega
          · cases h
        · cases h
      · cases h
  · split at h
    · rename_i e
      cases h
      simp only [lenOf, Option.some.injEq] at hl
      simp [byteCells, bytesOf, ← hl, e]
    · cases h
  · split at h
    · rename_i e
      simp only [Option.some.injEq] at h
      rw [← h]; exact e.1
    · cases h
  · cases h

theorem Sim.kill {α : Al} {w0 w : World} {H : Heap} (h : Sim α w0 H w) (i : Nat) : Sim α w0 (H.set i .dead) w := by
  refine ⟨h.lt, fun j hj => h.dom j (by simpa using hj), h.below, ?_, ?_, ?_⟩
  · intro j b hb
    rcases set_get hb with ⟨rfl, rfl⟩ | ⟨hne, hb⟩
    · trivial
    · exact h.blk j b hb
  · intro bb oo hm
    obtain ⟨g1, g2, g3⟩ := h.gh bb oo hm
    refine ⟨g1, g2, fun j x p hx ox hp => ?_⟩
    rcases set_get hx with ⟨rfl, rfl⟩ | ⟨hne, hx⟩
    · simp [own] at ox
    · exact g3 j x p hx ox hp
  · intro j k bj bk p q hjk hj hk oj ok hp hq
    rcases set_get hj with ⟨_, rfl⟩ | ⟨hnj, gj⟩
    · simp [own] at oj
    · rcases set_get hk with ⟨_, rfl⟩ | ⟨hnk, gk⟩
      · simp [own] at ok
      · exact h.inj j k bj bk p q hjk gj gk oj ok hp hq

/-- The old block's memory is taken over: what lies from its cell o on, and new cells behind it. -/
theorem Sim.steal {α : Al} {w0 w : World} {H : Heap} (h : Sim α w0 H w) {i o fz b sh : Nat} {t t' : Option Nat} (htt' : t' = t ∨ t' = none) {c new new' : List Value} (hb : H[i]? = some (.cells c (.loose t) fz)) (ha : α i = some (b, sh)) (hn : VRs α new new') (hone : new.all one = true)
    (hr : sh + c.length + new.length ≤ α.tot b) (ho : o ≤ c.length) (hfz : fz ≤ c.length) (P : Program) :
    ∃ w', (storeCells ⟨b, sh + c.length, none⟩ new').run P w = .ok () w' ∧ Sim (α.ext H.length (b, sh + o) (α.tot b)) w0 (push (H.set i .dead) (.cells (c.drop o ++ new) (.loose t') (fz - o))) w' ∧ α.le (α.ext H.length (b, sh + o) (α.tot b)) := by
  have hle : α.le (α.ext H.length (b, sh + o) (α.tot b)) := Al.le_ext (h.dom _ (Nat.le_refl _)) fun _ _ _ _ => rfl
  obtain ⟨b', sh', pre, c', post, ty, lo, hi, h1, h2, h3, h4, h5, h6⟩ := h.blk i _ hb
  rw [ha] at h1; cases h1
  obtain ⟨h7, h8, h9, h10, h11⟩ := h6 (by simp)
  have hl := hn.length
  have hl' := h4.length
  obtain ⟨w', r1, r2, r3, r4, r5, r6, r7⟩ := run_storeCells (P := P) new' (sh + c.length) 0 (pre ++ c' ++ post) w h2 (by simp; omega) (fun j hj1 hj2 => h8 j (by omega) (by omega)) (hn.one hone)
  refine ⟨w', r1, ?_, hle⟩
  have hB := Below.of_frame h.below h7 r3 r4 r5 r6 r7
  have hk := h.kill i
  refine ⟨?_, ?_, hB, ?_, ?_, ?_⟩
  · intro j p hp
    rw [r4]
    by_cases e : j = H.length
    · subst e; rw [Al.ext_new] at hp; cases hp; exact h.lt i (b, sh) ha
    · rw [Al.ext_old α _ _ e] at hp; exact h.lt j p hp
  · intro j hj
    simp only [push, List.length_append, List.length_singleton, List.length_set] at hj
    rw [Al.ext_old α _ _ (by omega)]
    exact h.dom j (by omega)
  · intro j x hx
    rcases push_get hx with ⟨hj, gx⟩ | ⟨e1, e2⟩
    · rw [List.length_set] at hj
      by_cases hd : x = .dead
      · subst hd; trivial
      · refine ((hk.blk j x gx).mono hle).congr ?_
        intro p hp
        rw [Al.ext_old α _ _ (Nat.ne_of_lt hj)] at hp
        refine r3 _ ?_
        rcases set_get gx with ⟨_, rfl⟩ | ⟨hne, gx⟩
        · exact absurd rfl hd
        · by_cases ox : own x = true
          · exact h.inj j i x _ p (b, sh) hne gx hb ox rfl hp ha
          · intro e
            cases x with
            | dead => exact hd rfl
            | siter s q => simp [own] at ox
            | mp es => simp [own] at ox
            | cells cc m ff =>
              have hm : m = .ro := by cases m <;> simp [own] at ox ⊢
              obtain ⟨b', sh', pre', c'', post', ty', lo', hi', g1, g2, g3, g4, g5, _⟩ := h.blk j _ gx
              rw [hp] at g1; cases g1
              have := g5 hm
              simp only at e; omega
    · rw [List.length_set] at e1
      subst e1; subst e2
      refine ⟨b, sh + o, pre ++ c'.take o, c'.drop o ++ new', post.drop new.length, ty, lo, hi, Al.ext_new _ _ _ _, ?_, ?_, ?_, (fun e => nomatch e), fun _ => ⟨h7, ?_, ?_⟩⟩
      · rw [r2, Nat.add_zero]
        congr 3
        unfold splice
        have e1 : (pre ++ c' ++ post).take (sh + c.length) = pre ++ c' := by
          rw [List.take_append_of_le_length (by simp; omega), List.take_of_length_le (by simp; omega)]
        have e2 : (pre ++ c' ++ post).drop (sh + c.length + new'.length) = post.drop new.length := by
          rw [List.drop_append, List.drop_of_length_le (by simp; omega)]
          simp only [List.nil_append]
          congr 1
          simp; omega
        rw [e1, e2]
        simp only [List.append_assoc]
        rw [← List.append_assoc (c'.take o) (c'.drop o), List.take_append_drop]
      · simp; omega
      · exact ((h4.drop o).append hn).mono hle
      · intro j hj1 hj2
        simp only [List.length_append, List.length_drop] at hj2
        exact h8 j (by omega) (by omega)
      · have ht : (α.ext H.length (b, sh + o) (α.tot b)).tot b = α.tot b := Al.ext_tot α H.length (b, sh + o) (α.tot b)
        rw [ht]
        simp only [List.length_append, List.length_drop]
        refine ⟨by omega, fun u hu => ?_, fun _ e => nomatch e⟩
        rcases htt' with e | e
        · have := h10 u (by rw [← e]; exact hu)
          exact ⟨this.1, by omega⟩
        · rw [e] at hu; cases hu
  · intro bb oo hm
    obtain ⟨g1, g2, g3⟩ := h.gh bb oo hm
    have hne : b ≠ bb := g3 i _ (b, sh) hb rfl ha
    refine ⟨g1, (r3 bb (fun e => hne e.symm)).trans g2, ?_⟩
    intro j x p hx ox hp
    rcases push_get hx with ⟨lj, gj⟩ | ⟨ej, fj⟩
    · rw [List.length_set] at lj
      rw [Al.ext_old α _ _ (Nat.ne_of_lt lj)] at hp
      rcases set_get gj with ⟨_, rfl⟩ | ⟨nj, gj⟩
      · simp [own] at ox
      · exact g3 j x p gj ox hp
    · rw [List.length_set] at ej
      subst ej
      rw [Al.ext_new] at hp; cases hp
      exact hne
  · intro j k bj bk p q hjk hj hk' oj ok hp hq
    rcases push_get hj with ⟨lj, gj⟩ | ⟨ej, fj⟩
    · rw [List.length_set] at lj
      rw [Al.ext_old α _ _ (Nat.ne_of_lt lj)] at hp
      rcases set_get gj with ⟨_, rfl⟩ | ⟨nj, gj⟩
      · simp [own] at oj
      · rcases push_get hk' with ⟨lk, gk⟩ | ⟨ek, fk⟩
        · rw [List.length_set] at lk
          rw [Al.ext_old α _ _ (Nat.ne_of_lt lk)] at hq
          rcases set_get gk with ⟨_, rfl⟩ | ⟨nk, gk⟩
          · simp [own] at ok
          · exact h.inj j k bj bk p q hjk gj gk oj ok hp hq
        · rw [List.length_set] at ek
          subst ek
          rw [Al.ext_new] at hq; cases hq
          exact h.inj j i bj _ p (b, sh) nj gj hb oj rfl hp ha
    · rw [List.length_set] at ej
      subst ej
      rw [Al.ext_new] at hp; cases hp
      rcases push_get hk' with ⟨lk, gk⟩ | ⟨ek, fk⟩
      · rw [List.length_set] at lk
        rw [Al.ext_old α _ _ (Nat.ne_of_lt lk)] at hq
        rcases set_get gk with ⟨_, rfl⟩ | ⟨nk, gk⟩
        · simp [own] at ok
        · have := h.inj k i bk _ q (b, sh) nk gk hb ok rfl hq ha
          exact fun e => this e.symm
      · rw [List.length_set] at ek; exact absurd ek.symm hjk


theorem l_append {o : Oper} {c : Call} {e : TypeId} {i : TypeInfo} {z : Value} {s x : Operand} {out : Out} (ho : o.op = .call c) (hb : c.callee = .builtin .append) (ha : c.args.toList = [s, x]) (T : AppTypes P c e i z)
    (hsv : VR α (rd env s) (ρ s)) (hx : VR α (rd env x) (ρ x)) (hs : Sim α w0 H w) (he : evI env H (.append e i.size i.bytes s x) = some out) : Loud P α w0 w o ρ out := by
  simp only [evI] at he
  split at he
  case h_2 => cases he
  rename_i n hn
  split at he
  case h_2 => cases he
  rename_i new hnew
  have hlen := lenOf_run (P := P) hx hn w
  obtain ⟨new', hf, hr⟩ := cellsIn_run (P := P) hs hx hnew
  have hsd : Sim α w0 H w.drew := hs.drawn _
  obtain ⟨new2, hf2, hr2⟩ := cellsIn_run (P := P) hsd hx hnew
  -- the call, out of append's own run
  have hexec : ∀ v, ρ s = v → ∀ r w', (Builtin.append_ c.argTypes o.type #[v, ρ x]).run P w = .ok r w' → (execOp ρ o).run P w = .ok (.value r) w' := by
    intro v hv r w' h
    rw [builtin_exec ho hb, args_two ha, hv]
    simp only [Go.builtin, Sem.run_bind, h, Result.andThen_ok, Sem.run_pure]
  unfold appendV at he
  split at he
  case h_2 => cases he
  rename_i base sLen sCap e1
  rw [e1] at hsv
  split at he
  · -- room for sure
    rename_i hroom
    split at he
    · split at he
      · rename_i hemp
        simp only [Option.some.injEq] at he
        have hnil : new = [] := by simpa using hemp
        subst hnil
        cases hr
        generalize hrs : ρ s = r at hsv
        cases hsv
        exact ⟨α, _, _, _, w, he.symm, Al.le_refl _, .snil _ _, hs, .inl (hexec _ hrs _ _ (append_room T hlen hf hroom (b := none) rfl _))⟩
      · cases he
    · rename_i j k sp
      split at he
      · rename_i H' hp
        simp only [Option.some.injEq] at he
        generalize hrs : ρ s = r at hsv
        by_cases hnil : new = []
        · subst hnil
          cases hr
          have : H' = H := by simp [putN] at hp; exact hp.symm
          subst this
          cases hsv with
          | slx h hn' hoo =>
            exact ⟨α, _, _, _, w, he.symm, Al.le_refl _, .slx h hroom hoo, hs, .inl (hexec _ hrs _ _ (append_room T hlen hf hroom (b := some _) rfl _))⟩
          | slz a =>
            have hn0 : n = 0 := by omega
            subst hn0
            exact ⟨α, _, _, _, w, he.symm, Al.le_refl _, .slz a, hs, .inl (hexec _ hrs _ _ (append_room T hlen hf hroom (b := some _) rfl _))⟩
          | sli h hn' hcc hoo htt =>
            exact ⟨α, _, _, _, w, he.symm, Al.le_refl _, .sli h hroom hcc hoo htt, hs, .inl (hexec _ hrs _ _ (append_room T hlen hf (by omega) (b := some _) rfl _))⟩
        · have hn0 : n ≠ 0 := by rintro rfl; exact hnil (cellsIn_nil hnew)
          cases hsv with
          | slx h hn' hoo =>
            rcases hoo with rfl | hoo
            · obtain ⟨w', g1, g2⟩ := hs.put hp hr P h
              refine ⟨α, _, _, _, w', he.symm, Al.le_refl _, .slx h hroom (.inl rfl), g2, .inl (hexec _ hrs _ _ (append_room T hlen hf hroom (b := some _) ?_ _))⟩
              simp only [add_addr, Nat.add_assoc]
              exact g1
            · omega
          | slz a => omega
          | sli h hn' hcc hoo htt =>
            rcases hoo with rfl | hoo
            · obtain ⟨w', g1, g2⟩ := hs.put hp hr P h
              refine ⟨α, _, _, _, w', he.symm, Al.le_refl _, .sli h hroom hcc (.inl rfl) htt, g2, .inl (hexec _ hrs _ _ (append_room T hlen hf (by omega) (b := some _) ?_ _))⟩
              simp only [add_addr, Nat.add_assoc]
              exact g1
            · omega
      · cases he
  · rename_i hroom
    split at he
    case isFalse => cases he
    rename_i hcond
    obtain ⟨c1, c2, c3, c4⟩ := hcond
    have hnn : new.length = n * i.size := cellsIn_length hnew hn c3
    have hgrow := hr2.length
    -- a new row
    have fresh : ∀ (mt : Option Nat), (∀ t, mt = some t → e = t) → ∀ (H0 : Heap) (old old' : List Value) (fz : Nat) (b : Option Addr) (cap' : Nat), ρ s = .slice b sLen cap' → cap' < sLen + n → (Builtin.firstCells i.size sLen (.slice b sLen cap')).run P w.drew = .ok ⟨old'⟩ w.drew → VRs α old old' → old.length = sLen * i.size →
        Sim α w0 H0 w.drew → (new.length = n * i.size) → Loud P α w0 w o ρ (.ret (.slice (some ⟨H0.length, 0, some i.size⟩) (sLen + n) (sLen + n)) (push H0 (.cells (old ++ new) (.loose mt) fz))) := by
      intro mt hmt H0 old old' fz b cap' hrs hcap hold hro hol hs0 hnn
      obtain ⟨post, hpl, hrun⟩ := append_none T hlen hold hf2 hcap c1 c2 o.type
      have hge := grownCap_ge w (sLen + n) cap' e
      have hsim := hs0.grow_cells (w' := w.drew.alloc (.cells ⟨old' ++ new2 ++ post⟩ e)) (below_alloc _ _) (hro.append hr2) (.loose mt) (by simp) fz (ty := e) (fr := (0, 0)) (fun t e => ⟨hmt t (by injection e), Nat.zero_le _⟩) (fun _ e => nomatch e) (by rw [heap_alloc_new]) (by intro j _; omega)
      refine ⟨_, _, _, _, _, rfl, hs0.le_ext _, .sli0 (Al.ext_new _ _ _ _) (Nat.le_refl _) hge ?_, hsim, .inl (hexec _ hrs _ _ hrun)⟩
      have ht := Al.ext_tot α H0.length (w.drew.heap.size, 0) ((old ++ new).length + post.length)
      simp only at ht
      rw [ht, List.length_append, hol, hnn, hpl, ← Nat.add_mul, ← Nat.add_mul]
      exact Nat.mul_le_mul_right _ (by omega)
    split at he
    · split at he
      · rename_i h0
        subst h0
        simp only [Option.some.injEq] at he
        generalize hrs : ρ s = r at hsv
        cases hsv
        have := fresh (some e) (fun _ h => by injection h) H [] [] 0 none sCap hrs (by omega) rfl .nil (by simp) hsd hnn
        simp only [Nat.zero_add, List.nil_append] at this
        rw [← he]; exact this
      · cases he
    · rename_i j k
      split at he
      · rename_i old hg
        simp only [Option.some.injEq] at he
        have hol : old.length = sLen * i.size := by
          unfold getN at hg
          split at hg
          · split at hg
            · cases hg; simp; omega
            · cases hg
          · cases hg
        generalize hrs : ρ s = r at hsv
        cases hsv with
        | slx h hn' hoo =>
          rename_i b sh o'
          rw [← he]
          by_cases h0 : sLen * i.size = 0
          · have : old = [] := List.eq_nil_of_length_eq_zero (by omega)
            subst this
            exact fresh (some e) (fun _ h => by injection h) H [] [] 0 (some ⟨b, o', none⟩) sCap hrs (by omega) (by simp only [Builtin.firstCells, h0]; rfl) .nil (by simp; omega) hsd hnn
          · have hs0 : sLen ≠ 0 := by rintro rfl; simp at h0
            rcases hoo with rfl | hoo
            · obtain ⟨old', h1, h2, h3⟩ := getN_cells hsd hg h P
              exact fresh (some e) (fun _ h => by injection h) H old old' 0 (some ⟨b, sh + k, none⟩) sCap hrs (by omega) h1 h2 hol hsd hnn
            · omega
        | slz a =>
          rw [← he]
          have : old = [] := List.eq_nil_of_length_eq_zero (by omega)
          subst this
          exact fresh (some e) (fun _ h => by injection h) H [] [] 0 (some a) 0 hrs (by omega) (by simp only [Builtin.firstCells, Nat.zero_mul]; rfl) .nil (by simp) hsd hnn
      · cases he
    · rename_i j k sp
      split at he
      · rename_i cc tt fz hbk
        split at he
        · rename_i hcond
          obtain ⟨d1, d2, d3⟩ := hcond
          subst d2
          simp only [Option.some.injEq] at he
          rw [← he]
          have hmt : ∀ t, (if tt = some e then some e else none) = some t → e = t := fun t h => by split at h <;> cases h; rfl
          have htt' : (if tt = some e then some e else none) = tt ∨ (if tt = some e then some e else none) = none := by
            by_cases h : tt = some e
            · left; rw [if_pos h]; exact h.symm
            · right; rw [if_neg h]
          generalize hrs : ρ s = r at hsv
          cases hsv with
          | sli h hn' hcc hoo htt =>
            rename_i b sh o' cap'
            have hkl : k ≤ cc.length := by omega
            by_cases hroom' : sLen + n ≤ cap'
            · -- the old row had room
              have hoff : o' = sh + k ∨ new = [] := by
                rcases hoo with hoo | hoo
                · exact .inl hoo
                · right
                  have : n = 0 := by omega
                  subst this
                  exact cellsIn_nil hnew
              have hoff2 : o' = sh + k := by
                rcases hoo with hoo | hoo
                · exact hoo
                · omega
              subst hoff2
              have hfit : sh + cc.length + new.length ≤ α.tot b := by
                have := Nat.mul_le_mul_right i.size hroom'
                rw [Nat.add_mul] at this
                omega
              obtain ⟨w', g1, g2, g3⟩ := hs.steal htt' hbk h hr c4 hfit hkl d3 P
              refine ⟨_, _, .slice (some ⟨b, sh + k, none⟩) (sLen + n) cap', _, w', rfl, g3, ?_, g2, .inl (hexec _ hrs _ _ (append_room T hlen hf hroom' (b := some _) ?_ _))⟩
              · have ht : (α.ext H.length (b, sh + k) (α.tot b)).tot b = α.tot b := Al.ext_tot α H.length (b, sh + k) (α.tot b)
                have := VR.sli (α := α.ext H.length (b, sh + k) (α.tot b)) (i := H.length) (o := 0) (s := i.size) (b := b) (sh := sh + k) (o' := sh + k) (n := sLen + n) (c := sLen + n) (c' := cap') (Al.ext_new _ _ _ _) (Nat.le_refl _) hroom' (.inl (by simp)) (by rw [ht]; exact htt)
                exact this
              · simp only [add_addr]
                rw [show sh + k + sLen * i.size = sh + cc.length by omega]
                exact g1
            · -- it had none
              have hg : getN H j k (sLen * i.size) = some (cc.drop k) := by
                unfold getN
                rw [hbk]
                simp only
                rw [if_pos (by omega), List.take_of_length_le (by simp; omega)]
              have hlen2 : (H.set j .dead).length = H.length := List.length_set
              rw [← hlen2]
              by_cases h0 : sLen * i.size = 0
              · have : cc.drop k = [] := by
                  apply List.drop_of_length_le; omega
                rw [this]
                exact fresh _ hmt (H.set j .dead) [] [] _ (some ⟨b, o', none⟩) cap' hrs (by omega) (by simp only [Builtin.firstCells, h0]; rfl) .nil (by simp; omega) (hsd.kill j) hnn
              · have hs0 : sLen ≠ 0 := by rintro rfl; simp at h0
                rcases hoo with rfl | hoo
                · obtain ⟨old', h1, h2, h3⟩ := getN_cells hsd hg h P
                  exact fresh _ hmt (H.set j .dead) (cc.drop k) old' _ (some ⟨b, sh + k, none⟩) cap' hrs (by omega) h1 h2 (by simp; omega) (hsd.kill j) hnn
                · omega
        · cases he
      · cases he

end
end Ve
end Go.Proofs.YtnociodpfmlglaaGreatDoor
