/-
  The beginning: the memory that a call meets, read by the deterministic machine.
-/
import Derived.Test.YtnociodpfmlglaaGreatDoorVD
import Derived.IntWalk
set_option linter.unusedVariables false
set_option linter.unusedSimpArgs false
namespace Go.Proofs.YtnociodpfmlglaaGreatDoor
namespace Ve
open Go Go.RowKit

/-- What the deterministic machine sees in a cell, of a memory of n blocks. -/
def absC (n : Nat) : Value → Value
  | .bool b => .bool b
  | .int k m => .int k m
  | .string s => .string s
  | .pointer none => .pointer none
  | .pointer (some ⟨b, o, none⟩) => if b < n then .pointer (some ⟨b, o, none⟩) else unk
  | .slice none l c => .slice none l c
  | .slice (some ⟨b, o, none⟩) l (c + 1) => if b < n ∧ l ≤ c + 1 then .slice (some ⟨b, o, none⟩) l (c + 1) else unk
  | .slice (some _) 0 0 => .slice (some ⟨0, 0, none⟩) 0 0
  | .map none => .map none
  | .nilFunc => .nilFunc
  | .nilIface => .nilIface
  | _ => unk

def absV (n : Nat) : Value → Value
  | .agg cs => .agg ⟨cs.toList.map (absC n)⟩
  | v => absC n v

def absO (n : Nat) : Obj → Blk
  | .cells c _ _ => .cells (c.toList.map (absC n)) .ro 0
  | _ => .dead

def absH (w : World) : Heap := w.heap.toList.map (absO w.heap.size)

def idAl (n : Nat) : Al := ⟨fun i => if i < n then some (i, 0) else none, fun _ => 0, []⟩

theorem absC_rel (n : Nat) (v : Value) : VR (idAl n) (absC n v) v := by
  unfold absC
  split
  · exact .bool _
  · exact .int _ _
  · exact .str _
  · exact .pnil
  · rename_i b o
    split
    · rename_i h
      have := VR.ptr (α := idAl n) (i := b) (o := o) (b := b) (sh := 0) (by simp [idAl, h])
      simpa using this
    · exact .unk _
  · exact .snil _ _
  · rename_i b o l c
    split
    · rename_i h
      exact .slx (sh := 0) (by simp [idAl, h.1]) h.2 (.inl (by simp))
    · exact .unk _
  · exact .slz _
  · exact .mnil
  · exact .nilF
  · exact .nilI
  · exact .unk _

theorem absCs_rel (n : Nat) : ∀ l : List Value, VRs (idAl n) (l.map (absC n)) l
  | [] => .nil
  | v :: l => .cons (absC_rel n v) (absCs_rel n l)

theorem absV_rel (n : Nat) (v : Value) : VR (idAl n) (absV n v) v := by
  unfold absV
  split
  · rename_i cs
    obtain ⟨l⟩ := cs
    exact .agg (absCs_rel n l)
  · exact absC_rel n _

theorem absVs_rel (n : Nat) : ∀ l : List Value, VRs (idAl n) (l.map (absV n)) l
  | [] => .nil
  | v :: l => .cons (absV_rel n v) (absVs_rel n l)

theorem init_sim (w : World) : Sim (idAl w.heap.size) w (absH w) w := by
  refine ⟨?_, ?_, Below.refl _ w, ?_, fun _ _ h => (nomatch h), ?_⟩
  · intro i p hp
    simp only [idAl] at hp
    split at hp
    · cases hp; assumption
    · cases hp
  · intro i hi
    have : ¬ i < w.heap.size := by simp [absH] at hi; omega
    simp [idAl, this]
  · intro i b hb
    simp only [absH, List.getElem?_map, Option.map_eq_some_iff, Array.getElem?_toList] at hb
    obtain ⟨o, ho, rfl⟩ := hb
    have hlt := (Array.getElem?_eq_some_iff.1 ho).1
    unfold absO
    split
    · rename_i c ty fr
      obtain ⟨c⟩ := c
      obtain ⟨lo, hi⟩ := fr
      refine ⟨i, 0, [], c, [], ty, lo, hi, by simp [idAl, hlt], by simpa using ho, rfl, absCs_rel _ c, fun _ => hlt, fun h => absurd rfl h⟩
    · trivial
  · intro i j bi bj p q _ hi hj oi
    simp only [absH, List.getElem?_map, Option.map_eq_some_iff, Array.getElem?_toList] at hi
    obtain ⟨o, ho, rfl⟩ := hi
    unfold absO at oi
    split at oi <;> simp [own] at oi

/-- A cell of the memory that the call meets. -/
theorem absH_cells {w : World} {b : Nat} {c : Array Value} {ty : TypeId} {fr : Nat × Nat} (h : w.heap[b]? = some (.cells c ty fr)) : (absH w)[b]? = some (.cells (c.toList.map (absC w.heap.size)) .ro 0) := by
  simp [absH, List.getElem?_map, h, absO]

theorem absH_length (w : World) : (absH w).length = w.heap.size := by simp [absH]

theorem get1_absH {w : World} {b o : Nat} {v : Value} (h : w.cell? ⟨b, o, none⟩ = some v) : get1 (absH w) b o = some (absC w.heap.size v) := by
  unfold World.cell? at h
  split at h
  · rename_i c ty fr hb
    simp only [Option.isSome_none, Bool.false_eq_true, if_false] at h
    simp [get1, absH_cells hb, h]
  · cases h

/-- What the deterministic machine says of a call in the memory that it meets. -/
theorem run_start {P : Program} {T : Tab} (hT : TabOk P T) (hD : DTabOk P T) (hI : IntrOk P T) {w : World} (hg : P.globals.size ≤ w.heap.size) {n : Nat} {f : FuncId} {args : List Value} {out : Out}
    (h : Ve.run T n f (args.map (absV w.heap.size)) (absH w) = some out) : CallSem P f ⟨args⟩ w (OutRel (idAl w.heap.size) w out) :=
  run_sound hT hD hI h (fun g hg' => by simp [idAl]; omega) (init_sim w) (absVs_rel _ args)

end Ve
end Go.Proofs.YtnociodpfmlglaaGreatDoor

/-
  A call without arguments whose answer the kernel has computed, as an entry of a greater table.
-/
set_option linter.unusedVariables false
set_option linter.unusedSimpArgs false
namespace Go.Proofs.YtnociodpfmlglaaGreatDoor
namespace Ve
open Go Go.RowKit

/-- Memory that has grown elsewhere is met as before. -/
theorem Sim.frame {α : Al} {w0 w w' : World} {H : Heap} (h : Sim α w0 H w) (hB : Below w.heap.size w w') : Sim α w0 H w' := by
  refine ⟨fun i p hp => by have := h.lt i p hp; have := hB.size; omega, h.dom, h.below.trans (hB.mono h.below.size), ?_, ?_, h.inj⟩
  · intro i b hb
    exact (h.blk i b hb).congr fun p hp => hB.block _ (h.lt i p hp)
  · intro bb oo hm
    obtain ⟨g1, g2, g3⟩ := h.gh bb oo hm
    exact ⟨g1, (hB.block bb (Array.getElem?_eq_some_iff.1 g2).1).trans g2, g3⟩

theorem lit_inv {α : Al} {v v' : Value} (h : VR α v v') (hl : isLit v = true) : v' = v := by
  cases h <;> first | rfl | (simp [isLit, unk] at hl)

/-- Nothing is known of the variables. -/
def blind (G : Nat) : Heap := List.replicate G .dead

theorem blind_sim {G : Nat} {w : World} (hG : G ≤ w.heap.size) : Sim (idAl G) w (blind G) w := by
  refine ⟨?_, ?_, Below.refl _ w, ?_, fun _ _ h => (nomatch h), ?_⟩
  · intro i p hp
    simp only [idAl] at hp
    split at hp
    · cases hp; simp only; omega
    · cases hp
  · intro i hi
    have : ¬ i < G := by simp [blind] at hi; omega
    simp [idAl, this]
  · intro i b hb
    have : b = .dead := by
      have := List.mem_of_getElem? hb
      exact List.eq_of_mem_replicate this
    subst this
    trivial
  · intro i j bi bj p q _ hi hj oi
    have : bi = .dead := List.eq_of_mem_replicate (List.mem_of_getElem? hi)
    subst this
    simp [own] at oi

def xClosed (v : Value) : List Value → Heap → Option Out
  | [], H => some (.ret v H)
  | _, _ => none

def retIs (v : Value) : Option Out → Bool
  | some (.ret u _) => beqV u v
  | _ => false

theorem CallSem.mono {P : Program} {f : FuncId} {args : Array Value} {w : World} {R R' : Ending → World → Prop} (h : CallSem P f args w R) (hr : ∀ e w', R e w' → R' e w') : CallSem P f args w R' := by
  rcases h with ⟨h1, h2⟩ | ⟨v, w', h1, h2⟩
  · exact .inl ⟨h1, h2.mono fun e w' hR => hr e w' hR⟩
  · exact .inr ⟨v, w', h1, hr _ _ h2⟩

theorem xClosed_ok {P : Program} {T : Tab} (hT : TabOk P T) (hD : DTabOk P T) (hI : IntrOk P T) {n : Nat} {f : FuncId} {v : Value} {H1 : Heap} (h : Ve.run T n f [] (blind P.globals.size) = some (.ret v H1)) (hv : isLit v = true) : XOk P f (xClosed v) := by
  intro args H out he α w0 w args' hg hs ha
  unfold xClosed at he
  split at he
  · cases he
    cases ha
    have hG : P.globals.size ≤ w.heap.size := by
      cases hsz : P.globals.size with
      | zero => omega
      | succ k => have := hs.lt k _ (hg k (by omega)); simp only at this; omega
    have := run_sound hT hD hI h (α := idAl P.globals.size) (w0 := w) (w := w) (args' := []) (fun g hg' => by simp [idAl, hg']) (blind_sim hG) .nil
    refine CallSem.mono this ?_
    rintro e w' ⟨β, v', hl, rfl, hvr, hsim⟩
    have := lit_inv hvr hv
    subst this
    exact ⟨α, _, Al.le_refl α, rfl, VR.lit hv, hs.frame hsim.below⟩
  · cases he

/-- The same, off a check that the kernel makes. -/
theorem run_of_isTrue {T : Tab} {n : Nat} {f : FuncId} {H : Heap} (h : (match Ve.run T n f [] H with | some (.ret (.bool true) _) => true | _ => false) = true) : ∃ H1, Ve.run T n f [] H = some (.ret (.bool true) H1) := by
  split at h
  · rename_i H1 e; exact ⟨H1, e⟩
  · cases h

end Ve
end Go.Proofs.YtnociodpfmlglaaGreatDoor

/-
  Reading the parts of a function that defers a closure off its code.
-/
set_option linter.unusedVariables false
set_option linter.unusedSimpArgs false
namespace Go.Proofs.YtnociodpfmlglaaGreatDoor
namespace Ve
open Go Go.RowKit

def takeSeq : Nat → Code → List Code
  | 0, _ => []
  | n + 1, .seq a b => a :: takeSeq n b
  | _, _ => []
def dropSeq : Nat → Code → Code
  | 0, c => c
  | n + 1, .seq _ b => dropSeq n b
  | _, c => c

/-- The statement that defers: its number, its two operations, and what comes behind it. -/
def partsD : Code → Option (Oper × Oper × Code)
  | .seq (.region _ ops false) rest => match ops.toList with | [mk, df] => some (mk, df, rest) | _ => none
  | _ => none

/-- What it captures and calls, its temporary. -/
def capsD (P : Program) : Option (Oper × Oper × Code) → Option (Nat × FuncId × List Operand × C)
  | some (mk, df, rest) =>
    match mk.op, mk.dst, mk.guard, df.op, df.dst, df.guard with
    | .makeFunc (.func g) first caps, some t, none, .defer ⟨.value (.tmp t'), args, _⟩, none, none =>
      if first.size = 0 ∧ args.size = 0 ∧ t' = t ∧ caps.toList.all (opdOk P) = true then some (t, g, caps.toList, (compC P rest []).1) else none
    | _, _, _, _, _, _ => none
  | none => none

theorem isD_of {P : Program} {t : Nat} {g : FuncId} {caps : List Operand} {r : C} : ∀ (n : Nat) (c : Code), (takeSeq n c).length = n → capsD P (partsD (dropSeq n c)) = some (t, g, caps, r) →
    IsD P c ((takeSeq n c).map fun a => (compC P a []).1) t g caps r
  | 0, c, _, h => by
    simp only [takeSeq, dropSeq, List.map_nil] at h ⊢
    unfold partsD at h
    split at h
    · rename_i ops rest hlen
      split at h
      · rename_i mk df hops
        simp only [capsD] at h
        split at h
        · rename_i g' first caps' t1 t2 args ts h1 h2 h3 h4 h5 h6
          split at h
          · rename_i hc
            obtain ⟨c1, c2, c3, c4⟩ := hc
            subst c3
            simp only [Option.some.injEq, Prod.mk.injEq] at h
            obtain ⟨rfl, rfl, rfl, rfl⟩ := h
            have e1 : first = #[] := Array.eq_empty_of_size_eq_zero c1
            have e2 : args = #[] := Array.eq_empty_of_size_eq_zero c2
            subst e1; subst e2
            have eo : ops = #[mk, df] := by
              obtain ⟨l⟩ := ops
              simp only at hops
              rw [hops]
            exact .here eo h1 h2 h3 h4 h5 h6 c4
          · cases h
        · cases h
      · simp [capsD] at h
    · simp [capsD] at h
  | n + 1, .seq a b, hl, h => by
    simp only [takeSeq, List.length_cons, Nat.add_right_cancel_iff] at hl
    exact .there (isD_of n b hl h)
  | n + 1, .skip, hl, _ | n + 1, .region _ _ _, hl, _ | n + 1, .cond _ _ _, hl, _ | n + 1, .block _ _, hl, _ | n + 1, .loop _, hl, _ | n + 1, .rangeFunc _ _ _ _, hl, _ | n + 1, .exit _, hl, _ | n + 1, .scope _, hl, _ | n + 1, .label _, hl, _ | n + 1, .goto _, hl, _ | n + 1, .ret, hl, _ | n + 1, .refuse _, hl, _ => by
    simp [takeSeq] at hl

/-- The closure's parts. -/
def cloD (P : Program) (G : Func) : Option (Nat × Nat × C) :=
  match G.body with
  | some (.seq (.region _ ops false) c0) =>
    match ops.toList with
    | [rc, asg] =>
      match rc.op, rc.dst, rc.guard, asg.op, asg.dst, asg.guard with
      | .call ⟨.builtin .recover, args, _⟩, some u, none, .assign (.tmp u'), some v, none =>
        if args.size = 0 ∧ u' = u ∧ G.results.size = 0 ∧ (G.name == "runtime.NumGoroutine") = false ∧ u < G.ntmps then some (u, v, (compC P c0 []).1) else none
      | _, _, _, _, _, _ => none
    | _ => none
  | _ => none

theorem isClo_of {P : Program} {G : Func} {u v : Nat} {r : C} (h : cloD P G = some (u, v, r)) : IsClo P G u v r := by
  unfold cloD at h
  split at h
  · rename_i id ops c0 hb
    split at h
    · rename_i rc asg hops
      split at h
      · rename_i args ts u1 u2 v1 h1 h2 h3 h4 h5 h6
        split at h
        · rename_i hc
          obtain ⟨c1, c2, c3, c4, c5⟩ := hc
          subst c2
          simp only [Option.some.injEq, Prod.mk.injEq] at h
          obtain ⟨rfl, rfl, rfl⟩ := h
          have e1 : args = #[] := Array.eq_empty_of_size_eq_zero c1
          subst e1
          have eo : ops = #[rc, asg] := by
            obtain ⟨l⟩ := ops
            simp only at hops
            rw [hops]
          subst eo
          exact ⟨id, rc, asg, c0, ts, hb, h1, h2, h3, h4, h5, h6, rfl, Array.eq_empty_of_size_eq_zero c3, c4, c5⟩
        · cases h
      · cases h
    · cases h
  · cases h

end Ve
end Go.Proofs.YtnociodpfmlglaaGreatDoor

/-
  More fuel changes no answer of the deterministic machine; its steps as rules over code that still waits.
-/
set_option linter.unusedVariables false
set_option linter.unusedSimpArgs false
namespace Go.Proofs.YtnociodpfmlglaaGreatDoor
namespace Ve
open Go

abbrev Ev1 := C → Env → Heap → Option (Ex × Env × Heap)
def Up (E E' : Ev1) : Prop := ∀ c env H r, E c env H = some r → E' c env H = some r

section
variable {T : Tab} {E E' : Ev1} (h : Up E E')
include h

theorem evPre_up : ∀ (l : List C) (env : Env) (H : Heap) r, evPre E l env H = some r → evPre E' l env H = some r
  | [], env, H, r, e => e
  | c :: l, env, H, r, e => by
    unfold evPre at e ⊢
    cases hc : E c env H with
    | none => rw [hc] at e; cases e
    | some x =>
      rw [h _ _ _ _ hc]
      rw [hc] at e
      obtain ⟨ex, env', H'⟩ := x
      cases ex <;> first | exact evPre_up l _ _ _ e | exact e

theorem evClo_up {d : DFn} {cl : List Value} {rv : Value} {env : Env} {H : Heap} {r : Out} (e : evClo E d cl rv env H = some r) : evClo E' d cl rv env H = some r := by
  unfold evClo at e ⊢
  split at e
  · rename_i hc; rw [h _ _ _ _ hc]; exact e
  · rename_i hc; rw [h _ _ _ _ hc]; exact e
  · cases e

theorem evDfn_up {d : DFn} {args : List Value} {H : Heap} {r : Out} (e : evDfn E d args H = some r) : evDfn E' d args H = some r := by
  unfold evDfn at e ⊢
  split at e
  · rename_i hc; rw [evPre_up h _ _ _ _ hc]; exact e
  · rename_i hc; rw [evPre_up h _ _ _ _ hc]; exact e
  · rename_i hc; rw [evPre_up h _ _ _ _ hc]
    split at e
    · cases e
    · rename_i hlt
      simp only [hlt, if_false] at e ⊢
      split at e
      · rename_i h2; rw [h _ _ _ _ h2]; exact evClo_up h e
      · rename_i h2; rw [h _ _ _ _ h2]; exact evClo_up h e
      · rename_i h2; rw [h _ _ _ _ h2]; exact evClo_up h e
      · cases e
  · cases e

theorem evCall_up {f : FuncId} {args : List Value} {H : Heap} {r : Out} (e : evCall T E f args H = some r) : evCall T E' f args H = some r := by
  unfold evCall at e ⊢
  split at e
  · split at e
    · exact evDfn_up h e
    · exact e
  · split at e
    · rename_i hc; rw [h _ _ _ _ hc]; exact e
    · rename_i hc; rw [h _ _ _ _ hc]; exact e
    · rename_i hc; rw [h _ _ _ _ hc]; exact e
    · cases e

theorem evOp_up {env : Env} {H : Heap} {i : I} {r : Out} (e : evOp T E env H i = some r) : evOp T E' env H i = some r := by
  unfold evOp at e ⊢
  split at e
  · split at e
    · rename_i hf; exact evCall_up h e
    · cases e
  · exact e

theorem evOps_up : ∀ (l : List IOper) (env : Env) (H : Heap) r, evOps T E l env H = some r → evOps T E' l env H = some r
  | [], env, H, r, e => e
  | o :: os, env, H, r, e => by
    unfold evOps at e ⊢
    split at e
    · split at e
      · rename_i ho; rw [evOp_up h ho]; exact evOps_up os _ _ _ e
      · rename_i ho; rw [evOp_up h ho]; exact e
      · cases e
    · exact evOps_up os _ _ _ e
    · cases e

theorem evD_up : ∀ (l : List DOper) (k : Nat) (env : Env) (H : Heap) st ps r, evD T E l k env H st ps = some r → evD T E' l k env H st ps = some r
  | [], k, env, H, st, ps, r, e => e
  | o :: os, k, env, H, st, ps, r, e => by
    unfold evD at e ⊢
    split at e
    · split at e
      · rename_i ho; rw [evOp_up h ho]; exact evD_up os _ _ _ _ _ _ e
      · cases e
    · exact evD_up os _ _ _ _ _ _ e
    · cases e

theorem evC_up : ∀ (c : C) (env : Env) (H : Heap) r, evC T E c env H = some r → evC T E' c env H = some r
  | .skip, env, H, r, e => e
  | .ops l, env, H, r, e => evOps_up h l env H r e
  | .dops l, env, H, r, e => evD_up h l 0 env H [] [] r e
  | .seq a b, env, H, r, e => by
    unfold evC at e ⊢
    cases ha : evC T E a env H with
    | none => rw [ha] at e; cases e
    | some x =>
      rw [evC_up a _ _ _ ha]
      rw [ha] at e
      obtain ⟨ex, env', H'⟩ := x
      cases ex <;> first | exact evC_up b _ _ _ e | exact e
  | .cond x a b, env, H, r, e => by
    unfold evC at e ⊢
    split at e
    · exact evC_up a _ _ _ e
    · exact evC_up b _ _ _ e
    · cases e
  | .block id c, env, H, r, e => by
    unfold evC at e ⊢
    cases ha : evC T E c env H with
    | none => rw [ha] at e; cases e
    | some x => rw [evC_up c _ _ _ ha]; rw [ha] at e; exact e
  | .loop gone c, env, H, r, e => by
    unfold evC at e ⊢
    cases ha : evC T E c (forget gone env) H with
    | none => rw [ha] at e; cases e
    | some x =>
      rw [evC_up c _ _ _ ha]
      rw [ha] at e
      obtain ⟨ex, env', H'⟩ := x
      cases ex <;> first | exact h _ _ _ _ e | exact e
  | .exit id, env, H, r, e => e
  | .ret, env, H, r, e => e
  | .stuck, env, H, r, e => e
end

theorem evN_up (T : Tab) : ∀ n, Up (evN T n) (evN T (n + 1))
  | 0 => fun c env H r e => by cases e
  | n + 1 => fun c env H r e => evC_up (evN_up T n) c env H r e

theorem evN_le {T : Tab} {n m : Nat} (h : n ≤ m) : Up (evN T n) (evN T m) := by
  induction h with
  | refl => exact fun _ _ _ _ e => e
  | step _ ih => exact fun c env H r e => evN_up T _ c env H r (ih c env H r e)

/-! ## the rules -/
abbrev Po := Ex → Env → Heap → Prop

/-- The code's run, at some fuel. -/
def Ev (T : Tab) (c : C) (env : Env) (H : Heap) (Q : Po) : Prop := ∃ n r, evN T n c env H = some r ∧ Q r.1 r.2.1 r.2.2
def EvO (T : Tab) (l : List IOper) (env : Env) (H : Heap) (Q : Po) : Prop := ∃ n r, evOps T (evN T n) l env H = some r ∧ Q r.1 r.2.1 r.2.2
def EvD (T : Tab) (l : List DOper) (k : Nat) (env : Env) (H : Heap) (st : List (Nat × Heap)) (ps : List Pend) (Q : Po) : Prop := ∃ n r, evD T (evN T n) l k env H st ps = some r ∧ Q r.1 r.2.1 r.2.2
/-- A call's run, at some fuel. -/
def Cl (T : Tab) (f : FuncId) (args : List Value) (H : Heap) (Q : Out → Prop) : Prop := ∃ n out, run T n f args H = some out ∧ Q out

theorem Cl.mono {T : Tab} {f : FuncId} {args : List Value} {H : Heap} {Q R : Out → Prop} (h : Cl T f args H Q) (k : ∀ out, Q out → R out) : Cl T f args H R := by
  obtain ⟨n, out, e, q⟩ := h
  exact ⟨n, out, e, k out q⟩

theorem Ev.mono {T : Tab} {c : C} {env : Env} {H : Heap} {Q R : Po} (h : Ev T c env H Q) (k : ∀ ex env' H', Q ex env' H' → R ex env' H') : Ev T c env H R := by
  obtain ⟨n, r, e, q⟩ := h
  exact ⟨n, r, e, k _ _ _ q⟩

/-- What waits behind the code that runs. -/
inductive Fr where
  | seq (c : C)
  | block (id : Nat)
  | loop (gone : List Nat) (c : C)

/-- The code, and what waits behind it. -/
def KR (T : Tab) : List Fr → Ex → Env → Heap → Po → Prop
  | [], ex, env, H, Q => Q ex env H
  | .seq b :: K, .norm, env, H, Q => Ev T b env H fun ex env' H' => KR T K ex env' H' Q
  | .seq _ :: K, ex, env, H, Q => KR T K ex env H Q
  | .block id :: K, .exit j, env, H, Q => if j = id then KR T K .norm env H Q else KR T K (.exit j) env H Q
  | .block _ :: K, ex, env, H, Q => KR T K ex env H Q
  | .loop gone c :: K, .norm, env, H, Q => Ev T (.loop gone c) env H fun ex env' H' => KR T K ex env' H' Q
  | .loop _ _ :: K, ex, env, H, Q => KR T K ex env H Q

def EvK (T : Tab) (c : C) (K : List Fr) (env : Env) (H : Heap) (Q : Po) : Prop := Ev T c env H fun ex env' H' => KR T K ex env' H' Q
def EvOK (T : Tab) (l : List IOper) (K : List Fr) (env : Env) (H : Heap) (Q : Po) : Prop := EvO T l env H fun ex env' H' => KR T K ex env' H' Q
def EvDK (T : Tab) (l : List DOper) (k : Nat) (K : List Fr) (env : Env) (H : Heap) (st : List (Nat × Heap)) (ps : List Pend) (Q : Po) : Prop := EvD T l k env H st ps fun ex env' H' => KR T K ex env' H' Q

section
variable {T : Tab} {K : List Fr} {env : Env} {H : Heap} {Q : Po}

@[go_sem] theorem KR_nil {ex : Ex} : KR T [] ex env H Q = Q ex env H := by simp only [KR]
@[go_sem] theorem KR_seq {b : C} : KR T (.seq b :: K) .norm env H Q = EvK T b K env H Q := by simp only [KR, EvK]
@[go_sem] theorem KR_seq_exit {b : C} {j : Nat} : KR T (.seq b :: K) (.exit j) env H Q = KR T K (.exit j) env H Q := by simp only [KR]
@[go_sem] theorem KR_seq_ret {b : C} : KR T (.seq b :: K) .ret env H Q = KR T K .ret env H Q := by simp only [KR]
@[go_sem] theorem KR_seq_pan {b : C} {v : Value} : KR T (.seq b :: K) (.pan v) env H Q = KR T K (.pan v) env H Q := by simp only [KR]
@[go_sem] theorem KR_block_norm {id : Nat} : KR T (.block id :: K) .norm env H Q = KR T K .norm env H Q := by simp only [KR]
@[go_sem] theorem KR_block_ret {id : Nat} : KR T (.block id :: K) .ret env H Q = KR T K .ret env H Q := by simp only [KR]
@[go_sem] theorem KR_block_pan {id : Nat} {v : Value} : KR T (.block id :: K) (.pan v) env H Q = KR T K (.pan v) env H Q := by simp only [KR]
@[go_sem] theorem KR_block_exit {id j : Nat} : KR T (.block id :: K) (.exit j) env H Q = if j = id then KR T K .norm env H Q else KR T K (.exit j) env H Q := by simp only [KR]
@[go_sem] theorem KR_loop {g : List Nat} {c : C} : KR T (.loop g c :: K) .norm env H Q = EvK T (.loop g c) K env H Q := by simp only [KR, EvK]
@[go_sem] theorem KR_loop_exit {g : List Nat} {c : C} {j : Nat} : KR T (.loop g c :: K) (.exit j) env H Q = KR T K (.exit j) env H Q := by simp only [KR]
@[go_sem] theorem KR_loop_ret {g : List Nat} {c : C} : KR T (.loop g c :: K) .ret env H Q = KR T K .ret env H Q := by simp only [KR]
@[go_sem] theorem KR_loop_pan {g : List Nat} {c : C} {v : Value} : KR T (.loop g c :: K) (.pan v) env H Q = KR T K (.pan v) env H Q := by simp only [KR]

theorem Ev_some {c : C} {Q : Po} {r : Ex × Env × Heap} (h : ∀ n, evN T (n + 1) c env H = some r) : Ev T c env H Q = Q r.1 r.2.1 r.2.2 := by
  apply propext
  constructor
  · rintro ⟨n, r', e, q⟩
    cases n with
    | zero => cases e
    | succ n => rw [h n] at e; cases e; exact q
  · intro q; exact ⟨1, r, h 0, q⟩

@[go_sem] theorem EvK_skip : EvK T .skip K env H Q = KR T K .norm env H Q := Ev_some (r := (.norm, env, H)) fun _ => rfl
@[go_sem] theorem EvK_exit {id : Nat} : EvK T (.exit id) K env H Q = KR T K (.exit id) env H Q := Ev_some (r := (.exit id, env, H)) fun _ => rfl
@[go_sem] theorem EvK_ret : EvK T .ret K env H Q = KR T K .ret env H Q := Ev_some (r := (.ret, env, H)) fun _ => rfl

theorem Ev_ops {l : List IOper} {Q : Po} : Ev T (.ops l) env H Q = EvO T l env H Q := by
  apply propext
  constructor
  · rintro ⟨n, r, e, q⟩
    cases n with
    | zero => cases e
    | succ n => exact ⟨n, r, e, q⟩
  · rintro ⟨n, r, e, q⟩; exact ⟨n + 1, r, e, q⟩
theorem Ev_dops {l : List DOper} {Q : Po} : Ev T (.dops l) env H Q = EvD T l 0 env H [] [] Q := by
  apply propext
  constructor
  · rintro ⟨n, r, e, q⟩
    cases n with
    | zero => cases e
    | succ n => exact ⟨n, r, e, q⟩
  · rintro ⟨n, r, e, q⟩; exact ⟨n + 1, r, e, q⟩
@[go_sem] theorem EvK_ops {l : List IOper} : EvK T (.ops l) K env H Q = EvOK T l K env H Q := Ev_ops
@[go_sem] theorem EvK_dops {l : List DOper} : EvK T (.dops l) K env H Q = EvDK T l 0 K env H [] [] Q := Ev_dops

theorem Ev_seq {a b : C} {Q : Po} : Ev T (.seq a b) env H Q = Ev T a env H fun ex env' H' => KR T [.seq b] ex env' H' Q := by
  apply propext
  constructor
  · rintro ⟨n, r, e, q⟩
    cases n with
    | zero => cases e
    | succ n =>
      simp only [evN, evC] at e
      cases ha : evC T (evN T n) a env H with
      | none => rw [ha] at e; cases e
      | some x =>
        rw [ha] at e
        obtain ⟨ex, env', H'⟩ := x
        refine ⟨n + 1, (ex, env', H'), ha, ?_⟩
        cases ex with
        | norm => simp only [KR]; exact ⟨n + 1, r, e, q⟩
        | _ => simp only at e; cases e; exact q
  · rintro ⟨n, ⟨ex, env', H'⟩, e, q⟩
    cases ex with
    | norm =>
      simp only [KR] at q
      obtain ⟨m, r, e2, q⟩ := q
      refine ⟨max n m + 1, r, ?_, q⟩
      have e1 := evN_le (T := T) (show n ≤ max n m + 1 by omega) _ _ _ _ e
      have e3 := evN_le (T := T) (show m ≤ max n m + 1 by omega) _ _ _ _ e2
      simp only [evN, evC] at e1 e3 ⊢
      rw [e1]; exact e3
    | _ =>
      refine ⟨n + 1, _, ?_, q⟩
      have e1 := evN_le (T := T) (show n ≤ n + 1 by omega) _ _ _ _ e
      simp only [evN, evC] at e1 ⊢
      rw [e1]

theorem KR_append {K1 : List Fr} : ∀ {ex : Ex} {env : Env} {H : Heap}, KR T (K1 ++ K) ex env H Q = KR T K1 ex env H fun ex env' H' => KR T K ex env' H' Q := by
  induction K1 with
  | nil => intro ex env H; simp only [List.nil_append, KR]
  | cons f K1 ih =>
    intro ex env H
    cases f with
    | seq b => cases ex <;> simp only [List.cons_append, KR, ih]
    | block id =>
      cases ex <;> simp only [List.cons_append, KR, ih]
    | loop g c => cases ex <;> simp only [List.cons_append, KR, ih]

@[go_sem] theorem EvK_seq {a b : C} : EvK T (.seq a b) K env H Q = EvK T a (.seq b :: K) env H Q := by
  unfold EvK
  rw [Ev_seq]
  congr 1
  funext ex env' H'
  exact (KR_append (K1 := [.seq b]) (K := K)).symm

theorem Ev_block {id : Nat} {c : C} {Q : Po} : Ev T (.block id c) env H Q = Ev T c env H fun ex env' H' => KR T [.block id] ex env' H' Q := by
  apply propext
  constructor
  · rintro ⟨n, r, e, q⟩
    cases n with
    | zero => cases e
    | succ n =>
      simp only [evN, evC] at e
      cases ha : evC T (evN T n) c env H with
      | none => rw [ha] at e; cases e
      | some x =>
        rw [ha] at e
        obtain ⟨ex, env', H'⟩ := x
        refine ⟨n + 1, (ex, env', H'), ha, ?_⟩
        cases ex with
        | exit j =>
          simp only at e
          simp only [KR]
          split at e <;> rename_i hj <;> simp only [hj, if_true, if_false] <;> cases e <;> exact q
        | _ => simp only at e; cases e; exact q
  · rintro ⟨n, ⟨ex, env', H'⟩, e, q⟩
    have e1 := evN_le (T := T) (show n ≤ n + 1 by omega) _ _ _ _ e
    simp only [evN] at e1
    cases ex with
    | exit j =>
      simp only [KR] at q
      by_cases hj : j = id
      · subst hj
        refine ⟨n + 1, (.norm, env', H'), ?_, ?_⟩
        · simp only [evN, evC, e1, if_true]
        · simpa using q
      · refine ⟨n + 1, (.exit j, env', H'), ?_, ?_⟩
        · simp only [evN, evC, e1, hj, if_false]
        · simpa [hj] using q
    | _ =>
      refine ⟨n + 1, _, ?_, q⟩
      simp only [evN, evC, e1]

@[go_sem] theorem EvK_block {id : Nat} {c : C} : EvK T (.block id c) K env H Q = EvK T c (.block id :: K) env H Q := by
  unfold EvK
  rw [Ev_block]
  congr 1
  funext ex env' H'
  exact (KR_append (K1 := [.block id]) (K := K)).symm

theorem Ev_loop {g : List Nat} {c : C} {Q : Po} : Ev T (.loop g c) env H Q = Ev T c (forget g env) H fun ex env' H' => KR T [.loop g c] ex env' H' Q := by
  apply propext
  constructor
  · rintro ⟨n, r, e, q⟩
    cases n with
    | zero => cases e
    | succ n =>
      simp only [evN, evC] at e
      cases ha : evC T (evN T n) c (forget g env) H with
      | none => rw [ha] at e; cases e
      | some x =>
        rw [ha] at e
        obtain ⟨ex, env', H'⟩ := x
        refine ⟨n + 1, (ex, env', H'), ha, ?_⟩
        cases ex with
        | norm => simp only [KR]; exact ⟨n, r, e, q⟩
        | _ => simp only at e; cases e; exact q
  · rintro ⟨n, ⟨ex, env', H'⟩, e, q⟩
    cases ex with
    | norm =>
      simp only [KR] at q
      obtain ⟨m, r, e2, q⟩ := q
      refine ⟨max n m + 1 + 1, r, ?_, q⟩
      have e1 := evN_le (T := T) (show n ≤ max n m + 1 + 1 by omega) _ _ _ _ e
      have e3 := evN_le (T := T) (show m ≤ max n m + 1 by omega) _ _ _ _ e2
      rw [evN] at e1 ⊢
      rw [evC, e1]; exact e3
    | _ =>
      refine ⟨n + 1, _, ?_, q⟩
      have e1 := evN_le (T := T) (show n ≤ n + 1 by omega) _ _ _ _ e
      simp only [evN, evC] at e1 ⊢
      rw [e1]

/-- A loop's round. Not for the simplifier. -/
theorem EvK_loop {g : List Nat} {c : C} : EvK T (.loop g c) K env H Q = EvK T c (.loop g c :: K) (forget g env) H Q := by
  unfold EvK
  rw [Ev_loop]
  congr 1
  funext ex env' H'
  exact (KR_append (K1 := [.loop g c]) (K := K)).symm

/-- A branch by a truth that is at hand. -/
def brK (T : Tab) (v : Value) (a b : C) (K : List Fr) (env : Env) (H : Heap) (Q : Po) : Prop := ∃ t, v = .bool t ∧ EvK T (if t then a else b) K env H Q
theorem EvK_cond' {x : Operand} {a b : C} : EvK T (.cond x a b) K env H Q = brK T (rd env x) a b K env H Q := by
  apply propext
  constructor
  · rintro ⟨n, r, e, q⟩
    cases n with
    | zero => cases e
    | succ n =>
      simp only [evN, evC] at e
      split at e
      · rename_i hx; exact ⟨true, hx, n + 1, r, e, q⟩
      · rename_i hx; exact ⟨false, hx, n + 1, r, e, q⟩
      · cases e
  · rintro ⟨t, hx, n, r, e, q⟩
    refine ⟨n + 1, r, ?_, q⟩
    have e1 := evN_le (T := T) (show n ≤ n + 1 by omega) _ _ _ _ e
    simp only [evN, evC, hx] at e1 ⊢
    cases t <;> exact e1
@[go_sem] theorem EvK_cond {x : Operand} {a b : C} : EvK T (.cond x a b) K env H Q = brK T (rd env x) a b K env H Q := EvK_cond'
@[go_sem] theorem brK_true {a b : C} : brK T (.bool true) a b K env H Q = EvK T a K env H Q := by
  apply propext; constructor
  · rintro ⟨t, h, k⟩; cases h; exact k
  · intro k; exact ⟨true, rfl, k⟩
@[go_sem] theorem brK_false {a b : C} : brK T (.bool false) a b K env H Q = EvK T b K env H Q := by
  apply propext; constructor
  · rintro ⟨t, h, k⟩; cases h; exact k
  · intro k; exact ⟨false, rfl, k⟩
theorem brK_of {t : Bool} {a b : C} (h1 : t = true → EvK T a K env H Q) (h2 : t = false → EvK T b K env H Q) : brK T (.bool t) a b K env H Q := by
  cases t
  · rw [brK_false]; exact h2 rfl
  · rw [brK_true]; exact h1 rfl
theorem brK_prop {p : Prop} [Decidable p] {a b : C} (h1 : p → EvK T a K env H Q) (h2 : ¬ p → EvK T b K env H Q) : brK T (.bool (decide p)) a b K env H Q :=
  brK_of (fun h => h1 (of_decide_eq_true h)) (fun h => h2 (of_decide_eq_false h))

/-! operations -/
theorem EvO_nil {Q : Po} : EvO T [] env H Q = Q .norm env H := by
  apply propext; constructor
  · rintro ⟨n, r, e, q⟩; cases e; exact q
  · intro q; exact ⟨0, _, rfl, q⟩
@[go_sem] theorem EvOK_nil : EvOK T [] K env H Q = KR T K .norm env H Q := EvO_nil

/-- What an operation has made, and the operations behind it. -/
def stO (T : Tab) (o : Option Out) (d : Option Nat) (os : List IOper) (K : List Fr) (env : Env) (Q : Po) : Prop :=
  match o with
  | some (.ret v H1) => EvOK T os K (put env d v) H1 Q
  | some (.pan v H1) => KR T K (.pan v) env H1 Q
  | none => False
@[go_sem] theorem stO_ret {v : Value} {H1 : Heap} {d : Option Nat} {os : List IOper} : stO T (some (.ret v H1)) d os K env Q = EvOK T os K (put env d v) H1 Q := rfl
@[go_sem] theorem stO_pan {v : Value} {H1 : Heap} {d : Option Nat} {os : List IOper} : stO T (some (.pan v H1)) d os K env Q = KR T K (.pan v) env H1 Q := rfl

def isCl : I → Bool | .call _ _ => true | _ => false
theorem evOp_plain {E : Ev1} {i : I} (h : isCl i = false) : evOp T E env H i = evI env H i := by
  cases i <;> first | rfl | (simp [isCl] at h)

theorem EvOK_op {d : Option Nat} {i : I} {os : List IOper} (h : isCl i = false) : EvOK T (⟨d, i, none⟩ :: os) K env H Q = stO T (evI env H i) d os K env Q := by
  apply propext; constructor
  · rintro ⟨n, r, e, q⟩
    simp only [evOps, wanted, evOp_plain h] at e
    unfold stO
    split at e
    · rename_i ho; rw [ho]; exact ⟨n, r, e, q⟩
    · rename_i ho; rw [ho]; cases e; exact q
    · cases e
  · intro k
    unfold stO at k
    split at k
    · rename_i ho
      obtain ⟨n, r, e, q⟩ := k
      exact ⟨n, r, by simp only [evOps, wanted, evOp_plain h, ho]; exact e, q⟩
    · rename_i ho
      exact ⟨0, (_, env, _), by simp only [evOps, wanted, evOp_plain h, ho], k⟩
    · cases k

/-- A guarded operation. -/
def guO (T : Tab) (b : Option Bool) (d : Option Nat) (i : I) (os : List IOper) (K : List Fr) (env : Env) (H : Heap) (Q : Po) : Prop :=
  match b with
  | some true => EvOK T (⟨d, i, none⟩ :: os) K env H Q
  | some false => EvOK T os K (put env d undef) H Q
  | none => False
@[go_sem] theorem guO_true {d : Option Nat} {i : I} {os : List IOper} : guO T (some true) d i os K env H Q = EvOK T (⟨d, i, none⟩ :: os) K env H Q := rfl
@[go_sem] theorem guO_false {d : Option Nat} {i : I} {os : List IOper} : guO T (some false) d i os K env H Q = EvOK T os K (put env d undef) H Q := rfl
@[go_sem] theorem EvOK_guard {d : Option Nat} {i : I} {g : Nat × Bool} {os : List IOper} : EvOK T (⟨d, i, some g⟩ :: os) K env H Q = guO T (wanted env (some g)) d i os K env H Q := by
  apply propext; constructor
  · rintro ⟨n, r, e, q⟩
    rw [evOps] at e
    simp only at e
    unfold guO
    split at e
    · rename_i hw; rw [hw]; exact ⟨n, r, by rw [evOps]; simp only [wanted]; exact e, q⟩
    · rename_i hw; rw [hw]; exact ⟨n, r, e, q⟩
    · cases e
  · intro k
    unfold guO at k
    split at k
    · rename_i hw
      obtain ⟨n, r, e, q⟩ := k
      refine ⟨n, r, ?_, q⟩
      rw [evOps] at e ⊢
      simp only [wanted] at e
      simp only [hw]
      exact e
    · rename_i hw
      obtain ⟨n, r, e, q⟩ := k
      exact ⟨n, r, by rw [evOps]; simp only [hw]; exact e, q⟩
    · cases k

/-- A call among the operations. -/
def callOf (f : Value) (args : List Value) : Option (FuncId × List Value) :=
  match f with
  | .func (.func f) first captured => some (f, first.toList ++ args ++ captured.toList)
  | _ => none
def clO (T : Tab) (c : Option (FuncId × List Value)) (d : Option Nat) (os : List IOper) (K : List Fr) (env : Env) (H : Heap) (Q : Po) : Prop :=
  match c with
  | some (f, args) => Cl T f args H fun out => stO T (some out) d os K env Q
  | none => False
@[go_sem] theorem EvOK_call {d : Option Nat} {f : Operand} {args : List Operand} {os : List IOper} : EvOK T (⟨d, .call f args, none⟩ :: os) K env H Q = clO T (callOf (rd env f) (args.map (rd env))) d os K env H Q := by
  apply propext; constructor
  · rintro ⟨n, r, e, q⟩
    simp only [evOps, wanted, evOp] at e
    unfold callOf clO
    cases hf : rd env f <;> simp only [hf] at e ⊢ <;> try (cases e; done)
    rename_i fn first captured
    cases fn <;> simp only [] at e ⊢ <;> try (cases e; done)
    rename_i fid
    split at e
    · rename_i v H1 ho
      exact ⟨n, _, ho, n, r, e, q⟩
    · rename_i v H1 ho
      cases e
      exact ⟨n, _, ho, q⟩
    · cases e
  · intro k
    unfold callOf clO at k
    cases hf : rd env f <;> simp only [hf] at k
    rename_i fn first captured
    cases fn <;> simp only [] at k
    rename_i fid
    obtain ⟨n, out, e, q⟩ := k
    cases out with
    | ret v H1 =>
      obtain ⟨m, r, e2, q⟩ := q
      refine ⟨max n m, r, ?_, q⟩
      have e3 := evCall_up (T := T) (evN_le (show n ≤ max n m by omega)) e
      have e4 := evOps_up (T := T) (evN_le (show m ≤ max n m by omega)) _ _ _ _ e2
      simp only [evOps, wanted, evOp, hf, e3]
      exact e4
    | pan v H1 =>
      refine ⟨n, (.pan v, env, H1), ?_, q⟩
      have e3 : evCall T (evN T n) fid (first.toList ++ args.map (rd env) ++ captured.toList) H = some (.pan v H1) := e
      simp only [evOps, wanted, evOp, hf, e3]
@[go_sem] theorem callOf_func {f : FuncId} {args : List Value} : callOf (.func (.func f) #[] #[]) args = some (f, args) := by simp [callOf]
@[go_sem] theorem callOf_clo {f : FuncId} {first captured args : List Value} : callOf (.func (.func f) ⟨first⟩ ⟨captured⟩) args = some (f, first ++ args ++ captured) := rfl
@[go_sem] theorem clO_some {f : FuncId} {args : List Value} {d : Option Nat} {os : List IOper} : clO T (some (f, args)) d os K env H Q = Cl T f args H fun out => stO T (some out) d os K env Q := rfl

/-! statements whose order is open -/
theorem EvD_nil {k : Nat} {st : List (Nat × Heap)} {ps : List Pend} {Q : Po} : EvD T [] k env H st ps Q = (ps.all (pendOk ((k, H) :: st)) = true ∧ Q .norm env H) := by
  apply propext; constructor
  · rintro ⟨n, r, e, q⟩
    simp only [evD] at e
    split at e
    · rename_i h; cases e; exact ⟨h, q⟩
    · cases e
  · rintro ⟨h, q⟩; exact ⟨0, (.norm, env, H), by simp only [evD, h, if_true], q⟩
@[go_sem] theorem EvDK_nil {k : Nat} {st : List (Nat × Heap)} {ps : List Pend} : EvDK T [] k K env H st ps Q = (ps.all (pendOk ((k, H) :: st)) = true ∧ KR T K .norm env H Q) := EvD_nil

def stD (T : Tab) (o : Option Out) (d : Option Nat) (os : List DOper) (k : Nat) (K : List Fr) (env : Env) (st : List (Nat × Heap)) (ps : Value → List Pend) (Q : Po) : Prop :=
  match o with
  | some (.ret v H1) => EvDK T os k K (put env d v) H1 st (ps v) Q
  | _ => False
@[go_sem] theorem stD_ret {v : Value} {H1 : Heap} {d : Option Nat} {os : List DOper} {k : Nat} {st : List (Nat × Heap)} {ps : Value → List Pend} : stD T (some (.ret v H1)) d os k K env st ps Q = EvDK T os k K (put env d v) H1 st (ps v) Q := rfl

theorem EvDK_op {o : DOper} {os : List DOper} {k : Nat} {st : List (Nat × Heap)} {ps : List Pend} (hg : o.o.guard = none) (h : isCl o.o.op = false) :
    EvDK T (o :: os) k K env H st ps Q = stD T (evI env H o.o.op) o.o.dst os (k + 1) K env (if o.loud then (k, H) :: st else st) (fun v => pendOf env o v ps) Q := by
  apply propext; constructor
  · rintro ⟨n, r, e, q⟩
    simp only [evD, hg, wanted, evOp_plain h] at e
    unfold stD
    split at e
    · rename_i ho; rw [ho]; exact ⟨n, r, e, q⟩
    · cases e
  · intro k
    unfold stD at k
    split at k
    · rename_i ho
      obtain ⟨n, r, e, q⟩ := k
      exact ⟨n, r, by simp only [evD, hg, wanted, evOp_plain h, ho]; exact e, q⟩
    · cases k
theorem EvDK_plain {d : Option Nat} {i : I} {os : List DOper} {k : Nat} {loud : Bool} {st : List (Nat × Heap)} {ps : List Pend} (h : isCl i = false) :
    EvDK T (⟨⟨d, i, none⟩, loud, []⟩ :: os) k K env H st ps Q = stD T (evI env H i) d os (k + 1) K env (if loud then (k, H) :: st else st) (fun _ => ps) Q := by
  rw [EvDK_op rfl h]
  simp [pendOf]
theorem EvDK_load {d : Option Nat} {m : Option Nat} {a : Operand} {os : List DOper} {k j : Nat} {js : List Nat} {loud : Bool} {st : List (Nat × Heap)} {ps : List Pend} :
    EvDK T (⟨⟨d, .ld m a, none⟩, loud, j :: js⟩ :: os) k K env H st ps Q = stD T (evI env H (.ld m a)) d os (k + 1) K env (if loud then (k, H) :: st else st) (fun v => ⟨m, rd env a, v, j :: js⟩ :: ps) Q := by
  rw [EvDK_op rfl rfl]
  simp [pendOf]

def guD (T : Tab) (b : Option Bool) (d : Option Nat) (i : I) (loud : Bool) (wins : List Nat) (os : List DOper) (k : Nat) (K : List Fr) (env : Env) (H : Heap) (st : List (Nat × Heap)) (ps : List Pend) (Q : Po) : Prop :=
  match b with
  | some true => EvDK T (⟨⟨d, i, none⟩, loud, wins⟩ :: os) k K env H st ps Q
  | some false => EvDK T os (k + 1) K (put env d undef) H (if loud then (k, H) :: st else st) ps Q
  | none => False
section
variable {d : Option Nat} {i : I} {os : List DOper} {k : Nat} {loud : Bool} {wins : List Nat} {st : List (Nat × Heap)} {ps : List Pend}
@[go_sem] theorem guD_true : guD T (some true) d i loud wins os k K env H st ps Q = EvDK T (⟨⟨d, i, none⟩, loud, wins⟩ :: os) k K env H st ps Q := rfl
@[go_sem] theorem guD_false : guD T (some false) d i loud wins os k K env H st ps Q = EvDK T os (k + 1) K (put env d undef) H (if loud then (k, H) :: st else st) ps Q := rfl
@[go_sem] theorem EvDK_guard {g : Nat × Bool} : EvDK T (⟨⟨d, i, some g⟩, loud, wins⟩ :: os) k K env H st ps Q = guD T (wanted env (some g)) d i loud wins os k K env H st ps Q := by
  apply propext; constructor
  · rintro ⟨n, r, e, q⟩
    rw [evD] at e
    simp only at e
    unfold guD
    split at e
    · rename_i hw; rw [hw]; exact ⟨n, r, by rw [evD]; simp only [wanted]; exact e, q⟩
    · rename_i hw; rw [hw]; exact ⟨n, r, e, q⟩
    · cases e
  · intro k
    unfold guD at k
    split at k
    · rename_i hw
      obtain ⟨n, r, e, q⟩ := k
      refine ⟨n, r, ?_, q⟩
      rw [evD] at e ⊢
      simp only [wanted] at e
      simp only [hw]
      exact e
    · rename_i hw
      obtain ⟨n, r, e, q⟩ := k
      exact ⟨n, r, by rw [evD]; simp only [hw]; exact e, q⟩
    · cases k

def stC (T : Tab) (o : Out) (d : Option Nat) (os : List DOper) (k : Nat) (K : List Fr) (env : Env) (st : List (Nat × Heap)) (ps : List Pend) (Q : Po) : Prop :=
  match o with
  | .ret v H1 => EvDK T os k K (put env d v) H1 st ps Q
  | _ => False
@[go_sem] theorem stC_ret {v : Value} {H1 : Heap} : stC T (.ret v H1) d os k K env st ps Q = EvDK T os k K (put env d v) H1 st ps Q := rfl
def clD (T : Tab) (c : Option (FuncId × List Value)) (d : Option Nat) (os : List DOper) (k : Nat) (K : List Fr) (env : Env) (H : Heap) (st : List (Nat × Heap)) (ps : List Pend) (Q : Po) : Prop :=
  match c with
  | some (f, args) => Cl T f args H fun out => stC T out d os k K env st ps Q
  | none => False
@[go_sem] theorem clD_some {f : FuncId} {args : List Value} : clD T (some (f, args)) d os k K env H st ps Q = Cl T f args H fun out => stC T out d os k K env st ps Q := rfl
@[go_sem] theorem EvDK_call {f : Operand} {args : List Operand} :
    EvDK T (⟨⟨d, .call f args, none⟩, loud, wins⟩ :: os) k K env H st ps Q = clD T (callOf (rd env f) (args.map (rd env))) d os (k + 1) K env H (if loud then (k, H) :: st else st) ps Q := by
  have hp : ∀ v, pendOf env ⟨⟨d, .call f args, none⟩, loud, wins⟩ v ps = ps := by intro v; unfold pendOf; cases wins <;> rfl
  apply propext; constructor
  · rintro ⟨n, r, e, q⟩
    simp only [evD, wanted, evOp, hp] at e
    unfold callOf clD
    cases hf : rd env f <;> simp only [hf] at e ⊢ <;> try (cases e; done)
    rename_i fn first captured
    cases fn <;> simp only [] at e ⊢ <;> try (cases e; done)
    rename_i fid
    split at e
    · rename_i v H1 ho
      exact ⟨n, _, ho, n, r, e, q⟩
    · cases e
  · intro k
    unfold callOf clD at k
    cases hf : rd env f <;> simp only [hf] at k
    rename_i fn first captured
    cases fn <;> simp only [] at k
    rename_i fid
    obtain ⟨n, out, e, q⟩ := k
    cases out with
    | ret v H1 =>
      obtain ⟨m, r, e2, q⟩ := q
      refine ⟨max n m, r, ?_, q⟩
      have e3 := evCall_up (T := T) (evN_le (show n ≤ max n m by omega)) e
      have e4 := evD_up (T := T) (evN_le (show m ≤ max n m by omega)) _ _ _ _ _ _ _ e2
      simp only [evD, wanted, evOp, hf, e3, hp]
      exact e4
    | pan v H1 => cases q
end

/-- A piece of the code by itself. -/
theorem EvK_cut {c : C} {K1 : List Fr} {R : Po} (h : EvK T c K1 env H R) (k : ∀ ex env' H', R ex env' H' → KR T K ex env' H' Q) : EvK T c (K1 ++ K) env H Q := by
  unfold EvK at h ⊢
  obtain ⟨n, r, e, q⟩ := h
  refine ⟨n, r, e, ?_⟩
  show KR T (K1 ++ K) r.1 r.2.1 r.2.2 Q
  rw [KR_append]
  revert q
  generalize r.1 = ex
  generalize r.2.1 = env'
  generalize r.2.2 = H'
  clear e
  revert ex env' H'
  have kr : ∀ (K1 : List Fr) {R R' : Po}, (∀ ex env' H', R ex env' H' → R' ex env' H') → ∀ ex env' H', KR T K1 ex env' H' R → KR T K1 ex env' H' R' := by
    intro K1
    induction K1 with
    | nil => intro R R' hr ex env' H'; simp only [KR]; exact hr _ _ _
    | cons f K1 ih =>
      intro R R' hr ex env' H' q
      cases f with
      | seq b => cases ex <;> simp only [KR] at q ⊢ <;> first | exact q.mono (fun _ _ _ => ih hr _ _ _) | exact ih hr _ _ _ q
      | block id =>
        cases ex <;> simp only [KR] at q ⊢ <;> try exact ih hr _ _ _ q
        split at q <;> rename_i hj <;> simp only [hj, if_true, if_false] <;> exact ih hr _ _ _ q
      | loop g c => cases ex <;> simp only [KR] at q ⊢ <;> first | exact q.mono (fun _ _ _ => ih hr _ _ _) | exact ih hr _ _ _ q
  intro ex env' H' q
  exact kr K1 k _ _ _ q

/-- How a function's run ends. -/
def finO (rs : List RV) (Q : Out → Prop) : Po := fun ex env H =>
  match ex with
  | .norm | .ret => ∃ v, results rs env H = some v ∧ Q (.ret v H)
  | .pan v => Q (.pan v H)
  | .exit _ => False
theorem Cl_of {f : FuncId} {fn : IFun} {args : List Value} {Q : Out → Prop} (hf : T.code f = some fn) (h : EvK T fn.body [] (args ++ List.replicate (fn.ntmps - args.length) undef) H (finO fn.results Q)) : Cl T f args H Q := by
  obtain ⟨n, ⟨ex, env', H'⟩, e, q⟩ := h
  simp only [KR] at q
  cases ex with
  | norm => obtain ⟨v, hv, q⟩ := q; exact ⟨n, _, by simp only [run, evCall, hf, e, hv, Option.map_some], q⟩
  | ret => obtain ⟨v, hv, q⟩ := q; exact ⟨n, _, by simp only [run, evCall, hf, e, hv, Option.map_some], q⟩
  | pan v => exact ⟨n, _, by simp only [run, evCall, hf, e], q⟩
  | exit j => cases q
@[go_sem] theorem finO_norm {rs : List RV} {Q : Out → Prop} : finO rs Q .norm env H = ∃ v, results rs env H = some v ∧ Q (.ret v H) := rfl
@[go_sem] theorem finO_ret {rs : List RV} {Q : Out → Prop} : finO rs Q .ret env H = ∃ v, results rs env H = some v ∧ Q (.ret v H) := rfl
@[go_sem] theorem finO_pan {rs : List RV} {Q : Out → Prop} {v : Value} : finO rs Q (.pan v) env H = Q (.pan v H) := rfl
theorem Cl_intr {f : FuncId} {args : List Value} {Q : Out → Prop} {out : Out} (hf : T.code f = none) (hd : T.dfn f = none) (h : T.intr f args H = some out) (q : Q out) : Cl T f args H Q :=
  ⟨0, out, by simp only [run, evCall, hf, hd, h], q⟩
end

end Ve
end Go.Proofs.YtnociodpfmlglaaGreatDoor

/-
  The operations of the deterministic machine as rewriting rules.
-/
set_option linter.unusedVariables false
set_option linter.unusedSimpArgs false
namespace Go.Proofs.YtnociodpfmlglaaGreatDoor
namespace Ve
open Go

/-! temporaries -/
def gt (env : Env) (t : Nat) : Value := env.getD t undef
def gtp (env : Env) (d : Nat) (v : Value) : Value := if d < env.length then v else undef
section
variable {env : Env} {H : Heap}
@[go_sem] theorem rd_tmp {t : Nat} : rd env (.tmp t) = gt env t := rfl
@[go_sem] theorem rd_const {v : Value} : rd env (.const v) = v := rfl
@[go_sem] theorem rd_global {g : Nat} : rd env (.global g) = .pointer (some ⟨g, 0, none⟩) := rfl
@[go_sem] theorem rd_func {f : FuncId} : rd env (.func f) = .func (.func f) #[] #[] := rfl
@[go_sem] theorem put_none {v : Value} : put env none v = env := rfl
@[go_sem] theorem gt_put {d t : Nat} {v : Value} : gt (put env (some d) v) t = if d = t then gtp env d v else gt env t := by
  unfold gt gtp put
  simp only [List.getD_eq_getElem?_getD, List.getElem?_set]
  split
  · rename_i h; subst h; split <;> simp
  · rfl
theorem gtp_in {d : Nat} {v : Value} (h : d < env.length) : gtp env d v = v := by simp [gtp, h]
theorem length_put {d : Option Nat} {v : Value} : (put env d v).length = env.length := by cases d <;> simp [put]
attribute [go_sem] length_put
theorem forget_length : ∀ {g : List Nat} {env : Env}, (forget g env).length = env.length
  | [], env => rfl
  | t :: g, env => by
    have := forget_length (g := g) (env := env.set t unk)
    simp only [forget, List.foldl_cons] at this ⊢
    rw [this]; simp
attribute [go_sem] forget_length
@[go_sem] theorem forget_nil : forget [] env = env := rfl
theorem gt_forget : ∀ {g : List Nat} {env : Env} {t : Nat}, t ∉ g → gt (forget g env) t = gt env t
  | [], env, t, h => rfl
  | x :: g, env, t, h => by
    have h1 : x ≠ t := fun e => h (by simp [e])
    have h2 : t ∉ g := fun e => h (by simp [e])
    have := gt_forget (g := g) (env := env.set x unk) h2
    simp only [forget, List.foldl_cons] at this ⊢
    rw [this]
    simp [gt, List.getD_eq_getElem?_getD, List.getElem?_set, h1]
/-- The temporaries at the beginning. -/
def ent (args : List Value) (n : Nat) : Env := args ++ List.replicate (n - args.length) undef
theorem ent_length {args : List Value} {n : Nat} (h : args.length ≤ n) : (ent args n).length = n := by simp [ent]; omega
@[go_sem] theorem ent_len {args : List Value} {n : Nat} : (ent args n).length = args.length + (n - args.length) := by simp [ent]
@[go_sem] theorem gt_ent {args : List Value} {n t : Nat} : gt (ent args n) t = args.getD t undef := by
  simp only [gt, ent, List.getD_eq_getElem?_getD, List.getElem?_append, List.getElem?_replicate]
  split
  · rfl
  · rename_i h
    rw [List.getElem?_eq_none (by omega)]
    split <;> rfl
theorem Cl_ent {T : Tab} {f : FuncId} {fn : IFun} {args : List Value} {Q : Out → Prop} (hf : T.code f = some fn) (h : EvK T fn.body [] (ent args fn.ntmps) H (finO fn.results Q)) : Cl T f args H Q := Cl_of hf h

/-! texts -/
attribute [go_sem] List.getD_cons_zero List.getD_cons_succ List.getD_nil
@[go_sem] theorem str_of (l : List UInt8) : Value.string ⟨⟨l⟩⟩ = strOf l := rfl
@[go_sem] theorem bytesOf_mk {l : List UInt8} : bytesOf ⟨⟨l⟩⟩ = l := rfl
theorem size_mk {l : List UInt8} : (⟨⟨l⟩⟩ : ByteArray).size = l.length := rfl
@[go_sem] theorem one_str {l : List UInt8} : one (strOf l) = true := rfl
@[go_sem] theorem one_bool {b : Bool} : one (.bool b) = true := rfl
@[go_sem] theorem one_int {k : IntKind} {n : Int} : one (.int k n) = true := rfl
@[go_sem] theorem one_ptr {a : Option Addr} : one (.pointer a) = true := rfl
@[go_sem] theorem one_slice {a : Option Addr} {l c : Nat} : one (.slice a l c) = true := rfl
@[go_sem] theorem one_map {a : Option Nat} : one (.map a) = true := rfl
@[go_sem] theorem one_func {f : Fn} {a b : Array Value} : one (.func f a b) = true := rfl
@[go_sem] theorem one_nilf : one .nilFunc = true := rfl
@[go_sem] theorem one_nili : one .nilIface = true := rfl
@[go_sem] theorem one_iface {t : TypeId} {v : Value} : one (.iface t v) = true := rfl

/-! operations -/
@[go_sem] theorem EvOK_mov {T : Tab} {d : Option Nat} {x : Operand} {os : List IOper} {K : List Fr} {Q : Po} : EvOK T (⟨d, .mov x, none⟩ :: os) K env H Q = EvOK T os K (put env d (rd env x)) H Q := EvOK_op rfl
def pickO (c a b : Value) (H : Heap) : Option Out := match c with | .bool t => some (.ret (if t then a else b) H) | _ => none
@[go_sem] theorem evI_mov {x : Operand} : evI env H (.mov x) = some (.ret (rd env x) H) := rfl
@[go_sem] theorem evI_pick {c a b : Operand} : evI env H (.pick c a b) = pickO (rd env c) (rd env a) (rd env b) H := rfl
@[go_sem] theorem pickO_true {a b : Value} : pickO (.bool true) a b H = some (.ret a H) := rfl
@[go_sem] theorem pickO_false {a b : Value} : pickO (.bool false) a b H = some (.ret b H) := rfl
theorem pickO_bool {t a b : Bool} : pickO (.bool t) (.bool a) (.bool b) H = some (.ret (.bool (if t then a else b)) H) := by cases t <;> rfl
@[go_sem] theorem evI_new {t : Nat} {z : List Value} : evI env H (.new t z) = some (.ret (.pointer (some ⟨H.length, 0, none⟩)) (push H (.cells z (.fix (some t)) 0))) := rfl
def boxO (t : Nat) (H : Heap) : Option (List Value) → Option Out
  | some cs => some (.ret (.pointer (some ⟨H.length, 0, none⟩)) (push H (.cells cs (.fix (some t)) 0)))
  | none => none
@[go_sem] theorem evI_box {t : Nat} {x : Operand} : evI env H (.box t x) = boxO t H (cellsOf (rd env x)) := by
  simp only [evI, boxO]; split <;> rename_i h <;> rw [h]
@[go_sem] theorem boxO_some {t : Nat} {cs : List Value} : boxO t H (some cs) = some (.ret (.pointer (some ⟨H.length, 0, none⟩)) (push H (.cells cs (.fix (some t)) 0))) := rfl
@[go_sem] theorem cellsOf_agg {cs : List Value} : cellsOf (.agg ⟨cs⟩) = if cs.all one then some cs else none := rfl
@[go_sem] theorem cellsOf_bool {b : Bool} : cellsOf (.bool b) = some [.bool b] := rfl
@[go_sem] theorem cellsOf_int {k : IntKind} {n : Int} : cellsOf (.int k n) = some [.int k n] := rfl
@[go_sem] theorem cellsOf_str {l : List UInt8} : cellsOf (strOf l) = some [strOf l] := rfl
@[go_sem] theorem cellsOf_ptr {a : Option Addr} : cellsOf (.pointer a) = some [.pointer a] := rfl
@[go_sem] theorem cellsOf_slice {a : Option Addr} {l c : Nat} : cellsOf (.slice a l c) = some [.slice a l c] := rfl
@[go_sem] theorem cellsOf_map {a : Option Nat} : cellsOf (.map a) = some [.map a] := rfl
@[go_sem] theorem cellsOf_func {f : Fn} {a b : Array Value} : cellsOf (.func f a b) = some [.func f a b] := rfl
@[go_sem] theorem cellsOf_nilf : cellsOf .nilFunc = some [.nilFunc] := rfl
@[go_sem] theorem cellsOf_nili : cellsOf .nilIface = some [.nilIface] := rfl
@[go_sem] theorem cellsOf_iface {t : TypeId} {v : Value} : cellsOf (.iface t v) = some [.iface t v] := rfl
theorem cellsOf_one {v : Value} (h : one v = true) : cellsOf v = some [v] := by cases v <;> first | rfl | (simp [one] at h)
attribute [go_sem] List.all_cons List.all_nil Bool.and_true Bool.true_and Bool.and_self

def buildO (H : Heap) : Option (List Value) → Option Out
  | some l => some (.ret (.agg ⟨l⟩) H)
  | none => none
@[go_sem] theorem evI_build {z : List Value} {parts : List (Nat × Nat × Operand)} : evI env H (.build z parts) = buildO H (lay env z parts) := by
  simp only [evI]; cases lay env z parts <;> rfl
@[go_sem] theorem buildO_some {l : List Value} : buildO H (some l) = some (.ret (.agg ⟨l⟩) H) := rfl
def bsliceO (n : Nat) (H : Heap) : Option (List Value) → Option Out
  | some l => some (.ret (.slice (some ⟨H.length, 0, none⟩) n n) (push H (.cells l (.fix none) 0)))
  | none => none
@[go_sem] theorem evI_bslice {n : Nat} {z : List Value} {parts : List (Nat × Nat × Operand)} : evI env H (.bslice n z parts) = bsliceO n H (lay env z parts) := by
  simp only [evI]; cases lay env z parts <;> rfl
@[go_sem] theorem bsliceO_some {n : Nat} {l : List Value} : bsliceO n H (some l) = some (.ret (.slice (some ⟨H.length, 0, none⟩) n n) (push H (.cells l (.fix none) 0))) := rfl
def gslO (n : Nat) (H : Heap) : Option (List Value) → Option Out
  | some l => some (.ret (gslV n l) H)
  | none => none
@[go_sem] theorem evI_gsl {n : Nat} {z : List Value} {parts : List (Nat × Nat × Operand)} : evI env H (.gsl n z parts) = gslO n H (lay env z parts) := by
  simp only [evI]; cases lay env z parts <;> rfl
@[go_sem] theorem gslO_some {n : Nat} {l : List Value} : gslO n H (some l) = some (.ret (gslV n l) H) := rfl
@[go_sem] theorem lay_nil {z : List Value} : lay env z [] = some z := by simp only [lay]
def lay1 (env : Env) (z : List Value) (off size : Nat) (rest : List (Nat × Nat × Operand)) : Option (List Value) → Option (List Value)
  | some cs => if cs.length = size ∧ off + size ≤ z.length then lay env (splice z off cs) rest else none
  | none => none
@[go_sem] theorem lay_cons {z : List Value} {off size : Nat} {x : Operand} {rest : List (Nat × Nat × Operand)} : lay env z ((off, size, x) :: rest) = lay1 env z off size rest (cellsOf (rd env x)) := by
  simp only [lay, lay1]; split <;> rename_i h <;> rw [h]
@[go_sem] theorem lay1_some {z : List Value} {off size : Nat} {rest : List (Nat × Nat × Operand)} {cs : List Value} : lay1 env z off size rest (some cs) = if cs.length = size ∧ off + size ≤ z.length then lay env (splice z off cs) rest else none := rfl
@[go_sem] theorem splice_zero {c vs : List Value} : splice c 0 vs = vs ++ c.drop vs.length := by simp [splice]
@[go_sem] theorem splice_succ {a : Value} {c vs : List Value} {o : Nat} : splice (a :: c) (o + 1) vs = a :: splice c o vs := by
  simp [splice, Nat.add_right_comm]
theorem splice_set {c : List Value} {o : Nat} {v : Value} (h : o < c.length) : splice c o [v] = c.set o v := by
  simp only [splice, List.length_singleton]
  rw [List.set_eq_take_append_cons_drop, if_pos h]; simp
attribute [go_sem] List.take_succ_cons List.take_zero List.drop_succ_cons List.drop_zero List.take_nil List.drop_nil List.nil_append List.cons_append List.length_cons List.length_nil List.append_nil

def retO (H : Heap) : Option Value → Option Out
  | some v => some (.ret v H)
  | none => none
@[go_sem] theorem ret_def {v : Option Value} : ret H v = retO H v := by cases v <;> rfl
@[go_sem] theorem retO_some {v : Value} : retO H (some v) = some (.ret v H) := rfl
@[go_sem] theorem evI_ld {n : Option Nat} {a : Operand} : evI env H (.ld n a) = retO H (ldv H n (rd env a)) := ret_def
@[go_sem] theorem ldv_one {i o : Nat} {s : Option Nat} : ldv H none (.pointer (some ⟨i, o, s⟩)) = get1 H i o := rfl
def aggO : Option (List Value) → Option Value
  | some l => some (.agg ⟨l⟩)
  | none => none
@[go_sem] theorem aggO_some {l : List Value} : aggO (some l) = some (.agg ⟨l⟩) := rfl
@[go_sem] theorem ldv_many {i o n : Nat} {s : Option Nat} : ldv H (some n) (.pointer (some ⟨i, o, s⟩)) = aggO (getN H i o n) := by
  simp only [ldv]; cases getN H i o n <;> rfl
def stO1 (H : Heap) (n : Nat) (a : Value) (cs : Option (List Value)) : Option Out :=
  match a, cs with
  | .pointer (some ⟨i, o, _⟩), some cs => if cs.length = n then (putN H i o cs).map fun H' => .ret undef H' else none
  | _, _ => none
@[go_sem] theorem evI_st {n : Nat} {a x : Operand} : evI env H (.st n a x) = stO1 H n (rd env a) (cellsOf (rd env x)) := rfl
def putO : Option Heap → Option Out
  | some H => some (.ret undef H)
  | none => none
@[go_sem] theorem putO_some : putO (some H) = some (.ret undef H) := rfl
@[go_sem] theorem stO1_some {n i o : Nat} {s : Option Nat} {cs : List Value} : stO1 H n (.pointer (some ⟨i, o, s⟩)) (some cs) = if cs.length = n then putO (putN H i o cs) else none := by
  simp only [stO1]; congr 1; cases putN H i o cs <;> rfl
def nilckO (H : Heap) (v : Value) : Option Out := match v with | .pointer (some a) => some (.ret (.pointer (some a)) H) | .func (.func f) a b => some (.ret (.func (.func f) a b) H) | _ => none
@[go_sem] theorem evI_nilck {x : Operand} : evI env H (.nilck x) = nilckO H (rd env x) := rfl
@[go_sem] theorem nilckO_ptr {a : Addr} : nilckO H (.pointer (some a)) = some (.ret (.pointer (some a)) H) := rfl
@[go_sem] theorem nilckO_func {f : FuncId} {a b : Array Value} : nilckO H (.func (.func f) a b) = some (.ret (.func (.func f) a b) H) := rfl
@[go_sem] theorem evI_bin {op : BinOp} {x y : Operand} : evI env H (.bin op x y) = retO H (bin op (rd env x) (rd env y)) := ret_def
section
variable {k k' : IntKind} {a b : Int}
@[go_sem] theorem bin_add : bin .add (.int k a) (.int k b) = some (.int k (k.wrap (a + b))) := by simp [bin, binInt]
@[go_sem] theorem bin_sub : bin .sub (.int k a) (.int k b) = some (.int k (k.wrap (a - b))) := by simp [bin, binInt]
@[go_sem] theorem bin_mul : bin .mul (.int k a) (.int k b) = some (.int k (k.wrap (a * b))) := by simp [bin, binInt]
theorem bin_quo (h : b ≠ 0) : bin .quo (.int k a) (.int k b) = some (.int k (k.wrap (a.tdiv b))) := by simp [bin, binInt, h]
theorem bin_rem (h : b ≠ 0) : bin .rem (.int k a) (.int k b) = some (.int k (a.tmod b)) := by simp [bin, binInt, h]
theorem bin_quo_i64 (h : 0 < b) (h0 : 0 ≤ a) (h1 : a ≤ 9223372036854775807) : bin .quo (.int .i64 a) (.int .i64 b) = some (.int .i64 (a / b)) := by
  rw [bin_quo (by omega), IntWalk.i64_quo _ _ ⟨h0, h1, by omega⟩]
theorem bin_quo_u8 (h : 0 < b) (h0 : 0 ≤ a) (h1 : a ≤ 255) : bin .quo (.int .u8 a) (.int .u8 b) = some (.int .u8 (a / b)) := by
  rw [bin_quo (by omega), IntWalk.u8_quo _ _ ⟨h0, h1, by omega⟩]
theorem bin_quo_u64 (h : 0 < b) (h0 : 0 ≤ a) (h1 : a ≤ 18446744073709551615) : bin .quo (.int .u64 a) (.int .u64 b) = some (.int .u64 (a / b)) := by
  rw [bin_quo (by omega), IntWalk.u64_quo _ _ ⟨h0, h1, by omega⟩]
theorem bin_rem_pos (h : 0 < b) (h0 : 0 ≤ a) : bin .rem (.int k a) (.int k b) = some (.int k (a % b)) := by
  rw [bin_rem (by omega), Int.tmod_eq_emod_of_nonneg h0]
@[go_sem] theorem bin_eql : bin .eql (.int k a) (.int k b) = some (.bool (decide (a = b))) := by
  simp only [bin, binInt, if_true]; rfl
@[go_sem] theorem bin_neq : bin .neq (.int k a) (.int k b) = some (.bool (!decide (a = b))) := by
  simp only [bin, binInt, if_true]; rfl
@[go_sem] theorem bin_lss : bin .lss (.int k a) (.int k b) = some (.bool (decide (a < b))) := by simp [bin, binInt]
@[go_sem] theorem bin_leq : bin .leq (.int k a) (.int k b) = some (.bool (decide (a ≤ b))) := by simp [bin, binInt]
@[go_sem] theorem bin_gtr : bin .gtr (.int k a) (.int k b) = some (.bool (decide (b < a))) := by simp [bin, binInt]
@[go_sem] theorem bin_geq : bin .geq (.int k a) (.int k b) = some (.bool (decide (b ≤ a))) := by simp [bin, binInt]
theorem bin_shl (h : 0 ≤ b) : bin .shl (.int k a) (.int k' b) = some (.int k (k.wrap (a * 2 ^ min b.toNat k.bits))) := by
  have : ¬ b < 0 := by omega
  simp [bin, this]
theorem bin_shr (h : 0 ≤ b) : bin .shr (.int k a) (.int k' b) = some (.int k (a.fdiv (2 ^ min b.toNat k.bits))) := by
  have : ¬ b < 0 := by omega
  simp [bin, this]
@[go_sem] theorem bin_and : bin .and (.int k a) (.int k b) = some (.int k (k.wrap ((BitVec.ofInt k.bits a &&& BitVec.ofInt k.bits b).toNat))) := by simp [bin, binInt]
@[go_sem] theorem bin_or : bin .or (.int k a) (.int k b) = some (.int k (k.wrap ((BitVec.ofInt k.bits a ||| BitVec.ofInt k.bits b).toNat))) := by simp [bin, binInt]
@[go_sem] theorem bin_xor : bin .xor (.int k a) (.int k b) = some (.int k (k.wrap ((BitVec.ofInt k.bits a ^^^ BitVec.ofInt k.bits b).toNat))) := by simp [bin, binInt]
theorem wr_i64 (h0 : -9223372036854775808 ≤ a) (h1 : a ≤ 9223372036854775807) : IntKind.i64.wrap a = a := IntWalk.i64_in a ⟨h0, h1⟩
theorem wr_i32 (h0 : -2147483648 ≤ a) (h1 : a ≤ 2147483647) : IntKind.i32.wrap a = a := IntWalk.i32_in a ⟨h0, h1⟩
theorem wr_u8 (h0 : 0 ≤ a) (h1 : a ≤ 255) : IntKind.u8.wrap a = a := IntWalk.u8_in a ⟨h0, h1⟩
theorem wr_u64 (h0 : 0 ≤ a) (h1 : a ≤ 18446744073709551615) : IntKind.u64.wrap a = a := IntWalk.u64_in a ⟨h0, h1⟩
theorem wr_u32 (h0 : 0 ≤ a) (h1 : a ≤ 4294967295) : IntKind.u32.wrap a = a := IntWalk.u32_in a ⟨h0, h1⟩
end
section
variable {a b : List UInt8}
theorem beq_dec : (a == b) = decide (a = b) := by
  by_cases h : a = b
  · subst h; simp
  · rw [decide_eq_false h]; simpa using h
theorem bin_adds (h : a.length + b.length ≤ 4611686018427387904) : bin .add (strOf a) (strOf b) = some (strOf (a ++ b)) := by
  have : (⟨⟨a⟩⟩ : ByteArray).size + (⟨⟨b⟩⟩ : ByteArray).size ≤ 4611686018427387904 := h
  simp only [bin, binStr, strOf, this, if_true, bytesOf_mk]
@[go_sem] theorem bin_eqls : bin .eql (strOf a) (strOf b) = some (.bool (decide (a = b))) := by
  simp only [bin, binStr, strOf, bytesOf_mk, beq_dec]
@[go_sem] theorem bin_neqs : bin .neq (strOf a) (strOf b) = some (.bool (!decide (a = b))) := by
  simp only [bin, binStr, strOf, bytesOf_mk, beq_dec]
@[go_sem] theorem bin_lsss : bin .lss (strOf a) (strOf b) = some (.bool (less a b)) := rfl
@[go_sem] theorem bin_leqs : bin .leq (strOf a) (strOf b) = some (.bool (less a b || decide (a = b))) := by simp only [bin, binStr, strOf, bytesOf_mk, beq_dec]
@[go_sem] theorem bin_gtrs : bin .gtr (strOf a) (strOf b) = some (.bool (!(less a b || decide (a = b)))) := by simp only [bin, binStr, strOf, bytesOf_mk, beq_dec]
@[go_sem] theorem bin_geqs : bin .geq (strOf a) (strOf b) = some (.bool (!less a b)) := rfl
end
def eqnO (neg : Bool) (H : Heap) : Option Bool → Option Bool → Option Out
  | some a, some true => some (.ret (.bool (a != neg)) H)
  | some true, some b => some (.ret (.bool (b != neg)) H)
  | _, _ => none
@[go_sem] theorem evI_eqn {neg : Bool} {k : NK} {x y : Operand} : evI env H (.eqn neg k x y) = eqnO neg H (isNil k (rd env x)) (isNil k (rd env y)) := rfl
@[go_sem] theorem eqnO_r {neg a : Bool} : eqnO neg H (some a) (some true) = some (.ret (.bool (a != neg)) H) := by cases a <;> rfl
@[go_sem] theorem eqnO_l {neg b : Bool} : eqnO neg H (some true) (some b) = some (.ret (.bool (b != neg)) H) := by cases b <;> rfl
@[go_sem] theorem isNil_ptr_some {a : Addr} : isNil .ptr (.pointer (some a)) = some false := rfl
@[go_sem] theorem isNil_ptr_none : isNil .ptr (.pointer none) = some true := rfl
@[go_sem] theorem isNil_sl_some {a : Addr} {l c : Nat} : isNil .sl (.slice (some a) l c) = some false := rfl
@[go_sem] theorem isNil_sl_none {l c : Nat} : isNil .sl (.slice none l c) = some true := rfl
@[go_sem] theorem isNil_mp_some {a : Nat} : isNil .mp (.map (some a)) = some false := rfl
@[go_sem] theorem isNil_mp_none : isNil .mp (.map none) = some true := rfl
@[go_sem] theorem isNil_fn_some {f : FuncId} {a b : Array Value} : isNil .fn (.func (.func f) a b) = some false := rfl
@[go_sem] theorem isNil_fn_none : isNil .fn .nilFunc = some true := rfl
@[go_sem] theorem isNil_if_some {t : TypeId} {v : Value} : isNil .ifc (.iface t v) = some false := rfl
@[go_sem] theorem isNil_if_none : isNil .ifc .nilIface = some true := rfl
attribute [go_sem] Bool.bne_false Bool.bne_true Bool.true_bne Bool.false_bne bne_self_eq_false Bool.not_false Bool.not_true
def eqpO (neg : Bool) (H : Heap) (x y : Value) : Option Out :=
  match x, y with
  | .pointer (some ⟨i, o, none⟩), .pointer (some ⟨j, p, none⟩) => if i = j ∧ o = p then some (.ret (.bool (true != neg)) H) else none
  | .pointer a, .pointer none => some (.ret (.bool (a.isNone != neg)) H)
  | .pointer none, .pointer b => some (.ret (.bool (b.isNone != neg)) H)
  | _, _ => none
@[go_sem] theorem evI_eqp {neg : Bool} {x y : Operand} : evI env H (.eqp neg x y) = eqpO neg H (rd env x) (rd env y) := rfl
@[go_sem] theorem eqpO_same {neg : Bool} {i o : Nat} : eqpO neg H (.pointer (some ⟨i, o, none⟩)) (.pointer (some ⟨i, o, none⟩)) = some (.ret (.bool (true != neg)) H) := by simp [eqpO]
@[go_sem] theorem eqpO_nn {neg : Bool} : eqpO neg H (.pointer none) (.pointer none) = some (.ret (.bool (true != neg)) H) := rfl
@[go_sem] theorem eqpO_sn {neg : Bool} {a : Addr} : eqpO neg H (.pointer (some a)) (.pointer none) = some (.ret (.bool (false != neg)) H) := by
  obtain ⟨i, o, s⟩ := a; cases s <;> rfl
@[go_sem] theorem eqpO_ns {neg : Bool} {a : Addr} : eqpO neg H (.pointer none) (.pointer (some a)) = some (.ret (.bool (false != neg)) H) := rfl
def eqbO (neg : Bool) (H : Heap) (x y : Value) : Option Out := match x, y with | .bool a, .bool b => some (.ret (.bool ((a == b) != neg)) H) | _, _ => none
@[go_sem] theorem evI_eqb {neg : Bool} {x y : Operand} : evI env H (.eqb neg x y) = eqbO neg H (rd env x) (rd env y) := rfl
@[go_sem] theorem eqbO_bool {neg a b : Bool} : eqbO neg H (.bool a) (.bool b) = some (.ret (.bool ((a == b) != neg)) H) := rfl
def boolO (neg : Bool) (H : Heap) : Option Bool → Option Out
  | some t => some (.ret (.bool (t != neg)) H)
  | none => none
@[go_sem] theorem boolO_some {neg t : Bool} : boolO neg H (some t) = some (.ret (.bool (t != neg)) H) := rfl
def eqsO (neg : Bool) (ks : List SK) (H : Heap) (x y : Value) : Option Out :=
  match x, y with
  | .agg a, .agg b => if a.size = ks.length ∧ b.size = ks.length then (alike ks a.toList b.toList).map fun t => .ret (.bool (t != neg)) H else none
  | _, _ => none
@[go_sem] theorem evI_eqs {neg : Bool} {ks : List SK} {x y : Operand} : evI env H (.eqs neg ks x y) = eqsO neg ks H (rd env x) (rd env y) := rfl
@[go_sem] theorem eqsO_agg {neg : Bool} {ks : List SK} {a b : List Value} : eqsO neg ks H (.agg ⟨a⟩) (.agg ⟨b⟩) = if a.length = ks.length ∧ b.length = ks.length then boolO neg H (alike ks a b) else none := by
  show (if a.length = ks.length ∧ b.length = ks.length then (alike ks a b).map fun t => Out.ret (.bool (t != neg)) H else none) = _
  cases alike ks a b <;> rfl
@[go_sem] theorem alike_nil : alike [] [] [] = some true := by simp only [alike]
def andO (t : Bool) : Option Bool → Option Bool
  | some b => some (t && b)
  | none => none
def alikeB (t : Bool) (r : Option Bool) : Option Bool := if t then r else some false
@[go_sem] theorem alikeB_some {t b : Bool} : alikeB t (some b) = some (t && b) := by cases t <;> rfl
@[go_sem] theorem alike_b {ks : List SK} {a b : Bool} {x y : List Value} : alike (.b :: ks) (.bool a :: x) (.bool b :: y) = alikeB (a == b) (alike ks x y) := by simp only [alike, alikeB]
@[go_sem] theorem alike_i {ks : List SK} {k : IntKind} {a b : Int} {x y : List Value} : alike (.i :: ks) (.int k a :: x) (.int k b :: y) = alikeB (decide (a = b)) (alike ks x y) := by
  simp only [alike, alikeB, if_true, decide_eq_true_eq, beq_iff_eq]
@[go_sem] theorem alike_s {ks : List SK} {a b : List UInt8} {x y : List Value} : alike (.s :: ks) (strOf a :: x) (strOf b :: y) = alikeB (decide (a = b)) (alike ks x y) := by
  simp only [strOf, alike, alikeB, bytesOf_mk, decide_eq_true_eq, beq_iff_eq]
def unO (op : UnOp) (H : Heap) (x : Value) : Option Out :=
  match op, x with
  | .neg, .int k n => some (.ret (.int k (k.wrap (0 - n))) H)
  | .xor, .int k n => ret H (binInt .xor k (if k.signed then -1 else k.max) n)
  | .not, .bool b => some (.ret (.bool (!b)) H)
  | _, _ => none
@[go_sem] theorem evI_un {op : UnOp} {x : Operand} : evI env H (.un op x) = unO op H (rd env x) := rfl
@[go_sem] theorem unO_neg {k : IntKind} {n : Int} : unO .neg H (.int k n) = some (.ret (.int k (k.wrap (0 - n))) H) := rfl
@[go_sem] theorem unO_not {b : Bool} : unO .not H (.bool b) = some (.ret (.bool (!b)) H) := rfl
def tointO (k : IntKind) (H : Heap) (x : Value) : Option Out := match x with | .int _ n => some (.ret (.int k (k.wrap n)) H) | _ => none
@[go_sem] theorem evI_toint {k : IntKind} {x : Operand} : evI env H (.toint k x) = tointO k H (rd env x) := rfl
@[go_sem] theorem tointO_int {k k' : IntKind} {n : Int} : tointO k H (.int k' n) = some (.ret (.int k (k.wrap n)) H) := rfl
def tostrO (H : Heap) (x : Value) : Option Out := match x with | .string s => some (.ret (.string s) H) | _ => none
@[go_sem] theorem evI_tostr {x : Operand} : evI env H (.tostr x) = tostrO H (rd env x) := rfl
@[go_sem] theorem tostrO_str {l : List UInt8} : tostrO H (strOf l) = some (.ret (strOf l) H) := rfl
def s2bO (H : Heap) (x : Value) : Option Out :=
  match x with
  | .string s => if s.size ≤ 140737488355328 then some (.ret (.slice (some ⟨H.length, 0, some 1⟩) s.size s.size) (push H (.cells (byteCells (bytesOf s)) (.loose none) 0))) else none
  | _ => none
@[go_sem] theorem evI_s2b {x : Operand} : evI env H (.s2b x) = s2bO H (rd env x) := rfl
theorem s2bO_str {l : List UInt8} (h : l.length ≤ 140737488355328) : s2bO H (strOf l) = some (.ret (.slice (some ⟨H.length, 0, some 1⟩) l.length l.length) (push H (.cells (byteCells l) (.loose none) 0))) := if_pos h
def b2sO (H : Heap) (x : Value) : Option Out :=
  match x with
  | .slice none _ _ => some (.ret (strOf []) H)
  | .slice (some ⟨i, o, _⟩) len _ => if len = 0 then some (.ret (strOf []) H) else match getN H i o len with | some l => (toBytes l).map fun b => .ret (strOf b) H | none => none
  | _ => none
@[go_sem] theorem evI_b2s {x : Operand} : evI env H (.b2s x) = b2sO H (rd env x) := rfl
@[go_sem] theorem b2sO_nil {l c : Nat} : b2sO H (.slice none l c) = some (.ret (strOf []) H) := rfl
@[go_sem] theorem evI_mkif {t : TypeId} {x : Operand} : evI env H (.mkif t x) = some (.ret (.iface t (rd env x)) H) := rfl
@[go_sem] theorem evI_mkfn {f : FuncId} {first captured : List Operand} : evI env H (.mkfn (.func f) first captured) = some (.ret (.func (.func f) ⟨first.map (rd env)⟩ ⟨captured.map (rd env)⟩) H) := rfl
def mkslO (z : List Value) (bytes : Nat) (H : Heap) (x y : Value) : Option Out :=
  match x, y with
  | .int _ l, .int _ c =>
      if 0 ≤ l ∧ l ≤ c ∧ c ≤ 140737488355328 ∧ c.toNat * bytes ≤ 140737488355328 then
        some (.ret (.slice (some ⟨H.length, 0, none⟩) l.toNat c.toNat) (push H (.cells (List.replicate c.toNat z).flatten (.fix none) 0)))
      else none
  | _, _ => none
@[go_sem] theorem evI_mksl {z : List Value} {bytes : Nat} {len cap : Operand} : evI env H (.mksl z bytes len cap) = mkslO z bytes H (rd env len) (rd env cap) := rfl
theorem mkslO_int {z : List Value} {bytes : Nat} {k k' : IntKind} {l c : Int} (h0 : 0 ≤ l) (h1 : l ≤ c) (h2 : c ≤ 140737488355328) (h3 : c.toNat * bytes ≤ 140737488355328) :
    mkslO z bytes H (.int k l) (.int k' c) = some (.ret (.slice (some ⟨H.length, 0, none⟩) l.toNat c.toNat) (push H (.cells (List.replicate c.toNat z).flatten (.fix none) 0))) := if_pos ⟨h0, h1, h2, h3⟩
def slstrO (H : Heap) (env : Env) (x : Value) (lo hi : Option Operand) : Option Out := match x with | .string s => ret H (strCut s env lo hi) | _ => none
@[go_sem] theorem evI_slstr {x : Operand} {lo hi : Option Operand} : evI env H (.slstr x lo hi) = slstrO H env (rd env x) lo hi := rfl
/-- A part of a text. -/
def cutS (l : List UInt8) (lo hi : Value) : Option Value :=
  match asNat l.length hi with
  | none => none
  | some h => match asNat h lo with | none => none | some o => some (strOf ((l.take h).drop o))
@[go_sem] theorem slstrO_nn {l : List UInt8} : slstrO H env (strOf l) none none = some (.ret (strOf l) H) := by
  have : strCut ⟨⟨l⟩⟩ env none none = some (strOf l) := by
    simp only [strCut, bound, bytesOf_mk, List.drop_zero, size_mk, List.take_length]
  simp only [slstrO, strOf, ret, this, Option.map_some]
@[go_sem] theorem slstrO_ln {l : List UInt8} {lo : Operand} : slstrO H env (strOf l) (some lo) none = retO H (cutS l (rd env lo) (.int .i64 l.length)) := by
  have h1 : asNat l.length (.int .i64 l.length) = some l.length := by simp [asNat]
  simp only [slstrO, strOf, ret_def, strCut, bound, bytesOf_mk, cutS, size_mk, h1]
  rfl
@[go_sem] theorem slstrO_nh {l : List UInt8} {hi : Operand} : slstrO H env (strOf l) none (some hi) = retO H (cutS l (.int .i64 0) (rd env hi)) := by
  have h1 : ∀ h, asNat h (.int .i64 0) = some 0 := by intro h; simp [asNat]
  simp only [slstrO, strOf, ret_def, strCut, bound, bytesOf_mk, cutS, size_mk, h1]
  rfl
@[go_sem] theorem slstrO_lh {l : List UInt8} {lo hi : Operand} : slstrO H env (strOf l) (some lo) (some hi) = retO H (cutS l (rd env lo) (rd env hi)) := by
  simp only [slstrO, strOf, ret_def, strCut, bound, bytesOf_mk, cutS, size_mk]
  rfl
theorem cutS_int {l : List UInt8} {k k' : IntKind} {a b : Int} (h0 : 0 ≤ a) (h1 : a ≤ b) (h2 : b ≤ l.length) : cutS l (.int k a) (.int k' b) = some (strOf ((l.take b.toNat).drop a.toNat)) := by
  have e1 : asNat l.length (.int k' b) = some b.toNat := by simp only [asNat]; rw [if_pos ⟨by omega, h2⟩]
  have e2 : asNat b.toNat (.int k a) = some a.toNat := by simp only [asNat]; rw [if_pos ⟨h0, by omega⟩]
  simp only [cutS, e1, e2]
def faddrO (off : Nat) (H : Heap) (x : Value) : Option Out := match x with | .pointer (some ⟨i, o, _⟩) => some (.ret (.pointer (some ⟨i, o + off, none⟩)) H) | _ => none
@[go_sem] theorem evI_faddr {off : Nat} {x : Operand} : evI env H (.faddr off x) = faddrO off H (rd env x) := rfl
@[go_sem] theorem faddrO_ptr {off i o : Nat} {s : Option Nat} : faddrO off H (.pointer (some ⟨i, o, s⟩)) = some (.ret (.pointer (some ⟨i, o + off, none⟩)) H) := rfl
def fieldO (off : Nat) (n : Option Nat) (H : Heap) (x : Value) : Option Out := match x with | .agg cs => retO H (partV cs.toList off n) | _ => none
@[go_sem] theorem evI_field {off : Nat} {n : Option Nat} {x : Operand} : evI env H (.field off n x) = fieldO off n H (rd env x) := by
  simp only [evI, fieldO, ret_def]; rfl
@[go_sem] theorem fieldO_agg {off : Nat} {n : Option Nat} {cs : List Value} : fieldO off n H (.agg ⟨cs⟩) = retO H (partV cs off n) := rfl
@[go_sem] theorem partV_one {cs : List Value} {off : Nat} : partV cs off none = cs[off]? := rfl
@[go_sem] theorem partV_many {cs : List Value} {off n : Nat} : partV cs off (some n) = if off + n ≤ cs.length then some (.agg ⟨(cs.drop off).take n⟩) else none := rfl
attribute [go_sem] List.getElem?_cons_zero List.getElem?_cons_succ
def iaddrO (size : Nat) (H : Heap) (x i : Value) : Option Out :=
  match x, i with
  | .slice (some ⟨b, o, _⟩) len _, .int _ n => if 0 ≤ n ∧ n < (len : Int) then some (.ret (.pointer (some ⟨b, o + n.toNat * size, none⟩)) H) else none
  | _, _ => none
@[go_sem] theorem evI_iaddr {size : Nat} {x i : Operand} : evI env H (.iaddr size x i) = iaddrO size H (rd env x) (rd env i) := rfl
theorem iaddrO_in {size b o len c : Nat} {s : Option Nat} {k : IntKind} {n : Int} (h0 : 0 ≤ n) (h1 : n < (len : Int)) : iaddrO size H (.slice (some ⟨b, o, s⟩) len c) (.int k n) = some (.ret (.pointer (some ⟨b, o + n.toNat * size, none⟩)) H) := if_pos ⟨h0, h1⟩
def iarrO (len size : Nat) (H : Heap) (x i : Value) : Option Out :=
  match x, i with
  | .pointer (some ⟨b, o, _⟩), .int _ n => if 0 ≤ n ∧ n < (len : Int) then some (.ret (.pointer (some ⟨b, o + n.toNat * size, none⟩)) H) else none
  | _, _ => none
@[go_sem] theorem evI_iarr {len size : Nat} {x i : Operand} : evI env H (.iarr len size x i) = iarrO len size H (rd env x) (rd env i) := rfl
theorem iarrO_in {len size b o : Nat} {s : Option Nat} {k : IntKind} {n : Int} (h0 : 0 ≤ n) (h1 : n < (len : Int)) : iarrO len size H (.pointer (some ⟨b, o, s⟩)) (.int k n) = some (.ret (.pointer (some ⟨b, o + n.toNat * size, none⟩)) H) := if_pos ⟨h0, h1⟩
def ixstrO (H : Heap) (x i : Value) : Option Out :=
  match x, i with
  | .string s, .int _ n => if 0 ≤ n then ret H ((bytesOf s)[n.toNat]?.map fun b => .int .u8 b.toNat) else none
  | _, _ => none
@[go_sem] theorem evI_ixstr {x i : Operand} : evI env H (.ixstr x i) = ixstrO H (rd env x) (rd env i) := rfl
/-- A byte of a text, as a number. -/
def at8 (l : List UInt8) (n : Int) : Int := ((l.getD n.toNat 0).toNat : Int)
theorem ixstrO_in {l : List UInt8} {k : IntKind} {n : Int} (h0 : 0 ≤ n) (h1 : n < (l.length : Int)) : ixstrO H (strOf l) (.int k n) = some (.ret (.int .u8 (at8 l n)) H) := by
  have : n.toNat < l.length := by omega
  simp [ixstrO, strOf, h0, bytesOf_mk, List.getElem?_eq_getElem this, ret, at8, List.getD_eq_getElem?_getD]
@[go_sem] theorem at8_zero {c : UInt8} {l : List UInt8} : at8 (c :: l) 0 = (c.toNat : Int) := rfl
theorem at8_nonneg {l : List UInt8} {n : Int} : 0 ≤ at8 l n := by unfold at8; omega
theorem at8_le {l : List UInt8} {n : Int} : at8 l n ≤ 255 := by unfold at8; have := (l.getD n.toNat 0).toNat_lt; omega
def ixaggO (len size : Nat) (n : Option Nat) (H : Heap) (x i : Value) : Option Out :=
  match x, i with
  | .agg cs, .int _ k => if 0 ≤ k ∧ k < (len : Int) then ret H (partV cs.toList (k.toNat * size) n) else none
  | _, _ => none
@[go_sem] theorem evI_ixagg {len size : Nat} {n : Option Nat} {x i : Operand} : evI env H (.ixagg len size n x i) = ixaggO len size n H (rd env x) (rd env i) := rfl
def extO (k : Nat) (H : Heap) (x : Value) : Option Out := match x with | .tuple vs => retO H (vs.toList[k]?) | _ => none
@[go_sem] theorem evI_ext {k : Nat} {x : Operand} : evI env H (.ext k x) = extO k H (rd env x) := by
  simp only [evI, extO, ret_def]; rfl
@[go_sem] theorem extO_tup {k : Nat} {vs : List Value} : extO k H (.tuple ⟨vs⟩) = retO H (vs[k]?) := rfl
def lenO (str : Bool) (H : Heap) (x : Value) : Option Out :=
  match str, x with
  | true, .string s => some (.ret (.int .i64 s.size) H)
  | false, .slice _ n _ => some (.ret (.int .i64 n) H)
  | _, _ => none
@[go_sem] theorem evI_len {str : Bool} {x : Operand} : evI env H (.len str x) = lenO str H (rd env x) := rfl
@[go_sem] theorem lenO_str {l : List UInt8} : lenO true H (strOf l) = some (.ret (.int .i64 l.length) H) := rfl
@[go_sem] theorem lenO_sl {a : Option Addr} {n c : Nat} : lenO false H (.slice a n c) = some (.ret (.int .i64 n) H) := rfl
def capO (H : Heap) (x : Value) : Option Out := match x with | .slice none _ c => some (.ret (.int .i64 c) H) | .slice (some ⟨_, _, none⟩) _ c => some (.ret (.int .i64 c) H) | _ => none
@[go_sem] theorem evI_capx {x : Operand} : evI env H (.capx x) = capO H (rd env x) := rfl
@[go_sem] theorem capO_nil {l c : Nat} : capO H (.slice none l c) = some (.ret (.int .i64 c) H) := rfl
@[go_sem] theorem capO_sl {i o l c : Nat} : capO H (.slice (some ⟨i, o, none⟩) l c) = some (.ret (.int .i64 c) H) := rfl
def minmaxO (mx : Bool) (H : Heap) (xs : List Value) : Option Out := match xs with | .int k a :: r => (minInt mx a r).map fun n => .ret (.int k n) H | _ => none
@[go_sem] theorem evI_minmax {mx : Bool} {xs : List Operand} : evI env H (.minmax mx xs) = minmaxO mx H (xs.map (rd env)) := rfl
attribute [go_sem] List.map_cons List.map_nil
@[go_sem] theorem minmaxO_max {k k' : IntKind} {a b : Int} : minmaxO true H [.int k a, .int k' b] = some (.ret (.int k (max a b)) H) := by
  simp only [minmaxO, minInt, Option.map_some, if_true, Option.some.injEq, Out.ret.injEq, Value.int.injEq, true_and, and_true, gt_iff_lt]; split <;> omega
@[go_sem] theorem minmaxO_min {k k' : IntKind} {a b : Int} : minmaxO false H [.int k a, .int k' b] = some (.ret (.int k (min a b)) H) := by
  simp only [minmaxO, minInt, Option.map_some, Bool.false_eq_true, if_false, Option.some.injEq, Out.ret.injEq, Value.int.injEq, true_and, and_true]; split <;> omega
def panO (H : Heap) (x : Value) : Option Out := match x with | .iface t v => some (.pan (.iface t v) H) | _ => none
@[go_sem] theorem evI_pan {x : Operand} : evI env H (.pan x) = panO H (rd env x) := rfl
@[go_sem] theorem panO_if {t : TypeId} {v : Value} : panO H (.iface t v) = some (.pan (.iface t v) H) := rfl
def tassO (t : TypeId) (z : Value) (ok : Bool) (H : Heap) (x : Value) : Option Out :=
  match x with
  | .nilIface => if ok then some (.ret (.tuple ⟨[z, .bool false]⟩) H) else none
  | .iface t' v => if t' = t then some (.ret (if ok then .tuple ⟨[v, .bool true]⟩ else v) H) else if ok then some (.ret (.tuple ⟨[z, .bool false]⟩) H) else none
  | _ => none
@[go_sem] theorem evI_tass {t : TypeId} {z : Value} {ok : Bool} {x : Operand} : evI env H (.tass t z ok x) = tassO t z ok H (rd env x) := rfl
@[go_sem] theorem tassO_nil {t : TypeId} {z : Value} : tassO t z true H .nilIface = some (.ret (.tuple ⟨[z, .bool false]⟩) H) := rfl
@[go_sem] theorem tassO_same {t : TypeId} {z v : Value} : tassO t z true H (.iface t v) = some (.ret (.tuple ⟨[v, .bool true]⟩) H) := by simp [tassO]
def mkmapO (H : Heap) (x : Value) : Option Out := match x with | .int _ _ => some (.ret (.map (some H.length)) (push H (.mp []))) | _ => none
@[go_sem] theorem evI_mkmap : evI env H (.mkmap none) = some (.ret (.map (some H.length)) (push H (.mp []))) := rfl
@[go_sem] theorem evI_mkmap1 {x : Operand} : evI env H (.mkmap (some x)) = mkmapO H (rd env x) := rfl
@[go_sem] theorem mkmapO_int {k : IntKind} {n : Int} : mkmapO H (.int k n) = some (.ret (.map (some H.length)) (push H (.mp []))) := rfl

@[go_sem] theorem EvOK_pick {T : Tab} {d : Option Nat} {os : List IOper} {K : List Fr} {Q : Po} {a0} {a1} {a2} : EvOK T (⟨d, .pick a0 a1 a2, none⟩ :: os) K env H Q = stO T (evI env H (.pick a0 a1 a2)) d os K env Q := EvOK_op rfl
@[go_sem] theorem EvOK_new {T : Tab} {d : Option Nat} {os : List IOper} {K : List Fr} {Q : Po} {a0} {a1} : EvOK T (⟨d, .new a0 a1, none⟩ :: os) K env H Q = stO T (evI env H (.new a0 a1)) d os K env Q := EvOK_op rfl
@[go_sem] theorem EvOK_box {T : Tab} {d : Option Nat} {os : List IOper} {K : List Fr} {Q : Po} {a0} {a1} : EvOK T (⟨d, .box a0 a1, none⟩ :: os) K env H Q = stO T (evI env H (.box a0 a1)) d os K env Q := EvOK_op rfl
@[go_sem] theorem EvOK_build {T : Tab} {d : Option Nat} {os : List IOper} {K : List Fr} {Q : Po} {a0} {a1} : EvOK T (⟨d, .build a0 a1, none⟩ :: os) K env H Q = stO T (evI env H (.build a0 a1)) d os K env Q := EvOK_op rfl
@[go_sem] theorem EvOK_bslice {T : Tab} {d : Option Nat} {os : List IOper} {K : List Fr} {Q : Po} {a0} {a1} {a2} : EvOK T (⟨d, .bslice a0 a1 a2, none⟩ :: os) K env H Q = stO T (evI env H (.bslice a0 a1 a2)) d os K env Q := EvOK_op rfl
@[go_sem] theorem EvOK_gsl {T : Tab} {d : Option Nat} {os : List IOper} {K : List Fr} {Q : Po} {a0} {a1} {a2} : EvOK T (⟨d, .gsl a0 a1 a2, none⟩ :: os) K env H Q = stO T (evI env H (.gsl a0 a1 a2)) d os K env Q := EvOK_op rfl
@[go_sem] theorem EvOK_ld {T : Tab} {d : Option Nat} {os : List IOper} {K : List Fr} {Q : Po} {a0} {a1} : EvOK T (⟨d, .ld a0 a1, none⟩ :: os) K env H Q = stO T (evI env H (.ld a0 a1)) d os K env Q := EvOK_op rfl
@[go_sem] theorem EvOK_st {T : Tab} {d : Option Nat} {os : List IOper} {K : List Fr} {Q : Po} {a0} {a1} {a2} : EvOK T (⟨d, .st a0 a1 a2, none⟩ :: os) K env H Q = stO T (evI env H (.st a0 a1 a2)) d os K env Q := EvOK_op rfl
@[go_sem] theorem EvOK_nilck {T : Tab} {d : Option Nat} {os : List IOper} {K : List Fr} {Q : Po} {a0} : EvOK T (⟨d, .nilck a0, none⟩ :: os) K env H Q = stO T (evI env H (.nilck a0)) d os K env Q := EvOK_op rfl
@[go_sem] theorem EvOK_bin {T : Tab} {d : Option Nat} {os : List IOper} {K : List Fr} {Q : Po} {a0} {a1} {a2} : EvOK T (⟨d, .bin a0 a1 a2, none⟩ :: os) K env H Q = stO T (evI env H (.bin a0 a1 a2)) d os K env Q := EvOK_op rfl
@[go_sem] theorem EvOK_eqn {T : Tab} {d : Option Nat} {os : List IOper} {K : List Fr} {Q : Po} {a0} {a1} {a2} {a3} : EvOK T (⟨d, .eqn a0 a1 a2 a3, none⟩ :: os) K env H Q = stO T (evI env H (.eqn a0 a1 a2 a3)) d os K env Q := EvOK_op rfl
@[go_sem] theorem EvOK_eqp {T : Tab} {d : Option Nat} {os : List IOper} {K : List Fr} {Q : Po} {a0} {a1} {a2} : EvOK T (⟨d, .eqp a0 a1 a2, none⟩ :: os) K env H Q = stO T (evI env H (.eqp a0 a1 a2)) d os K env Q := EvOK_op rfl
@[go_sem] theorem EvOK_eqb {T : Tab} {d : Option Nat} {os : List IOper} {K : List Fr} {Q : Po} {a0} {a1} {a2} : EvOK T (⟨d, .eqb a0 a1 a2, none⟩ :: os) K env H Q = stO T (evI env H (.eqb a0 a1 a2)) d os K env Q := EvOK_op rfl
@[go_sem] theorem EvOK_eqs {T : Tab} {d : Option Nat} {os : List IOper} {K : List Fr} {Q : Po} {a0} {a1} {a2} {a3} : EvOK T (⟨d, .eqs a0 a1 a2 a3, none⟩ :: os) K env H Q = stO T (evI env H (.eqs a0 a1 a2 a3)) d os K env Q := EvOK_op rfl
@[go_sem] theorem EvOK_un {T : Tab} {d : Option Nat} {os : List IOper} {K : List Fr} {Q : Po} {a0} {a1} : EvOK T (⟨d, .un a0 a1, none⟩ :: os) K env H Q = stO T (evI env H (.un a0 a1)) d os K env Q := EvOK_op rfl
@[go_sem] theorem EvOK_toint {T : Tab} {d : Option Nat} {os : List IOper} {K : List Fr} {Q : Po} {a0} {a1} : EvOK T (⟨d, .toint a0 a1, none⟩ :: os) K env H Q = stO T (evI env H (.toint a0 a1)) d os K env Q := EvOK_op rfl
@[go_sem] theorem EvOK_tostr {T : Tab} {d : Option Nat} {os : List IOper} {K : List Fr} {Q : Po} {a0} : EvOK T (⟨d, .tostr a0, none⟩ :: os) K env H Q = stO T (evI env H (.tostr a0)) d os K env Q := EvOK_op rfl
@[go_sem] theorem EvOK_s2b {T : Tab} {d : Option Nat} {os : List IOper} {K : List Fr} {Q : Po} {a0} : EvOK T (⟨d, .s2b a0, none⟩ :: os) K env H Q = stO T (evI env H (.s2b a0)) d os K env Q := EvOK_op rfl
@[go_sem] theorem EvOK_b2s {T : Tab} {d : Option Nat} {os : List IOper} {K : List Fr} {Q : Po} {a0} : EvOK T (⟨d, .b2s a0, none⟩ :: os) K env H Q = stO T (evI env H (.b2s a0)) d os K env Q := EvOK_op rfl
@[go_sem] theorem EvOK_mkif {T : Tab} {d : Option Nat} {os : List IOper} {K : List Fr} {Q : Po} {a0} {a1} : EvOK T (⟨d, .mkif a0 a1, none⟩ :: os) K env H Q = stO T (evI env H (.mkif a0 a1)) d os K env Q := EvOK_op rfl
@[go_sem] theorem EvOK_mkfn {T : Tab} {d : Option Nat} {os : List IOper} {K : List Fr} {Q : Po} {a0} {a1} {a2} : EvOK T (⟨d, .mkfn a0 a1 a2, none⟩ :: os) K env H Q = stO T (evI env H (.mkfn a0 a1 a2)) d os K env Q := EvOK_op rfl
@[go_sem] theorem EvOK_mksl {T : Tab} {d : Option Nat} {os : List IOper} {K : List Fr} {Q : Po} {a0} {a1} {a2} {a3} : EvOK T (⟨d, .mksl a0 a1 a2 a3, none⟩ :: os) K env H Q = stO T (evI env H (.mksl a0 a1 a2 a3)) d os K env Q := EvOK_op rfl
@[go_sem] theorem EvOK_slstr {T : Tab} {d : Option Nat} {os : List IOper} {K : List Fr} {Q : Po} {a0} {a1} {a2} : EvOK T (⟨d, .slstr a0 a1 a2, none⟩ :: os) K env H Q = stO T (evI env H (.slstr a0 a1 a2)) d os K env Q := EvOK_op rfl
@[go_sem] theorem EvOK_slsl {T : Tab} {d : Option Nat} {os : List IOper} {K : List Fr} {Q : Po} {a0} {a1} {a2} {a3} {a4} : EvOK T (⟨d, .slsl a0 a1 a2 a3 a4, none⟩ :: os) K env H Q = stO T (evI env H (.slsl a0 a1 a2 a3 a4)) d os K env Q := EvOK_op rfl
@[go_sem] theorem EvOK_slarr {T : Tab} {d : Option Nat} {os : List IOper} {K : List Fr} {Q : Po} {a0} {a1} {a2} {a3} {a4} : EvOK T (⟨d, .slarr a0 a1 a2 a3 a4, none⟩ :: os) K env H Q = stO T (evI env H (.slarr a0 a1 a2 a3 a4)) d os K env Q := EvOK_op rfl
@[go_sem] theorem EvOK_faddr {T : Tab} {d : Option Nat} {os : List IOper} {K : List Fr} {Q : Po} {a0} {a1} : EvOK T (⟨d, .faddr a0 a1, none⟩ :: os) K env H Q = stO T (evI env H (.faddr a0 a1)) d os K env Q := EvOK_op rfl
@[go_sem] theorem EvOK_field {T : Tab} {d : Option Nat} {os : List IOper} {K : List Fr} {Q : Po} {a0} {a1} {a2} : EvOK T (⟨d, .field a0 a1 a2, none⟩ :: os) K env H Q = stO T (evI env H (.field a0 a1 a2)) d os K env Q := EvOK_op rfl
@[go_sem] theorem EvOK_iaddr {T : Tab} {d : Option Nat} {os : List IOper} {K : List Fr} {Q : Po} {a0} {a1} {a2} : EvOK T (⟨d, .iaddr a0 a1 a2, none⟩ :: os) K env H Q = stO T (evI env H (.iaddr a0 a1 a2)) d os K env Q := EvOK_op rfl
@[go_sem] theorem EvOK_iarr {T : Tab} {d : Option Nat} {os : List IOper} {K : List Fr} {Q : Po} {a0} {a1} {a2} {a3} : EvOK T (⟨d, .iarr a0 a1 a2 a3, none⟩ :: os) K env H Q = stO T (evI env H (.iarr a0 a1 a2 a3)) d os K env Q := EvOK_op rfl
@[go_sem] theorem EvOK_ixstr {T : Tab} {d : Option Nat} {os : List IOper} {K : List Fr} {Q : Po} {a0} {a1} : EvOK T (⟨d, .ixstr a0 a1, none⟩ :: os) K env H Q = stO T (evI env H (.ixstr a0 a1)) d os K env Q := EvOK_op rfl
@[go_sem] theorem EvOK_ixagg {T : Tab} {d : Option Nat} {os : List IOper} {K : List Fr} {Q : Po} {a0} {a1} {a2} {a3} {a4} : EvOK T (⟨d, .ixagg a0 a1 a2 a3 a4, none⟩ :: os) K env H Q = stO T (evI env H (.ixagg a0 a1 a2 a3 a4)) d os K env Q := EvOK_op rfl
@[go_sem] theorem EvOK_ext {T : Tab} {d : Option Nat} {os : List IOper} {K : List Fr} {Q : Po} {a0} {a1} : EvOK T (⟨d, .ext a0 a1, none⟩ :: os) K env H Q = stO T (evI env H (.ext a0 a1)) d os K env Q := EvOK_op rfl
@[go_sem] theorem EvOK_len {T : Tab} {d : Option Nat} {os : List IOper} {K : List Fr} {Q : Po} {a0} {a1} : EvOK T (⟨d, .len a0 a1, none⟩ :: os) K env H Q = stO T (evI env H (.len a0 a1)) d os K env Q := EvOK_op rfl
@[go_sem] theorem EvOK_capx {T : Tab} {d : Option Nat} {os : List IOper} {K : List Fr} {Q : Po} {a0} : EvOK T (⟨d, .capx a0, none⟩ :: os) K env H Q = stO T (evI env H (.capx a0)) d os K env Q := EvOK_op rfl
@[go_sem] theorem EvOK_minmax {T : Tab} {d : Option Nat} {os : List IOper} {K : List Fr} {Q : Po} {a0} {a1} : EvOK T (⟨d, .minmax a0 a1, none⟩ :: os) K env H Q = stO T (evI env H (.minmax a0 a1)) d os K env Q := EvOK_op rfl
@[go_sem] theorem EvOK_append {T : Tab} {d : Option Nat} {os : List IOper} {K : List Fr} {Q : Po} {a0} {a1} {a2} {a3} {a4} : EvOK T (⟨d, .append a0 a1 a2 a3 a4, none⟩ :: os) K env H Q = stO T (evI env H (.append a0 a1 a2 a3 a4)) d os K env Q := EvOK_op rfl
@[go_sem] theorem EvOK_copy {T : Tab} {d : Option Nat} {os : List IOper} {K : List Fr} {Q : Po} {a0} {a1} {a2} : EvOK T (⟨d, .copy a0 a1 a2, none⟩ :: os) K env H Q = stO T (evI env H (.copy a0 a1 a2)) d os K env Q := EvOK_op rfl
@[go_sem] theorem EvOK_uslice {T : Tab} {d : Option Nat} {os : List IOper} {K : List Fr} {Q : Po} {a0} : EvOK T (⟨d, .uslice a0, none⟩ :: os) K env H Q = stO T (evI env H (.uslice a0)) d os K env Q := EvOK_op rfl
@[go_sem] theorem EvOK_ustr {T : Tab} {d : Option Nat} {os : List IOper} {K : List Fr} {Q : Po} {a0} {a1} {a2} : EvOK T (⟨d, .ustr a0 a1 a2, none⟩ :: os) K env H Q = stO T (evI env H (.ustr a0 a1 a2)) d os K env Q := EvOK_op rfl
@[go_sem] theorem EvOK_uof {T : Tab} {d : Option Nat} {os : List IOper} {K : List Fr} {Q : Po} {a0} : EvOK T (⟨d, .uof a0, none⟩ :: os) K env H Q = stO T (evI env H (.uof a0)) d os K env Q := EvOK_op rfl
@[go_sem] theorem EvOK_upt {T : Tab} {d : Option Nat} {os : List IOper} {K : List Fr} {Q : Po} {a0} {a1} : EvOK T (⟨d, .upt a0 a1, none⟩ :: os) K env H Q = stO T (evI env H (.upt a0 a1)) d os K env Q := EvOK_op rfl
@[go_sem] theorem EvOK_mkmap {T : Tab} {d : Option Nat} {os : List IOper} {K : List Fr} {Q : Po} {a0} : EvOK T (⟨d, .mkmap a0, none⟩ :: os) K env H Q = stO T (evI env H (.mkmap a0)) d os K env Q := EvOK_op rfl
@[go_sem] theorem EvOK_mlook {T : Tab} {d : Option Nat} {os : List IOper} {K : List Fr} {Q : Po} {a0} {a1} {a2} {a3} : EvOK T (⟨d, .mlook a0 a1 a2 a3, none⟩ :: os) K env H Q = stO T (evI env H (.mlook a0 a1 a2 a3)) d os K env Q := EvOK_op rfl
@[go_sem] theorem EvOK_mput {T : Tab} {d : Option Nat} {os : List IOper} {K : List Fr} {Q : Po} {a0} {a1} {a2} : EvOK T (⟨d, .mput a0 a1 a2, none⟩ :: os) K env H Q = stO T (evI env H (.mput a0 a1 a2)) d os K env Q := EvOK_op rfl
@[go_sem] theorem EvOK_tass {T : Tab} {d : Option Nat} {os : List IOper} {K : List Fr} {Q : Po} {a0} {a1} {a2} {a3} : EvOK T (⟨d, .tass a0 a1 a2 a3, none⟩ :: os) K env H Q = stO T (evI env H (.tass a0 a1 a2 a3)) d os K env Q := EvOK_op rfl
@[go_sem] theorem EvOK_pan {T : Tab} {d : Option Nat} {os : List IOper} {K : List Fr} {Q : Po} {a0} : EvOK T (⟨d, .pan a0, none⟩ :: os) K env H Q = stO T (evI env H (.pan a0)) d os K env Q := EvOK_op rfl
end

end Ve
end Go.Proofs.YtnociodpfmlglaaGreatDoor

/-
  The memory of the deterministic machine as rewriting rules.
-/
set_option linter.unusedVariables false
set_option linter.unusedSimpArgs false
namespace Go.Proofs.YtnociodpfmlglaaGreatDoor
namespace Ve
open Go
section
variable {H L : Heap}
@[go_sem] theorem push_def {b : Blk} : push H b = H ++ [b] := rfl
attribute [go_sem] List.append_assoc List.length_append List.length_set
def cellO (b : Option Blk) (o : Nat) : Option Value := match b with | some (.cells c _ _) => c[o]? | _ => none
theorem get1_bk {i o : Nat} : get1 H i o = cellO H[i]? o := rfl
theorem get1_app_lt {i o : Nat} (h : i < H.length) : get1 (H ++ L) i o = get1 H i o := by simp only [get1_bk, List.getElem?_append_left h]
@[go_sem] theorem get1_app_add {k o : Nat} : get1 (H ++ L) (H.length + k) o = get1 L k o := by
  simp only [get1_bk]; rw [List.getElem?_append_right (by omega), Nat.add_sub_cancel_left]
@[go_sem] theorem get1_app_zero {o : Nat} : get1 (H ++ L) H.length o = get1 L 0 o := get1_app_add (k := 0)
theorem get1_app_ge {i o : Nat} (h : H.length ≤ i) : get1 (H ++ L) i o = get1 L (i - H.length) o := by simp only [get1_bk, List.getElem?_append_right h]
@[go_sem] theorem get1_cons_succ {b : Blk} {k o : Nat} : get1 (b :: L) (k + 1) o = get1 L k o := by simp only [get1_bk, List.getElem?_cons_succ]
@[go_sem] theorem get1_cons_zero {c : List Value} {m : Mode} {fz o : Nat} : get1 (.cells c m fz :: L) 0 o = c[o]? := rfl
theorem get1_of {i o : Nat} {c : List Value} {m : Mode} {fz : Nat} (h : H[i]? = some (.cells c m fz)) : get1 H i o = c[o]? := by simp only [get1_bk, h, cellO]

def cellsO (b : Option Blk) (o n : Nat) : Option (List Value) := match b with | some (.cells c _ _) => if o + n ≤ c.length then some ((c.drop o).take n) else none | _ => none
theorem getN_bk {i o n : Nat} : getN H i o n = cellsO H[i]? o n := rfl
theorem getN_app_lt {i o n : Nat} (h : i < H.length) : getN (H ++ L) i o n = getN H i o n := by simp only [getN_bk, List.getElem?_append_left h]
@[go_sem] theorem getN_app_add {k o n : Nat} : getN (H ++ L) (H.length + k) o n = getN L k o n := by
  simp only [getN_bk]; rw [List.getElem?_append_right (by omega), Nat.add_sub_cancel_left]
@[go_sem] theorem getN_app_zero {o n : Nat} : getN (H ++ L) H.length o n = getN L 0 o n := getN_app_add (k := 0)
theorem getN_app_ge {i o n : Nat} (h : H.length ≤ i) : getN (H ++ L) i o n = getN L (i - H.length) o n := by simp only [getN_bk, List.getElem?_append_right h]
@[go_sem] theorem getN_cons_succ {b : Blk} {k o n : Nat} : getN (b :: L) (k + 1) o n = getN L k o n := by simp only [getN_bk, List.getElem?_cons_succ]
@[go_sem] theorem getN_cons_zero {c : List Value} {m : Mode} {fz o n : Nat} : getN (.cells c m fz :: L) 0 o n = if o + n ≤ c.length then some ((c.drop o).take n) else none := rfl
theorem getN_of {i o n : Nat} {c : List Value} {m : Mode} {fz : Nat} (h : H[i]? = some (.cells c m fz)) : getN H i o n = if o + n ≤ c.length then some ((c.drop o).take n) else none := by simp only [getN_bk, h, cellsO]
theorem get1_getN {i o n k : Nat} {l : List Value} (h : getN H i o n = some l) (hk : k < n) : get1 H i (o + k) = l[k]? := by
  simp only [getN_bk, get1_bk] at h ⊢
  cases hb : H[i]? with
  | none => rw [hb] at h; cases h
  | some b =>
    rw [hb] at h
    cases b with
    | cells c m fz =>
      simp only [cellsO] at h
      split at h
      · cases h; simp only [cellO, List.getElem?_take, hk, if_true, List.getElem?_drop]
      · cases h
    | _ => cases h
theorem getN_length {i o n : Nat} {l : List Value} (h : getN H i o n = some l) : l.length = n := by
  simp only [getN_bk] at h
  unfold cellsO at h
  split at h
  · split at h
    · cases h; simp; omega
    · cases h
  · cases h
theorem getN_sub {i o n k m : Nat} {l : List Value} (h : getN H i o n = some l) (hk : k + m ≤ n) : getN H i (o + k) m = some ((l.drop k).take m) := by
  simp only [getN_bk] at h ⊢
  unfold cellsO at h ⊢
  split at h
  · split at h
    · rename_i c _ _ heq hle
      cases h
      rw [if_pos (by omega), ← List.drop_drop, List.drop_take, List.take_take, Nat.min_eq_left (by omega)]
    · cases h
  · cases h
theorem getN_lt {i o n : Nat} {l : List Value} (h : getN H i o n = some l) : i < H.length := by
  simp only [getN_bk] at h
  cases hb : H[i]? with
  | none => rw [hb] at h; cases h
  | some b => exact (List.getElem?_eq_some_iff.1 hb).1
theorem get1_lt {i o : Nat} {v : Value} (h : get1 H i o = some v) : i < H.length := by
  simp only [get1_bk] at h
  cases hb : H[i]? with
  | none => rw [hb] at h; cases h
  | some b => exact (List.getElem?_eq_some_iff.1 hb).1
theorem getN_one {i o : Nat} {v : Value} (h : get1 H i o = some v) : getN H i o 1 = some [v] := by
  simp only [getN_bk, get1_bk] at h ⊢
  unfold cellO at h; unfold cellsO
  split at h
  · rename_i c _ _ heq
    have := (List.getElem?_eq_some_iff.1 h).1
    rw [if_pos (by omega), List.drop_eq_getElem_cons this, List.take_succ_cons, List.take_zero]
    rw [(List.getElem?_eq_some_iff.1 h).2]
  · cases h

def putB (H : Heap) (i o : Nat) (vs : List Value) (b : Option Blk) : Option Heap :=
  match b with
  | some (.cells c m fz) => if m ≠ .ro ∧ fz ≤ o ∧ o + vs.length ≤ c.length ∧ vs.all one = true then some (H.set i (.cells (splice c o vs) m fz)) else none
  | _ => none
@[go_sem] theorem putN_bk {i o : Nat} {v : Value} {vs : List Value} : putN H i o (v :: vs) = putB H i o (v :: vs) H[i]? := by
  simp only [putN, putB, List.isEmpty_cons, Bool.false_eq_true, if_false]
  rfl
theorem putN_pos {i o : Nat} {vs : List Value} (h : 0 < vs.length) : putN H i o vs = putB H i o vs H[i]? := by
  cases vs with
  | nil => simp at h
  | cons v vs => exact putN_bk
@[go_sem] theorem putN_nil {i o : Nat} : putN H i o [] = some H := rfl
theorem putB_fix {i o : Nat} {vs c : List Value} {t : Option Nat} {fz : Nat} (h1 : fz ≤ o) (h2 : o + vs.length ≤ c.length) (h3 : vs.all one = true) : putB H i o vs (some (.cells c (.fix t) fz)) = some (H.set i (.cells (splice c o vs) (.fix t) fz)) := by
  simp only [putB, ne_eq, reduceCtorEq, not_false_eq_true, true_and]
  rw [if_pos ⟨h1, h2, h3⟩]
theorem putB_loose {i o : Nat} {vs c : List Value} {t : Option Nat} {fz : Nat} (h1 : fz ≤ o) (h2 : o + vs.length ≤ c.length) (h3 : vs.all one = true) : putB H i o vs (some (.cells c (.loose t) fz)) = some (H.set i (.cells (splice c o vs) (.loose t) fz)) := by
  simp only [putB, ne_eq, reduceCtorEq, not_false_eq_true, true_and]
  rw [if_pos ⟨h1, h2, h3⟩]
theorem ix_app_lt {i : Nat} (h : i < H.length) : (H ++ L)[i]? = H[i]? := List.getElem?_append_left h
@[go_sem] theorem ix_app_add {k : Nat} : (H ++ L)[H.length + k]? = L[k]? := by rw [List.getElem?_append_right (by omega), Nat.add_sub_cancel_left]
@[go_sem] theorem ix_app_zero : (H ++ L)[H.length]? = L[0]? := ix_app_add (k := 0)
theorem ix_app_ge {i : Nat} (h : H.length ≤ i) : (H ++ L)[i]? = L[i - H.length]? := List.getElem?_append_right h
theorem set_app_lt {i : Nat} {b : Blk} (h : i < H.length) : (H ++ L).set i b = H.set i b ++ L := by rw [List.set_append_left i b h]
@[go_sem] theorem set_app_add {k : Nat} {b : Blk} : (H ++ L).set (H.length + k) b = H ++ L.set k b := by rw [List.set_append_right _ _ (by omega), Nat.add_sub_cancel_left]
@[go_sem] theorem set_app_zero {b : Blk} : (H ++ L).set H.length b = H ++ L.set 0 b := set_app_add (k := 0)
attribute [go_sem] List.set_cons_zero List.set_cons_succ

/-- Memory that has only grown. -/
def Ext (H H' : Heap) : Prop := ∃ J, H' = H ++ J
theorem Ext.refl : Ext H H := ⟨[], by simp⟩
theorem Ext.trans {A B D : Heap} (h : Ext A B) (k : Ext B D) : Ext A D := by obtain ⟨x, rfl⟩ := h; obtain ⟨y, rfl⟩ := k; exact ⟨x ++ y, by simp⟩
theorem Ext.app {A : Heap} {J : Heap} : Ext A (A ++ J) := ⟨J, rfl⟩

/-! results -/
theorem results_def {rs : List RV} {env : Env} : results rs env H = (match resVs env H rs with | some [v] => some v | some vs => some (.tuple ⟨vs⟩) | none => none) := rfl
def res1 : Option (List Value) → Option Value
  | some [v] => some v
  | some vs => some (.tuple ⟨vs⟩)
  | none => none
@[go_sem] theorem results_res {rs : List RV} {env : Env} : results rs env H = res1 (resVs env H rs) := rfl
@[go_sem] theorem res1_one {v : Value} : res1 (some [v]) = some v := rfl
@[go_sem] theorem res1_nil : res1 (some []) = some (.tuple ⟨[]⟩) := rfl
@[go_sem] theorem res1_two {u v : Value} {vs : List Value} : res1 (some (u :: v :: vs)) = some (.tuple ⟨u :: v :: vs⟩) := rfl
def consO (v : Option Value) (r : Option (List Value)) : Option (List Value) :=
  match v, r with
  | some v, some r => some (v :: r)
  | _, _ => none
@[go_sem] theorem resVs_nil {env : Env} : resVs env H [] = some [] := rfl
@[go_sem] theorem resVs_cons {env : Env} {r : RV} {rs : List RV} : resVs env H (r :: rs) = consO (resV env H r) (resVs env H rs) := by
  simp only [resVs]; cases resV env H r <;> cases resVs env H rs <;> rfl
@[go_sem] theorem consO_some {v : Value} {l : List Value} : consO (some v) (some l) = some (v :: l) := rfl
@[go_sem] theorem resV_tmp {env : Env} {t : Nat} : resV env H (.tmp t) = some (gt env t) := rfl
@[go_sem] theorem resV_cell {env : Env} {t : Nat} {n : Option Nat} : resV env H (.cell t n) = ldv H n (gt env t) := rfl

/-! regions in an open order -/
attribute [go_sem] EvDK_load
@[go_sem] theorem EvDK_mov' {T : Tab} {K : List Fr} {env : Env} {Q : Po} {d : Option Nat} {os : List DOper} {k : Nat} {loud : Bool} {st : List (Nat × Heap)} {ps : List Pend} {a0} : EvDK T (⟨⟨d, .mov a0, none⟩, loud, []⟩ :: os) k K env H st ps Q = stD T (evI env H (.mov a0)) d os (k + 1) K env (if loud then (k, H) :: st else st) (fun _ => ps) Q := EvDK_plain rfl
@[go_sem] theorem EvDK_pick' {T : Tab} {K : List Fr} {env : Env} {Q : Po} {d : Option Nat} {os : List DOper} {k : Nat} {loud : Bool} {st : List (Nat × Heap)} {ps : List Pend} {a0} {a1} {a2} : EvDK T (⟨⟨d, .pick a0 a1 a2, none⟩, loud, []⟩ :: os) k K env H st ps Q = stD T (evI env H (.pick a0 a1 a2)) d os (k + 1) K env (if loud then (k, H) :: st else st) (fun _ => ps) Q := EvDK_plain rfl
@[go_sem] theorem EvDK_new' {T : Tab} {K : List Fr} {env : Env} {Q : Po} {d : Option Nat} {os : List DOper} {k : Nat} {loud : Bool} {st : List (Nat × Heap)} {ps : List Pend} {a0} {a1} : EvDK T (⟨⟨d, .new a0 a1, none⟩, loud, []⟩ :: os) k K env H st ps Q = stD T (evI env H (.new a0 a1)) d os (k + 1) K env (if loud then (k, H) :: st else st) (fun _ => ps) Q := EvDK_plain rfl
@[go_sem] theorem EvDK_box' {T : Tab} {K : List Fr} {env : Env} {Q : Po} {d : Option Nat} {os : List DOper} {k : Nat} {loud : Bool} {st : List (Nat × Heap)} {ps : List Pend} {a0} {a1} : EvDK T (⟨⟨d, .box a0 a1, none⟩, loud, []⟩ :: os) k K env H st ps Q = stD T (evI env H (.box a0 a1)) d os (k + 1) K env (if loud then (k, H) :: st else st) (fun _ => ps) Q := EvDK_plain rfl
@[go_sem] theorem EvDK_build' {T : Tab} {K : List Fr} {env : Env} {Q : Po} {d : Option Nat} {os : List DOper} {k : Nat} {loud : Bool} {st : List (Nat × Heap)} {ps : List Pend} {a0} {a1} : EvDK T (⟨⟨d, .build a0 a1, none⟩, loud, []⟩ :: os) k K env H st ps Q = stD T (evI env H (.build a0 a1)) d os (k + 1) K env (if loud then (k, H) :: st else st) (fun _ => ps) Q := EvDK_plain rfl
@[go_sem] theorem EvDK_bslice' {T : Tab} {K : List Fr} {env : Env} {Q : Po} {d : Option Nat} {os : List DOper} {k : Nat} {loud : Bool} {st : List (Nat × Heap)} {ps : List Pend} {a0} {a1} {a2} : EvDK T (⟨⟨d, .bslice a0 a1 a2, none⟩, loud, []⟩ :: os) k K env H st ps Q = stD T (evI env H (.bslice a0 a1 a2)) d os (k + 1) K env (if loud then (k, H) :: st else st) (fun _ => ps) Q := EvDK_plain rfl
@[go_sem] theorem EvDK_gsl' {T : Tab} {K : List Fr} {env : Env} {Q : Po} {d : Option Nat} {os : List DOper} {k : Nat} {loud : Bool} {st : List (Nat × Heap)} {ps : List Pend} {a0} {a1} {a2} : EvDK T (⟨⟨d, .gsl a0 a1 a2, none⟩, loud, []⟩ :: os) k K env H st ps Q = stD T (evI env H (.gsl a0 a1 a2)) d os (k + 1) K env (if loud then (k, H) :: st else st) (fun _ => ps) Q := EvDK_plain rfl
@[go_sem] theorem EvDK_ld' {T : Tab} {K : List Fr} {env : Env} {Q : Po} {d : Option Nat} {os : List DOper} {k : Nat} {loud : Bool} {st : List (Nat × Heap)} {ps : List Pend} {a0} {a1} : EvDK T (⟨⟨d, .ld a0 a1, none⟩, loud, []⟩ :: os) k K env H st ps Q = stD T (evI env H (.ld a0 a1)) d os (k + 1) K env (if loud then (k, H) :: st else st) (fun _ => ps) Q := EvDK_plain rfl
@[go_sem] theorem EvDK_st' {T : Tab} {K : List Fr} {env : Env} {Q : Po} {d : Option Nat} {os : List DOper} {k : Nat} {loud : Bool} {st : List (Nat × Heap)} {ps : List Pend} {a0} {a1} {a2} : EvDK T (⟨⟨d, .st a0 a1 a2, none⟩, loud, []⟩ :: os) k K env H st ps Q = stD T (evI env H (.st a0 a1 a2)) d os (k + 1) K env (if loud then (k, H) :: st else st) (fun _ => ps) Q := EvDK_plain rfl
@[go_sem] theorem EvDK_nilck' {T : Tab} {K : List Fr} {env : Env} {Q : Po} {d : Option Nat} {os : List DOper} {k : Nat} {loud : Bool} {st : List (Nat × Heap)} {ps : List Pend} {a0} : EvDK T (⟨⟨d, .nilck a0, none⟩, loud, []⟩ :: os) k K env H st ps Q = stD T (evI env H (.nilck a0)) d os (k + 1) K env (if loud then (k, H) :: st else st) (fun _ => ps) Q := EvDK_plain rfl
@[go_sem] theorem EvDK_bin' {T : Tab} {K : List Fr} {env : Env} {Q : Po} {d : Option Nat} {os : List DOper} {k : Nat} {loud : Bool} {st : List (Nat × Heap)} {ps : List Pend} {a0} {a1} {a2} : EvDK T (⟨⟨d, .bin a0 a1 a2, none⟩, loud, []⟩ :: os) k K env H st ps Q = stD T (evI env H (.bin a0 a1 a2)) d os (k + 1) K env (if loud then (k, H) :: st else st) (fun _ => ps) Q := EvDK_plain rfl
@[go_sem] theorem EvDK_eqn' {T : Tab} {K : List Fr} {env : Env} {Q : Po} {d : Option Nat} {os : List DOper} {k : Nat} {loud : Bool} {st : List (Nat × Heap)} {ps : List Pend} {a0} {a1} {a2} {a3} : EvDK T (⟨⟨d, .eqn a0 a1 a2 a3, none⟩, loud, []⟩ :: os) k K env H st ps Q = stD T (evI env H (.eqn a0 a1 a2 a3)) d os (k + 1) K env (if loud then (k, H) :: st else st) (fun _ => ps) Q := EvDK_plain rfl
@[go_sem] theorem EvDK_eqp' {T : Tab} {K : List Fr} {env : Env} {Q : Po} {d : Option Nat} {os : List DOper} {k : Nat} {loud : Bool} {st : List (Nat × Heap)} {ps : List Pend} {a0} {a1} {a2} : EvDK T (⟨⟨d, .eqp a0 a1 a2, none⟩, loud, []⟩ :: os) k K env H st ps Q = stD T (evI env H (.eqp a0 a1 a2)) d os (k + 1) K env (if loud then (k, H) :: st else st) (fun _ => ps) Q := EvDK_plain rfl
@[go_sem] theorem EvDK_eqb' {T : Tab} {K : List Fr} {env : Env} {Q : Po} {d : Option Nat} {os : List DOper} {k : Nat} {loud : Bool} {st : List (Nat × Heap)} {ps : List Pend} {a0} {a1} {a2} : EvDK T (⟨⟨d, .eqb a0 a1 a2, none⟩, loud, []⟩ :: os) k K env H st ps Q = stD T (evI env H (.eqb a0 a1 a2)) d os (k + 1) K env (if loud then (k, H) :: st else st) (fun _ => ps) Q := EvDK_plain rfl
@[go_sem] theorem EvDK_eqs' {T : Tab} {K : List Fr} {env : Env} {Q : Po} {d : Option Nat} {os : List DOper} {k : Nat} {loud : Bool} {st : List (Nat × Heap)} {ps : List Pend} {a0} {a1} {a2} {a3} : EvDK T (⟨⟨d, .eqs a0 a1 a2 a3, none⟩, loud, []⟩ :: os) k K env H st ps Q = stD T (evI env H (.eqs a0 a1 a2 a3)) d os (k + 1) K env (if loud then (k, H) :: st else st) (fun _ => ps) Q := EvDK_plain rfl
@[go_sem] theorem EvDK_un' {T : Tab} {K : List Fr} {env : Env} {Q : Po} {d : Option Nat} {os : List DOper} {k : Nat} {loud : Bool} {st : List (Nat × Heap)} {ps : List Pend} {a0} {a1} : EvDK T (⟨⟨d, .un a0 a1, none⟩, loud, []⟩ :: os) k K env H st ps Q = stD T (evI env H (.un a0 a1)) d os (k + 1) K env (if loud then (k, H) :: st else st) (fun _ => ps) Q := EvDK_plain rfl
@[go_sem] theorem EvDK_toint' {T : Tab} {K : List Fr} {env : Env} {Q : Po} {d : Option Nat} {os : List DOper} {k : Nat} {loud : Bool} {st : List (Nat × Heap)} {ps : List Pend} {a0} {a1} : EvDK T (⟨⟨d, .toint a0 a1, none⟩, loud, []⟩ :: os) k K env H st ps Q = stD T (evI env H (.toint a0 a1)) d os (k + 1) K env (if loud then (k, H) :: st else st) (fun _ => ps) Q := EvDK_plain rfl
@[go_sem] theorem EvDK_tostr' {T : Tab} {K : List Fr} {env : Env} {Q : Po} {d : Option Nat} {os : List DOper} {k : Nat} {loud : Bool} {st : List (Nat × Heap)} {ps : List Pend} {a0} : EvDK T (⟨⟨d, .tostr a0, none⟩, loud, []⟩ :: os) k K env H st ps Q = stD T (evI env H (.tostr a0)) d os (k + 1) K env (if loud then (k, H) :: st else st) (fun _ => ps) Q := EvDK_plain rfl
@[go_sem] theorem EvDK_s2b' {T : Tab} {K : List Fr} {env : Env} {Q : Po} {d : Option Nat} {os : List DOper} {k : Nat} {loud : Bool} {st : List (Nat × Heap)} {ps : List Pend} {a0} : EvDK T (⟨⟨d, .s2b a0, none⟩, loud, []⟩ :: os) k K env H st ps Q = stD T (evI env H (.s2b a0)) d os (k + 1) K env (if loud then (k, H) :: st else st) (fun _ => ps) Q := EvDK_plain rfl
@[go_sem] theorem EvDK_b2s' {T : Tab} {K : List Fr} {env : Env} {Q : Po} {d : Option Nat} {os : List DOper} {k : Nat} {loud : Bool} {st : List (Nat × Heap)} {ps : List Pend} {a0} : EvDK T (⟨⟨d, .b2s a0, none⟩, loud, []⟩ :: os) k K env H st ps Q = stD T (evI env H (.b2s a0)) d os (k + 1) K env (if loud then (k, H) :: st else st) (fun _ => ps) Q := EvDK_plain rfl
@[go_sem] theorem EvDK_mkif' {T : Tab} {K : List Fr} {env : Env} {Q : Po} {d : Option Nat} {os : List DOper} {k : Nat} {loud : Bool} {st : List (Nat × Heap)} {ps : List Pend} {a0} {a1} : EvDK T (⟨⟨d, .mkif a0 a1, none⟩, loud, []⟩ :: os) k K env H st ps Q = stD T (evI env H (.mkif a0 a1)) d os (k + 1) K env (if loud then (k, H) :: st else st) (fun _ => ps) Q := EvDK_plain rfl
@[go_sem] theorem EvDK_mkfn' {T : Tab} {K : List Fr} {env : Env} {Q : Po} {d : Option Nat} {os : List DOper} {k : Nat} {loud : Bool} {st : List (Nat × Heap)} {ps : List Pend} {a0} {a1} {a2} : EvDK T (⟨⟨d, .mkfn a0 a1 a2, none⟩, loud, []⟩ :: os) k K env H st ps Q = stD T (evI env H (.mkfn a0 a1 a2)) d os (k + 1) K env (if loud then (k, H) :: st else st) (fun _ => ps) Q := EvDK_plain rfl
@[go_sem] theorem EvDK_mksl' {T : Tab} {K : List Fr} {env : Env} {Q : Po} {d : Option Nat} {os : List DOper} {k : Nat} {loud : Bool} {st : List (Nat × Heap)} {ps : List Pend} {a0} {a1} {a2} {a3} : EvDK T (⟨⟨d, .mksl a0 a1 a2 a3, none⟩, loud, []⟩ :: os) k K env H st ps Q = stD T (evI env H (.mksl a0 a1 a2 a3)) d os (k + 1) K env (if loud then (k, H) :: st else st) (fun _ => ps) Q := EvDK_plain rfl
@[go_sem] theorem EvDK_slstr' {T : Tab} {K : List Fr} {env : Env} {Q : Po} {d : Option Nat} {os : List DOper} {k : Nat} {loud : Bool} {st : List (Nat × Heap)} {ps : List Pend} {a0} {a1} {a2} : EvDK T (⟨⟨d, .slstr a0 a1 a2, none⟩, loud, []⟩ :: os) k K env H st ps Q = stD T (evI env H (.slstr a0 a1 a2)) d os (k + 1) K env (if loud then (k, H) :: st else st) (fun _ => ps) Q := EvDK_plain rfl
@[go_sem] theorem EvDK_slsl' {T : Tab} {K : List Fr} {env : Env} {Q : Po} {d : Option Nat} {os : List DOper} {k : Nat} {loud : Bool} {st : List (Nat × Heap)} {ps : List Pend} {a0} {a1} {a2} {a3} {a4} : EvDK T (⟨⟨d, .slsl a0 a1 a2 a3 a4, none⟩, loud, []⟩ :: os) k K env H st ps Q = stD T (evI env H (.slsl a0 a1 a2 a3 a4)) d os (k + 1) K env (if loud then (k, H) :: st else st) (fun _ => ps) Q := EvDK_plain rfl
@[go_sem] theorem EvDK_slarr' {T : Tab} {K : List Fr} {env : Env} {Q : Po} {d : Option Nat} {os : List DOper} {k : Nat} {loud : Bool} {st : List (Nat × Heap)} {ps : List Pend} {a0} {a1} {a2} {a3} {a4} : EvDK T (⟨⟨d, .slarr a0 a1 a2 a3 a4, none⟩, loud, []⟩ :: os) k K env H st ps Q = stD T (evI env H (.slarr a0 a1 a2 a3 a4)) d os (k + 1) K env (if loud then (k, H) :: st else st) (fun _ => ps) Q := EvDK_plain rfl
@[go_sem] theorem EvDK_faddr' {T : Tab} {K : List Fr} {env : Env} {Q : Po} {d : Option Nat} {os : List DOper} {k : Nat} {loud : Bool} {st : List (Nat × Heap)} {ps : List Pend} {a0} {a1} : EvDK T (⟨⟨d, .faddr a0 a1, none⟩, loud, []⟩ :: os) k K env H st ps Q = stD T (evI env H (.faddr a0 a1)) d os (k + 1) K env (if loud then (k, H) :: st else st) (fun _ => ps) Q := EvDK_plain rfl
@[go_sem] theorem EvDK_field' {T : Tab} {K : List Fr} {env : Env} {Q : Po} {d : Option Nat} {os : List DOper} {k : Nat} {loud : Bool} {st : List (Nat × Heap)} {ps : List Pend} {a0} {a1} {a2} : EvDK T (⟨⟨d, .field a0 a1 a2, none⟩, loud, []⟩ :: os) k K env H st ps Q = stD T (evI env H (.field a0 a1 a2)) d os (k + 1) K env (if loud then (k, H) :: st else st) (fun _ => ps) Q := EvDK_plain rfl
@[go_sem] theorem EvDK_iaddr' {T : Tab} {K : List Fr} {env : Env} {Q : Po} {d : Option Nat} {os : List DOper} {k : Nat} {loud : Bool} {st : List (Nat × Heap)} {ps : List Pend} {a0} {a1} {a2} : EvDK T (⟨⟨d, .iaddr a0 a1 a2, none⟩, loud, []⟩ :: os) k K env H st ps Q = stD T (evI env H (.iaddr a0 a1 a2)) d os (k + 1) K env (if loud then (k, H) :: st else st) (fun _ => ps) Q := EvDK_plain rfl
@[go_sem] theorem EvDK_iarr' {T : Tab} {K : List Fr} {env : Env} {Q : Po} {d : Option Nat} {os : List DOper} {k : Nat} {loud : Bool} {st : List (Nat × Heap)} {ps : List Pend} {a0} {a1} {a2} {a3} : EvDK T (⟨⟨d, .iarr a0 a1 a2 a3, none⟩, loud, []⟩ :: os) k K env H st ps Q = stD T (evI env H (.iarr a0 a1 a2 a3)) d os (k + 1) K env (if loud then (k, H) :: st else st) (fun _ => ps) Q := EvDK_plain rfl
@[go_sem] theorem EvDK_ixstr' {T : Tab} {K : List Fr} {env : Env} {Q : Po} {d : Option Nat} {os : List DOper} {k : Nat} {loud : Bool} {st : List (Nat × Heap)} {ps : List Pend} {a0} {a1} : EvDK T (⟨⟨d, .ixstr a0 a1, none⟩, loud, []⟩ :: os) k K env H st ps Q = stD T (evI env H (.ixstr a0 a1)) d os (k + 1) K env (if loud then (k, H) :: st else st) (fun _ => ps) Q := EvDK_plain rfl
@[go_sem] theorem EvDK_ixagg' {T : Tab} {K : List Fr} {env : Env} {Q : Po} {d : Option Nat} {os : List DOper} {k : Nat} {loud : Bool} {st : List (Nat × Heap)} {ps : List Pend} {a0} {a1} {a2} {a3} {a4} : EvDK T (⟨⟨d, .ixagg a0 a1 a2 a3 a4, none⟩, loud, []⟩ :: os) k K env H st ps Q = stD T (evI env H (.ixagg a0 a1 a2 a3 a4)) d os (k + 1) K env (if loud then (k, H) :: st else st) (fun _ => ps) Q := EvDK_plain rfl
@[go_sem] theorem EvDK_ext' {T : Tab} {K : List Fr} {env : Env} {Q : Po} {d : Option Nat} {os : List DOper} {k : Nat} {loud : Bool} {st : List (Nat × Heap)} {ps : List Pend} {a0} {a1} : EvDK T (⟨⟨d, .ext a0 a1, none⟩, loud, []⟩ :: os) k K env H st ps Q = stD T (evI env H (.ext a0 a1)) d os (k + 1) K env (if loud then (k, H) :: st else st) (fun _ => ps) Q := EvDK_plain rfl
@[go_sem] theorem EvDK_len' {T : Tab} {K : List Fr} {env : Env} {Q : Po} {d : Option Nat} {os : List DOper} {k : Nat} {loud : Bool} {st : List (Nat × Heap)} {ps : List Pend} {a0} {a1} : EvDK T (⟨⟨d, .len a0 a1, none⟩, loud, []⟩ :: os) k K env H st ps Q = stD T (evI env H (.len a0 a1)) d os (k + 1) K env (if loud then (k, H) :: st else st) (fun _ => ps) Q := EvDK_plain rfl
@[go_sem] theorem EvDK_capx' {T : Tab} {K : List Fr} {env : Env} {Q : Po} {d : Option Nat} {os : List DOper} {k : Nat} {loud : Bool} {st : List (Nat × Heap)} {ps : List Pend} {a0} : EvDK T (⟨⟨d, .capx a0, none⟩, loud, []⟩ :: os) k K env H st ps Q = stD T (evI env H (.capx a0)) d os (k + 1) K env (if loud then (k, H) :: st else st) (fun _ => ps) Q := EvDK_plain rfl
@[go_sem] theorem EvDK_minmax' {T : Tab} {K : List Fr} {env : Env} {Q : Po} {d : Option Nat} {os : List DOper} {k : Nat} {loud : Bool} {st : List (Nat × Heap)} {ps : List Pend} {a0} {a1} : EvDK T (⟨⟨d, .minmax a0 a1, none⟩, loud, []⟩ :: os) k K env H st ps Q = stD T (evI env H (.minmax a0 a1)) d os (k + 1) K env (if loud then (k, H) :: st else st) (fun _ => ps) Q := EvDK_plain rfl
@[go_sem] theorem EvDK_append' {T : Tab} {K : List Fr} {env : Env} {Q : Po} {d : Option Nat} {os : List DOper} {k : Nat} {loud : Bool} {st : List (Nat × Heap)} {ps : List Pend} {a0} {a1} {a2} {a3} {a4} : EvDK T (⟨⟨d, .append a0 a1 a2 a3 a4, none⟩, loud, []⟩ :: os) k K env H st ps Q = stD T (evI env H (.append a0 a1 a2 a3 a4)) d os (k + 1) K env (if loud then (k, H) :: st else st) (fun _ => ps) Q := EvDK_plain rfl
@[go_sem] theorem EvDK_copy' {T : Tab} {K : List Fr} {env : Env} {Q : Po} {d : Option Nat} {os : List DOper} {k : Nat} {loud : Bool} {st : List (Nat × Heap)} {ps : List Pend} {a0} {a1} {a2} : EvDK T (⟨⟨d, .copy a0 a1 a2, none⟩, loud, []⟩ :: os) k K env H st ps Q = stD T (evI env H (.copy a0 a1 a2)) d os (k + 1) K env (if loud then (k, H) :: st else st) (fun _ => ps) Q := EvDK_plain rfl
@[go_sem] theorem EvDK_uslice' {T : Tab} {K : List Fr} {env : Env} {Q : Po} {d : Option Nat} {os : List DOper} {k : Nat} {loud : Bool} {st : List (Nat × Heap)} {ps : List Pend} {a0} : EvDK T (⟨⟨d, .uslice a0, none⟩, loud, []⟩ :: os) k K env H st ps Q = stD T (evI env H (.uslice a0)) d os (k + 1) K env (if loud then (k, H) :: st else st) (fun _ => ps) Q := EvDK_plain rfl
@[go_sem] theorem EvDK_ustr' {T : Tab} {K : List Fr} {env : Env} {Q : Po} {d : Option Nat} {os : List DOper} {k : Nat} {loud : Bool} {st : List (Nat × Heap)} {ps : List Pend} {a0} {a1} {a2} : EvDK T (⟨⟨d, .ustr a0 a1 a2, none⟩, loud, []⟩ :: os) k K env H st ps Q = stD T (evI env H (.ustr a0 a1 a2)) d os (k + 1) K env (if loud then (k, H) :: st else st) (fun _ => ps) Q := EvDK_plain rfl
@[go_sem] theorem EvDK_uof' {T : Tab} {K : List Fr} {env : Env} {Q : Po} {d : Option Nat} {os : List DOper} {k : Nat} {loud : Bool} {st : List (Nat × Heap)} {ps : List Pend} {a0} : EvDK T (⟨⟨d, .uof a0, none⟩, loud, []⟩ :: os) k K env H st ps Q = stD T (evI env H (.uof a0)) d os (k + 1) K env (if loud then (k, H) :: st else st) (fun _ => ps) Q := EvDK_plain rfl
@[go_sem] theorem EvDK_upt' {T : Tab} {K : List Fr} {env : Env} {Q : Po} {d : Option Nat} {os : List DOper} {k : Nat} {loud : Bool} {st : List (Nat × Heap)} {ps : List Pend} {a0} {a1} : EvDK T (⟨⟨d, .upt a0 a1, none⟩, loud, []⟩ :: os) k K env H st ps Q = stD T (evI env H (.upt a0 a1)) d os (k + 1) K env (if loud then (k, H) :: st else st) (fun _ => ps) Q := EvDK_plain rfl
@[go_sem] theorem EvDK_mkmap' {T : Tab} {K : List Fr} {env : Env} {Q : Po} {d : Option Nat} {os : List DOper} {k : Nat} {loud : Bool} {st : List (Nat × Heap)} {ps : List Pend} {a0} : EvDK T (⟨⟨d, .mkmap a0, none⟩, loud, []⟩ :: os) k K env H st ps Q = stD T (evI env H (.mkmap a0)) d os (k + 1) K env (if loud then (k, H) :: st else st) (fun _ => ps) Q := EvDK_plain rfl
@[go_sem] theorem EvDK_mlook' {T : Tab} {K : List Fr} {env : Env} {Q : Po} {d : Option Nat} {os : List DOper} {k : Nat} {loud : Bool} {st : List (Nat × Heap)} {ps : List Pend} {a0} {a1} {a2} {a3} : EvDK T (⟨⟨d, .mlook a0 a1 a2 a3, none⟩, loud, []⟩ :: os) k K env H st ps Q = stD T (evI env H (.mlook a0 a1 a2 a3)) d os (k + 1) K env (if loud then (k, H) :: st else st) (fun _ => ps) Q := EvDK_plain rfl
@[go_sem] theorem EvDK_mput' {T : Tab} {K : List Fr} {env : Env} {Q : Po} {d : Option Nat} {os : List DOper} {k : Nat} {loud : Bool} {st : List (Nat × Heap)} {ps : List Pend} {a0} {a1} {a2} : EvDK T (⟨⟨d, .mput a0 a1 a2, none⟩, loud, []⟩ :: os) k K env H st ps Q = stD T (evI env H (.mput a0 a1 a2)) d os (k + 1) K env (if loud then (k, H) :: st else st) (fun _ => ps) Q := EvDK_plain rfl
@[go_sem] theorem EvDK_tass' {T : Tab} {K : List Fr} {env : Env} {Q : Po} {d : Option Nat} {os : List DOper} {k : Nat} {loud : Bool} {st : List (Nat × Heap)} {ps : List Pend} {a0} {a1} {a2} {a3} : EvDK T (⟨⟨d, .tass a0 a1 a2 a3, none⟩, loud, []⟩ :: os) k K env H st ps Q = stD T (evI env H (.tass a0 a1 a2 a3)) d os (k + 1) K env (if loud then (k, H) :: st else st) (fun _ => ps) Q := EvDK_plain rfl
@[go_sem] theorem EvDK_pan' {T : Tab} {K : List Fr} {env : Env} {Q : Po} {d : Option Nat} {os : List DOper} {k : Nat} {loud : Bool} {st : List (Nat × Heap)} {ps : List Pend} {a0} : EvDK T (⟨⟨d, .pan a0, none⟩, loud, []⟩ :: os) k K env H st ps Q = stD T (evI env H (.pan a0)) d os (k + 1) K env (if loud then (k, H) :: st else st) (fun _ => ps) Q := EvDK_plain rfl
attribute [go_sem] List.all_cons List.all_nil Bool.and_eq_true
@[go_sem] theorem pendOk_def {st : List (Nat × Heap)} {n : Option Nat} {a v : Value} {w : List Nat} : pendOk st ⟨n, a, v, w⟩ = w.all (fun j => match stageAt st j with | some H => (match ldv H n a with | some v' => beqA v' v | none => false) | none => false) := rfl
@[go_sem] theorem stageAt_here {k : Nat} {r : List (Nat × Heap)} : stageAt ((k, H) :: r) k = some H := by simp only [stageAt, if_true]
theorem stageAt_there {k j : Nat} {r : List (Nat × Heap)} (h : k ≠ j) : stageAt ((k, H) :: r) j = stageAt r j := by simp only [stageAt, h, if_false]
end
@[go_sem] theorem beqA_bool {a b : Bool} : beqA (.bool a) (.bool b) = (a == b) := by simp only [beqA, beqV]
@[go_sem] theorem beqA_int {k : IntKind} {a b : Int} : beqA (.int k a) (.int k b) = (a == b) := by simp [beqA, beqV]
@[go_sem] theorem beqA_str {a b : List UInt8} : beqA (strOf a) (strOf b) = (a == b) := by simp only [beqA, beqV, strOf, bytesOf_mk]
@[go_sem] theorem beqA_ptr {a : Option Addr} : beqA (.pointer a) (.pointer a) = true := by
  cases a with
  | none => rfl
  | some a => obtain ⟨b, o, s⟩ := a; simp [beqA, beqV]
@[go_sem] theorem beqA_slice {a : Option Addr} {l c : Nat} : beqA (.slice a l c) (.slice a l c) = true := by
  cases a with
  | none => simp [beqA, beqV]
  | some a => obtain ⟨b, o, s⟩ := a; simp [beqA, beqV]
attribute [go_sem] BEq.rfl
@[go_sem] theorem beqA_agg {a b : List Value} : beqA (.agg ⟨a⟩) (.agg ⟨b⟩) = beqL a b := by simp only [beqA]
@[go_sem] theorem beqL_nil : beqL [] [] = true := by simp only [beqL]
@[go_sem] theorem beqL_cons {a b : Value} {x y : List Value} : beqL (a :: x) (b :: y) = (beqV a b && beqL x y) := by simp only [beqL]
@[go_sem] theorem beqV_bool {a b : Bool} : beqV (.bool a) (.bool b) = (a == b) := by simp only [beqV]
@[go_sem] theorem beqV_int {k : IntKind} {a b : Int} : beqV (.int k a) (.int k b) = (a == b) := by simp [beqV]
@[go_sem] theorem beqV_str {a b : List UInt8} : beqV (strOf a) (strOf b) = (a == b) := by simp only [beqV, strOf, bytesOf_mk]
@[go_sem] theorem beqV_ptr {a : Option Addr} : beqV (.pointer a) (.pointer a) = true := by
  cases a with
  | none => rfl
  | some a => obtain ⟨b, o, s⟩ := a; simp [beqV]
@[go_sem] theorem beqV_slice {a : Option Addr} {l c : Nat} : beqV (.slice a l c) (.slice a l c) = true := by
  cases a with
  | none => simp [beqV]
  | some a => obtain ⟨b, o, s⟩ := a; simp [beqV]

end Ve
end Go.Proofs.YtnociodpfmlglaaGreatDoor

/-
  A loop by its relation and its measure.
-/
set_option linter.unusedVariables false
namespace Go.Proofs.YtnociodpfmlglaaGreatDoor
namespace Ve
open Go

/-! guards -/
def gv (b : Bool) (v : Value) : Value := if b then v else undef
@[go_sem] theorem gv_true {v : Value} : gv true v = v := rfl
@[go_sem] theorem gv_false {v : Value} : gv false v = undef := rfl
def wantV (v : Value) (w : Bool) : Option Bool := match v with | .bool b => some (b == w) | .tuple ⟨[]⟩ => some false | _ => none
@[go_sem] theorem wanted_some {env : Env} {t : Nat} {w : Bool} : wanted env (some (t, w)) = wantV (gt env t) w := rfl
@[go_sem] theorem wantV_true {b : Bool} : wantV (.bool b) true = some b := by cases b <;> rfl
@[go_sem] theorem wantV_false {b : Bool} : wantV (.bool b) false = some (!b) := by cases b <;> rfl
@[go_sem] theorem wantV_undef {w : Bool} : wantV undef w = some false := rfl
@[go_sem] theorem wantV_gvt {b c : Bool} : wantV (gv b (.bool c)) true = some (b && c) := by cases b <;> cases c <;> rfl
@[go_sem] theorem wantV_gvf {b c : Bool} : wantV (gv b (.bool c)) false = some (b && !c) := by cases b <;> cases c <;> rfl
@[go_sem] theorem pickO_and {b c : Bool} {H : Heap} : pickO (.bool b) (gv b (.bool c)) (.bool false) H = some (.ret (.bool (b && c)) H) := by cases b <;> rfl
@[go_sem] theorem pickO_or {b c : Bool} {H : Heap} : pickO (.bool b) (.bool true) (gv (!b) (.bool c)) H = some (.ret (.bool (b || c)) H) := by cases b <;> rfl
@[go_sem] theorem pickO_and' {b c : Bool} {H : Heap} : pickO (.bool b) (.bool c) (.bool false) H = some (.ret (.bool (b && c)) H) := by cases b <;> rfl
@[go_sem] theorem pickO_or' {b c : Bool} {H : Heap} : pickO (.bool b) (.bool true) (.bool c) H = some (.ret (.bool (b || c)) H) := by cases b <;> rfl
theorem pickO_or_n {b c : Bool} {H : Heap} : pickO (.bool (!b)) (.bool true) (gv b (.bool c)) H = some (.ret (.bool (!b || c)) H) := by cases b <;> rfl
attribute [go_sem] pickO_or_n Bool.not_not Bool.and_true Bool.and_false Bool.or_true Bool.or_false Bool.true_or Bool.false_or Bool.false_and Bool.true_and
section
variable {T : Tab} {K : List Fr} {env : Env} {H : Heap} {Q : Po} {d : Option Nat} {i : I} {b : Bool} {v : Value}
/-- A guarded operation that leaves the memory alone: both ways meet again at once. -/
theorem guO_merge {os : List IOper} (h : b = true → evI env H i = some (.ret v H)) (hc : isCl i = false) (k : EvOK T os K (put env d (gv b v)) H Q) : guO T (some b) d i os K env H Q := by
  cases b with
  | false => exact k
  | true => show EvOK T (⟨d, i, none⟩ :: os) K env H Q; rw [EvOK_op hc, h rfl]; exact k
theorem guO_split {os : List IOper} (h1 : b = true → EvOK T (⟨d, i, none⟩ :: os) K env H Q) (h2 : b = false → EvOK T os K (put env d undef) H Q) : guO T (some b) d i os K env H Q := by
  cases b with
  | false => exact h2 rfl
  | true => exact h1 rfl
theorem guD_merge {os : List DOper} {loud : Bool} {k : Nat} {st : List (Nat × Heap)} {ps : List Pend} (h : b = true → evI env H i = some (.ret v H)) (hc : isCl i = false) (q : EvDK T os (k + 1) K (put env d (gv b v)) H (if loud then (k, H) :: st else st) ps Q) : guD T (some b) d i loud [] os k K env H st ps Q := by
  cases b with
  | false => exact q
  | true => show EvDK T (⟨⟨d, i, none⟩, loud, []⟩ :: os) k K env H st ps Q; rw [EvDK_plain hc, h rfl]; exact q
theorem guD_split {os : List DOper} {loud : Bool} {wins : List Nat} {k : Nat} {st : List (Nat × Heap)} {ps : List Pend} (h1 : b = true → EvDK T (⟨⟨d, i, none⟩, loud, wins⟩ :: os) k K env H st ps Q) (h2 : b = false → EvDK T os (k + 1) K (put env d undef) H (if loud then (k, H) :: st else st) ps Q) : guD T (some b) d i loud wins os k K env H st ps Q := by
  cases b with
  | false => exact h2 rfl
  | true => exact h1 rfl
end

attribute [go_sem] gtp_in wr_i64 wr_i32 wr_u8 wr_u64 wr_u32 bin_quo_i64 bin_quo_u8 bin_quo_u64 bin_rem_pos bin_adds iaddrO_in iarrO_in ixstrO_in cutS_int splice_set putB_fix putB_loose List.take_length Nat.mul_one List.drop_length mkslO_int s2bO_str get1_app_lt getN_app_lt putN_pos ix_app_lt set_app_lt stageAt_there
attribute [go_sem] Int.toNat_natCast Int.natCast_inj Int.cast_ofNat_Int Int.natCast_zero true_and and_true if_true if_false Bool.false_eq_true decide_true decide_false not_true_eq_false not_false_eq_true Nat.zero_add Nat.add_zero Nat.zero_mul Nat.one_mul Int.sub_zero Int.add_zero Int.zero_add exists_eq_left' Option.some.injEq exists_eq_left
attribute [go_sem] List.length_map List.length_replicate List.length_take List.length_drop List.length_reverse
theorem nrm : (∀ a b : Bool, ((a && b) = true) = (a = true ∧ b = true)) ∧ (∀ a b : Bool, ((a && b) = false) = (a = true → b = false)) ∧ (∀ a b : Bool, ((a || b) = true) = (a = true ∨ b = true)) ∧ (∀ a b : Bool, ((a || b) = false) = (a = false ∧ b = false)) ∧
    (∀ b : Bool, ((!b) = true) = (b = false)) ∧ (∀ b : Bool, ((!b) = false) = (b = true)) ∧ (∀ (p : Prop) [Decidable p], (decide p = true) = p) ∧ (∀ (p : Prop) [Decidable p], (decide p = false) = ¬ p) ∧
    (∀ b : Bool, (¬ b = true) = (b = false)) ∧ (∀ b : Bool, (¬ b = false) = (b = true)) ∧ (∀ p q : Prop, (¬ (p ∧ q)) = (p → ¬ q)) ∧ (∀ p q : Prop, (¬ (p ∨ q)) = (¬ p ∧ ¬ q)) ∧ (∀ p : Prop, (¬ ¬ p) = p) ∧ (∀ a b : Int, (¬ a < b) = (b ≤ a)) ∧ (∀ a b : Int, (¬ a ≤ b) = (b < a)) ∧
    (∀ b : Bool, (!!b) = b) ∧ (¬ True) = False ∧ (¬ False) = True ∧ (∀ p : Prop, (p ∧ True) = p) ∧ (∀ p : Prop, (True ∧ p) = p) := by
  refine ⟨by simp, by intro a b; cases a <;> cases b <;> simp, by simp, by intro a b; cases a <;> cases b <;> simp, by simp, by simp, by intros; simp, by intros; simp, by simp, by simp, by intros; simp, by intros; simp, by intros; simp, by intros; simp, by intros; simp, by simp, by simp, by simp, by simp, by simp⟩

theorem EvK_while {T : Tab} {K : List Fr} {env : Env} {H : Heap} {Q : Po} {g : List Nat} {c : C} {ι : Type} (i0 : ι) (Inv : ι → Env → Heap → Prop) (m : ι → Nat) (h0 : Inv i0 env H)
    (hs : ∀ i e h, Inv i e h → (∀ j e' h', m j < m i → Inv j e' h' → EvK T (.loop g c) K e' h' Q) → EvK T c (.loop g c :: K) (forget g e) h Q) : EvK T (.loop g c) K env H Q := by
  suffices h : ∀ n i e h, m i < n → Inv i e h → EvK T (.loop g c) K e h Q from h (m i0 + 1) i0 env H (by omega) h0
  intro n
  induction n with
  | zero => intro i e h hm; omega
  | succ n ih =>
    intro i e h hm hi
    rw [EvK_loop]
    exact hs i e h hi fun j e' h' hj hi' => ih j e' h' (by omega) hi'

end Ve
end Go.Proofs.YtnociodpfmlglaaGreatDoor

/-
  Rows of the machine's memory that the run makes itself, by append; parts of slices.
-/
set_option linter.unusedVariables false
set_option linter.unusedSimpArgs false
namespace Go.Proofs.YtnociodpfmlglaaGreatDoor
namespace Ve
open Go

section
variable {env : Env} {H : Heap}
attribute [go_sem] Option.map_some Option.map_none
/-- A part of a slice, the bounds as values. -/
def slV (size : Nat) (x : Value) (lo hi mx : Option Value) : Option Value := slslV size x [] (lo.map .const) (hi.map .const) (mx.map .const)
@[go_sem] theorem evI_slsl {size : Nat} {x : Operand} {lo hi mx : Option Operand} : evI env H (.slsl size x lo hi mx) = retO H (slV size (rd env x) (lo.map (rd env)) (hi.map (rd env)) (mx.map (rd env))) := by
  have e : slslV size (rd env x) env lo hi mx = slV size (rd env x) (lo.map (rd env)) (hi.map (rd env)) (mx.map (rd env)) := by
    cases lo <;> cases hi <;> cases mx <;> rfl
  rw [← e]; exact ret_def
theorem asNat_int {y : Nat} {k : IntKind} {n : Int} (h0 : 0 ≤ n) (h1 : n ≤ (y : Int)) : asNat y (.int k n) = some n.toNat := if_pos ⟨h0, h1⟩
/-- The address without its mark. -/
def bare : Option Addr → Option Addr
  | some ⟨i, o, _⟩ => some ⟨i, o, none⟩
  | none => none
@[go_sem] theorem bare_some {i o : Nat} {s : Option Nat} : bare (some ⟨i, o, s⟩) = some ⟨i, o, none⟩ := rfl
@[go_sem] theorem bare_none : bare none = none := rfl
/-- x[:n:n] -/
theorem slV_hm {size len cap : Nat} {a : Option Addr} {k k' : IntKind} {n : Int} (h0 : 0 ≤ n) (h1 : n ≤ len) (h2 : len ≤ cap) :
    slV size (.slice a len cap) none (some (.int k n)) (some (.int k' n)) = some (.slice (bare a) n.toNat n.toNat) := by
  have e1 : bound [] cap cap (some (.const (.int k' n))) = some n.toNat := asNat_int (k := k') h0 (by omega)
  have e2 : ∀ d, bound [] n.toNat d (some (.const (.int k n))) = some n.toNat := fun d => asNat_int (k := k) h0 (by omega)
  have e3 : bound [] n.toNat 0 none = some 0 := rfl
  simp only [slV, slslV, Option.map_some, Option.map_none, e1, Option.isSome_some, if_true, e2, Nat.lt_irrefl, if_false, e3, Nat.sub_zero]
  cases a with
  | none => rfl
  | some a =>
    obtain ⟨i, o, s⟩ := a
    cases s with
    | none => simp [bare]
    | some s => simp [bare]
attribute [go_sem] slV_hm

/-! append -/
def appO (ty size bytes : Nat) (H : Heap) (s x : Value) : Option Out :=
  match lenOf x with
  | some n => match cellsIn H size n x with | some new => appendV ty size bytes H s n new | none => none
  | none => none
@[go_sem] theorem evI_append {ty size bytes : Nat} {s x : Operand} : evI env H (.append ty size bytes s x) = appO ty size bytes H (rd env s) (rd env x) := rfl
theorem appO_gsl {ty size bytes n : Nat} {s : Value} {l : List Value} (h0 : 0 < l.length) (h : l.length = n * size) : appO ty size bytes H s (gslV n l) = appendV ty size bytes H s n l := by
  have e1 : lenOf (gslV n l) = some n := by simp [lenOf, gslV]
  have e2 : cellsIn H size n (gslV n l) = some l := by
    simp only [cellsIn, gslV]
    rw [if_pos ⟨h, by omega⟩]
  simp only [appO, e1, e2]
theorem appO_str {ty bytes : Nat} {s : Value} {l : List UInt8} : appO ty 1 bytes H s (strOf l) = appendV ty 1 bytes H s l.length (byteCells l) := by
  have e1 : lenOf (strOf l) = some l.length := rfl
  have e2 : cellsIn H 1 l.length (strOf l) = some (byteCells l) := by
    simp only [cellsIn, strOf, bytesOf_mk, if_true, List.take_length]
  simp only [appO, e1, e2]

/-- A row that only this slice leads to: made by append. -/
def OwnS (g : Nat) (H : Heap) (s : Value) (ty size : Nat) (cells : List Value) : Prop :=
  (cells = [] ∧ s = .slice none 0 0) ∨ ∃ i n, g ≤ i ∧ 0 < n ∧ cells.length = n * size ∧ s = .slice (some ⟨i, 0, some size⟩) n n ∧ H[i]? = some (.cells cells (.loose (some ty)) 0)
def sBlk : Value → Option Nat
  | .slice (some ⟨i, _, _⟩) _ _ => some i
  | _ => none
theorem OwnS.nil {g : Nat} {ty size : Nat} : OwnS g H (.slice none 0 0) ty size [] := .inl ⟨rfl, rfl⟩
theorem OwnS.one {g : Nat} {s : Value} {ty size : Nat} {cells : List Value} (h : OwnS g H s ty size cells) : one s = true ∧ cellsOf s = some [s] := by
  rcases h with ⟨_, rfl⟩ | ⟨i, n, _, _, _, rfl, _⟩ <;> exact ⟨rfl, rfl⟩
theorem OwnS.len {g : Nat} {s : Value} {ty size : Nat} {cells : List Value} (h : OwnS g H s ty size cells) (hs : 0 < size) : ∃ a n, s = .slice a n n ∧ cells.length = n * size := by
  rcases h with ⟨rfl, rfl⟩ | ⟨i, n, _, _, h1, rfl, _⟩
  · exact ⟨none, 0, rfl, by simp⟩
  · exact ⟨_, n, rfl, h1⟩
/-- The row stays where nothing touches it. -/
theorem OwnS.keep {g : Nat} {H' : Heap} {s : Value} {ty size : Nat} {cells : List Value} (h : OwnS g H s ty size cells) (hk : ∀ i, sBlk s = some i → H'[i]? = H[i]?) : OwnS g H' s ty size cells := by
  rcases h with ⟨rfl, rfl⟩ | ⟨i, n, h1, h2, h3, rfl, h4⟩
  · exact .inl ⟨rfl, rfl⟩
  · exact .inr ⟨i, n, h1, h2, h3, rfl, by rw [hk i rfl]; exact h4⟩
theorem OwnS.ext {g : Nat} {J : Heap} {s : Value} {ty size : Nat} {cells : List Value} (h : OwnS g H s ty size cells) : OwnS g (H ++ J) s ty size cells := by
  rcases h with ⟨rfl, rfl⟩ | ⟨i, n, h1, h2, h3, rfl, h4⟩
  · exact .inl ⟨rfl, rfl⟩
  · exact .inr ⟨i, n, h1, h2, h3, rfl, by rw [List.getElem?_append_left (List.getElem?_eq_some_iff.1 h4).1]; exact h4⟩

theorem OwnS.append {g : Nat} {s : Value} {ty size bytes n : Nat} {cells new : List Value} (h : OwnS g H s ty size cells) (hg : g ≤ H.length) (hs : 0 < size) (hn : 0 < n) (hnew : new.length = n * size) (hone : new.all Ve.one = true)
    (hb : (2 * (cells.length + n) + 1024) * bytes ≤ 140737488355328) (hb2 : cells.length + n ≤ 140737488355328) :
    ∃ s' H', appendV ty size bytes H s n new = some (.ret s' H') ∧ OwnS g H' s' ty size (cells ++ new) ∧ H'.length = H.length + 1 ∧ (∀ j, j < H.length → sBlk s ≠ some j → H'[j]? = H[j]?) ∧ sBlk s' = some H.length := by
  rcases h with ⟨rfl, rfl⟩ | ⟨i, m, h1, h2, h3, rfl, h4⟩
  · refine ⟨.slice (some ⟨H.length, 0, some size⟩) n n, H ++ [.cells new (.loose (some ty)) 0], ?_, .inr ⟨H.length, n, hg, hn, by simpa using hnew, rfl, by simp⟩, by simp, fun j hj _ => List.getElem?_append_left hj, rfl⟩
    have c1 : ¬ 0 + n ≤ 0 := by omega
    simp only [appendV, c1, if_false]
    rw [if_pos ⟨by simpa using hb, by simpa using hb2, hs, hone⟩]
    simp [push]
  · have hi := (List.getElem?_eq_some_iff.1 h4).1
    have hml : m ≤ cells.length := by rw [h3]; exact Nat.le_mul_of_pos_right m hs
    refine ⟨.slice (some ⟨H.length, 0, some size⟩) (m + n) (m + n), H.set i .dead ++ [.cells (cells ++ new) (.loose (some ty)) 0], ?_, .inr ⟨H.length, m + n, hg, by omega, ?_, rfl, by simp⟩, by simp, fun j hj hne => ?_, rfl⟩
    · have c1 : ¬ m + n ≤ m := by omega
      have c2 : (2 * (m + n) + 1024) * bytes ≤ 140737488355328 := Nat.le_trans (Nat.mul_le_mul_right _ (by omega)) hb
      simp only [appendV, c1, if_false]
      rw [if_pos ⟨c2, by omega, hs, hone⟩, h4]
      simp only []
      rw [if_pos ⟨by omega, trivial, by omega⟩]
      simp [push]
    · rw [List.length_append, h3, hnew, Nat.add_mul]
    · have : i ≠ j := fun e => hne (by rw [e]; rfl)
      rw [List.getElem?_append_left (by simpa using hj), List.getElem?_set_ne this]

theorem ext_of {H H' : Heap} (hl : H.length ≤ H'.length) (h : ∀ j, j < H.length → H'[j]? = H[j]?) : Ext H H' := by
  refine ⟨H'.drop H.length, ?_⟩
  apply List.ext_getElem?
  intro i
  by_cases hi : i < H.length
  · rw [List.getElem?_append_left hi, h i hi]
  · rw [List.getElem?_append_right (by omega), List.getElem?_drop]
    congr 1; omega
end

@[go_sem] theorem beq_ft : (false == true) = false := rfl
@[go_sem] theorem beq_tf : (true == false) = false := rfl

/-- Numbers in memory. -/
def IntsAt (H : Heap) (v : Value) (l : List Nat) : Prop := ∃ a c, l.length ≤ c ∧ v = .slice a l.length c ∧ ∀ k, (h : k < l.length) → ∃ i o s, a = some ⟨i, o, s⟩ ∧ get1 H i (o + k) = some (.int .i64 (l[k] : Nat))
theorem IntsAt.ext {H J : Heap} {v : Value} {l : List Nat} (h : IntsAt H v l) : IntsAt (H ++ J) v l := by
  obtain ⟨a, c, h1, h2, h3⟩ := h
  refine ⟨a, c, h1, h2, fun k hk => ?_⟩
  obtain ⟨i, o, s, h4, h5⟩ := h3 k hk
  exact ⟨i, o, s, h4, by rw [get1_app_lt (get1_lt h5)]; exact h5⟩
theorem IntsAt.nil {H : Heap} : IntsAt H (.slice none 0 0) [] := ⟨none, 0, by simp, rfl, fun k h => by cases h⟩
def intCells (l : List Nat) : List Value := l.map fun n => .int .i64 (n : Nat)
theorem OwnS.ints {g : Nat} {H : Heap} {s : Value} {ty : Nat} {l : List Nat} (h : OwnS g H s ty 1 (intCells l)) : IntsAt H s l := by
  rcases h with ⟨h1, rfl⟩ | ⟨i, n, h1, h2, h3, rfl, h4⟩
  · have : l = [] := by simpa [intCells] using h1
    subst this; exact .nil
  · have hn : n = l.length := by simpa [intCells] using h3.symm
    subst hn
    refine ⟨_, _, Nat.le_refl _, rfl, fun k hk => ⟨i, 0, some 1, rfl, ?_⟩⟩
    rw [Nat.zero_add, get1_of h4]
    simp [intCells, hk]

end Ve
end Go.Proofs.YtnociodpfmlglaaGreatDoor

/-
  Documents in the machine's memory.
-/
set_option linter.unusedVariables false
set_option linter.unusedSimpArgs false
namespace Go.Proofs.YtnociodpfmlglaaGreatDoor
namespace Ve
open Go

abbrev Str := List UInt8
structure Num where
  neg : Bool
  dig : Str
  exp : Int
  deriving DecidableEq
inductive Doc where
  | mk (kind : Int) (b : Bool) (num : Num) (text : Str) (list : List Doc) (keys : List Str)

def Doc.kind : Doc → Int | .mk k _ _ _ _ _ => k
def Doc.b : Doc → Bool | .mk _ b _ _ _ _ => b
def Doc.num : Doc → Num | .mk _ _ n _ _ _ => n
def Doc.text : Doc → Str | .mk _ _ _ t _ _ => t
def Doc.list : Doc → List Doc | .mk _ _ _ _ l _ => l
def Doc.keys : Doc → List Str | .mk _ _ _ _ _ ks => ks

def i64 (n : Int) : Prop := -9223372036854775808 ≤ n ∧ n ≤ 9223372036854775807

/-- The cells of the k-th element, of n cells, of a slice. -/
def elAt (H : Heap) (n : Nat) (a : Option Addr) (k : Nat) : Option (List Value) := match a with | some ⟨i, o, _⟩ => getN H i (o + k * n) n | none => none

/-- A document's cells. -/
inductive DocAt (H : Heap) : List Value → Doc → Prop
  | mk (kind : Int) (b : Bool) (num : Num) (text : Str) (list : List Doc) (keys : List Str) (la : Option Addr) (lc : Nat) (ka : Option Addr) (kc : Nat) (cs : Nat → List Value)
      (hi : i64 kind ∧ i64 num.exp) (hk : ∀ k, (h : k < keys.length) → elAt H 1 ka k = some [strOf keys[k]])
      (hg : ∀ k, k < list.length → elAt H 8 la k = some (cs k)) (hd : ∀ k, (h : k < list.length) → DocAt H (cs k) list[k]) :
      DocAt H [.int .i64 kind, .bool b, .bool num.neg, strOf num.dig, .int .i64 num.exp, strOf text, .slice la list.length lc, .slice ka keys.length kc] (.mk kind b num text list keys)

theorem elAt_ext {H J : Heap} {n : Nat} {a : Option Addr} {k : Nat} {l : List Value} (h : elAt H n a k = some l) : elAt (H ++ J) n a k = some l := by
  cases a with
  | none => cases h
  | some a =>
    obtain ⟨i, o, s⟩ := a
    simp only [elAt] at h ⊢
    rw [getN_app_lt (getN_lt h)]; exact h

theorem DocAt.ext {H J : Heap} {cs : List Value} {d : Doc} (h : DocAt H cs d) : DocAt (H ++ J) cs d := by
  induction h with
  | mk kind b num text list keys la lc ka kc cs hi hk hg hd ih =>
    exact .mk kind b num text list keys la lc ka kc cs hi (fun k h => elAt_ext (hk k h)) (fun k h => elAt_ext (hg k h)) ih

theorem DocAt.cells {H : Heap} {cs : List Value} {d : Doc} (h : DocAt H cs d) : cs.all one = true ∧ cs.length = 8 ∧ cs.take 8 = cs := by
  obtain @⟨kind, b, num, text, list, keys, la, lc, ka, kc, cs, hi, hk, hg, hdl⟩ := h
  exact ⟨rfl, rfl, rfl⟩

theorem DocAt.beq {H : Heap} {cs : List Value} {d : Doc} (h : DocAt H cs d) : beqL cs cs = true := by
  obtain @⟨kind, b, num, text, list, keys, la, lc, ka, kc, cs, hi, hk, hg, hdl⟩ := h
  simp [go_sem]

mutual
def nodes : Doc → Nat
  | .mk _ _ _ _ list _ => 1 + nodesL list
def nodesL : List Doc → Nat
  | [] => 0
  | d :: l => nodes d + nodesL l
end
mutual
def levels : Doc → Nat
  | .mk _ _ _ _ list _ => levelsL list + 1
def levelsL : List Doc → Nat
  | [] => 0
  | d :: l => max (levels d) (levelsL l)
end
theorem nodesL_append : ∀ (a b : List Doc), nodesL (a ++ b) = nodesL a + nodesL b
  | [], b => by simp [nodesL]
  | d :: a, b => by simp only [List.cons_append, nodesL, nodesL_append a b]; omega
theorem levelsL_append : ∀ (a b : List Doc), levelsL (a ++ b) = max (levelsL a) (levelsL b)
  | [], b => by simp [levelsL]
  | d :: a, b => by simp only [List.cons_append, levelsL, levelsL_append a b]; omega
theorem take_snoc {α : Type} {l : List α} {k : Nat} (h : k < l.length) : l.take (k + 1) = l.take k ++ [l[k]] := by
  rw [List.take_succ_eq_append_getElem h]
theorem nodesL_take {l : List Doc} {k : Nat} (h : k < l.length) : nodesL (l.take (k + 1)) = nodesL (l.take k) + nodes l[k] := by
  rw [take_snoc h, nodesL_append]; try simp [nodesL]
theorem levelsL_take {l : List Doc} {k : Nat} (h : k < l.length) : levelsL (l.take (k + 1)) = max (levelsL (l.take k)) (levels l[k]) := by
  rw [take_snoc h, levelsL_append]; try simp [levelsL]
theorem nodesL_take_le (l : List Doc) (k : Nat) : nodesL (l.take k) ≤ nodesL l := by
  have := nodesL_append (l.take k) (l.drop k)
  rw [List.take_append_drop] at this
  omega
theorem nodes_le {l : List Doc} {k : Nat} (h : k < l.length) : nodes l[k] ≤ nodesL l := by
  have := nodesL_take h
  have := nodesL_take_le l (k + 1)
  omega
mutual
theorem levels_le : ∀ d : Doc, levels d ≤ nodes d
  | .mk _ _ _ _ list _ => by have := levelsL_le list; simp only [levels, nodes]; omega
theorem levelsL_le : ∀ l : List Doc, levelsL l ≤ nodesL l
  | [] => by simp [levelsL]
  | d :: l => by have := levels_le d; have := levelsL_le l; simp only [levelsL, nodesL]; omega
end
theorem length_le_nodesL : ∀ l : List Doc, l.length ≤ nodesL l
  | [] => by simp
  | d :: l => by
    have := length_le_nodesL l
    have h : 1 ≤ nodes d := by cases d; simp [nodes]
    simp only [List.length_cons, nodesL]; omega

mutual
def bulk : Doc → Nat
  | .mk _ _ num text list keys => 1 + num.dig.length + text.length + (keys.map fun k => 1 + k.length).sum + bulkL list
def bulkL : List Doc → Nat
  | [] => 0
  | d :: l => bulk d + bulkL l
end
mutual
theorem nodes_bulk : ∀ d : Doc, nodes d ≤ bulk d
  | .mk _ _ _ _ list _ => by have := nodesL_bulk list; simp only [nodes, bulk]; omega
theorem nodesL_bulk : ∀ l : List Doc, nodesL l ≤ bulkL l
  | [] => by simp [nodesL]
  | d :: l => by have := nodes_bulk d; have := nodesL_bulk l; simp only [nodesL, bulkL]; omega
end
theorem bulk_le : ∀ {l : List Doc} {k : Nat} (h : k < l.length), bulk l[k] ≤ bulkL l
  | d :: l, 0, h => by simp only [List.getElem_cons_zero, bulkL]; omega
  | d :: l, k + 1, h => by have := bulk_le (l := l) (k := k) (by simpa using h); simp only [List.getElem_cons_succ, bulkL]; omega
theorem length_le_sum : ∀ l : List Str, l.length ≤ (l.map fun k => 1 + k.length).sum
  | [] => by simp
  | k :: l => by have := length_le_sum l; simp only [List.length_cons, List.map_cons, List.sum_cons]; omega

/-- The address of a list that is not empty. -/
theorem elAt_some {H : Heap} {n : Nat} {a : Option Addr} {k : Nat} {l : List Value} (h : elAt H n a k = some l) : ∃ i o s, a = some ⟨i, o, s⟩ ∧ getN H i (o + k * n) n = some l := by
  cases a with
  | none => cases h
  | some a => obtain ⟨i, o, s⟩ := a; exact ⟨i, o, s, rfl, h⟩

end Ve
end Go.Proofs.YtnociodpfmlglaaGreatDoor

/-
  Natural numbers as limbs of four decimal digits: plain facts.
-/
set_option linter.unusedVariables false
set_option linter.unusedSimpArgs false
namespace Go.Proofs.YtnociodpfmlglaaGreatDoor
namespace Ve

def valL : List Nat → Nat
  | [] => 0
  | d :: l => d + 10000 * valL l
def limbs (n : Nat) : List Nat := if h : n = 0 then [] else n % 10000 :: limbs (n / 10000)
termination_by n
decreasing_by omega

theorem limbs_zero : limbs 0 = [] := by rw [limbs]; simp
theorem limbs_pos {n : Nat} (h : n ≠ 0) : limbs n = n % 10000 :: limbs (n / 10000) := by rw [limbs]; simp [h]
theorem valL_limbs (n : Nat) : valL (limbs n) = n := by
  induction n using Nat.strongRecOn with
  | ind n ih =>
    by_cases h : n = 0
    · subst h; rw [limbs_zero]; rfl
    · rw [limbs_pos h, valL, ih (n / 10000) (by omega)]; omega
theorem limbs_lt {n : Nat} : ∀ d ∈ limbs n, d < 10000 := by
  induction n using Nat.strongRecOn with
  | ind n ih =>
    by_cases h : n = 0
    · subst h; rw [limbs_zero]; simp
    · rw [limbs_pos h]
      intro d hd
      rcases List.mem_cons.1 hd with rfl | hd
      · omega
      · exact ih (n / 10000) (by omega) d hd
theorem valL_pos_of_last : ∀ {l : List Nat} (h : l ≠ []), l.getLast h ≠ 0 → 0 < valL l
  | [d], _, hl => by simp at hl; simp [valL]; omega
  | d :: e :: l, _, hl => by
    have := valL_pos_of_last (l := e :: l) (by simp) (by simpa using hl)
    simp only [valL] at this ⊢; omega
theorem limbs_valL : ∀ {l : List Nat}, (∀ d ∈ l, d < 10000) → (∀ h : l ≠ [], l.getLast h ≠ 0) → limbs (valL l) = l
  | [], _, _ => limbs_zero
  | [d], hd, hl => by
    have h1 := hd d (by simp)
    have h2 := hl (by simp)
    simp at h2
    simp only [valL, Nat.mul_zero, Nat.add_zero]
    rw [limbs_pos h2, Nat.mod_eq_of_lt h1, Nat.div_eq_of_lt h1, limbs_zero]
  | d :: e :: l, hd, hl => by
    have ih := limbs_valL (l := e :: l) (fun x hx => hd x (by simp at hx ⊢; right; exact hx)) (fun h => by have := hl (by simp); simpa using this)
    have hp := valL_pos_of_last (l := e :: l) (by simp) (by have := hl (by simp); simpa using this)
    have h1 := hd d (by simp)
    have e1 : valL (d :: e :: l) = d + 10000 * valL (e :: l) := rfl
    rw [e1, limbs_pos (by omega), show (d + 10000 * valL (e :: l)) % 10000 = d by omega, show (d + 10000 * valL (e :: l)) / 10000 = valL (e :: l) by omega, ih]
theorem limbs_last {n : Nat} : ∀ h : limbs n ≠ [], (limbs n).getLast h ≠ 0 := by
  induction n using Nat.strongRecOn with
  | ind n ih =>
    intro h
    by_cases h0 : n = 0
    · subst h0; exact absurd limbs_zero h
    · have e := limbs_pos h0
      by_cases h1 : n / 10000 = 0
      · have e2 : limbs n = [n % 10000] := by rw [e, h1, limbs_zero]
        simp only [e2, List.getLast_singleton]; omega
      · have hne : limbs (n / 10000) ≠ [] := by rw [limbs_pos h1]; simp
        have := ih (n / 10000) (by omega) hne
        simp only [e, List.getLast_cons hne]
        exact this
theorem valL_append : ∀ (a b : List Nat), valL (a ++ b) = valL a + 10000 ^ a.length * valL b
  | [], b => by simp [valL]
  | d :: a, b => by
    simp only [List.cons_append, valL, valL_append a b, List.length_cons, Nat.pow_succ]
    rw [Nat.mul_add, ← Nat.mul_assoc, Nat.mul_comm 10000 (10000 ^ a.length)]; omega
theorem valL_zeros (n : Nat) : valL (List.replicate n 0) = 0 := by
  induction n with
  | zero => rfl
  | succ n ih => simp [List.replicate_succ, valL, ih]
/-- What is left without zeros at the end. -/
theorem limbs_take {l : List Nat} {n : Nat} (hd : ∀ d ∈ l, d < 10000) (hz : ∀ k, (h : k < l.length) → n ≤ k → l[k] = 0) (hn : n ≤ l.length) (hl : ∀ h : 0 < n, l[n - 1]'(by omega) ≠ 0) : limbs (valL l) = l.take n := by
  have e : l = l.take n ++ l.drop n := (List.take_append_drop n l).symm
  have e2 : l.drop n = List.replicate (l.length - n) 0 := by
    apply List.ext_getElem (by simp)
    intro i h1 h2
    simp at h1 ⊢
    exact hz (n + i) (by omega) (by omega)
  have hv : valL l = valL (l.take n) := by
    conv => lhs; rw [e]
    rw [valL_append, e2, valL_zeros]; simp
  rw [hv]
  refine limbs_valL (fun d h => hd d (List.mem_of_mem_take h)) fun h => ?_
  have hn0 : 0 < n := by
    cases n with
    | zero => simp at h
    | succ n => omega
  have := hl hn0
  rw [List.getLast_eq_getElem]
  simp only [List.length_take, Nat.min_eq_left hn, List.getElem_take]
  exact this
theorem valL_lt : ∀ {l : List Nat}, (∀ d ∈ l, d < 10000) → valL l < 10000 ^ l.length
  | [], _ => by simp [valL]
  | d :: l, h => by
    have h1 := h d (by simp)
    have h2 := valL_lt (l := l) (fun x hx => h x (by simp [hx]))
    simp only [valL, List.length_cons, Nat.pow_succ]; omega
theorem valL_ge {l : List Nat} (h : l ≠ []) (hl : l.getLast h ≠ 0) : 10000 ^ (l.length - 1) ≤ valL l := by
  have e : l = l.dropLast ++ [l.getLast h] := (List.dropLast_concat_getLast h).symm
  have hv : valL l = valL l.dropLast + 10000 ^ l.dropLast.length * l.getLast h := by
    conv => lhs; rw [e]
    rw [valL_append]; simp [valL]
  rw [hv, List.length_dropLast]
  have : 10000 ^ (l.length - 1) * 1 ≤ 10000 ^ (l.length - 1) * l.getLast h := Nat.mul_le_mul_left _ (by omega)
  omega
theorem limbs_length_lt {a b : Nat} (h : (limbs a).length < (limbs b).length) : a < b := by
  have h1 := valL_lt (l := limbs a) limbs_lt
  have hne : limbs b ≠ [] := by intro e; rw [e] at h; simp at h
  have h2 := valL_ge hne (limbs_last hne)
  rw [valL_limbs] at h1 h2
  have : 10000 ^ (limbs a).length ≤ 10000 ^ ((limbs b).length - 1) := Nat.pow_le_pow_right (by omega) (by omega)
  omega
theorem limbs_length_of {n k : Nat} (h : n < 10000 ^ k) : (limbs n).length ≤ k := by
  by_cases hh : (limbs n).length ≤ k
  · exact hh
  · have hne : limbs n ≠ [] := by intro e; rw [e] at hh; simp at hh
    have h2 := valL_ge hne (limbs_last hne)
    rw [valL_limbs] at h2
    have : 10000 ^ k ≤ 10000 ^ ((limbs n).length - 1) := Nat.pow_le_pow_right (by omega) (by omega)
    omega
theorem limbs_length_le {a b : Nat} (h : a ≤ b) : (limbs a).length ≤ (limbs b).length := by
  by_cases hh : (limbs b).length < (limbs a).length
  · have := limbs_length_lt hh; omega
  · omega
/-- The highest limb that differs decides. -/
theorem valL_cmp {a b : List Nat} {i : Nat} (hl : a.length = b.length) (hi : i < a.length) (ha : ∀ d ∈ a, d < 10000) (hb : ∀ d ∈ b, d < 10000) (he : a.drop (i + 1) = b.drop (i + 1)) (hlt : a[i] < b[i]'(by omega)) : valL a < valL b := by
  have ea : a = a.take i ++ (a[i] :: a.drop (i + 1)) := by rw [← List.drop_eq_getElem_cons hi, List.take_append_drop]
  have eb : b = b.take i ++ (b[i]'(by omega) :: b.drop (i + 1)) := by rw [← List.drop_eq_getElem_cons (by omega : i < b.length), List.take_append_drop]
  have va : valL a = valL (a.take i) + 10000 ^ i * (a[i] + 10000 * valL (a.drop (i + 1))) := by
    conv => lhs; rw [ea]
    rw [valL_append, List.length_take, Nat.min_eq_left (by omega)]; rfl
  have vb : valL b = valL (b.take i) + 10000 ^ i * (b[i]'(by omega) + 10000 * valL (b.drop (i + 1))) := by
    conv => lhs; rw [eb]
    rw [valL_append, List.length_take, Nat.min_eq_left (by omega)]; rfl
  have h1 := valL_lt (l := a.take i) (fun d h => ha d (List.mem_of_mem_take h))
  rw [List.length_take, Nat.min_eq_left (by omega)] at h1
  rw [va, vb, he]
  have h2 : 10000 ^ i * (a[i] + 10000 * valL (b.drop (i + 1)) + 1) ≤ 10000 ^ i * (b[i]'(by omega) + 10000 * valL (b.drop (i + 1))) := Nat.mul_le_mul_left _ (by omega)
  rw [Nat.mul_add (10000 ^ i) _ 1] at h2
  omega
theorem valL_set : ∀ {l : List Nat} {j : Nat} (x : Nat) (h : j < l.length), valL (l.set j x) + l[j] * 10000 ^ j = valL l + x * 10000 ^ j
  | d :: l, 0, x, h => by simp [valL]; omega
  | d :: l, j + 1, x, h => by
    have hj : j < l.length := by simpa using h
    have := valL_set (l := l) (j := j) x (by simpa using h)
    simp only [List.set_cons_succ, valL, List.getElem_cons_succ, Nat.pow_succ]
    have e1 : l[j] * (10000 ^ j * 10000) = 10000 * (l[j] * 10000 ^ j) := by rw [Nat.mul_comm (10000 ^ j) 10000, ← Nat.mul_assoc, Nat.mul_comm l[j] 10000, Nat.mul_assoc]
    have e2 : x * (10000 ^ j * 10000) = 10000 * (x * 10000 ^ j) := by rw [Nat.mul_comm (10000 ^ j) 10000, ← Nat.mul_assoc, Nat.mul_comm x 10000, Nat.mul_assoc]
    rw [e1, e2]; omega

/-- The value of a row of digits. -/
def digV : List UInt8 → Nat → Nat
  | [], n => n
  | c :: l, n => digV l (10 * n + (c.toNat - 48))
def digVal (l : List UInt8) : Nat := digV l 0
theorem digV_append : ∀ (a b : List UInt8) (n : Nat), digV (a ++ b) n = digV b (digV a n)
  | [], b, n => rfl
  | c :: a, b, n => by simp only [List.cons_append, digV]; exact digV_append a b _
theorem digV_eq : ∀ (l : List UInt8) (n : Nat), digV l n = n * 10 ^ l.length + digV l 0
  | [], n => by simp [digV]
  | c :: l, n => by
    simp only [digV, List.length_cons, Nat.pow_succ]
    rw [digV_eq l (10 * n + (c.toNat - 48)), digV_eq l (10 * 0 + (c.toNat - 48)), Nat.mul_zero, Nat.zero_add, Nat.add_mul]
    have : 10 * n * 10 ^ l.length = n * (10 ^ l.length * 10) := by rw [Nat.mul_comm 10 n, Nat.mul_assoc, Nat.mul_comm 10]
    rw [this, Nat.add_assoc]
theorem digVal_append (a b : List UInt8) : digVal (a ++ b) = digVal a * 10 ^ b.length + digVal b := by
  unfold digVal; rw [digV_append, digV_eq b]
theorem digVal_nil : digVal [] = 0 := rfl
theorem digVal_snoc (a : List UInt8) (c : UInt8) : digVal (a ++ [c]) = digVal a * 10 + (c.toNat - 48) := by
  rw [digVal_append]; simp [digVal, digV]

theorem digVal_lt : ∀ (l : List UInt8), (∀ c ∈ l, c.toNat ≤ 57) → digVal l < 10 ^ l.length
  | [], _ => by simp [digVal_nil]
  | c :: l, h => by
    have h1 := digVal_lt l fun c hc => h c (by simp [hc])
    have h2 := h c (by simp)
    have e : digVal (c :: l) = (c.toNat - 48) * 10 ^ l.length + digVal l := by
      have := digVal_append [c] l
      simpa [digVal, digV] using this
    rw [e, List.length_cons, Nat.pow_succ]
    have : (c.toNat - 48) * 10 ^ l.length ≤ 9 * 10 ^ l.length := Nat.mul_le_mul_right _ (by omega)
    omega

end Ve
end Go.Proofs.YtnociodpfmlglaaGreatDoor
