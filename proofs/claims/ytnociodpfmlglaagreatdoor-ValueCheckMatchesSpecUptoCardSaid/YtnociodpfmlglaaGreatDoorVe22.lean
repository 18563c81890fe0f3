/-
  The memory of the deterministic machine as rewriting rules.
-/
import Derived.Test.YtnociodpfmlglaaGreatDoorVe21
set_option linter.unusedVariables false
set_option linter.unusedSimpArgs false
namespace Go.Proofs.YtnociodpfmlglaaGreatDoor
namespace Ve
open Go
section
variable {H L : Heap}
@[go_sem] theorem push_def {b : Blk} : push H b = H ++ [b] := rfl
attribute [go_sem] List.append_assoc List.length_append List.length_set
def cellO (b : Option Blk) (o : Nat) : Option Value := match b with | some (.cells c _ _) => c[o]? | _ => none
theorem get1_bk {i o : Nat} : get1 H i o = cellO H[i]? o := rfl
theorem get1_app_lt {i o : Nat} (h : i < H.length) : get1 (H ++ L) i o = get1 H i o := by simp only [get1_bk, List.getElem?_append_left h]
@[go_sem] theorem get1_app_add {k o : Nat} : get1 (H ++ L) (H.length + k) o = get1 L k o := by
  simp only [get1_bk]; rw [List.getElem?_append_right (by omega), Nat.add_sub_cancel_left]
@[go_sem] theorem get1_app_zero {o : Nat} : get1 (H ++ L) H.length o = get1 L 0 o := get1_app_add (k := 0)
theorem get1_app_ge {i o : Nat} (h : H.length ≤ i) : get1 (H ++ L) i o = get1 L (i - H.length) o := by simp only [get1_bk, List.getElem?_append_right h]
@[go_sem] theorem get1_cons_succ {b : Blk} {k o : Nat} : get1 (b :: L) (k + 1) o = get1 L k o := by simp only [get1_bk, List.getElem?_cons_succ]
@[go_sem] theorem get1_cons_zero {c : List Value} {m : Mode} {fz o : Nat} : get1 (.cells c m fz :: L) 0 o = c[o]? := rfl
theorem get1_of {i o : Nat} {c : List Value} {m : Mode} {fz : Nat} (h : H[i]? = some (.cells c m fz)) : get1 H i o = c[o]? := by simp only [get1_bk, h, cellO]

def cellsO (b : Option Blk) (o n : Nat) : Option (List Value) := match b with | some (.cells c _ _) => if o + n ≤ c.length then some ((c.drop o).take n) else none | _ => none
theorem getN_bk {i o n : Nat} : getN H i o n = cellsO H[i]? o n := rfl
theorem getN_app_lt {i o n : Nat} (h : i < H.length) : getN (H ++ L) i o n = getN H i o n := by simp only [getN_bk, List.getElem?_append_left h]
@[go_sem] theorem getN_app_add {k o n : Nat} : getN (H ++ L) (H.length + k) o n = getN L k o n := by
  simp only [getN_bk]; rw [List.getElem?_append_right (by omega), Nat.add_sub_cancel_left]
@[go_sem] theorem getN_app_zero {o n : Nat} : getN (H ++ L) H.length o n = getN L 0 o n := getN_app_add (k := 0)
theorem getN_app_ge {i o n : Nat} (h : H.length ≤ i) : getN (H ++ L) i o n = getN L (i - H.length) o n := by simp only [getN_bk, List.getElem?_append_right h]
@[go_sem] theorem getN_cons_succ {b : Blk} {k o n : Nat} : getN (b :: L) (k + 1) o n = getN L k o n := by simp only [getN_bk, List.getElem?_cons_succ]
@[go_sem] theorem getN_cons_zero {c : List Value} {m : Mode} {fz o n : Nat} : getN (.cells c m fz :: L) 0 o n = if o + n ≤ c.length then some ((c.drop o).take n) else none := rfl
theorem getN_of {i o n : Nat} {c : List Value} {m : Mode} {fz : Nat} (h : H[i]? = some (.cells c m fz)) : getN H i o n = if o + n ≤ c.length then some ((c.drop o).take n) else none := by simp only [getN_bk, h, cellsO]
theorem get1_getN {i o n k : Nat} {l : List Value} (h : getN H i o n = some l) (hk : k < n) : get1 H i (o + k) = l[k]? := by
  simp only [getN_bk, get1_bk] at h ⊢
  cases hb : H[i]? with
  | none => rw [hb] at h; cases h
  | some b =>
    rw [hb] at h
    cases b with
    | cells c m fz =>
      simp only [cellsO] at h
      split at h
      · cases h; simp only [cellO, List.getElem?_take, hk, if_true, List.getElem?_drop]
      · cases h
    | _ => cases h
theorem getN_length {i o n : Nat} {l : List Value} (h : getN H i o n = some l) : l.length = n := by
  simp only [getN_bk] at h
  unfold cellsO at h
  split at h
  · split at h
    · cases h; simp; omega
    · cases h
  · cases h
theorem getN_sub {i o n k m : Nat} {l : List Value} (h : getN H i o n = some l) (hk : k + m ≤ n) : getN H i (o + k) m = some ((l.drop k).take m) := by
  simp only [getN_bk] at h ⊢
  unfold cellsO at h ⊢
  split at h
  · split at h
    · rename_i c _ _ heq hle
      cases h
      rw [if_pos (by omega), ← List.drop_drop, List.drop_take, List.take_take, Nat.min_eq_left (by omega)]
    · cases h
  · cases h
theorem getN_lt {i o n : Nat} {l : List Value} (h : getN H i o n = some l) : i < H.length := by
  simp only [getN_bk] at h
  cases hb : H[i]? with
  | none => rw [hb] at h; cases h
  | some b => exact (List.getElem?_eq_some_iff.1 hb).1
theorem get1_lt {i o : Nat} {v : Value} (h : get1 H i o = some v) : i < H.length := by
  simp only [get1_bk] at h
  cases hb : H[i]? with
  | none => rw [hb] at h; cases h
  | some b => exact (List.getElem?_eq_some_iff.1 hb).1
theorem getN_one {i o : Nat} {v : Value} (h : get1 H i o = some v) : getN H i o 1 = some [v] := by
  simp only [getN_bk, get1_bk] at h ⊢
  unfold cellO at h; unfold cellsO
  split at h
  · rename_i c _ _ heq
    have := (List.getElem?_eq_some_iff.1 h).1
    rw [if_pos (by omega), List.drop_eq_getElem_cons this, List.take_succ_cons, List.take_zero]
    rw [(List.getElem?_eq_some_iff.1 h).2]
  · cases h

def putB (H : Heap) (i o : Nat) (vs : List Value) (b : Option Blk) : Option Heap :=
  match b with
  | some (.cells c m fz) => if m ≠ .ro ∧ fz ≤ o ∧ o + vs.length ≤ c.length ∧ vs.all one = true then some (H.set i (.cells (splice c o vs) m fz)) else none
  | _ => none
@[go_sem] theorem putN_bk {i o : Nat} {v : Value} {vs : List Value} : putN H i o (v :: vs) = putB H i o (v :: vs) H[i]? := by
  simp only [putN, putB, List.isEmpty_cons, Bool.false_eq_true, if_false]
  rfl
theorem putN_pos {i o : Nat} {vs : List Value} (h : 0 < vs.length) : putN H i o vs = putB H i o vs H[i]? := by
  cases vs with
  | nil => simp at h
  | cons v vs => exact putN_bk
@[go_sem] theorem putN_nil {i o : Nat} : putN H i o [] = some H := rfl
theorem putB_fix {i o : Nat} {vs c : List Value} {t : Option Nat} {fz : Nat} (h1 : fz ≤ o) (h2 : o + vs.length ≤ c.length) (h3 : vs.all one = true) : putB H i o vs (some (.cells c (.fix t) fz)) = some (H.set i (.cells (splice c o vs) (.fix t) fz)) := by
  simp only [putB, ne_eq, reduceCtorEq, not_false_eq_true, true_and]
  rw [if_pos ⟨h1, h2, h3⟩]
theorem putB_loose {i o : Nat} {vs c : List Value} {t : Option Nat} {fz : Nat} (h1 : fz ≤ o) (h2 : o + vs.length ≤ c.length) (h3 : vs.all one = true) : putB H i o vs (some (.cells c (.loose t) fz)) = some (H.set i (.cells (splice c o vs) (.loose t) fz)) := by
  simp only [putB, ne_eq, reduceCtorEq, not_false_eq_true, true_and]
  rw [if_pos ⟨h1, h2, h3⟩]
theorem ix_app_lt {i : Nat} (h : i < H.length) : (H ++ L)[i]? = H[i]? := List.getElem?_append_left h
@[go_sem] theorem ix_app_add {k : Nat} : (H ++ L)[H.length + k]? = L[k]? := by rw [List.getElem?_append_right (by omega), Nat.add_sub_cancel_left]
@[go_sem] theorem ix_app_zero : (H ++ L)[H.length]? = L[0]? := ix_app_add (k := 0)
theorem ix_app_ge {i : Nat} (h : H.length ≤ i) : (H ++ L)[i]? = L[i - H.length]? := List.getElem?_append_right h
theorem set_app_lt {i : Nat} {b : Blk} (h : i < H.length) : (H ++ L).set i b = H.set i b ++ L := by rw [List.set_append_left i b h]
@[go_sem] theorem set_app_add {k : Nat} {b : Blk} : (H ++ L).set (H.length + k) b = H ++ L.set k b := by rw [List.set_append_right _ _ (by omega), Nat.add_sub_cancel_left]
@[go_sem] theorem set_app_zero {b : Blk} : (H ++ L).set H.length b = H ++ L.set 0 b := set_app_add (k := 0)
attribute [go_sem] List.set_cons_zero List.set_cons_succ

/-- Memory that has only grown. -/
def Ext (H H' : Heap) : Prop := ∃ J, H' = H ++ J
theorem Ext.refl : Ext H H := ⟨[], by simp⟩
theorem Ext.trans {A B D : Heap} (h : Ext A B) (k : Ext B D) : Ext A D := by obtain ⟨x, rfl⟩ := h; obtain ⟨y, rfl⟩ := k; exact ⟨x ++ y, by simp⟩
theorem Ext.app {A : Heap} {J : Heap} : Ext A (A ++ J) := ⟨J, rfl⟩

/-! results -/
theorem results_def {rs : List RV} {env : Env} : results rs env H = (match resVs env H rs with | some [v] => some v | some vs => some (.tuple ⟨vs⟩) | none => none) := rfl
def res1 : Option (List Value) → Option Value
  | some [v] => some v
  | some vs => some (.tuple ⟨vs⟩)
  | none => none
@[go_sem] theorem results_res {rs : List RV} {env : Env} : results rs env H = res1 (resVs env H rs) := rfl
@[go_sem] theorem res1_one {v : Value} : res1 (some [v]) = some v := rfl
@[go_sem] theorem res1_nil : res1 (some []) = some (.tuple ⟨[]⟩) := rfl
@[go_sem] theorem res1_two {u v : Value} {vs : List Value} : res1 (some (u :: v :: vs)) = some (.tuple ⟨u :: v :: vs⟩) := rfl
def consO (v : Option Value) (r : Option (List Value)) : Option (List Value) :=
  match v, r with
  | some v, some r => some (v :: r)
  | _, _ => none
@[go_sem] theorem resVs_nil {env : Env} : resVs env H [] = some [] := rfl
@[go_sem] theorem resVs_cons {env : Env} {r : RV} {rs : List RV} : resVs env H (r :: rs) = consO (resV env H r) (resVs env H rs) := by
  simp only [resVs]; cases resV env H r <;> cases resVs env H rs <;> rfl
@[go_sem] theorem consO_some {v : Value} {l : List Value} : consO (some v) (some l) = some (v :: l) := rfl
@[go_sem] theorem resV_tmp {env : Env} {t : Nat} : resV env H (.tmp t) = some (gt env t) := rfl
@[go_sem] theorem resV_cell {env : Env} {t : Nat} {n : Option Nat} : resV env H (.cell t n) = ldv H n (gt env t) := rfl

/-! regions in an open order -/
attribute [go_sem] EvDK_load
@[go_sem] theorem EvDK_mov' {T : Tab} {K : List Fr} {env : Env} {Q : Po} {d : Option Nat} {os : List DOper} {k : Nat} {loud : Bool} {st : List (Nat × Heap)} {ps : List Pend} {a0} : EvDK T (⟨⟨d, .mov a0, none⟩, loud, []⟩ :: os) k K env H st ps Q = stD T (evI env H (.mov a0)) d os (k + 1) K env (if loud then (k, H) :: st else st) (fun _ => ps) Q := EvDK_plain rfl
@[go_sem] theorem EvDK_pick' {T : Tab} {K : List Fr} {env : Env} {Q : Po} {d : Option Nat} {os : List DOper} {k : Nat} {loud : Bool} {st : List (Nat × Heap)} {ps : List Pend} {a0} {a1} {a2} : EvDK T (⟨⟨d, .pick a0 a1 a2, none⟩, loud, []⟩ :: os) k K env H st ps Q = stD T (evI env H (.pick a0 a1 a2)) d os (k + 1) K env (if loud then (k, H) :: st else st) (fun _ => ps) Q := EvDK_plain rfl
@[go_sem] theorem EvDK_new' {T : Tab} {K : List Fr} {env : Env} {Q : Po} {d : Option Nat} {os : List DOper} {k : Nat} {loud : Bool} {st : List (Nat × Heap)} {ps : List Pend} {a0} {a1} : EvDK T (⟨⟨d, .new a0 a1, none⟩, loud, []⟩ :: os) k K env H st ps Q = stD T (evI env H (.new a0 a1)) d os (k + 1) K env (if loud then (k, H) :: st else st) (fun _ => ps) Q := EvDK_plain rfl
@[go_sem] theorem EvDK_box' {T : Tab} {K : List Fr} {env : Env} {Q : Po} {d : Option Nat} {os : List DOper} {k : Nat} {loud : Bool} {st : List (Nat × Heap)} {ps : List Pend} {a0} {a1} : EvDK T (⟨⟨d, .box a0 a1, none⟩, loud, []⟩ :: os) k K env H st ps Q = stD T (evI env H (.box a0 a1)) d os (k + 1) K env (if loud then (k, H) :: st else st) (fun _ => ps) Q := EvDK_plain rfl
@[go_sem] theorem EvDK_build' {T : Tab} {K : List Fr} {env : Env} {Q : Po} {d : Option Nat} {os : List DOper} {k : Nat} {loud : Bool} {st : List (Nat × Heap)} {ps : List Pend} {a0} {a1} : EvDK T (⟨⟨d, .build a0 a1, none⟩, loud, []⟩ :: os) k K env H st ps Q = stD T (evI env H (.build a0 a1)) d os (k + 1) K env (if loud then (k, H) :: st else st) (fun _ => ps) Q := EvDK_plain rfl
@[go_sem] theorem EvDK_bslice' {T : Tab} {K : List Fr} {env : Env} {Q : Po} {d : Option Nat} {os : List DOper} {k : Nat} {loud : Bool} {st : List (Nat × Heap)} {ps : List Pend} {a0} {a1} {a2} : EvDK T (⟨⟨d, .bslice a0 a1 a2, none⟩, loud, []⟩ :: os) k K env H st ps Q = stD T (evI env H (.bslice a0 a1 a2)) d os (k + 1) K env (if loud then (k, H) :: st else st) (fun _ => ps) Q := EvDK_plain rfl
@[go_sem] theorem EvDK_gsl' {T : Tab} {K : List Fr} {env : Env} {Q : Po} {d : Option Nat} {os : List DOper} {k : Nat} {loud : Bool} {st : List (Nat × Heap)} {ps : List Pend} {a0} {a1} {a2} : EvDK T (⟨⟨d, .gsl a0 a1 a2, none⟩, loud, []⟩ :: os) k K env H st ps Q = stD T (evI env H (.gsl a0 a1 a2)) d os (k + 1) K env (if loud then (k, H) :: st else st) (fun _ => ps) Q := EvDK_plain rfl
@[go_sem] theorem EvDK_ld' {T : Tab} {K : List Fr} {env : Env} {Q : Po} {d : Option Nat} {os : List DOper} {k : Nat} {loud : Bool} {st : List (Nat × Heap)} {ps : List Pend} {a0} {a1} : EvDK T (⟨⟨d, .ld a0 a1, none⟩, loud, []⟩ :: os) k K env H st ps Q = stD T (evI env H (.ld a0 a1)) d os (k + 1) K env (if loud then (k, H) :: st else st) (fun _ => ps) Q := EvDK_plain rfl
@[go_sem] theorem EvDK_st' {T : Tab} {K : List Fr} {env : Env} {Q : Po} {d : Option Nat} {os : List DOper} {k : Nat} {loud : Bool} {st : List (Nat × Heap)} {ps : List Pend} {a0} {a1} {a2} : EvDK T (⟨⟨d, .st a0 a1 a2, none⟩, loud, []⟩ :: os) k K env H st ps Q = stD T (evI env H (.st a0 a1 a2)) d os (k + 1) K env (if loud then (k, H) :: st else st) (fun _ => ps) Q := EvDK_plain rfl
@[go_sem] theorem EvDK_nilck' {T : Tab} {K : List Fr} {env : Env} {Q : Po} {d : Option Nat} {os : List DOper} {k : Nat} {loud : Bool} {st : List (Nat × Heap)} {ps : List Pend} {a0} : EvDK T (⟨⟨d, .nilck a0, none⟩, loud, []⟩ :: os) k K env H st ps Q = stD T (evI env H (.nilck a0)) d os (k + 1) K env (if loud then (k, H) :: st else st) (fun _ => ps) Q := EvDK_plain rfl
@[go_sem] theorem EvDK_bin' {T : Tab} {K : List Fr} {env : Env} {Q : Po} {d : Option Nat} {os : List DOper} {k : Nat} {loud : Bool} {st : List (Nat × Heap)} {ps : List Pend} {a0} {a1} {a2} : EvDK T (⟨⟨d, .bin a0 a1 a2, none⟩, loud, []⟩ :: os) k K env H st ps Q = stD T (evI env H (.bin a0 a1 a2)) d os (k + 1) K env (if loud then (k, H) :: st else st) (fun _ => ps) Q := EvDK_plain rfl
@[go_sem] theorem EvDK_eqn' {T : Tab} {K : List Fr} {env : Env} {Q : Po} {d : Option Nat} {os : List DOper} {k : Nat} {loud : Bool} {st : List (Nat × Heap)} {ps : List Pend} {a0} {a1} {a2} {a3} : EvDK T (⟨⟨d, .eqn a0 a1 a2 a3, none⟩, loud, []⟩ :: os) k K env H st ps Q = stD T (evI env H (.eqn a0 a1 a2 a3)) d os (k + 1) K env (if loud then (k, H) :: st else st) (fun _ => ps) Q := EvDK_plain rfl
@[go_sem] theorem EvDK_eqp' {T : Tab} {K : List Fr} {env : Env} {Q : Po} {d : Option Nat} {os : List DOper} {k : Nat} {loud : Bool} {st : List (Nat × Heap)} {ps : List Pend} {a0} {a1} {a2} : EvDK T (⟨⟨d, .eqp a0 a1 a2, none⟩, loud, []⟩ :: os) k K env H st ps Q = stD T (evI env H (.eqp a0 a1 a2)) d os (k + 1) K env (if loud then (k, H) :: st else st) (fun _ => ps) Q := EvDK_plain rfl
@[go_sem] theorem EvDK_eqb' {T : Tab} {K : List Fr} {env : Env} {Q : Po} {d : Option Nat} {os : List DOper} {k : Nat} {loud : Bool} {st : List (Nat × Heap)} {ps : List Pend} {a0} {a1} {a2} : EvDK T (⟨⟨d, .eqb a0 a1 a2, none⟩, loud, []⟩ :: os) k K env H st ps Q = stD T (evI env H (.eqb a0 a1 a2)) d os (k + 1) K env (if loud then (k, H) :: st else st) (fun _ => ps) Q := EvDK_plain rfl
@[go_sem] theorem EvDK_eqs' {T : Tab} {K : List Fr} {env : Env} {Q : Po} {d : Option Nat} {os : List DOper} {k : Nat} {loud : Bool} {st : List (Nat × Heap)} {ps : List Pend} {a0} {a1} {a2} {a3} : EvDK T (⟨⟨d, .eqs a0 a1 a2 a3, none⟩, loud, []⟩ :: os) k K env H st ps Q = stD T (evI env H (.eqs a0 a1 a2 a3)) d os (k + 1) K env (if loud then (k, H) :: st else st) (fun _ => ps) Q := EvDK_plain rfl
@[go_sem] theorem EvDK_un' {T : Tab} {K : List Fr} {env : Env} {Q : Po} {d : Option Nat} {os : List DOper} {k : Nat} {loud : Bool} {st : List (Nat × Heap)} {ps : List Pend} {a0} {a1} : EvDK T (⟨⟨d, .un a0 a1, none⟩, loud, []⟩ :: os) k K env H st ps Q = stD T (evI env H (.un a0 a1)) d os (k + 1) K env (if loud then (k, H) :: st else st) (fun _ => ps) Q := EvDK_plain rfl
@[go_sem] theorem EvDK_toint' {T : Tab} {K : List Fr} {env : Env} {Q : Po} {d : Option Nat} {os : List DOper} {k : Nat} {loud : Bool} {st : List (Nat × Heap)} {ps : List Pend} {a0} {a1} : EvDK T (⟨⟨d, .toint a0 a1, none⟩, loud, []⟩ :: os) k K env H st ps Q = stD T (evI env H (.toint a0 a1)) d os (k + 1) K env (if loud then (k, H) :: st else st) (fun _ => ps) Q := EvDK_plain rfl
@[go_sem] theorem EvDK_tostr' {T : Tab} {K : List Fr} {env : Env} {Q : Po} {d : Option Nat} {os : List DOper} {k : Nat} {loud : Bool} {st : List (Nat × Heap)} {ps : List Pend} {a0} : EvDK T (⟨⟨d, .tostr a0, none⟩, loud, []⟩ :: os) k K env H st ps Q = stD T (evI env H (.tostr a0)) d os (k + 1) K env (if loud then (k, H) :: st else st) (fun _ => ps) Q := EvDK_plain rfl
@[go_sem] theorem EvDK_s2b' {T : Tab} {K : List Fr} {env : Env} {Q : Po} {d : Option Nat} {os : List DOper} {k : Nat} {loud : Bool} {st : List (Nat × Heap)} {ps : List Pend} {a0} : EvDK T (⟨⟨d, .s2b a0, none⟩, loud, []⟩ :: os) k K env H st ps Q = stD T (evI env H (.s2b a0)) d os (k + 1) K env (if loud then (k, H) :: st else st) (fun _ => ps) Q := EvDK_plain rfl
@[go_sem] theorem EvDK_b2s' {T : Tab} {K : List Fr} {env : Env} {Q : Po} {d : Option Nat} {os : List DOper} {k : Nat} {loud : Bool} {st : List (Nat × Heap)} {ps : List Pend} {a0} : EvDK T (⟨⟨d, .b2s a0, none⟩, loud, []⟩ :: os) k K env H st ps Q = stD T (evI env H (.b2s a0)) d os (k + 1) K env (if loud then (k, H) :: st else st) (fun _ => ps) Q := EvDK_plain rfl
@[go_sem] theorem EvDK_mkif' {T : Tab} {K : List Fr} {env : Env} {Q : Po} {d : Option Nat} {os : List DOper} {k : Nat} {loud : Bool} {st : List (Nat × Heap)} {ps : List Pend} {a0} {a1} : EvDK T (⟨⟨d, .mkif a0 a1, none⟩, loud, []⟩ :: os) k K env H st ps Q = stD T (evI env H (.mkif a0 a1)) d os (k + 1) K env (if loud then (k, H) :: st else st) (fun _ => ps) Q := EvDK_plain rfl
@[go_sem] theorem EvDK_mkfn' {T : Tab} {K : List Fr} {env : Env} {Q : Po} {d : Option Nat} {os : List DOper} {k : Nat} {loud : Bool} {st : List (Nat × Heap)} {ps : List Pend} {a0} {a1} {a2} : EvDK T (⟨⟨d, .mkfn a0 a1 a2, none⟩, loud, []⟩ :: os) k K env H st ps Q = stD T (evI env H (.mkfn a0 a1 a2)) d os (k + 1) K env (if loud then (k, H) :: st else st) (fun _ => ps) Q := EvDK_plain rfl
@[go_sem] theorem EvDK_mksl' {T : Tab} {K : List Fr} {env : Env} {Q : Po} {d : Option Nat} {os : List DOper} {k : Nat} {loud : Bool} {st : List (Nat × Heap)} {ps : List Pend} {a0} {a1} {a2} {a3} : EvDK T (⟨⟨d, .mksl a0 a1 a2 a3, none⟩, loud, []⟩ :: os) k K env H st ps Q = stD T (evI env H (.mksl a0 a1 a2 a3)) d os (k + 1) K env (if loud then (k, H) :: st else st) (fun _ => ps) Q := EvDK_plain rfl
@[go_sem] theorem EvDK_slstr' {T : Tab} {K : List Fr} {env : Env} {Q : Po} {d : Option Nat} {os : List DOper} {k : Nat} {loud : Bool} {st : List (Nat × Heap)} {ps : List Pend} {a0} {a1} {a2} : EvDK T (⟨⟨d, .slstr a0 a1 a2, none⟩, loud, []⟩ :: os) k K env H st ps Q = stD T (evI env H (.slstr a0 a1 a2)) d os (k + 1) K env (if loud then (k, H) :: st else st) (fun _ => ps) Q := EvDK_plain rfl
@[go_sem] theorem EvDK_slsl' {T : Tab} {K : List Fr} {env : Env} {Q : Po} {d : Option Nat} {os : List DOper} {k : Nat} {loud : Bool} {st : List (Nat × Heap)} {ps : List Pend} {a0} {a1} {a2} {a3} {a4} : EvDK T (⟨⟨d, .slsl a0 a1 a2 a3 a4, none⟩, loud, []⟩ :: os) k K env H st ps Q = stD T (evI env H (.slsl a0 a1 a2 a3 a4)) d os (k + 1) K env (if loud then (k, H) :: st else st) (fun _ => ps) Q := EvDK_plain rfl
@[go_sem] theorem EvDK_slarr' {T : Tab} {K : List Fr} {env : Env} {Q : Po} {d : Option Nat} {os : List DOper} {k : Nat} {loud : Bool} {st : List (Nat × Heap)} {ps : List Pend} {a0} {a1} {a2} {a3} {a4} : EvDK T (⟨⟨d, .slarr a0 a1 a2 a3 a4, none⟩, loud, []⟩ :: os) k K env H st ps Q = stD T (evI env H (.slarr a0 a1 a2 a3 a4)) d os (k + 1) K env (if loud then (k, H) :: st else st) (fun _ => ps) Q := EvDK_plain rfl
@[go_sem] theorem EvDK_faddr' {T : Tab} {K : List Fr} {env : Env} {Q : Po} {d : Option Nat} {os : List DOper} {k : Nat} {loud : Bool} {st : List (Nat × Heap)} {ps : List Pend} {a0} {a1} : EvDK T (⟨⟨d, .faddr a0 a1, none⟩, loud, []⟩ :: os) k K env H st ps Q = stD T (evI env H (.faddr a0 a1)) d os (k + 1) K env (if loud then (k, H) :: st else st) (fun _ => ps) Q := EvDK_plain rfl
@[go_sem] theorem EvDK_field' {T : Tab} {K : List Fr} {env : Env} {Q : Po} {d : Option Nat} {os : List DOper} {k : Nat} {loud : Bool} {st : List (Nat × Heap)} {ps : List Pend} {a0} {a1} {a2} : EvDK T (⟨⟨d, .field a0 a1 a2, none⟩, loud, []⟩ :: os) k K env H st ps Q = stD T (evI env H (.field a0 a1 a2)) d os (k + 1) K env (if loud then (k, H) :: st else st) (fun _ => ps) Q := EvDK_plain rfl
@[go_sem] theorem EvDK_iaddr' {T : Tab} {K : List Fr} {env : Env} {Q : Po} {d : Option Nat} {os : List DOper} {k : Nat} {loud : Bool} {st : List (Nat × Heap)} {ps : List Pend} {a0} {a1} {a2} : EvDK T (⟨⟨d, .iaddr a0 a1 a2, none⟩, loud, []⟩ :: os) k K env H st ps Q = stD T (evI env H (.iaddr a0 a1 a2)) d os (k + 1) K env (if loud then (k, H) :: st else st) (fun _ => ps) Q := EvDK_plain rfl
@[go_sem] theorem EvDK_iarr' {T : Tab} {K : List Fr} {env : Env} {Q : Po} {d : Option Nat} {os : List DOper} {k : Nat} {loud : Bool} {st : List (Nat × Heap)} {ps : List Pend} {a0} {a1} {a2} {a3} : EvDK T (⟨⟨d, .iarr a0 a1 a2 a3, none⟩, loud, []⟩ :: os) k K env H st ps Q = stD T (evI env H (.iarr a0 a1 a2 a3)) d os (k + 1) K env (if loud then (k, H) :: st else st) (fun _ => ps) Q := EvDK_plain rfl
@[go_sem] theorem EvDK_ixstr' {T : Tab} {K : List Fr} {env : Env} {Q : Po} {d : Option Nat} {os : List DOper} {k : Nat} {loud : Bool} {st : List (Nat × Heap)} {ps : List Pend} {a0} {a1} : EvDK T (⟨⟨d, .ixstr a0 a1, none⟩, loud, []⟩ :: os) k K env H st ps Q = stD T (evI env H (.ixstr a0 a1)) d os (k + 1) K env (if loud then (k, H) :: st else st) (fun _ => ps) Q := EvDK_plain rfl
@[go_sem] theorem EvDK_ixagg' {T : Tab} {K : List Fr} {env : Env} {Q : Po} {d : Option Nat} {os : List DOper} {k : Nat} {loud : Bool} {st : List (Nat × Heap)} {ps : List Pend} {a0} {a1} {a2} {a3} {a4} : EvDK T (⟨⟨d, .ixagg a0 a1 a2 a3 a4, none⟩, loud, []⟩ :: os) k K env H st ps Q = stD T (evI env H (.ixagg a0 a1 a2 a3 a4)) d os (k + 1) K env (if loud then (k, H) :: st else st) (fun _ => ps) Q := EvDK_plain rfl
@[go_sem] theorem EvDK_ext' {T : Tab} {K : List Fr} {env : Env} {Q : Po} {d : Option Nat} {os : List DOper} {k : Nat} {loud : Bool} {st : List (Nat × Heap)} {ps : List Pend} {a0} {a1} : EvDK T (⟨⟨d, .ext a0 a1, none⟩, loud, []⟩ :: os) k K env H st ps Q = stD T (evI env H (.ext a0 a1)) d os (k + 1) K env (if loud then (k, H) :: st else st) (fun _ => ps) Q := EvDK_plain rfl
@[go_sem] theorem EvDK_len' {T : Tab} {K : List Fr} {env : Env} {Q : Po} {d : Option Nat} {os : List DOper} {k : Nat} {loud : Bool} {st : List (Nat × Heap)} {ps : List Pend} {a0} {a1} : EvDK T (⟨⟨d, .len a0 a1, none⟩, loud, []⟩ :: os) k K env H st ps Q = stD T (evI env H (.len a0 a1)) d os (k + 1) K env (if loud then (k, H) :: st else st) (fun _ => ps) Q := EvDK_plain rfl
@[go_sem] theorem EvDK_capx' {T : Tab} {K : List Fr} {env : Env} {Q : Po} {d : Option Nat} {os : List DOper} {k : Nat} {loud : Bool} {st : List (Nat × Heap)} {ps : List Pend} {a0} : EvDK T (⟨⟨d, .capx a0, none⟩, loud, []⟩ :: os) k K env H st ps Q = stD T (evI env H (.capx a0)) d os (k + 1) K env (if loud then (k, H) :: st else st) (fun _ => ps) Q := EvDK_plain rfl
@[go_sem] theorem EvDK_minmax' {T : Tab} {K : List Fr} {env : Env} {Q : Po} {d : Option Nat} {os : List DOper} {k : Nat} {loud : Bool} {st : List (Nat × Heap)} {ps : List Pend} {a0} {a1} : EvDK T (⟨⟨d, .minmax a0 a1, none⟩, loud, []⟩ :: os) k K env H st ps Q = stD T (evI env H (.minmax a0 a1)) d os (k + 1) K env (if loud then (k, H) :: st else st) (fun _ => ps) Q := EvDK_plain rfl
@[go_sem] theorem EvDK_append' {T : Tab} {K : List Fr} {env : Env} {Q : Po} {d : Option Nat} {os : List DOper} {k : Nat} {loud : Bool} {st : List (Nat × Heap)} {ps : List Pend} {a0} {a1} {a2} {a3} {a4} : EvDK T (⟨⟨d, .append a0 a1 a2 a3 a4, none⟩, loud, []⟩ :: os) k K env H st ps Q = stD T (evI env H (.append a0 a1 a2 a3 a4)) d os (k + 1) K env (if loud then (k, H) :: st else st) (fun _ => ps) Q := EvDK_plain rfl
@[go_sem] theorem EvDK_copy' {T : Tab} {K : List Fr} {env : Env} {Q : Po} {d : Option Nat} {os : List DOper} {k : Nat} {loud : Bool} {st : List (Nat × Heap)} {ps : List Pend} {a0} {a1} {a2} : EvDK T (⟨⟨d, .copy a0 a1 a2, none⟩, loud, []⟩ :: os) k K env H st ps Q = stD T (evI env H (.copy a0 a1 a2)) d os (k + 1) K env (if loud then (k, H) :: st else st) (fun _ => ps) Q := EvDK_plain rfl
@[go_sem] theorem EvDK_uslice' {T : Tab} {K : List Fr} {env : Env} {Q : Po} {d : Option Nat} {os : List DOper} {k : Nat} {loud : Bool} {st : List (Nat × Heap)} {ps : List Pend} {a0} : EvDK T (⟨⟨d, .uslice a0, none⟩, loud, []⟩ :: os) k K env H st ps Q = stD T (evI env H (.uslice a0)) d os (k + 1) K env (if loud then (k, H) :: st else st) (fun _ => ps) Q := EvDK_plain rfl
@[go_sem] theorem EvDK_ustr' {T : Tab} {K : List Fr} {env : Env} {Q : Po} {d : Option Nat} {os : List DOper} {k : Nat} {loud : Bool} {st : List (Nat × Heap)} {ps : List Pend} {a0} {a1} {a2} : EvDK T (⟨⟨d, .ustr a0 a1 a2, none⟩, loud, []⟩ :: os) k K env H st ps Q = stD T (evI env H (.ustr a0 a1 a2)) d os (k + 1) K env (if loud then (k, H) :: st else st) (fun _ => ps) Q := EvDK_plain rfl
@[go_sem] theorem EvDK_uof' {T : Tab} {K : List Fr} {env : Env} {Q : Po} {d : Option Nat} {os : List DOper} {k : Nat} {loud : Bool} {st : List (Nat × Heap)} {ps : List Pend} {a0} : EvDK T (⟨⟨d, .uof a0, none⟩, loud, []⟩ :: os) k K env H st ps Q = stD T (evI env H (.uof a0)) d os (k + 1) K env (if loud then (k, H) :: st else st) (fun _ => ps) Q := EvDK_plain rfl
@[go_sem] theorem EvDK_upt' {T : Tab} {K : List Fr} {env : Env} {Q : Po} {d : Option Nat} {os : List DOper} {k : Nat} {loud : Bool} {st : List (Nat × Heap)} {ps : List Pend} {a0} {a1} : EvDK T (⟨⟨d, .upt a0 a1, none⟩, loud, []⟩ :: os) k K env H st ps Q = stD T (evI env H (.upt a0 a1)) d os (k + 1) K env (if loud then (k, H) :: st else st) (fun _ => ps) Q := EvDK_plain rfl
@[go_sem] theorem EvDK_mkmap' {T : Tab} {K : List Fr} {env : Env} {Q : Po} {d : Option Nat} {os : List DOper} {k : Nat} {loud : Bool} {st : List (Nat × Heap)} {ps : List Pend} {a0} : EvDK T (⟨⟨d, .mkmap a0, none⟩, loud, []⟩ :: os) k K env H st ps Q = stD T (evI env H (.mkmap a0)) d os (k + 1) K env (if loud then (k, H) :: st else st) (fun _ => ps) Q := EvDK_plain rfl
@[go_sem] theorem EvDK_mlook' {T : Tab} {K : List Fr} {env : Env} {Q : Po} {d : Option Nat} {os : List DOper} {k : Nat} {loud : Bool} {st : List (Nat × Heap)} {ps : List Pend} {a0} {a1} {a2} {a3} : EvDK T (⟨⟨d, .mlook a0 a1 a2 a3, none⟩, loud, []⟩ :: os) k K env H st ps Q = stD T (evI env H (.mlook a0 a1 a2 a3)) d os (k + 1) K env (if loud then (k, H) :: st else st) (fun _ => ps) Q := EvDK_plain rfl
@[go_sem] theorem EvDK_mput' {T : Tab} {K : List Fr} {env : Env} {Q : Po} {d : Option Nat} {os : List DOper} {k : Nat} {loud : Bool} {st : List (Nat × Heap)} {ps : List Pend} {a0} {a1} {a2} : EvDK T (⟨⟨d, .mput a0 a1 a2, none⟩, loud, []⟩ :: os) k K env H st ps Q = stD T (evI env H (.mput a0 a1 a2)) d os (k + 1) K env (if loud then (k, H) :: st else st) (fun _ => ps) Q := EvDK_plain rfl
@[go_sem] theorem EvDK_tass' {T : Tab} {K : List Fr} {env : Env} {Q : Po} {d : Option Nat} {os : List DOper} {k : Nat} {loud : Bool} {st : List (Nat × Heap)} {ps : List Pend} {a0} {a1} {a2} {a3} : EvDK T (⟨⟨d, .tass a0 a1 a2 a3, none⟩, loud, []⟩ :: os) k K env H st ps Q = stD T (evI env H (.tass a0 a1 a2 a3)) d os (k + 1) K env (if loud then (k, H) :: st else st) (fun _ => ps) Q := EvDK_plain rfl
@[go_sem] theorem EvDK_pan' {T : Tab} {K : List Fr} {env : Env} {Q : Po} {d : Option Nat} {os : List DOper} {k : Nat} {loud : Bool} {st : List (Nat × Heap)} {ps : List Pend} {a0} : EvDK T (⟨⟨d, .pan a0, none⟩, loud, []⟩ :: os) k K env H st ps Q = stD T (evI env H (.pan a0)) d os (k + 1) K env (if loud then (k, H) :: st else st) (fun _ => ps) Q := EvDK_plain rfl
attribute [go_sem] List.all_cons List.all_nil Bool.and_eq_true
@[go_sem] theorem pendOk_def {st : List (Nat × Heap)} {n : Option Nat} {a v : Value} {w : List Nat} : pendOk st ⟨n, a, v, w⟩ = w.all (fun j => match stageAt st j with | some H => (match ldv H n a with | some v' => beqA v' v | none => false) | none => false) := rfl
@[go_sem] theorem stageAt_here {k : Nat} {r : List (Nat × Heap)} : stageAt ((k, H) :: r) k = some H := by simp only [stageAt, if_true]
theorem stageAt_there {k j : Nat} {r : List (Nat × Heap)} (h : k ≠ j) : stageAt ((k, H) :: r) j = stageAt r j := by simp only [stageAt, h, if_false]
end
@[go_sem] theorem beqA_bool {a b : Bool} : beqA (.bool a) (.bool b) = (a == b) := by simp only [beqA, beqV]
@[go_sem] theorem beqA_int {k : IntKind} {a b : Int} : beqA (.int k a) (.int k b) = (a == b) := by simp [beqA, beqV]
@[go_sem] theorem beqA_str {a b : List UInt8} : beqA (strOf a) (strOf b) = (a == b) := by simp only [beqA, beqV, strOf, bytesOf_mk]
@[go_sem] theorem beqA_ptr {a : Option Addr} : beqA (.pointer a) (.pointer a) = true := by
  cases a with
  | none => rfl
  | some a => obtain ⟨b, o, s⟩ := a; simp [beqA, beqV]
@[go_sem] theorem beqA_slice {a : Option Addr} {l c : Nat} : beqA (.slice a l c) (.slice a l c) = true := by
  cases a with
  | none => simp [beqA, beqV]
  | some a => obtain ⟨b, o, s⟩ := a; simp [beqA, beqV]
attribute [go_sem] BEq.rfl
@[go_sem] theorem beqA_agg {a b : List Value} : beqA (.agg ⟨a⟩) (.agg ⟨b⟩) = beqL a b := by simp only [beqA]
@[go_sem] theorem beqL_nil : beqL [] [] = true := by simp only [beqL]
@[go_sem] theorem beqL_cons {a b : Value} {x y : List Value} : beqL (a :: x) (b :: y) = (beqV a b && beqL x y) := by simp only [beqL]
@[go_sem] theorem beqV_bool {a b : Bool} : beqV (.bool a) (.bool b) = (a == b) := by simp only [beqV]
@[go_sem] theorem beqV_int {k : IntKind} {a b : Int} : beqV (.int k a) (.int k b) = (a == b) := by simp [beqV]
@[go_sem] theorem beqV_str {a b : List UInt8} : beqV (strOf a) (strOf b) = (a == b) := by simp only [beqV, strOf, bytesOf_mk]
@[go_sem] theorem beqV_ptr {a : Option Addr} : beqV (.pointer a) (.pointer a) = true := by
  cases a with
  | none => rfl
  | some a => obtain ⟨b, o, s⟩ := a; simp [beqV]
@[go_sem] theorem beqV_slice {a : Option Addr} {l c : Nat} : beqV (.slice a l c) (.slice a l c) = true := by
  cases a with
  | none => simp [beqV]
  | some a => obtain ⟨b, o, s⟩ := a; simp [beqV]

end Ve
end Go.Proofs.YtnociodpfmlglaaGreatDoor
