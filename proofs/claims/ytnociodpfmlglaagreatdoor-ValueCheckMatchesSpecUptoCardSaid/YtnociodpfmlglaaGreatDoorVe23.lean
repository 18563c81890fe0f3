/-
  A loop by its relation and its measure.
-/
import Derived.Test.YtnociodpfmlglaaGreatDoorVe22
set_option linter.unusedVariables false
namespace Go.Proofs.YtnociodpfmlglaaGreatDoor
namespace Ve
open Go

/-! guards -/
def gv (b : Bool) (v : Value) : Value := if b then v else undef
@[go_sem] theorem gv_true {v : Value} : gv true v = v := rfl
@[go_sem] theorem gv_false {v : Value} : gv false v = undef := rfl
def wantV (v : Value) (w : Bool) : Option Bool := match v with | .bool b => some (b == w) | .tuple ⟨[]⟩ => some false | _ => none
@[go_sem] theorem wanted_some {env : Env} {t : Nat} {w : Bool} : wanted env (some (t, w)) = wantV (gt env t) w := rfl
@[go_sem] theorem wantV_true {b : Bool} : wantV (.bool b) true = some b := by cases b <;> rfl
@[go_sem] theorem wantV_false {b : Bool} : wantV (.bool b) false = some (!b) := by cases b <;> rfl
@[go_sem] theorem wantV_undef {w : Bool} : wantV undef w = some false := rfl
@[go_sem] theorem wantV_gvt {b c : Bool} : wantV (gv b (.bool c)) true = some (b && c) := by cases b <;> cases c <;> rfl
@[go_sem] theorem wantV_gvf {b c : Bool} : wantV (gv b (.bool c)) false = some (b && !c) := by cases b <;> cases c <;> rfl
@[go_sem] theorem pickO_and {b c : Bool} {H : Heap} : pickO (.bool b) (gv b (.bool c)) (.bool false) H = some (.ret (.bool (b && c)) H) := by cases b <;> rfl
@[go_sem] theorem pickO_or {b c : Bool} {H : Heap} : pickO (.bool b) (.bool true) (gv (!b) (.bool c)) H = some (.ret (.bool (b || c)) H) := by cases b <;> rfl
@[go_sem] theorem pickO_and' {b c : Bool} {H : Heap} : pickO (.bool b) (.bool c) (.bool false) H = some (.ret (.bool (b && c)) H) := by cases b <;> rfl
@[go_sem] theorem pickO_or' {b c : Bool} {H : Heap} : pickO (.bool b) (.bool true) (.bool c) H = some (.ret (.bool (b || c)) H) := by cases b <;> rfl
theorem pickO_or_n {b c : Bool} {H : Heap} : pickO (.bool (!b)) (.bool true) (gv b (.bool c)) H = some (.ret (.bool (!b || c)) H) := by cases b <;> rfl
attribute [go_sem] pickO_or_n Bool.not_not Bool.and_true Bool.and_false Bool.or_true Bool.or_false Bool.true_or Bool.false_or Bool.false_and Bool.true_and
section
variable {T : Tab} {K : List Fr} {env : Env} {H : Heap} {Q : Po} {d : Option Nat} {i : I} {b : Bool} {v : Value}
/-- A guarded operation that leaves the memory alone: both ways meet again at once. -/
theorem guO_merge {os : List IOper} (h : b = true → evI env H i = some (.ret v H)) (hc : isCl i = false) (k : EvOK T os K (put env d (gv b v)) H Q) : guO T (some b) d i os K env H Q := by
  cases b with
  | false => exact k
  | true => show EvOK T (⟨d, i, none⟩ :: os) K env H Q; rw [EvOK_op hc, h rfl]; exact k
theorem guO_split {os : List IOper} (h1 : b = true → EvOK T (⟨d, i, none⟩ :: os) K env H Q) (h2 : b = false → EvOK T os K (put env d undef) H Q) : guO T (some b) d i os K env H Q := by
  cases b with
  | false => exact h2 rfl
  | true => exact h1 rfl
theorem guD_merge {os : List DOper} {loud : Bool} {k : Nat} {st : List (Nat × Heap)} {ps : List Pend} (h : b = true → evI env H i = some (.ret v H)) (hc : isCl i = false) (q : EvDK T os (k + 1) K (put env d (gv b v)) H (if loud then (k, H) :: st else st) ps Q) : guD T (some b) d i loud [] os k K env H st ps Q := by
  cases b with
  | false => exact q
  | true => show EvDK T (⟨⟨d, i, none⟩, loud, []⟩ :: os) k K env H st ps Q; rw [EvDK_plain hc, h rfl]; exact q
theorem guD_split {os : List DOper} {loud : Bool} {wins : List Nat} {k : Nat} {st : List (Nat × Heap)} {ps : List Pend} (h1 : b = true → EvDK T (⟨⟨d, i, none⟩, loud, wins⟩ :: os) k K env H st ps Q) (h2 : b = false → EvDK T os (k + 1) K (put env d undef) H (if loud then (k, H) :: st else st) ps Q) : guD T (some b) d i loud wins os k K env H st ps Q := by
  cases b with
  | false => exact h2 rfl
  | true => exact h1 rfl
end

attribute [go_sem] gtp_in wr_i64 wr_i32 wr_u8 wr_u64 wr_u32 bin_quo_i64 bin_quo_u8 bin_quo_u64 bin_rem_pos bin_adds iaddrO_in iarrO_in ixstrO_in cutS_int splice_set putB_fix putB_loose List.take_length Nat.mul_one List.drop_length mkslO_int s2bO_str get1_app_lt getN_app_lt putN_pos ix_app_lt set_app_lt stageAt_there
attribute [go_sem] Int.toNat_natCast Int.natCast_inj Int.cast_ofNat_Int Int.natCast_zero true_and and_true if_true if_false Bool.false_eq_true decide_true decide_false not_true_eq_false not_false_eq_true Nat.zero_add Nat.add_zero Nat.zero_mul Nat.one_mul Int.sub_zero Int.add_zero Int.zero_add exists_eq_left' Option.some.injEq exists_eq_left
attribute [go_sem] List.length_map List.length_replicate List.length_take List.length_drop List.length_reverse
theorem nrm : (∀ a b : Bool, ((a && b) = true) = (a = true ∧ b = true)) ∧ (∀ a b : Bool, ((a && b) = false) = (a = true → b = false)) ∧ (∀ a b : Bool, ((a || b) = true) = (a = true ∨ b = true)) ∧ (∀ a b : Bool, ((a || b) = false) = (a = false ∧ b = false)) ∧
    (∀ b : Bool, ((!b) = true) = (b = false)) ∧ (∀ b : Bool, ((!b) = false) = (b = true)) ∧ (∀ (p : Prop) [Decidable p], (decide p = true) = p) ∧ (∀ (p : Prop) [Decidable p], (decide p = false) = ¬ p) ∧
    (∀ b : Bool, (¬ b = true) = (b = false)) ∧ (∀ b : Bool, (¬ b = false) = (b = true)) ∧ (∀ p q : Prop, (¬ (p ∧ q)) = (p → ¬ q)) ∧ (∀ p q : Prop, (¬ (p ∨ q)) = (¬ p ∧ ¬ q)) ∧ (∀ p : Prop, (¬ ¬ p) = p) ∧ (∀ a b : Int, (¬ a < b) = (b ≤ a)) ∧ (∀ a b : Int, (¬ a ≤ b) = (b < a)) ∧
    (∀ b : Bool, (!!b) = b) ∧ (¬ True) = False ∧ (¬ False) = True ∧ (∀ p : Prop, (p ∧ True) = p) ∧ (∀ p : Prop, (True ∧ p) = p) := by
  refine ⟨by simp, by intro a b; cases a <;> cases b <;> simp, by simp, by intro a b; cases a <;> cases b <;> simp, by simp, by simp, by intros; simp, by intros; simp, by simp, by simp, by intros; simp, by intros; simp, by intros; simp, by intros; simp, by intros; simp, by simp, by simp, by simp, by simp, by simp⟩

theorem EvK_while {T : Tab} {K : List Fr} {env : Env} {H : Heap} {Q : Po} {g : List Nat} {c : C} {ι : Type} (i0 : ι) (Inv : ι → Env → Heap → Prop) (m : ι → Nat) (h0 : Inv i0 env H)
    (hs : ∀ i e h, Inv i e h → (∀ j e' h', m j < m i → Inv j e' h' → EvK T (.loop g c) K e' h' Q) → EvK T c (.loop g c :: K) (forget g e) h Q) : EvK T (.loop g c) K env H Q := by
  suffices h : ∀ n i e h, m i < n → Inv i e h → EvK T (.loop g c) K e h Q from h (m i0 + 1) i0 env H (by omega) h0
  intro n
  induction n with
  | zero => intro i e h hm; omega
  | succ n ih =>
    intro i e h hm hi
    rw [EvK_loop]
    exact hs i e h hi fun j e' h' hj hi' => ih j e' h' (by omega) hi'

end Ve
end Go.Proofs.YtnociodpfmlglaaGreatDoor
