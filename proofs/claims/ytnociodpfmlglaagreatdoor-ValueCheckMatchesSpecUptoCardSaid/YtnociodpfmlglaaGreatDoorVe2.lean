/-
  How the deterministic machine's values and memory stand to the model's: relation and lemmas.
-/
import Derived.Test.YtnociodpfmlglaaGreatDoorVe1
import Derived.Laws.World
import Derived.Laws.Cells
import Derived.Laws.Sem
set_option linter.unusedVariables false
set_option linter.unusedSimpArgs false
namespace Go.Proofs.YtnociodpfmlglaaGreatDoor
namespace Ve
open Go Go.RowKit

/-- Where the blocks lie (block and place), and how many cells the model's blocks have. -/
structure Al where
  at_ : Nat → Option (Nat × Nat)
  tot : Nat → Nat
  gh : List (Nat × Obj)
instance : CoeFun Al (fun _ => Nat → Option (Nat × Nat)) := ⟨Al.at_⟩
structure Al.le (a b : Al) : Prop where
  at' : ∀ i p, a i = some p → b i = some p ∧ b.tot p.1 = a.tot p.1
  gh' : ∀ x, x ∈ a.gh → x ∈ b.gh
theorem Al.le_refl (a : Al) : a.le a := ⟨fun _ _ h => ⟨h, rfl⟩, fun _ h => h⟩
theorem Al.le_trans {a b c : Al} (h : a.le b) (k : b.le c) : a.le c := ⟨fun i p hp => ⟨(k.at' i p (h.at' i p hp).1).1, ((k.at' i p (h.at' i p hp).1).2).trans (h.at' i p hp).2⟩, fun x hx => k.gh' x (h.gh' x hx)⟩

mutual
inductive VR (α : Al) : Value → Value → Prop
  | unk (v : Value) : VR α unk v
  | bool (b : Bool) : VR α (.bool b) (.bool b)
  | int (k : IntKind) (n : Int) : VR α (.int k n) (.int k n)
  | str (s : ByteArray) : VR α (.string s) (.string s)
  | pnil : VR α (.pointer none) (.pointer none)
  | ptr {i o b sh : Nat} (h : α i = some (b, sh)) : VR α (.pointer (some ⟨i, o, none⟩)) (.pointer (some ⟨b, sh + o, none⟩))
  | snil (n c : Nat) : VR α (.slice none n c) (.slice none n c)
  | slx {i o b sh o' n c : Nat} (h : α i = some (b, sh)) (hn : n ≤ c) (ho : o' = sh + o ∨ c = 0) : VR α (.slice (some ⟨i, o, none⟩) n c) (.slice (some ⟨b, o', none⟩) n c)
  | slz (a : Addr) : VR α (.slice (some ⟨0, 0, none⟩) 0 0) (.slice (some a) 0 0)
  | sli {i o s b sh o' n c c' : Nat} (h : α i = some (b, sh)) (hn : n ≤ c) (hc : c ≤ c') (ho : o' = sh + o ∨ c' = 0) (ht : o' + c' * s ≤ α.tot b) :
      VR α (.slice (some ⟨i, o, some s⟩) n c) (.slice (some ⟨b, o', none⟩) n c')
  | gsl {l l' : List Value} {n b : Nat} {ty : TypeId} (h : (b, Obj.cells ⟨l'⟩ ty) ∈ α.gh) (hr : VRs α l l') : VR α (.func (.method "") ⟨l⟩ ⟨[.int .i64 (n : Nat)]⟩) (.slice (some ⟨b, 0, none⟩) n n)
  | mnil : VR α (.map none) (.map none)
  | map {i b : Nat} (h : α i = some (b, 0)) : VR α (.map (some i)) (.map (some b))
  | nilF : VR α .nilFunc .nilFunc
  | nilI : VR α .nilIface .nilIface
  | func (fn : Fn) {a a' c c' : List Value} (hf : isFn fn = true) (ha : VRs α a a') (hc : VRs α c c') : VR α (.func fn ⟨a⟩ ⟨c⟩) (.func fn ⟨a'⟩ ⟨c'⟩)
  | iface (t : TypeId) {v v' : Value} (h : VR α v v') : VR α (.iface t v) (.iface t v')
  | agg {l l' : List Value} (h : VRs α l l') : VR α (.agg ⟨l⟩) (.agg ⟨l'⟩)
  | tup {l l' : List Value} (h : VRs α l l') : VR α (.tuple ⟨l⟩) (.tuple ⟨l'⟩)
inductive VRs (α : Al) : List Value → List Value → Prop
  | nil : VRs α [] []
  | cons {v v' : Value} {l l' : List Value} (h : VR α v v') (hs : VRs α l l') : VRs α (v :: l) (v' :: l')
end

mutual
theorem VR.mono {α β : Al} (hl : α.le β) : ∀ {v v' : Value}, VR α v v' → VR β v v'
  | _, _, .unk v => .unk v
  | _, _, .bool b => .bool b
  | _, _, .int k n => .int k n
  | _, _, .str s => .str s
  | _, _, .pnil => .pnil
  | _, _, .ptr h => .ptr (hl.at' _ _ h).1
  | _, _, .snil n c => .snil n c
  | _, _, .slx h hn ho => .slx (hl.at' _ _ h).1 hn ho
  | _, _, .slz a => .slz a
  | _, _, .sli h hn hc ho ht => .sli (hl.at' _ _ h).1 hn hc ho (by rw [(hl.at' _ _ h).2]; exact ht)
  | _, _, .gsl h hr => .gsl (hl.gh' _ h) (VRs.mono hl hr)
  | _, _, .mnil => .mnil
  | _, _, .map h => .map (hl.at' _ _ h).1
  | _, _, .nilF => .nilF
  | _, _, .nilI => .nilI
  | _, _, .func fn hf ha hc => .func fn hf (VRs.mono hl ha) (VRs.mono hl hc)
  | _, _, .iface t h => .iface t (VR.mono hl h)
  | _, _, .agg h => .agg (VRs.mono hl h)
  | _, _, .tup h => .tup (VRs.mono hl h)
theorem VRs.mono {α β : Al} (hl : α.le β) : ∀ {v v' : List Value}, VRs α v v' → VRs β v v'
  | _, _, .nil => .nil
  | _, _, .cons h hs => .cons (VR.mono hl h) (VRs.mono hl hs)
end

theorem VRs.length {α : Al} : ∀ {l l' : List Value}, VRs α l l' → l'.length = l.length
  | _, _, .nil => rfl
  | _, _, .cons _ hs => by simp [VRs.length hs]

theorem VRs.get {α : Al} : ∀ {l l' : List Value}, VRs α l l' → ∀ {i : Nat} {v : Value}, l[i]? = some v → ∃ v', l'[i]? = some v' ∧ VR α v v'
  | _, _, .nil, i, v, h => by simp at h
  | _, _, .cons (v := a) (v' := a') h hs, 0, v, e => by
    simp at e; subst e; exact ⟨a', by simp, h⟩
  | _, _, .cons h hs, i + 1, v, e => by
    simp at e
    obtain ⟨v', e', r⟩ := VRs.get hs e
    exact ⟨v', by simpa using e', r⟩

theorem VRs.take {α : Al} : ∀ {l l' : List Value} (n : Nat), VRs α l l' → VRs α (l.take n) (l'.take n)
  | _, _, 0, _ => by simpa using VRs.nil
  | _, _, n + 1, .nil => by simpa using VRs.nil
  | _, _, n + 1, .cons h hs => by simpa using VRs.cons h (VRs.take n hs)

theorem VRs.drop {α : Al} : ∀ {l l' : List Value} (n : Nat), VRs α l l' → VRs α (l.drop n) (l'.drop n)
  | _, _, 0, h => by simpa using h
  | _, _, n + 1, .nil => by simpa using VRs.nil
  | _, _, n + 1, .cons h hs => by simpa using VRs.drop n hs

theorem VRs.append {α : Al} : ∀ {l l' m m' : List Value}, VRs α l l' → VRs α m m' → VRs α (l ++ m) (l' ++ m')
  | _, _, _, _, .nil, k => by simpa using k
  | _, _, _, _, .cons h hs, k => .cons h (VRs.append hs k)

theorem VRs.set {α : Al} {v v' : Value} (hv : VR α v v') : ∀ {l l' : List Value} (n : Nat), VRs α l l' → VRs α (l.set n v) (l'.set n v')
  | _, _, _, .nil => by simpa using VRs.nil
  | _, _, 0, .cons h hs => by simpa using VRs.cons hv hs
  | _, _, n + 1, .cons h hs => by simpa using VRs.cons h (VRs.set hv n hs)

theorem VRs.splice {α : Al} {c c' vs vs' : List Value} (o : Nat) (h : VRs α c c') (k : VRs α vs vs') : VRs α (Ve.splice c o vs) (Ve.splice c' o vs') := by
  unfold Ve.splice
  rw [← k.length]
  exact ((h.take o).append k).append (h.drop _)

theorem VR.lit {α : Al} {v : Value} (h : isLit v = true) : VR α v v := by
  cases v with
  | bool b => exact .bool b
  | int k n => exact .int k n
  | string s => exact .str s
  | pointer a => cases a with | none => exact .pnil | some a => simp [isLit] at h
  | slice a n c => cases a with | none => exact .snil n c | some a => simp [isLit] at h
  | map r => cases r with | none => exact .mnil | some a => simp [isLit] at h
  | nilFunc => exact .nilF
  | nilIface => exact .nilI
  | _ => simp [isLit] at h

theorem VRs.lits {α : Al} : ∀ {l : List Value}, l.all isLit = true → VRs α l l
  | [], _ => .nil
  | v :: l, h => by simp at h; exact .cons (VR.lit h.1) (VRs.lits (by simpa using h.2))

theorem VR.undef (α : Al) : VR α Go.undef Go.undef := .tup .nil

theorem VR.one {α : Al} {v v' : Value} (h : VR α v v') (ho : Ve.one v = true) : Ve.one v' = true := by
  cases h <;> simp_all [Ve.one, Ve.unk]

theorem VRs.one {α : Al} : ∀ {l l' : List Value}, VRs α l l' → l.all Ve.one = true → l'.all Ve.one = true
  | _, _, .nil, _ => rfl
  | _, _, .cons h hs, k => by
    simp only [List.all_cons, Bool.and_eq_true] at k ⊢
    exact ⟨h.one k.1, hs.one k.2⟩

/-- The cells of a value that is known. -/
theorem cellsOf_rel {α : Al} {v v' : Value} {cs : List Value} (h : VR α v v') (hc : cellsOf v = some cs) :
    ∃ cs', v'.cells = ⟨cs'⟩ ∧ VRs α cs cs' ∧ cs.all one = true := by
  cases h with
  | agg h =>
    simp only [cellsOf] at hc
    split at hc
    · rename_i ho
      simp only [Option.some.injEq] at hc
      subst hc
      exact ⟨_, rfl, h, by simpa using ho⟩
    · simp at hc
  | unk v => simp [cellsOf, Ve.unk] at hc
  | tup h => simp [cellsOf] at hc
  | bool b => simp only [cellsOf, Option.some.injEq] at hc; subst hc; exact ⟨_, rfl, .cons (.bool b) .nil, rfl⟩
  | int k n => simp only [cellsOf, Option.some.injEq] at hc; subst hc; exact ⟨_, rfl, .cons (.int k n) .nil, rfl⟩
  | str s => simp only [cellsOf, Option.some.injEq] at hc; subst hc; exact ⟨_, rfl, .cons (.str s) .nil, rfl⟩
  | pnil => simp only [cellsOf, Option.some.injEq] at hc; subst hc; exact ⟨_, rfl, .cons .pnil .nil, rfl⟩
  | ptr h => simp only [cellsOf, Option.some.injEq] at hc; subst hc; exact ⟨_, rfl, .cons (.ptr h) .nil, rfl⟩
  | snil n c => simp only [cellsOf, Option.some.injEq] at hc; subst hc; exact ⟨_, rfl, .cons (.snil n c) .nil, rfl⟩
  | slx h hn ho => simp only [cellsOf, Option.some.injEq] at hc; subst hc; exact ⟨_, rfl, .cons (.slx h hn ho) .nil, rfl⟩
  | slz a => simp only [cellsOf, Option.some.injEq] at hc; subst hc; exact ⟨_, rfl, .cons (.slz a) .nil, rfl⟩
  | sli h hn hc' ho ht => simp only [cellsOf, Option.some.injEq] at hc; subst hc; exact ⟨_, rfl, .cons (.sli h hn hc' ho ht) .nil, rfl⟩
  | mnil => simp only [cellsOf, Option.some.injEq] at hc; subst hc; exact ⟨_, rfl, .cons .mnil .nil, rfl⟩
  | map h => simp only [cellsOf, Option.some.injEq] at hc; subst hc; exact ⟨_, rfl, .cons (.map h) .nil, rfl⟩
  | nilF => simp only [cellsOf, Option.some.injEq] at hc; subst hc; exact ⟨_, rfl, .cons .nilF .nil, rfl⟩
  | nilI => simp only [cellsOf, Option.some.injEq] at hc; subst hc; exact ⟨_, rfl, .cons .nilI .nil, rfl⟩
  | func fn hf ha hcc => simp only [cellsOf, Option.some.injEq] at hc; subst hc; exact ⟨_, rfl, .cons (.func fn hf ha hcc) .nil, rfl⟩
  | iface t h => simp only [cellsOf, Option.some.injEq] at hc; subst hc; exact ⟨_, rfl, .cons (.iface t h) .nil, rfl⟩
  | gsl h hr => simp only [cellsOf, Option.some.injEq] at hc; subst hc; exact ⟨_, rfl, .cons (.gsl h hr) .nil, rfl⟩

/-! memory -/
def own : Blk → Bool
  | .cells _ .ro _ => false
  | .cells _ _ _ => true
  | .siter _ _ => true
  | .mp _ => true
  | .dead => false

/-- A map's entries. -/
inductive KVs (α : Al) : List (ByteArray × Value) → List MapEntry → Prop
  | nil : KVs α [] []
  | cons {k : ByteArray} {v : Value} {e : MapEntry} {l : List (ByteArray × Value)} {l' : List MapEntry} (hk : e.key = .string k) (hv : VR α v e.val) (hs : KVs α l l') : KVs α ((k, v) :: l) (e :: l')

theorem KVs.mono {α β : Al} (hl : α.le β) : ∀ {l : List (ByteArray × Value)} {l' : List MapEntry}, KVs α l l' → KVs β l l'
  | _, _, .nil => .nil
  | _, _, .cons hk hv hs => .cons hk (hv.mono hl) (KVs.mono hl hs)

def BOk (α : Al) (w0 w : World) (i : Nat) : Blk → Prop
  | .dead => True
  | .siter s pos => ∃ b, α i = some (b, 0) ∧ w0.heap.size ≤ b ∧ w.heap[b]? = some (.stringIter s pos)
  | .mp es => ∃ b es' clk, α i = some (b, 0) ∧ w0.heap.size ≤ b ∧ w.heap[b]? = some (.map es' clk) ∧ KVs α es es'.toList
  | .cells c m fz => ∃ b sh pre c' post ty lo hi, α i = some (b, sh) ∧ w.heap[b]? = some (.cells ⟨pre ++ c' ++ post⟩ ty (lo, hi)) ∧ pre.length = sh ∧ VRs α c c' ∧
      (m = .ro → b < w0.heap.size) ∧ (m ≠ .ro → w0.heap.size ≤ b ∧ (∀ j, sh + fz ≤ j → j < sh + c.length + post.length → ¬ (lo ≤ j ∧ j < hi)) ∧ α.tot b = sh + c.length + post.length ∧ (∀ t, m = .loose (some t) → ty = t ∧ hi ≤ sh + fz) ∧ (∀ t, m = .fix (some t) → ty = t ∧ pre = [] ∧ post = []))

structure Sim (α : Al) (w0 : World) (H : Heap) (w : World) : Prop where
  lt : ∀ i p, α i = some p → p.1 < w.heap.size
  dom : ∀ i, H.length ≤ i → α i = none
  below : Below w0.heap.size w0 w
  blk : ∀ i b, H[i]? = some b → BOk α w0 w i b
  gh : ∀ b o, (b, o) ∈ α.gh → w0.heap.size ≤ b ∧ w.heap[b]? = some o ∧ ∀ i x p, H[i]? = some x → own x = true → α i = some p → p.1 ≠ b
  inj : ∀ i j bi bj p q, i ≠ j → H[i]? = some bi → H[j]? = some bj → own bi = true → own bj = true → α i = some p → α j = some q → p.1 ≠ q.1

theorem BOk.congr {α : Al} {w0 w w' : World} {i : Nat} {b : Blk} (h : BOk α w0 w i b) (hw : ∀ p, α i = some p → w'.heap[p.1]? = w.heap[p.1]?) : BOk α w0 w' i b := by
  cases b with
  | dead => trivial
  | siter s pos =>
    obtain ⟨b, h1, h2, h3⟩ := h
    exact ⟨b, h1, h2, by rw [hw _ h1]; exact h3⟩
  | mp es =>
    obtain ⟨b, es', clk, h1, h2, h3, h4⟩ := h
    exact ⟨b, es', clk, h1, h2, by rw [hw _ h1]; exact h3, h4⟩
  | cells c m fz =>
    obtain ⟨b, sh, pre, c', post, ty, lo, hi, h1, h2, h3⟩ := h
    exact ⟨b, sh, pre, c', post, ty, lo, hi, h1, by rw [hw _ h1]; exact h2, h3⟩

theorem BOk.mono {α β : Al} (hl : α.le β) {w0 w : World} {i : Nat} {b : Blk} (h : BOk α w0 w i b) : BOk β w0 w i b := by
  cases b with
  | dead => trivial
  | siter s pos =>
    obtain ⟨b, h1, h2, h3⟩ := h
    exact ⟨b, (hl.at' _ _ h1).1, h2, h3⟩
  | mp es =>
    obtain ⟨b, es', clk, h1, h2, h3, h4⟩ := h
    exact ⟨b, es', clk, (hl.at' _ _ h1).1, h2, h3, h4.mono hl⟩
  | cells c m fz =>
    obtain ⟨b, sh, pre, c', post, ty, lo, hi, h1, h2, h3, h4, h5, h6⟩ := h
    exact ⟨b, sh, pre, c', post, ty, lo, hi, (hl.at' _ _ h1).1, h2, h3, h4.mono hl, h5, fun hm => ⟨(h6 hm).1, (h6 hm).2.1, ((hl.at' _ _ h1).2).trans (h6 hm).2.2.1, (h6 hm).2.2.2⟩⟩

/-- A block that is the call's own lies from w0's end on. -/
theorem BOk.ge {α : Al} {w0 w : World} {i : Nat} {b : Blk} (h : BOk α w0 w i b) (ho : own b = true) {p : Nat × Nat} (hp : α i = some p) : w0.heap.size ≤ p.1 := by
  cases b with
  | dead => simp [own] at ho
  | siter s pos =>
    obtain ⟨b, h1, h2, h3⟩ := h
    rw [h1] at hp; cases hp; exact h2
  | mp es =>
    obtain ⟨b, es', clk, h1, h2, h3, h4⟩ := h
    rw [h1] at hp; cases hp; exact h2
  | cells c m fz =>
    obtain ⟨b, sh, pre, c', post, ty, lo, hi, h1, h2, h3, h4, h5, h6⟩ := h
    rw [h1] at hp; cases hp
    exact (h6 (by intro e; subst e; simp [own] at ho)).1

theorem BOk.lt {α : Al} {w0 w : World} {i : Nat} {b : Blk} (h : BOk α w0 w i b) (hb : b ≠ .dead) {p : Nat × Nat} (hp : α i = some p) : p.1 < w.heap.size := by
  cases b with
  | dead => simp at hb
  | siter s pos =>
    obtain ⟨b, h1, h2, h3⟩ := h
    rw [h1] at hp; cases hp
    exact (Array.getElem?_eq_some_iff.1 h3).1
  | mp es =>
    obtain ⟨b, es', clk, h1, h2, h3, h4⟩ := h
    rw [h1] at hp; cases hp
    exact (Array.getElem?_eq_some_iff.1 h3).1
  | cells c m fz =>
    obtain ⟨b, sh, pre, c', post, ty, lo, hi, h1, h2, _⟩ := h
    rw [h1] at hp; cases hp
    exact (Array.getElem?_eq_some_iff.1 h2).1

theorem Sim.drawn {α : Al} {w0 w : World} {H : Heap} (h : Sim α w0 H w) (n : Nat) : Sim α w0 H { w with drawn := n } :=
  ⟨h.lt, h.dom, ⟨h.below.os, h.below.tape, h.below.output, h.below.size, h.below.block⟩, fun i b e => (h.blk i b e).congr fun _ _ => rfl, h.gh, h.inj⟩

/-- New memory. -/
def Al.ext (α : Al) (i : Nat) (p : Nat × Nat) (t : Nat) : Al := ⟨fun j => if j = i then some p else α j, fun k => if k = p.1 then t else α.tot k, α.gh⟩
theorem Al.le_ext {α : Al} {i : Nat} {p : Nat × Nat} {t : Nat} (h : α i = none) (ht : ∀ j q, α j = some q → q.1 = p.1 → α.tot p.1 = t) : α.le (α.ext i p t) := by
  refine ⟨?_, fun _ h => h⟩
  intro j q hq
  constructor
  · show (if j = i then some p else α j) = some q
    split
    · rename_i e; subst e; rw [h] at hq; cases hq
    · exact hq
  · show (if q.1 = p.1 then t else α.tot q.1) = α.tot q.1
    split
    · rename_i e; rw [e]; exact (ht j q hq e).symm
    · rfl

theorem Al.ext_new (α : Al) (i : Nat) (p : Nat × Nat) (t : Nat) : (α.ext i p t) i = some p := by simp [Al.ext]
theorem Al.ext_old (α : Al) {i j : Nat} (p : Nat × Nat) (t : Nat) (h : j ≠ i) : (α.ext i p t) j = α j := by simp [Al.ext, h]
theorem Al.ext_tot (α : Al) (i : Nat) (p : Nat × Nat) (t : Nat) : (α.ext i p t).tot p.1 = t := by simp [Al.ext]

theorem heap_alloc_new (w : World) (o : Obj) : (w.alloc o).heap[w.heap.size]? = some o := by
  show (w.heap.push o)[w.heap.size]? = some o
  simp
theorem heap_alloc_lt (w : World) (o : Obj) {k : Nat} (h : k < w.heap.size) : (w.alloc o).heap[k]? = w.heap[k]? := by
  show (w.heap.push o)[k]? = _
  rw [Array.getElem?_push, if_neg (by omega)]

theorem push_get_lt {H : Heap} {b : Blk} {i : Nat} (h : i < H.length) : (push H b)[i]? = H[i]? := by
  simp [push, List.getElem?_append_left h]
theorem push_get_new {H : Heap} {b : Blk} : (push H b)[H.length]? = some b := by simp [push]
theorem push_get {H : Heap} {b x : Blk} {i : Nat} (h : (push H b)[i]? = some x) : (i < H.length ∧ H[i]? = some x) ∨ (i = H.length ∧ x = b) := by
  rcases Nat.lt_trichotomy i H.length with hl | hl | hl
  · exact .inl ⟨hl, by rwa [push_get_lt hl] at h⟩
  · subst hl; rw [push_get_new] at h; exact .inr ⟨rfl, by cases h; rfl⟩
  · have : (push H b)[i]? = none := by rw [List.getElem?_eq_none]; simp [push]; omega
    rw [this] at h; cases h

theorem Sim.le_ext {α : Al} {w0 w : World} {H : Heap} (h : Sim α w0 H w) (t : Nat) : α.le (α.ext H.length (w.heap.size, 0) t) :=
  Al.le_ext (h.dom _ (Nat.le_refl _)) fun j q hq e => absurd (h.lt j q hq) (by simp only at e; omega)

theorem Sim.grow {α : Al} {w0 w w' : World} {H : Heap} (h : Sim α w0 H w) {b : Blk} {t : Nat} (hB : Below w.heap.size w w') (hsz : w.heap.size < w'.heap.size)
    (hb : BOk (α.ext H.length (w.heap.size, 0) t) w0 w' H.length b) :
    Sim (α.ext H.length (w.heap.size, 0) t) w0 (push H b) w' := by
  have hle := h.le_ext t
  have hold : ∀ i x p, i < H.length → H[i]? = some x → x ≠ .dead → (α.ext H.length (w.heap.size, 0) t) i = some p → α i = some p ∧ p.1 < w.heap.size := by
    intro i x p hi hx hd hp
    rw [Al.ext_old α _ t (Nat.ne_of_lt hi)] at hp
    exact ⟨hp, h.lt i p hp⟩
  refine ⟨?_, ?_, ?_, ?_, ?_, ?_⟩
  · intro i p hp
    by_cases e : i = H.length
    · subst e; rw [Al.ext_new] at hp; cases hp; exact hsz
    · rw [Al.ext_old α _ t e] at hp
      have := h.lt i p hp; omega
  · intro i hi
    simp only [push, List.length_append, List.length_singleton] at hi
    rw [Al.ext_old α _ t (by omega)]
    exact h.dom i (by omega)
  · exact h.below.trans (hB.mono h.below.size)
  · intro i x hx
    rcases push_get hx with ⟨hi, hx⟩ | ⟨rfl, rfl⟩
    · by_cases hd : x = .dead
      · subst hd; trivial
      · refine ((h.blk i x hx).mono hle).congr ?_
        intro p hp
        exact hB.block _ (hold i x p hi hx hd hp).2
    · exact hb
  · intro bb oo hm
    obtain ⟨g1, g2, g3⟩ := h.gh bb oo hm
    have hlt : bb < w.heap.size := (Array.getElem?_eq_some_iff.1 g2).1
    refine ⟨g1, (hB.block bb hlt).trans g2, ?_⟩
    intro i x p hx ox hp
    rcases push_get hx with ⟨li, gi⟩ | ⟨rfl, rfl⟩
    · exact g3 i x p gi ox (hold i x p li gi (by rintro rfl; simp [own] at ox) hp).1
    · rw [Al.ext_new] at hp; cases hp
      simp only; omega
  · intro i j bi bj p q hij hi hj oi oj hp hq
    rcases push_get hi with ⟨li, gi⟩ | ⟨rfl, rfl⟩
    · rcases push_get hj with ⟨lj, gj⟩ | ⟨rfl, rfl⟩
      · exact h.inj i j bi bj p q hij gi gj oi oj (hold i bi p li gi (by rintro rfl; simp [own] at oi) hp).1 (hold j bj q lj gj (by rintro rfl; simp [own] at oj) hq).1
      · rw [Al.ext_new] at hq; cases hq
        have := (hold i bi p li gi (by rintro rfl; simp [own] at oi) hp).2
        simp only; omega
    · rcases push_get hj with ⟨lj, gj⟩ | ⟨rfl, rfl⟩
      · rw [Al.ext_new] at hp; cases hp
        have := (hold j bj q lj gj (by rintro rfl; simp [own] at oj) hq).2
        simp only; omega
      · exact absurd rfl hij

theorem below_alloc (w : World) (o : Obj) : Below w.heap.size w (w.alloc o) := (Below.refl _ w).alloc (Nat.le_refl _) o

/-- A new block of cells, whatever else has turned. -/
theorem Sim.grow_cells {α : Al} {w0 w w' : World} {H : Heap} (h : Sim α w0 H w) (hB : Below w.heap.size w w') {c c' post : List Value} (hc : VRs α c c') (m : Mode) (hm : m ≠ .ro) (fz : Nat) {ty : TypeId} {fr : Nat × Nat} (hmt : ∀ t, m = .loose (some t) → ty = t ∧ fr.2 ≤ fz) (hmf : ∀ t, m = .fix (some t) → ty = t ∧ post = [])
    (hw : w'.heap[w.heap.size]? = some (.cells ⟨c' ++ post⟩ ty fr)) (hfr : ∀ j, j < c.length + post.length → ¬ (fr.1 ≤ j ∧ j < fr.2)) :
    Sim (α.ext H.length (w.heap.size, 0) (c.length + post.length)) w0 (push H (.cells c m fz)) w' := by
  have hsz : w.heap.size < w'.heap.size := (Array.getElem?_eq_some_iff.1 hw).1
  refine h.grow hB hsz ?_
  refine ⟨w.heap.size, 0, [], c', post, ty, fr.1, fr.2, Al.ext_new _ _ _ _, ?_, rfl, hc.mono (h.le_ext _), fun e => absurd e hm, fun _ => ⟨h.below.size, ?_, ?_⟩⟩
  · rw [hw]; simp
  · intro j _ hj; exact hfr j (by omega)
  · rw [Al.ext_tot]; exact ⟨by omega, fun t ht => ⟨(hmt t ht).1, by simpa using (hmt t ht).2⟩, fun t ht => ⟨(hmf t ht).1, rfl, (hmf t ht).2⟩⟩

theorem Sim.alloc_cells {α : Al} {w0 w : World} {H : Heap} (h : Sim α w0 H w) {c c' : List Value} (hc : VRs α c c') (m : Mode) (hm : m ≠ .ro) (ty : TypeId) (hmt : ∀ t, m = .loose (some t) → ty = t) (hmf : ∀ t, m = .fix (some t) → ty = t) :
    Sim (α.ext H.length (w.heap.size, 0) c.length) w0 (push H (.cells c m 0)) (w.alloc (.cells ⟨c'⟩ ty)) := by
  have := h.grow_cells (below_alloc w (.cells ⟨c'⟩ ty)) hc m hm 0 (fr := (0, 0)) (fun t ht => ⟨hmt t ht, Nat.le_refl _⟩) (fun t ht => ⟨hmf t ht, rfl⟩) (post := []) (ty := ty) (by rw [heap_alloc_new]; simp) (by intro j _; omega)
  simpa using this

/-- Reading. -/
theorem cell?_of {w : World} {b k : Nat} {cs : List Value} {ty : TypeId} {fr : Nat × Nat} (h : w.heap[b]? = some (.cells ⟨cs⟩ ty fr)) : w.cell? ⟨b, k, none⟩ = cs[k]? := by
  simp [World.cell?, h]

theorem mid_get {pre c post : List Value} {o : Nat} (h : o < c.length) : (pre ++ c ++ post)[pre.length + o]? = c[o]? := by
  rw [List.append_assoc, List.getElem?_append_right (by omega)]
  rw [show pre.length + o - pre.length = o by omega]
  exact List.getElem?_append_left h

theorem Sim.cell {α : Al} {w0 w : World} {H : Heap} (h : Sim α w0 H w) {i o : Nat} {c : List Value} {m : Mode} {fz : Nat} (hb : H[i]? = some (.cells c m fz)) {v : Value} (hv : c[o]? = some v)
    {b sh : Nat} (ha : α i = some (b, sh)) : ∃ v', w.cell? ⟨b, sh + o, none⟩ = some v' ∧ VR α v v' := by
  obtain ⟨b', sh', pre, c', post, ty, lo, hi, h1, h2, h3, h4, _⟩ := h.blk i _ hb
  rw [ha] at h1; cases h1
  obtain ⟨v', hv', hr⟩ := h4.get hv
  refine ⟨v', ?_, hr⟩
  rw [cell?_of h2, ← h3, mid_get (List.getElem?_eq_some_iff.1 hv').1]
  exact hv'

theorem get1_cell {α : Al} {w0 w : World} {H : Heap} (h : Sim α w0 H w) {i o : Nat} {v : Value} (hv : get1 H i o = some v)
    {b sh : Nat} (ha : α i = some (b, sh)) : ∃ v', w.cell? ⟨b, sh + o, none⟩ = some v' ∧ VR α v v' := by
  unfold get1 at hv
  split at hv
  · rename_i c m fz hb; exact h.cell hb hv ha
  · simp at hv

theorem add_none (b k n : Nat) : (⟨b, k, none⟩ : Addr).add n = ⟨b, k + n, none⟩ := by
  unfold Addr.add; split
  · subst_vars; rfl
  · rfl

theorem getN_cells {α : Al} {w0 w : World} {H : Heap} (h : Sim α w0 H w) {i o n : Nat} {l : List Value} (hv : getN H i o n = some l)
    {b sh : Nat} (ha : α i = some (b, sh)) (P : Program) : ∃ l', (loadCells ⟨b, sh + o, none⟩ n).run P w = .ok ⟨l'⟩ w ∧ VRs α l l' ∧ l.length = n := by
  unfold getN at hv
  split at hv
  · rename_i c m fz hb
    split at hv
    · rename_i hle
      simp only [Option.some.injEq] at hv
      subst hv
      obtain ⟨b', sh', pre, c', post, ty, lo, hi, h1, h2, h3, h4, _⟩ := h.blk i _ hb
      rw [ha] at h1; cases h1
      have hlen := h4.length
      have hl : ((c'.drop o).take n).length = n := by simp; omega
      refine ⟨(c'.drop o).take n, ?_, (h4.drop o).take n, by simp; omega⟩
      have := run_loadCells_list (P := P) (w := w) ⟨b, sh + o, none⟩ ((c'.drop o).take n) (by
        intro j v hj
        have hjn : j < n := by
          have := (List.getElem?_eq_some_iff.1 hj).1
          omega
        rw [add_none, cell?_of h2, ← h3, Nat.add_assoc, mid_get (by omega)]
        rw [List.getElem?_take, if_pos hjn, List.getElem?_drop] at hj
        exact hj)
      rw [hl] at this
      exact this
    · simp at hv
  · simp at hv

/-- Writing. -/
theorem setCell_heap {w : World} {b k : Nat} {cs : List Value} {ty : TypeId} {fr : Nat × Nat} (h : w.heap[b]? = some (.cells ⟨cs⟩ ty fr)) (v : Value) :
    (w.setCell ⟨b, k, none⟩ v).heap[b]? = some (.cells ⟨cs.set k v⟩ ty fr) := by
  simp only [World.setCell, Array.getElem?_modify, if_true, h, Option.map_some]
  simp

theorem setCell_heap_ne {w : World} {b k j : Nat} (h : j ≠ b) (v : Value) : (w.setCell ⟨b, k, none⟩ v).heap[j]? = w.heap[j]? := by
  simp only [World.setCell, Array.getElem?_modify]
  rw [if_neg (fun e => h e.symm)]

theorem frozen?_of {w : World} {b k : Nat} {cs : List Value} {ty : TypeId} {lo hi : Nat} (h : w.heap[b]? = some (.cells ⟨cs⟩ ty (lo, hi))) : w.frozen? ⟨b, k, none⟩ = (decide (lo ≤ k) && decide (k < hi)) := by
  simp [World.frozen?, h]

theorem run_store {P : Program} {w : World} {b k : Nat} {cs : List Value} {ty : TypeId} {lo hi : Nat} (h : w.heap[b]? = some (.cells ⟨cs⟩ ty (lo, hi))) (hk : k < cs.length) (hf : ¬ (lo ≤ k ∧ k < hi))
    {v : Value} (hv : one v = true) : (store ⟨b, k, none⟩ v).run P w = .ok () (w.setCell ⟨b, k, none⟩ v) := by
  have h1 : w.cell? ⟨b, k, none⟩ = some cs[k] := by rw [cell?_of h]; simp [hk]
  have h2 : w.frozen? ⟨b, k, none⟩ = false := by
    rw [frozen?_of h]
    cases e : (decide (lo ≤ k) && decide (k < hi)) with
    | false => rfl
    | true => simp at e; exact absurd e hf
  cases v <;> simp [one] at hv <;> simp [store, Sem.run, h1, h2]

theorem run_storeCells {P : Program} {b : Nat} {ty : TypeId} {lo hi : Nat} : ∀ (vs : List Value) (k i : Nat) (cs : List Value) (w : World),
    w.heap[b]? = some (.cells ⟨cs⟩ ty (lo, hi)) → k + i + vs.length ≤ cs.length → (∀ j, k + i ≤ j → j < k + i + vs.length → ¬ (lo ≤ j ∧ j < hi)) → vs.all one = true →
    ∃ w', (storeCells ⟨b, k, none⟩ vs i).run P w = .ok () w' ∧ w'.heap[b]? = some (.cells ⟨splice cs (k + i) vs⟩ ty (lo, hi)) ∧ (∀ j, j ≠ b → w'.heap[j]? = w.heap[j]?) ∧
      w'.heap.size = w.heap.size ∧ w'.os = w.os ∧ w'.tape = w.tape ∧ w'.output = w.output
  | [], k, i, cs, w, h, hl, hf, hv => ⟨w, rfl, by simp [splice, h], fun _ _ => rfl, rfl, rfl, rfl, rfl⟩
  | v :: vs, k, i, cs, w, h, hl, hf, hv => by
    simp only [List.length_cons] at hl hf
    simp only [List.all_cons, Bool.and_eq_true] at hv
    have h1 := run_store (P := P) h (k := k + i) (by omega) (hf (k + i) (by omega) (by omega)) hv.1
    obtain ⟨w', r1, r2, r3, r4, r5, r6, r7⟩ := run_storeCells (P := P) vs k (i + 1) (cs.set (k + i) v) (w.setCell ⟨b, k + i, none⟩ v) (setCell_heap h v) (by simp; omega) (fun j a c => hf j (by omega) (by omega)) hv.2
    refine ⟨w', ?_, ?_, ?_, ?_, ?_, ?_, ?_⟩
    · simp only [storeCells, add_none]
      show Sem.run P (Sem.bind (store ⟨b, k + i, none⟩ v) fun _ => storeCells ⟨b, k, none⟩ vs (i + 1)) w = _
      rw [Sem.run_bind', h1]
      exact r1
    · rw [r2]
      congr 3
      unfold splice
      have e1 : (cs.set (k + i) v).take (k + (i + 1)) = cs.take (k + i) ++ [v] := by
        rw [show k + (i + 1) = (k + i) + 1 by omega, List.take_add_one]
        rw [List.take_set_of_le (Nat.le_refl _)]
        simp [List.getElem?_set]
        omega
      have e2 : (cs.set (k + i) v).drop (k + (i + 1) + vs.length) = cs.drop (k + i + (v :: vs).length) := by
        rw [List.drop_set_of_lt (by omega)]
        congr 1
        simp; omega
      rw [e1, e2]; simp
    · intro j hj; rw [r3 j hj, setCell_heap_ne hj]
    · rw [r4]; simp
    · rw [r5]; rfl
    · rw [r6]; rfl
    · rw [r7]; rfl

theorem splice_nil (c : List Value) (o : Nat) : splice c o [] = c := by simp [splice]
theorem splice_length {c vs : List Value} {o : Nat} (h : o + vs.length ≤ c.length) : (splice c o vs).length = c.length := by
  unfold splice; simp; omega

theorem splice_mid {pre c post vs : List Value} {o : Nat} (h : o + vs.length ≤ c.length) : splice (pre ++ c ++ post) (pre.length + o) vs = pre ++ splice c o vs ++ post := by
  unfold splice
  have e1 : (pre ++ c ++ post).take (pre.length + o) = pre ++ c.take o := by
    rw [List.append_assoc, List.take_append, List.take_of_length_le (by omega)]
    rw [show pre.length + o - pre.length = o by omega, List.take_append, show o - c.length = 0 by omega]
    simp
  have e2 : (pre ++ c ++ post).drop (pre.length + o + vs.length) = c.drop (o + vs.length) ++ post := by
    rw [List.append_assoc, List.drop_append, List.drop_of_length_le (by omega)]
    rw [show pre.length + o + vs.length - pre.length = o + vs.length by omega, List.drop_append, show o + vs.length - c.length = 0 by omega]
    simp
  rw [e1, e2]; simp

theorem Below.of_frame {w0 w w' : World} (h : Below w0.heap.size w0 w) {b : Nat} (hb : w0.heap.size ≤ b) (r3 : ∀ j, j ≠ b → w'.heap[j]? = w.heap[j]?) (r4 : w'.heap.size = w.heap.size) (r5 : w'.os = w.os) (r6 : w'.tape = w.tape)
    (r7 : w'.output = w.output) : Below w0.heap.size w0 w' :=
  ⟨r5.trans h.os, r6.trans h.tape, r7.trans h.output, by rw [r4]; exact h.size, fun k hk => (r3 k (by omega)).trans (h.block k hk)⟩

theorem set_get {H : Heap} {i j : Nat} {b x : Blk} (h : (H.set i b)[j]? = some x) : (j = i ∧ x = b) ∨ (j ≠ i ∧ H[j]? = some x) := by
  by_cases e : i = j
  · subst e
    left
    have hl : i < H.length := by have := (List.getElem?_eq_some_iff.1 h).1; simpa using this
    rw [List.getElem?_set_self hl] at h
    cases h; exact ⟨rfl, rfl⟩
  · right
    rw [List.getElem?_set_ne e] at h
    exact ⟨fun x => e x.symm, h⟩

/-- A block of the call's own is turned into another one, at the same place. -/
theorem Sim.turn {α : Al} {w0 w w' : World} {H : Heap} (h : Sim α w0 H w) {i : Nat} {x y : Blk} (hx : H[i]? = some x) (ox : own x = true) {b sh : Nat} (ha : α i = some (b, sh))
    (hy : BOk α w0 w' i y) (hB : Below w0.heap.size w0 w') (hsz : w'.heap.size = w.heap.size) (hw : ∀ j, j ≠ b → w'.heap[j]? = w.heap[j]?) : Sim α w0 (H.set i y) w' := by
  have hbge := (h.blk i x hx).ge ox ha
  refine ⟨fun j p hp => by rw [hsz]; exact h.lt j p hp, ?_, hB, ?_, ?_, ?_⟩
  · intro j hj; exact h.dom j (by simpa using hj)
  · intro j z hz
    rcases set_get hz with ⟨rfl, rfl⟩ | ⟨hne, hz⟩
    · exact hy
    · by_cases hd : z = .dead
      · subst hd; trivial
      · refine (h.blk j z hz).congr ?_
        intro p hp
        refine hw _ ?_
        by_cases oz : own z = true
        · exact h.inj j i z x p (b, sh) hne hz hx oz ox hp ha
        · intro e
          cases z with
          | dead => exact hd rfl
          | siter s q => simp [own] at oz
          | mp es => simp [own] at oz
          | cells c m fz =>
            have hm : m = .ro := by cases m <;> simp [own] at oz ⊢
            obtain ⟨b', sh', pre, c', post, ty, lo, hi, h1, h2, h3, h4, h5, _⟩ := h.blk j _ hz
            rw [hp] at h1; cases h1
            have := h5 hm
            simp only at e; omega
  · intro bb oo hm
    obtain ⟨g1, g2, g3⟩ := h.gh bb oo hm
    have hne : b ≠ bb := g3 i x (b, sh) hx ox ha
    refine ⟨g1, (hw bb (fun e => hne e.symm)).trans g2, ?_⟩
    intro j z p hz oz hp
    rcases set_get hz with ⟨rfl, rfl⟩ | ⟨hnj, hz⟩
    · rw [ha] at hp; cases hp; exact hne
    · exact g3 j z p hz oz hp
  · intro j k bj bk p q hjk hj hk oj ok hp hq
    rcases set_get hj with ⟨ej, ej'⟩ | ⟨hnj, gj⟩
    · rcases set_get hk with ⟨ek, ek'⟩ | ⟨hnk, gk⟩
      · exact absurd (ej.trans ek.symm) hjk
      · subst ej; exact h.inj j k x bk p q hjk hx gk ox ok hp hq
    · rcases set_get hk with ⟨ek, ek'⟩ | ⟨hnk, gk⟩
      · subst ek; exact h.inj j k bj x p q hjk gj hx oj ox hp hq
      · exact h.inj j k bj bk p q hjk gj gk oj ok hp hq

theorem Sim.put {α : Al} {w0 w : World} {H H' : Heap} (h : Sim α w0 H w) {i o : Nat} {vs vs' : List Value} (hp : putN H i o vs = some H') (hv : VRs α vs vs') (P : Program) {b sh : Nat} (ha : α i = some (b, sh)) :
    ∃ w', (storeCells ⟨b, sh + o, none⟩ vs').run P w = .ok () w' ∧ Sim α w0 H' w' := by
  unfold putN at hp
  split at hp
  · rename_i he
    simp only [Option.some.injEq] at hp
    subst hp
    have : vs = [] := by simpa using he
    subst this
    cases hv
    exact ⟨w, rfl, h⟩
  · split at hp
    · rename_i c m fz hb
      split at hp
      · rename_i hc
        obtain ⟨hm, hfz, hle, hone⟩ := hc
        simp only [Option.some.injEq] at hp
        subst hp
        obtain ⟨b', sh', pre, c', post, ty, lo, hi, h1, h2, h3, h4, h5, h6⟩ := h.blk i _ hb
        rw [ha] at h1; cases h1
        obtain ⟨h7, h8, h9, h10⟩ := h6 hm
        have hl := hv.length
        have hl' := h4.length
        obtain ⟨w', r1, r2, r3, r4, r5, r6, r7⟩ := run_storeCells (P := P) vs' (sh + o) 0 (pre ++ c' ++ post) w h2 (by simp; omega) (fun j hj1 hj2 => h8 j (by omega) (by omega)) (hv.one hone)
        refine ⟨w', r1, ?_⟩
        have hown : own (.cells c m fz) = true := by cases m <;> simp_all [own]
        refine h.turn hb hown ha ?_ (Below.of_frame h.below h7 r3 r4 r5 r6 r7) r4 r3
        refine ⟨b, sh, pre, splice c' o vs', post, ty, lo, hi, ha, ?_, h3, h4.splice o hv, fun e => absurd e hm, fun _ => ⟨h7, ?_, by rw [splice_length (by omega)]; exact h9, h10⟩⟩
        · rw [r2, Nat.add_zero, ← h3, splice_mid (by omega)]
        · intro j hj1 hj2
          rw [splice_length (by omega)] at hj2
          exact h8 j hj1 hj2
      · simp at hp
    · simp at hp

/-- A row that nobody turns. -/
def Al.ghost (α : Al) (b : Nat) (o : Obj) : Al := ⟨α.at_, α.tot, (b, o) :: α.gh⟩
theorem Al.le_ghost (α : Al) (b : Nat) (o : Obj) : α.le (α.ghost b o) := ⟨fun _ _ h => ⟨h, rfl⟩, fun _ h => List.mem_cons_of_mem _ h⟩
theorem Sim.ghost {α : Al} {w0 w : World} {H : Heap} (h : Sim α w0 H w) (o : Obj) : Sim (α.ghost w.heap.size o) w0 H (w.alloc o) := by
  have hB := below_alloc w o
  have hle := Al.le_ghost α w.heap.size o
  have hsz : w.heap.size < (w.alloc o).heap.size := by show w.heap.size < (w.heap.push o).size; simp
  refine ⟨fun i p hp => by have := h.lt i p hp; omega, h.dom, h.below.trans (hB.mono h.below.size), ?_, ?_, h.inj⟩
  · intro i b hb
    exact ((h.blk i b hb).mono hle).congr fun p hp => hB.block _ (h.lt i p hp)
  · intro bb oo hm
    rcases List.mem_cons.1 hm with e | hm
    · cases e
      refine ⟨h.below.size, heap_alloc_new w o, fun i x p hx ox hp => ?_⟩
      have := h.lt i p hp; omega
    · obtain ⟨g1, g2, g3⟩ := h.gh bb oo hm
      exact ⟨g1, (hB.block bb (Array.getElem?_eq_some_iff.1 g2).1).trans g2, g3⟩

end Ve
end Go.Proofs.YtnociodpfmlglaaGreatDoor
