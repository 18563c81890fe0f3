/-
  The beginning: the memory that a call meets, read by the deterministic machine.
-/
import Derived.Test.YtnociodpfmlglaaGreatDoorVe16
set_option linter.unusedVariables false
set_option linter.unusedSimpArgs false
namespace Go.Proofs.YtnociodpfmlglaaGreatDoor
namespace Ve
open Go Go.RowKit

/-- What the deterministic machine sees in a cell, of a memory of n blocks. -/
def absC (n : Nat) : Value → Value
  | .bool b => .bool b
  | .int k m => .int k m
  | .string s => .string s
  | .pointer none => .pointer none
  | .pointer (some ⟨b, o, none⟩) => if b < n then .pointer (some ⟨b, o, none⟩) else unk
  | .slice none l c => .slice none l c
  | .slice (some ⟨b, o, none⟩) l (c + 1) => if b < n ∧ l ≤ c + 1 then .slice (some ⟨b, o, none⟩) l (c + 1) else unk
  | .slice (some _) 0 0 => .slice (some ⟨0, 0, none⟩) 0 0
  | .map none => .map none
  | .nilFunc => .nilFunc
  | .nilIface => .nilIface
  | _ => unk

def absV (n : Nat) : Value → Value
  | .agg cs => .agg ⟨cs.toList.map (absC n)⟩
  | v => absC n v

def absO (n : Nat) : Obj → Blk
  | .cells c _ _ => .cells (c.toList.map (absC n)) .ro 0
  | _ => .dead

def absH (w : World) : Heap := w.heap.toList.map (absO w.heap.size)

def idAl (n : Nat) : Al := ⟨fun i => if i < n then some (i, 0) else none, fun _ => 0, []⟩

theorem absC_rel (n : Nat) (v : Value) : VR (idAl n) (absC n v) v := by
  unfold absC
  split
  · exact .bool _
  · exact .int _ _
  · exact .str _
  · exact .pnil
  · rename_i b o
    split
    · rename_i h
      have := VR.ptr (α := idAl n) (i := b) (o := o) (b := b) (sh := 0) (by simp [idAl, h])
      simpa using this
    · exact .unk _
  · exact .snil _ _
  · rename_i b o l c
    split
    · rename_i h
      exact .slx (sh := 0) (by simp [idAl, h.1]) h.2 (.inl (by simp))
    · exact .unk _
  · exact .slz _
  · exact .mnil
  · exact .nilF
  · exact .nilI
  · exact .unk _

theorem absCs_rel (n : Nat) : ∀ l : List Value, VRs (idAl n) (l.map (absC n)) l
  | [] => .nil
  | v :: l => .cons (absC_rel n v) (absCs_rel n l)

theorem absV_rel (n : Nat) (v : Value) : VR (idAl n) (absV n v) v := by
  unfold absV
  split
  · rename_i cs
    obtain ⟨l⟩ := cs
    exact .agg (absCs_rel n l)
  · exact absC_rel n _

theorem absVs_rel (n : Nat) : ∀ l : List Value, VRs (idAl n) (l.map (absV n)) l
  | [] => .nil
  | v :: l => .cons (absV_rel n v) (absVs_rel n l)

theorem init_sim (w : World) : Sim (idAl w.heap.size) w (absH w) w := by
  refine ⟨?_, ?_, Below.refl _ w, ?_, fun _ _ h => (nomatch h), ?_⟩
  · intro i p hp
    simp only [idAl] at hp
    split at hp
    · cases hp; assumption
    · cases hp
  · intro i hi
    have : ¬ i < w.heap.size := by simp [absH] at hi; omega
    simp [idAl, this]
  · intro i b hb
    simp only [absH, List.getElem?_map, Option.map_eq_some_iff, Array.getElem?_toList] at hb
    obtain ⟨o, ho, rfl⟩ := hb
    have hlt := (Array.getElem?_eq_some_iff.1 ho).1
    unfold absO
    split
    · rename_i c ty fr
      obtain ⟨c⟩ := c
      obtain ⟨lo, hi⟩ := fr
      refine ⟨i, 0, [], c, [], ty, lo, hi, by simp [idAl, hlt], by simpa using ho, rfl, absCs_rel _ c, fun _ => hlt, fun h => absurd rfl h⟩
    · trivial
  · intro i j bi bj p q _ hi hj oi
    simp only [absH, List.getElem?_map, Option.map_eq_some_iff, Array.getElem?_toList] at hi
    obtain ⟨o, ho, rfl⟩ := hi
    unfold absO at oi
    split at oi <;> simp [own] at oi

/-- A cell of the memory that the call meets. -/
theorem absH_cells {w : World} {b : Nat} {c : Array Value} {ty : TypeId} {fr : Nat × Nat} (h : w.heap[b]? = some (.cells c ty fr)) : (absH w)[b]? = some (.cells (c.toList.map (absC w.heap.size)) .ro 0) := by
  simp [absH, List.getElem?_map, h, absO]

theorem absH_length (w : World) : (absH w).length = w.heap.size := by simp [absH]

theorem get1_absH {w : World} {b o : Nat} {v : Value} (h : w.cell? ⟨b, o, none⟩ = some v) : get1 (absH w) b o = some (absC w.heap.size v) := by
  unfold World.cell? at h
  split at h
  · rename_i c ty fr hb
    simp only [Option.isSome_none, Bool.false_eq_true, if_false] at h
    simp [get1, absH_cells hb, h]
  · cases h

/-- What the deterministic machine says of a call in the memory that it meets. -/
theorem run_start {P : Program} {T : Tab} (hT : TabOk P T) (hD : DTabOk P T) (hI : IntrOk P T) {w : World} (hg : P.globals.size ≤ w.heap.size) {n : Nat} {f : FuncId} {args : List Value} {out : Out}
    (h : Ve.run T n f (args.map (absV w.heap.size)) (absH w) = some out) : CallSem P f ⟨args⟩ w (OutRel (idAl w.heap.size) w out) :=
  run_sound hT hD hI h (fun g hg' => by simp [idAl]; omega) (init_sim w) (absVs_rel _ args)

end Ve
end Go.Proofs.YtnociodpfmlglaaGreatDoor
