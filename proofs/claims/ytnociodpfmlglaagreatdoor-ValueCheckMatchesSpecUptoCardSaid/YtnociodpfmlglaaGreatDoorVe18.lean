/-
  A call without arguments whose answer the kernel has computed, as an entry of a greater table.
-/
import Derived.Test.YtnociodpfmlglaaGreatDoorVe17
set_option linter.unusedVariables false
set_option linter.unusedSimpArgs false
namespace Go.Proofs.YtnociodpfmlglaaGreatDoor
namespace Ve
open Go Go.RowKit

/-- Memory that has grown elsewhere is met as before. -/
theorem Sim.frame {α : Al} {w0 w w' : World} {H : Heap} (h : Sim α w0 H w) (hB : Below w.heap.size w w') : Sim α w0 H w' := by
  refine ⟨fun i p hp => by have := h.lt i p hp; have := hB.size; omega, h.dom, h.below.trans (hB.mono h.below.size), ?_, ?_, h.inj⟩
  · intro i b hb
    exact (h.blk i b hb).congr fun p hp => hB.block _ (h.lt i p hp)
  · intro bb oo hm
    obtain ⟨g1, g2, g3⟩ := h.gh bb oo hm
    exact ⟨g1, (hB.block bb (Array.getElem?_eq_some_iff.1 g2).1).trans g2, g3⟩

theorem lit_inv {α : Al} {v v' : Value} (h : VR α v v') (hl : isLit v = true) : v' = v := by
  cases h <;> first | rfl | (simp [isLit, unk] at hl)

/-- Nothing is known of the variables. -/
def blind (G : Nat) : Heap := List.replicate G .dead

theorem blind_sim {G : Nat} {w : World} (hG : G ≤ w.heap.size) : Sim (idAl G) w (blind G) w := by
  refine ⟨?_, ?_, Below.refl _ w, ?_, fun _ _ h => (nomatch h), ?_⟩
  · intro i p hp
    simp only [idAl] at hp
    split at hp
    · cases hp; simp only; omega
    · cases hp
  · intro i hi
    have : ¬ i < G := by simp [blind] at hi; omega
    simp [idAl, this]
  · intro i b hb
    have : b = .dead := by
      have := List.mem_of_getElem? hb
      exact List.eq_of_mem_replicate this
    subst this
    trivial
  · intro i j bi bj p q _ hi hj oi
    have : bi = .dead := List.eq_of_mem_replicate (List.mem_of_getElem? hi)
    subst this
    simp [own] at oi

def xClosed (v : Value) : List Value → Heap → Option Out
  | [], H => some (.ret v H)
  | _, _ => none

def retIs (v : Value) : Option Out → Bool
  | some (.ret u _) => beqV u v
  | _ => false

theorem CallSem.mono {P : Program} {f : FuncId} {args : Array Value} {w : World} {R R' : Ending → World → Prop} (h : CallSem P f args w R) (hr : ∀ e w', R e w' → R' e w') : CallSem P f args w R' := by
  rcases h with ⟨h1, h2⟩ | ⟨v, w', h1, h2⟩
  · exact .inl ⟨h1, h2.mono fun e w' hR => hr e w' hR⟩
  · exact .inr ⟨v, w', h1, hr _ _ h2⟩

theorem xClosed_ok {P : Program} {T : Tab} (hT : TabOk P T) (hD : DTabOk P T) (hI : IntrOk P T) {n : Nat} {f : FuncId} {v : Value} {H1 : Heap} (h : Ve.run T n f [] (blind P.globals.size) = some (.ret v H1)) (hv : isLit v = true) : XOk P f (xClosed v) := by
  intro args H out he α w0 w args' hg hs ha
  unfold xClosed at he
  split at he
  · cases he
    cases ha
    have hG : P.globals.size ≤ w.heap.size := by
      cases hsz : P.globals.size with
      | zero => omega
      | succ k => have := hs.lt k _ (hg k (by omega)); simp only at this; omega
    have := run_sound hT hD hI h (α := idAl P.globals.size) (w0 := w) (w := w) (args' := []) (fun g hg' => by simp [idAl, hg']) (blind_sim hG) .nil
    refine CallSem.mono this ?_
    rintro e w' ⟨β, v', hl, rfl, hvr, hsim⟩
    have := lit_inv hvr hv
    subst this
    exact ⟨α, _, Al.le_refl α, rfl, VR.lit hv, hs.frame hsim.below⟩
  · cases he

/-- The same, off a check that the kernel makes. -/
theorem run_of_isTrue {T : Tab} {n : Nat} {f : FuncId} {H : Heap} (h : (match Ve.run T n f [] H with | some (.ret (.bool true) _) => true | _ => false) = true) : ∃ H1, Ve.run T n f [] H = some (.ret (.bool true) H1) := by
  split at h
  · rename_i H1 e; exact ⟨H1, e⟩
  · cases h

end Ve
end Go.Proofs.YtnociodpfmlglaaGreatDoor
