/-
  A law's call in the given world: what the machine says of it, as the statement asks.
-/
import Derived.Test.YtnociodpfmlglaaGreatDoorVE
import Derived.ChangeStays
import Derived.ChangeSame
import Derived.ReadAgain
import Derived.ProofKit
import Derived.WalkKit
import Derived.OpenShut
import Derived.Deep.DeepHandedRow
import Derived.Lib.LaidTab
set_option linter.unusedVariables false
namespace Go.Proofs.YtnociodpfmlglaaGreatDoor
namespace Ve
open Go Go.RowKit Go.WideShapes Go.ChangeShapes

section
variable {H : Type} {enc : TypeId × Value → H} {P : Program}

theorem post_of_below {f : Func} {s : ChangeSpec} {apart fresh handsOn again : Bool} {W W' : World} {args : Array Value} {v : Value} {ds gs : List (DataW H)} {before pa pv : List MemPlace}
    (hW : DataW.Whole enc P f.params.toList s.vars apart W args.toList ds gs before)
    (hres : ∀ (b : Nat) (sp : Nat → Bool) (hd : Bool), DataW.TrodAll enc P W' b sp hd f.resultTypes.toList (v.resultList f.resultTypes.size) (s.fn H (ds ++ gs)).results [])
    (hargs : ∀ sp : Nat → Bool, (∀ p ∈ before, sp p.block = true) → DataW.TrodAll enc P W' 0 sp true f.params.toList args.toList (s.fn H (ds ++ gs)).args pa)
    (hvars : ∀ sp : Nat → Bool, (∀ p ∈ before, sp p.block = true) → DataW.TrodVars enc P W' sp s.vars (s.fn H (ds ++ gs)).vars pv)
    (hps : before = pa ++ pv) (hb : Below W.heap.size W W')
    (hok : ∀ (j : Nat) (t : TypeId) (r : Value), f.resultTypes[j]? = some t → (v.resultList f.resultTypes.size)[j]? = some r → Value.okWide P W' .any 0 t r) :
    s.post enc P f apart fresh handsOn again W args v W' := by
  have hlt : ∀ p ∈ before, p.block < W.heap.size := fun p hp => hW.lt p hp
  have hold : ∀ p ∈ before, (fun b => decide (b < W.heap.size)) p.block = true := fun p hp => by simpa using hlt p hp
  refine ⟨ds, gs, before, [], pa, pv, hW, hres _ _ _, hargs _ hold, hvars _ hold, World.keptBut_mono (fun p hp => ⟨hp, ?_⟩) (hb.frame (· ∈ before)), fun _ => ?_⟩
  · rw [hps, List.mem_append] at hp
    exact Or.inr hp
  · obtain ⟨_, _, _, _, _, hz, hn⟩ := hW
    refine ⟨hok, _, _, ([] ++ pa) ++ pv, ⟨[] ++ pa, pv, trodAll_append (hargs _ (fun _ _ => rfl)) (hres _ _ _), hvars _ (fun _ _ => rfl), rfl, ?_, ?_⟩, ?_⟩
    · intro b off hp
      have hp' : MemPlace.cell b off ∈ before := by rw [hps]; simpa using hp
      rw [hb.frozen (p := ⟨b, off, none⟩) (hlt _ hp')]
      exact hz b off hp'
    · intro ha
      have := hn ha
      rw [hps] at this
      simpa using this
    · intro p hp _
      rw [hps]
      simpa using hp

theorem trodAll_stays {T : TypeId → Prop} {W W' : World} (K : Kids P T) (hsz : ∀ {t e : TypeId}, T t → P.underlying t = some (.slice e) → 0 < P.cellsOf e) {sp : Nat → Bool} :
    ∀ {ts : List TypeId} {vs : List Value} {ds : List (DataW H)} {ps : List MemPlace}, (∀ t ∈ ts, T t) → DataW.TrodAll enc P W 0 (fun _ => true) true ts vs ds ps → (∀ p ∈ ps, W.sameAt W' p) → (∀ p ∈ ps, sp p.block = true) → DataW.TrodAll enc P W' 0 sp true ts vs ds ps
  | [], [], [], _, _, h, _, _ => h
  | _ :: _, _ :: _, _ :: _, _, hT, ⟨p, q, ⟨n, h1⟩, h2, e⟩, hm, hs =>
    ⟨p, q, ⟨n, DataW.trod_stays K hsz (fun h => by cases h) (hT _ (List.mem_cons.2 (Or.inl rfl))) h1 (fun x hx => hm x (by rw [e]; exact List.mem_append_left _ hx)) (fun x hx => hs x (by rw [e]; exact List.mem_append_left _ hx))⟩,
      trodAll_stays K hsz (fun t ht => hT t (List.mem_cons.2 (Or.inr ht))) h2 (fun x hx => hm x (by rw [e]; exact List.mem_append_right _ hx)) (fun x hx => hs x (by rw [e]; exact List.mem_append_right _ hx)), e⟩

theorem sameAt_below {W W' : World} (hb : Below W.heap.size W W') {p : MemPlace} (hp : p.block < W.heap.size) : W.sameAt W' p := by
  cases p with
  | cell b off => exact hb.cell (p := ⟨b, off, none⟩) hp
  | map b => exact hb.block b hp

/-- A call of a function with a body, entered. -/
theorem calls_of_sem {f : FuncId} {F : Func} {args : Array Value} {w : World} {R : Ending → World → Prop} (hF : P.funcs[f]? = some F) (hname : (F.name == "runtime.NumGoroutine") = false) (hb : F.body.isSome = true) (h : CallSem P f args w R) : Calls P f args w R := by
  rcases h with ⟨_, h2⟩ | ⟨v, w', h1, _⟩
  · exact h2
  · have hen : (callFunc f args).run P w = .ok (.enter f args) w := by
      obtain ⟨c, hc⟩ := Option.isSome_iff_exists.1 hb
      simp only [callFunc, Sem.run_bind, run_program, Result.andThen_ok, hF]
      rw [if_neg (by simpa using hname)]
      rw [hc]
      rfl
    rw [hen] at h1
    cases h1

/-- A law that answers true and leaves its arguments alone. -/
theorem law_post {f : FuncId} {F : Func} {s : ChangeSpec} {W : World} {args : Array Value} {ds gs : List (DataW H)} {before : List MemPlace} {tb : TypeId}
    (hl : laidOutB P = true) (hm : mapsRowed P = true) (hz : ((List.range P.types.size).all fun t => match P.underlying t with | some (.slice e) => decide (0 < P.cellsOf e) | _ => true) = true)
    (hF : P.funcs[f]? = some F) (hname : (F.name == "runtime.NumGoroutine") = false) (hbody : F.body.isSome = true) (hres : F.resultTypes = #[tb]) (hb : P.underlying tb = some .bool) (hps : F.params.toList.all (fun t => decide (t < P.types.size)) = true)
    (hvars : s.vars = []) (hspec : (s.fn H ds).results = [.lit (.bool true)] ∧ (s.fn H ds).args = ds ∧ (s.fn H ds).vars = [])
    (hW : DataW.Whole enc P F.params.toList s.vars false W args.toList ds gs before)
    (hrun : CallSem P f args W (fun e W' => e = .returned (.bool true) ∧ Below W.heap.size W W')) :
    Calls P f args W fun e W' => ∃ v, e = .returned v ∧ s.post enc P F false true false false W args v W' := by
  refine (calls_of_sem hF hname hbody hrun).mono fun e W' ⟨he, hbe⟩ => ?_
  subst he
  have hW' := hW
  obtain ⟨p, q, hA, hV, hpq, hfz, hnd⟩ := hW
  have hgs : gs = [] ∧ q = [] := by
    rw [hvars] at hV
    cases gs with
    | nil => exact ⟨rfl, hV⟩
    | cons g gs => cases hV
  obtain ⟨rfl, rfl⟩ := hgs
  have hlt : ∀ x ∈ before, x.block < W.heap.size := fun x hx => hW'.lt x hx
  obtain ⟨s1, s2, s3⟩ := hspec
  refine ⟨.bool true, rfl, post_of_below (pa := before) (pv := []) hW' ?_ ?_ ?_ (by simp) hbe ?_⟩
  · intro b sp hd
    rw [List.append_nil, s1, hres]
    exact trodAll_mk1 ⟨1, by unfold DataW.trod; rw [hb]; rfl⟩
  · intro sp hsp
    rw [List.append_nil, s2]
    have hA' : DataW.TrodAll enc P W 0 (fun _ => true) true F.params.toList args.toList ds before := by rw [hpq, List.append_nil]; exact hA
    exact trodAll_stays (kids_rows hl hm) (fun {t e} ht hu => slices_full_of P hz t e ht hu) (fun t ht => by simpa using List.all_eq_true.1 hps t ht) hA' (fun x hx => sameAt_below hbe (hlt x hx)) hsp
  · intro sp hsp
    rw [List.append_nil, s3, hvars]
    rfl
  · intro j t r h1 h2
    rw [hres] at h1
    cases j with
    | zero =>
      simp at h1
      subst h1
      rw [hres] at h2
      simp [Value.resultList] at h2
      subst h2
      exact okWide_bool_mk hb _
    | succ j => simp at h1
end

theorem get1_at {w : World} {b o : Nat} {v : Value} {c : Array Value} (h : w.cell? ⟨b, o, none⟩ = some v) : get1 (absH w) b o = some (absC w.heap.size v) := get1_absH h

/-- Cells that the world has, as the machine sees them. -/
theorem getN_absH {w : World} {base n : Nat} {a : Addr} {cs : List Value} (h : w.cells? base a n = some cs) (hn : 0 < n) : a.spot = none ∧ a.block < w.heap.size ∧ getN (absH w) a.block a.off n = some (cs.map (absC w.heap.size)) := by
  obtain ⟨_, hl, hc⟩ := World.cells?_some h
  obtain ⟨b, o, s⟩ := a
  have hs : s = none := by
    cases s with
    | none => rfl
    | some s =>
      have h0 := hc 0 hn
      have : cs[0]? = some cs[0] := List.getElem?_eq_getElem (by omega)
      rw [this] at h0
      unfold World.cell? at h0
      simp [Addr.add] at h0
      split at h0 <;> simp at h0
  subst hs
  have h0 := hc 0 hn
  rw [List.getElem?_eq_getElem (by omega : 0 < cs.length)] at h0
  unfold World.cell? at h0
  split at h0
  · rename_i c ty fr hb
    have hlt := (Array.getElem?_eq_some_iff.1 hb).1
    refine ⟨rfl, hlt, ?_⟩
    have hcell : ∀ i, i < n → c[o + i]? = cs[i]? := by
      intro i hi
      have := hc i hi
      unfold World.cell? at this
      have e : ((⟨b, o, none⟩ : Addr).add i) = ⟨b, o + i, none⟩ := add_none _ _ _
      rw [e] at this
      simp only at this
      have hb' : w.heap[b]? = some (.cells c ty fr) := hb
      rw [hb'] at this
      simpa using this
    have hsz : o + n ≤ c.size := by
      have := hcell (n - 1) (by omega)
      rw [List.getElem?_eq_getElem (by omega : n - 1 < cs.length)] at this
      have := (Array.getElem?_eq_some_iff.1 this).1
      omega
    have hb2 : w.heap[b]? = some (.cells c ty fr) := hb
    show getN (absH w) b o n = _
    rw [getN_of (absH_cells hb2), if_pos (by simp; omega)]
    congr 1
    apply List.ext_getElem?
    intro i
    by_cases hi : i < n
    · rw [List.getElem?_take_of_lt hi, List.getElem?_drop, List.getElem?_map, List.getElem?_map]
      congr 1
      have := hcell i hi
      rw [← this]
      simp
    · rw [List.getElem?_eq_none (by simp; omega), List.getElem?_eq_none (by simp; omega)]
  · simp at h0

end Ve
end Go.Proofs.YtnociodpfmlglaaGreatDoor
