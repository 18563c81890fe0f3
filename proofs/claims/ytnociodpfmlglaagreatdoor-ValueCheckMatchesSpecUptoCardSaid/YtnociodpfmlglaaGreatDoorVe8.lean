/-
  Operations on memory, second part: conversions of texts, make, copy, append.
-/
import Derived.Test.YtnociodpfmlglaaGreatDoorVe7
import Derived.Lib.ConvBytes
import Derived.Laws.IdiomStrings
import Derived.Laws.AppendOwn
import Derived.IntWalk
set_option linter.unusedVariables false
set_option linter.unusedSimpArgs false
namespace Go.Proofs.YtnociodpfmlglaaGreatDoor
namespace Ve
open Go Go.RowKit
section
variable {P : Program} {α : Al} {ρ : Operand → Value} {env : Env} {w0 w : World} {H : Heap}

theorem isU8_und {e : TypeId} (h : isU8 P e = true) : P.underlying e = some (.int .u8) := by
  unfold isU8 at h
  split at h
  · assumption
  · cases h

theorem VR.sli0 {β : Al} {i b n c c' s : Nat} (h : β i = some (b, 0)) (hn : n ≤ c) (hc : c ≤ c') (ht : c' * s ≤ β.tot b) : VR β (.slice (some ⟨i, 0, some s⟩) n c) (.slice (some ⟨b, 0, none⟩) n c') :=
  VR.sli h hn hc (.inl (by simp)) (by omega)

theorem byteCells_lit (l : List UInt8) : (byteCells l).all isLit = true := by simp [byteCells, isLit]

theorem l_s2b {o : Oper} {s d e : TypeId} {x : Operand} {out : Out} (ho : o.op = .convert s d x) (hs1 : P.underlying s = some .string) (hd : P.underlying d = some (.slice e)) (hu : isU8 P e = true) (hx : VR α (rd env x) (ρ x))
    (hs : Sim α w0 H w) (he : evI env H (.s2b x) = some out) : Loud P α w0 w o ρ out := by
  simp only [evI] at he
  split at he
  · rename_i t e1
    split at he
    · rename_i hle
      simp only [Option.some.injEq] at he
      rw [e1] at hx
      have hrun := Lib.run_convert_string_bytes (P := P) w s d e t hs1 hd (isU8_und hu)
      have hcap := grownCap_ge w t.size 0 e
      have hB : Below w.heap.size w (Lib.bytesWorld w e t) :=
        ⟨by unfold Lib.bytesWorld World.freeze; split <;> rfl, by unfold Lib.bytesWorld World.freeze; split <;> rfl, by unfold Lib.bytesWorld World.freeze; split <;> rfl, by rw [Lib.bytesWorld_size]; omega, fun k hk => Lib.bytesWorld_at_old w e t k hk⟩
      have hnew := Lib.bytesWorld_at_new w e t
      have hcells : Lib.bytesCells w e t = ⟨byteCells (bytesOf t) ++ List.replicate (grownCap w t.size 0 e - t.size) (.int .u8 0)⟩ := by
        apply Array.ext'
        simp [Lib.bytesCells, byteCells, bytesOf]
      rw [hcells] at hnew
      have hlen : (byteCells (bytesOf t)).length = t.size := by simp [byteCells, bytesOf]
      have hsim := hs.grow_cells hB (VRs.lits (byteCells_lit (bytesOf t))) (.loose none) (by simp) 0 (fun _ e => nomatch e) (fun _ e => nomatch e) hnew (by
        intro j hj
        have : (⟨byteCells (bytesOf t) ++ List.replicate (grownCap w t.size 0 e - t.size) (Value.int .u8 0)⟩ : Array Value).size = (byteCells (bytesOf t)).length + (List.replicate (grownCap w t.size 0 e - t.size) (Value.int .u8 0)).length := by simp
        simp only [this]
        omega)
      refine ⟨_, _, .slice (some ⟨w.heap.size, 0, none⟩) t.size (grownCap w t.size 0 e), _, Lib.bytesWorld w e t, he.symm, hs.le_ext _, .sli0 (Al.ext_new _ _ _ _) (Nat.le_refl _) hcap ?_, hsim, .inl ?_⟩
      · rw [Al.ext_tot, hlen, List.length_replicate]; omega
      · simp only [execOp, ho, hx.str_inv, Sem.run_bind, hrun, Result.andThen_ok, Sem.run_pure]
    · cases he
  · cases he

theorem toBytes_rel : ∀ {l l' : List Value} {b : List UInt8}, VRs α l l' → toBytes l = some b → ∃ ns : List Int, l' = ns.map (Value.int .u8) ∧ ns.map (fun n => UInt8.ofNat n.toNat) = b
  | [], _, b, .nil, h => ⟨[], rfl, by simpa [toBytes] using h⟩
  | v :: l, _, b, .cons hv hs, h => by
    cases v with
    | int k n =>
      cases k <;> simp only [toBytes, reduceCtorEq] at h
      cases e : toBytes l with
      | none => rw [e] at h; cases h
      | some b' =>
        rw [e] at h
        simp only [Option.map_some, Option.some.injEq] at h
        obtain ⟨ns, h1, h2⟩ := toBytes_rel hs e
        exact ⟨n :: ns, by rw [hv.int_inv, h1]; rfl, by simp [h2, ← h]⟩
    | _ => simp [toBytes] at h

theorem foldl_push_ints : ∀ (ns : List Int) (r : ByteArray), ns.foldl (fun r n => r.push (UInt8.ofNat n.toNat)) r = ⟨r.data ++ (ns.map fun n => UInt8.ofNat n.toNat).toArray⟩
  | [], r => by simp
  | n :: ns, r => by
    simp only [List.foldl_cons]
    rw [foldl_push_ints ns]
    simp [ByteArray.push]

theorem l_b2s {o : Oper} {s d e : TypeId} {x : Operand} {out : Out} (ho : o.op = .convert s d x) (hs1 : P.underlying s = some (.slice e)) (hd : P.underlying d = some .string) (hu : isU8 P e = true) (hx : VR α (rd env x) (ρ x))
    (hs : Sim α w0 H w) (he : evI env H (.b2s x) = some out) : Loud P α w0 w o ρ out := by
  simp only [evI] at he
  have hconv : ∀ a l c, (Go.convert s d (.slice a l c)).run P w = (Conv.bytesToString (.slice a l c)).run P w := fun a l c => run_convert_bytes_string w s d e a l c hs1 (isU8_und hu) hd
  have fin : ∀ b : List UInt8, out = .ret (strOf b) H → (∃ a l c, ρ x = .slice a l c ∧ (Conv.bytesToString (.slice a l c)).run P w = .ok (strOf b) w) → Loud P α w0 w o ρ out := by
    rintro b h ⟨a, l, c, h1, h2⟩
    refine ⟨α, _, strOf b, _, w, h, Al.le_refl _, .str _, hs, .inl ?_⟩
    simp only [execOp, ho, h1, Sem.run_bind, hconv, h2, Result.andThen_ok, Sem.run_pure]
  split at he
  · rename_i n c e1
    rw [e1] at hx
    simp only [Option.some.injEq] at he
    refine fin [] he.symm ⟨none, n, c, ?_, rfl⟩
    generalize ρ x = r at hx
    cases hx; rfl
  · rename_i i k sp len c e1
    rw [e1] at hx
    split at he
    · rename_i h0
      subst h0
      simp only [Option.some.injEq] at he
      generalize hr : ρ x = r at hx
      have : ∃ b c', r = .slice (some b) 0 c' := by cases hx <;> exact ⟨_, _, rfl⟩
      obtain ⟨b, c', rfl⟩ := this
      refine fin [] he.symm ⟨_, _, _, hr, ?_⟩
      have := run_bytesToString (P := P) w b 0 c' [] rfl
      rw [this]
      rfl
    · rename_i h0
      split at he
      · rename_i l hg
        cases hb : toBytes l with
        | none => rw [hb] at he; cases he
        | some b =>
          rw [hb] at he
          simp only [Option.map_some, Option.some.injEq] at he
          generalize hr : ρ x = r at hx
          have : ∃ q sh c', r = .slice (some ⟨q, sh + k, none⟩) len c' ∧ α i = some (q, sh) := by
            cases hx with
            | slx h hn hoo => rcases hoo with rfl | hoo; exact ⟨_, _, _, rfl, h⟩; omega
            | slz a => exact absurd rfl h0
            | sli h hn hcc hoo htt => rcases hoo with rfl | hoo; exact ⟨_, _, _, rfl, h⟩; omega
          obtain ⟨q, sh, c', rfl, ha⟩ := this
          obtain ⟨l', h1, h2, h3⟩ := getN_cells hs hg ha P
          obtain ⟨ns, h4, h5⟩ := toBytes_rel h2 hb
          refine fin b he.symm ⟨_, _, _, hr, ?_⟩
          rw [h4] at h1
          have := run_bytesToString (P := P) w ⟨q, sh + k, none⟩ len c' ns h1
          rw [this, foldl_push_ints, h5]
          simp [strOf]
      · cases he
  · cases he

theorem wrap_i64 {n : Int} (h0 : 0 ≤ n) (h1 : n ≤ 140737488355328) : IntKind.i64.wrap n = n := IntWalk.i64_in n (by omega)

theorem l_mksl {o : Oper} {t e : TypeId} {l c : Operand} {i : TypeInfo} {z : List Value} {out : Out} (ho : o.op = .makeSlice t l c) (ht : P.underlying t = some (.slice e)) (hi : P.info? e = some i) (hz : zeroCells P e = some z)
    (hc : 0 < i.size ∧ z.length = i.size) (hl : VR α (rd env l) (ρ l)) (hcp : VR α (rd env c) (ρ c)) (hs : Sim α w0 H w) (he : evI env H (.mksl z i.bytes l c) = some out) : Loud P α w0 w o ρ out := by
  simp only [evI] at he
  split at he
  · rename_i k1 len k2 cap e1 e2
    rw [e1] at hl; rw [e2] at hcp
    split at he
    · rename_i hb
      obtain ⟨b1, b2, b3, b4⟩ := hb
      simp only [Option.some.injEq] at he
      obtain ⟨zv, hz1, hz2, hlit⟩ := run_zero (w := w) hz
      refine ⟨_, _, _, _, w.alloc (.cells ⟨(List.replicate cap.toNat z).flatten⟩ e), he.symm, hs.le_ext _, .slx0 (Al.ext_new _ _ _ _) (by omega), hs.alloc_cells (VRs.lits (flatten_lit (n := cap.toNat) hlit)) (.fix none) (by simp) e (fun _ e => nomatch e) (fun _ e => nomatch e), .inl ?_⟩
      · have hwl := wrap_i64 b1 (by omega : len ≤ 140737488355328)
        have hwc := wrap_i64 (by omega : 0 ≤ cap) b3
        have hcells : cells? P e = some i.size := by simp [cells?, hi]
        have hbig : ¬ ((i.bytes : Int) * cap > 2 ^ 48) := by
          have : ((cap.toNat * i.bytes : Nat) : Int) = cap * i.bytes := by
            rw [Int.natCast_mul, Int.toNat_of_nonneg (by omega)]
          rw [Int.mul_comm]
          omega
        simp only [execOp, ho, hl.int_inv, hcp.int_inv, Instr.makeSlice, Sem.run_bind, run_und ht, Result.andThen_ok, asInt, asIntOf, Sem.run_pure, run_info hi, hwl, hwc]
        have hcond : ((decide (cap < 0) || decide ((i.bytes : Int) * cap > 2 ^ 48)) || decide (len < 0) || decide (len > cap)) = false := by
          simp only [Bool.or_eq_false_iff, decide_eq_false_iff_not]
          exact ⟨⟨⟨by omega, hbig⟩, by omega⟩, by omega⟩
        rw [if_neg (by rw [hcond]; simp)]
        simp only [Sem.run_bind, Sem.run_pure, Result.andThen_ok, run_askRoom, run_size hcells]
        by_cases h0 : cap.toNat * i.size = 0
        · have hcz : cap.toNat = 0 := by rcases Nat.mul_eq_zero.1 h0 with h | h; exact h; omega
          rw [if_pos h0]
          have hrow : (Array.range (cap.toNat * i.size)).map (fun j => (#[] : Array Value)[j % (#[] : Array Value).size]!) = ⟨(List.replicate cap.toNat z).flatten⟩ := by
            rw [hcz]; simp
          simp only [Sem.run_pure, Result.andThen_ok, Sem.run_bind, newRow, run_newObj, hrow]
          rfl
        · rw [if_neg h0]
          simp only [Sem.run_pure, Result.andThen_ok, Sem.run_bind, hz1, hz2, newRow, run_newObj, rows_eq z i.size hc.2 hc.1]
          rfl
    · cases he
  · cases he


/-! copy and append -/
theorem bytes_take (s : ByteArray) (n : Nat) : ((s.extract 0 n).data.map fun b => (.int .u8 b.toNat : Value)) = ⟨byteCells ((bytesOf s).take n)⟩ := by
  apply Array.ext'
  have := Lib.extract_data s 0 n
  simp only [Array.toList_map, this]
  simp [byteCells, bytesOf]

theorem cellsIn_run (hs : Sim α w0 H w) {size n : Nat} {x x' : Value} {cs : List Value} (hx : VR α x x') (hc : cellsIn H size n x = some cs) :
    ∃ cs', (Builtin.firstCells size n x').run P w = .ok ⟨cs'⟩ w ∧ VRs α cs cs' := by
  unfold cellsIn at hc
  split at hc
  · split at hc
    · cases hc
      cases hx
      exact ⟨[], rfl, .nil⟩
    · cases hc
  · rename_i i o s len cap
    split at hc
    · rename_i h0
      cases hc
      have : ∃ b c', x' = .slice (some b) len c' := by cases hx <;> exact ⟨_, _, rfl⟩
      obtain ⟨b, c', rfl⟩ := this
      refine ⟨[], ?_, .nil⟩
      simp only [Builtin.firstCells, h0]
      rfl
    · rename_i h0
      split at hc
      · rename_i hle
        have : ∃ b sh c', x' = .slice (some ⟨b, sh + o, none⟩) len c' ∧ α i = some (b, sh) := by
          have hn0 : n ≠ 0 := by rintro rfl; simp at h0
          cases hx with
          | slx h hn hoo => rcases hoo with rfl | hoo; exact ⟨_, _, _, rfl, h⟩; omega
          | slz a => omega
          | sli h hn hcc hoo htt => rcases hoo with rfl | hoo; exact ⟨_, _, _, rfl, h⟩; omega
        obtain ⟨b, sh, c', rfl, ha⟩ := this
        obtain ⟨l', h1, h2, h3⟩ := getN_cells hs hc ha P
        exact ⟨l', h1, h2⟩
      · cases hc
  · split at hc
    · rename_i h1
      cases hc
      rw [hx.str_inv]
      refine ⟨_, ?_, VRs.lits (byteCells_lit _)⟩
      simp only [Builtin.firstCells, Sem.run_pure, bytes_take]
    · cases hc
  · split at hc
    · rename_i h1
      simp only [Option.some.injEq] at hc
      subst hc
      cases hx with
      | func _ hf _ _ => cases hf
      | gsl h hr =>
        rename_i l' m b ty
        obtain ⟨g1, g2, g3⟩ := hs.gh _ _ h
        refine ⟨l', ?_, hr⟩
        have := run_loadCells_list (P := P) (w := w) ⟨b, 0, none⟩ l' (by
          intro j v hj
          rw [add_none, cell?_of g2, Nat.zero_add]
          exact hj)
        rw [hr.length, h1.1] at this
        simp only [Builtin.firstCells]
        exact this
    · cases hc
  · cases hc

theorem lenOf_run {x x' : Value} {n : Nat} (hx : VR α x x') (h : lenOf x = some n) (w : World) : (Builtin.lenOf x').run P w = .ok n w := by
  unfold lenOf at h
  split at h
  · cases h
    cases hx with
    | func _ hf _ _ => cases hf
    | gsl h hr => rfl
  · cases h; cases hx <;> rfl
  · cases h; rw [hx.str_inv]; rfl
  · cases h

theorem l_copy {o : Oper} {c : Call} {t e : TypeId} {size : Nat} {d x : Operand} {out : Out} (ho : o.op = .call c) (hb : c.callee = .builtin .copy) (ha : c.args.toList = [d, x]) (ht : (c.argTypes[0]?).bind P.underlying = some (.slice e)) (hn : cells? P e = some size)
    (hd : VR α (rd env d) (ρ d)) (hx : VR α (rd env x) (ρ x)) (hs : Sim α w0 H w) (he : evI env H (.copy size d x) = some out) : Loud P α w0 w o ρ out := by
  simp only [evI] at he
  obtain ⟨t, ht1, ht2⟩ := argType ht
  split at he
  · rename_i base dl dc n e1 e2
    rw [e1] at hd
    split at he
    · rename_i cs e3
      obtain ⟨cs', h1, h2⟩ := cellsIn_run (P := P) hs hx e3
      have hlen := lenOf_run (P := P) hx e2 w
      have hrun : ∀ b' c', ρ d = .slice b' dl c' → ∀ w', ((match b' with | some a => storeCells a cs' | none => (pure () : Sem Unit)).run P w = .ok () w') → (execOp ρ o).run P w = .ok (.value (.int .i64 (Nat.min n dl))) w' := by
        intro b' c' hr w' hst
        rw [builtin_exec ho hb, args_two ha, hr]
        simp only [Go.builtin, Builtin.copy_, Sem.run_bind, ht1]
        simp only [List.getElem?_toArray, List.getElem?_cons_zero, List.getElem?_cons_succ, Sem.run_bind, run_und ht2, Result.andThen_ok, hlen, run_size hn, h1, Sem.run_pure]
        cases b' with
        | none =>
          simp only [Sem.run_pure] at hst
          cases hst
          rfl
        | some a =>
          simp only at hst
          simp only [Sem.run_bind, hst, Result.andThen_ok, Sem.run_pure, goInt]
      split at he
      · split at he
        · rename_i hemp
          simp only [Option.some.injEq] at he
          generalize hr : ρ d = r at hd
          cases hd
          exact ⟨α, _, _, _, w, he.symm, Al.le_refl _, .int _ _, hs, .inl (hrun none dc hr w rfl)⟩
        · cases he
      · rename_i i k s
        cases hp : putN H i k cs with
        | none => rw [hp] at he; cases he
        | some H' =>
          rw [hp] at he
          simp only [Option.map_some, Option.some.injEq] at he
          generalize hr : ρ d = r at hd
          by_cases hnil : cs = []
          · subst hnil
            cases h2
            have : H' = H := by simp [putN] at hp; exact hp.symm
            subst this
            have : ∃ b c', r = .slice (some b) dl c' := by cases hd <;> exact ⟨_, _, rfl⟩
            obtain ⟨b, c', rfl⟩ := this
            exact ⟨α, _, _, _, w, he.symm, Al.le_refl _, .int _ _, hs, .inl (hrun _ c' hr w rfl)⟩
          · have hdl : dl ≠ 0 := by
              rintro rfl
              have : Nat.min n 0 = 0 := Nat.min_zero n
              rw [this] at e3
              unfold cellsIn at e3
              split at e3 <;> simp at e3
              · exact hnil e3
              · exact hnil e3
              · exact hnil (by rw [← e3.2]; rfl)
            have : ∃ b sh c', r = .slice (some ⟨b, sh + k, none⟩) dl c' ∧ α i = some (b, sh) := by
              cases hd with
              | slx h hn hoo => rcases hoo with rfl | hoo; exact ⟨_, _, _, rfl, h⟩; omega
              | slz a => exact absurd rfl hdl
              | sli h hn hcc hoo htt => rcases hoo with rfl | hoo; exact ⟨_, _, _, rfl, h⟩; omega
            obtain ⟨b, sh, c', rfl, hai⟩ := this
            obtain ⟨w', g1, g2⟩ := hs.put hp h2 P hai
            exact ⟨α, _, _, _, w', he.symm, Al.le_refl _, .int _ _, g2, .inl (hrun _ c' hr w' g1)⟩
    · cases he
  · cases he

theorem growBy_ge : ∀ (r c n : Nat), n ≤ c → Builtin.growBy n r c = c
  | 0, c, n, h => rfl
  | r + 1, c, n, h => by simp [Builtin.growBy, h]
theorem growBy_le : ∀ (r c n : Nat), c < n → Builtin.growBy n r c ≤ n + (n + 768) / 4
  | 0, c, n, h => by simp [Builtin.growBy]; omega
  | r + 1, c, n, h => by
    simp only [Builtin.growBy]
    rw [if_neg (by omega)]
    by_cases h2 : c + (c + 768) / 4 < n
    · exact growBy_le r _ n h2
    · rw [growBy_ge r _ n (by omega)]; omega
theorem nextcap_le {n c : Nat} (h : c < n) : Builtin.nextslicecap n c ≤ 2 * n + 1024 := by
  unfold Builtin.nextslicecap
  split
  · omega
  · split
    · omega
    · have := growBy_le 4 c n h; omega

end
end Ve
end Go.Proofs.YtnociodpfmlglaaGreatDoor
