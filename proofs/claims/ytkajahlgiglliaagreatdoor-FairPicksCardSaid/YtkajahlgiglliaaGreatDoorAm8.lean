/- Aggregates that are built; then all operations that leave the heap alone, in one theorem. -/
import Derived.Test.YtkajahlgiglliaaGreatDoorAm7
import Derived.Laws.Externs
import Derived.KernelRfl
namespace Go.AM

theorem putAt_length : ∀ (o : Nat) (vs l : List AV), (putAt o vs l).length = l.length
  | _, [], l => by cases l <;> simp [putAt]
  | 0, v :: vs, [] => by simp [putAt]
  | _ + 1, v :: vs, [] => by simp [putAt]
  | 0, v :: vs, x :: l => by simp [putAt, putAt_length 0 vs l]
  | o + 1, v :: vs, x :: l => by simp [putAt, putAt_length o (v :: vs) l]

theorem putAt_get : ∀ (o : Nat) (vs l : List AV), o + vs.length ≤ l.length → ∀ k : Nat, (putAt o vs l)[k]? = if o ≤ k ∧ k < o + vs.length then vs[k - o]? else l[k]?
  | o, [], l, _, k => by
    rw [if_neg (by simp only [List.length_nil]; omega)]; cases l <;> cases o <;> simp [putAt]
  | 0, v :: vs, [], h, k => by simp at h
  | o + 1, v :: vs, [], h, k => by simp at h
  | 0, v :: vs, x :: l, h, k => by
    cases k with
    | zero => simp [putAt]
    | succ k =>
      have ih := putAt_get 0 vs l (by simp at h; omega) k
      simp only [putAt, List.getElem?_cons_succ, List.length_cons, Nat.sub_zero, Nat.zero_add] at ih ⊢
      rw [ih]
      by_cases hk : k < vs.length
      · rw [if_pos ⟨Nat.zero_le _, hk⟩, if_pos ⟨Nat.zero_le _, by omega⟩]
      · rw [if_neg (by omega), if_neg (by omega)]
  | o + 1, v :: vs, x :: l, h, k => by
    cases k with
    | zero =>
      rw [if_neg (by omega)]; simp [putAt]
    | succ k =>
      have ih := putAt_get o (v :: vs) l (by simp at h ⊢; omega) k
      simp only [putAt, List.getElem?_cons_succ] at ih ⊢
      rw [ih]
      by_cases hk : o ≤ k ∧ k < o + (v :: vs).length
      · rw [if_pos hk, if_pos (by omega)]; congr 1; omega
      · rw [if_neg hk, if_neg (by omega)]

theorem fold_put (off : Nat) : ∀ (vs : List Value) (s : Nat) (cs : Array Value), off + s + vs.length ≤ cs.size →
    ((vs.zipIdx s).foldl (fun cs (p : Value × Nat) => cs.setIfInBounds (off + p.2) p.1) cs).size = cs.size ∧
    ∀ k : Nat, ((vs.zipIdx s).foldl (fun cs (p : Value × Nat) => cs.setIfInBounds (off + p.2) p.1) cs)[k]? = if off + s ≤ k ∧ k < off + s + vs.length then vs[k - (off + s)]? else cs[k]?
  | [], s, cs, _ => ⟨rfl, fun k => by rw [if_neg (by simp only [List.length_nil]; omega)]; rfl⟩
  | v :: vs, s, cs, h => by
    simp only [List.zipIdx_cons, List.foldl_cons]
    obtain ⟨h1, h2⟩ := fold_put off vs (s + 1) (cs.setIfInBounds (off + s) v) (by simp at h ⊢; omega)
    refine ⟨by rw [h1]; simp, fun k => ?_⟩
    rw [h2 k]
    simp only [List.length_cons] at h ⊢
    by_cases hk : off + s = k
    · subst hk
      rw [if_neg (by omega), if_pos (by omega)]
      simp [Array.getElem?_setIfInBounds, show off + s < cs.size by omega]
    · by_cases hk2 : off + (s + 1) ≤ k ∧ k < off + (s + 1) + vs.length
      · rw [if_pos hk2, if_pos (by omega), show k - (off + s) = (k - (off + (s + 1))) + 1 by omega, List.getElem?_cons_succ]
      · rw [if_neg hk2, if_neg (by omega), Array.getElem?_setIfInBounds, if_neg hk]

/-- A piece that is laid over cells. -/
theorem put_sound {m : Env} {c vs : List AV} {cs us : Array Value} (hc : toVs m c = some cs.toList) (hv : toVs m vs = some us.toList) {off : Nat} (h : off + vs.length ≤ c.length) :
    toVs m (putAt off vs c) = some (us.zipIdx.foldl (fun cs (p : Value × Nat) => cs.setIfInBounds (off + p.2) p.1) cs).toList := by
  have l1 := toVs_length hc
  have l2 := toVs_length hv
  simp only [Array.length_toList] at l1 l2
  rw [← Array.foldl_toList, Array.toList_zipIdx]
  obtain ⟨h1, h2⟩ := fold_put off us.toList 0 cs (by simp only [Array.length_toList]; omega)
  refine toVs_of (by rw [Array.length_toList, h1, putAt_length]; omega) ?_
  intro k x hx
  rw [putAt_get off vs c h k] at hx
  rw [Array.getElem?_toList, h2 k]
  simp only [Nat.add_zero, Array.length_toList]
  by_cases hk : off ≤ k ∧ k < off + vs.length
  · rw [if_pos hk] at hx
    obtain ⟨v, hv', e⟩ := toVs_get hv _ _ hx
    exact ⟨v, hv', by rw [if_pos (by omega)]; exact e⟩
  · rw [if_neg hk] at hx
    obtain ⟨v, hv', e⟩ := toVs_get hc _ _ hx
    exact ⟨v, hv', by rw [if_neg (by omega)]; simpa using e⟩

section
variable {P : Program} {NG : PG} {W0 : Base} {m : Env} {H : AHeap} {w : World} {t : List AV} {a : Act}

theorem fill_sound (hg : ∀ g, g < P.globals.size → m g = some (g, 0)) (ht : TRel m t a.tmps) {place : Nat → Option (Nat × Nat)} : ∀ {parts : List (Nat × Operand)} {ps : List (Nat × Nat × AOpd)} {c c' : List AV} {cs : Array Value},
    trParts P place parts = some ps → fillA c (evParts t ps) = some c' → toVs m c = some cs.toList →
    ∃ cs', Instr.fill place cs (parts.map fun p => (p.1, a.eval p.2)) = some cs' ∧ toVs m c' = some cs'.toList := by
  intro parts
  induction parts with
  | nil =>
    intro ps c c' cs hp hf hc
    simp [trParts] at hp; subst hp
    simp [evParts, fillA] at hf; subst hf
    exact ⟨cs, rfl, hc⟩
  | cons p parts ih =>
    intro ps c c' cs hp hf hc
    obtain ⟨i, x⟩ := p
    simp only [trParts] at hp
    split at hp
    · rename_i q y l hq hy hl
      cases hp
      simp only [evParts, fillA] at hf
      split at hf
      · rename_i b1 b2
        have hv := opd_sound hg ht hy
        have hcells := toV_cells hv
        have l1 := toVs_length hc
        have l2 := toVs_length hcells
        simp only [Array.length_toList] at l1 l2
        have e1 := Nat.eq_of_beq_eq_true b1
        have e2 := Nat.le_of_ble_eq_true b2
        obtain ⟨cs', h1, h2⟩ := ih hl hf (put_sound hc hcells e2)
        refine ⟨cs', ?_, h2⟩
        simp only [List.map_cons, Instr.fill, hq]
        have hne : ((a.eval x).cells.size ≠ q.2 || decide (q.1 + (a.eval x).cells.size > cs.size)) = false := by
          simp; omega
        simp only [hne]
        exact h1
      · cases hf
    · cases hp

theorem placesP_run {fields : Array Field} {ps : List (Nat × Nat)} (h : placesP P fields = some ps) : (fields.mapM fun f => do pure (f.offset, ← sizeOf f.type) : Sem (Array (Nat × Nat))).run P w = .ok ps.toArray w := by
  have hl : ∀ (l : List Field) (ps : List (Nat × Nat)), l.mapM (fun f => (sizeP P f.type).map (f.offset, ·)) = some ps → (l.mapM (fun f => do pure (f.offset, ← sizeOf f.type)) : Sem (List (Nat × Nat))).run P w = .ok ps w := by
    intro l
    induction l with
    | nil => intro ps h; simp at h; subst h; simp
    | cons f l ih =>
      intro ps h
      simp only [List.mapM_cons, Option.pure_def, Option.bind_eq_bind, Option.bind_eq_some_iff] at h
      obtain ⟨y, hy, ys, hys, h⟩ := h
      cases h
      simp only [Option.map_eq_some_iff] at hy
      obtain ⟨n, hn, rfl⟩ := hy
      have := sizeP_run (P := P) (w := w) hn
      simp only [List.mapM_cons, Sem.run_bind, this, Result.andThen_ok, Sem.run_pure]
      rw [ih ys hys]; rfl
  have h1 := hl fields.toList ps h
  rw [← Array.toList_mapM, Sem.run_map] at h1
  generalize hx : (fields.mapM (fun f => do pure (f.offset, ← sizeOf f.type)) : Sem (Array (Nat × Nat))).run P w = r at h1
  cases r with
  | ok arr w' =>
    simp only [Result.andThen_ok, Result.ok.injEq] at h1
    obtain ⟨e1, e2⟩ := h1
    subst e2
    rw [← e1]
  | halt x w' => simp [Result.andThen] at h1

theorem parts_map {parts : Array (Nat × Operand)} {a : Act} : (parts.map fun (i, x) => (i, a.eval x)).toList = parts.toList.map fun p => (p.1, a.eval p.2) := by
  simp

theorem build_sound (hg : ∀ g, g < P.globals.size → m g = some (g, 0)) (ht : TRel m t a.tmps) {ty : TypeId} {parts : Array (Nat × Operand)} {ao : AOp} (h : trOp P (.build ty parts) = some ao) {v : AV} (hev : evalP ao t H = some v) :
    ∃ v', v.toV m = some v' ∧ (Instr.build ty (parts.map fun (i, x) => (i, a.eval x))).run P w = .ok v' w := by
  simp only [trOp] at h
  split at h
  · rename_i fs z hu hz
    obtain ⟨zv, hz1, hz2⟩ := zeroP_run (P := P) (w := w) (m := m) hz
    split at h
    · rename_i ps hps
      simp only [Option.map_eq_some_iff] at h
      obtain ⟨qs, hqs, rfl⟩ := h
      simp only [evalP, Option.map_eq_some_iff] at hev
      obtain ⟨c', hc', rfl⟩ := hev
      obtain ⟨cs', h1, h2⟩ := fill_sound hg ht hqs hc' (toV_cells hz2)
      refine ⟨.agg cs', by simp [AV.toV, h2], ?_⟩
      have hp := placesP_run (w := w) hps
      have hfill : Instr.fill (fun x => ps.toArray[x]?) zv.cells (parts.map fun (i, x) => (i, a.eval x)).toList = some cs' := by
        rw [parts_map, ← h1]; congr 1; funext i; simp
      simp only [Instr.build, Sem.run_bind, hz1, Result.andThen_ok, run_underlying hu, Sem.run_pure]
      rw [hp]
      simp only [Result.andThen_ok, hfill, Sem.run_pure]
    · cases h
  · rename_i n e z hu hz
    obtain ⟨zv, hz1, hz2⟩ := zeroP_run (P := P) (w := w) (m := m) hz
    split at h
    · rename_i sz hsz
      simp only [Option.map_eq_some_iff] at h
      obtain ⟨qs, hqs, rfl⟩ := h
      simp only [evalP, Option.map_eq_some_iff] at hev
      obtain ⟨c', hc', rfl⟩ := hev
      obtain ⟨cs', h1, h2⟩ := fill_sound hg ht hqs hc' (toV_cells hz2)
      refine ⟨.agg cs', by simp [AV.toV, h2], ?_⟩
      have hs := sizeP_run (P := P) (w := w) hsz
      have hfill : Instr.fill (fun i => some (i * sz, sz)) zv.cells (parts.map fun (i, x) => (i, a.eval x)).toList = some cs' := by rw [parts_map, ← h1]
      simp only [Instr.build, Sem.run_bind, hz1, Result.andThen_ok, run_underlying hu, Sem.run_pure, hs, hfill]
    · cases h
  · cases h

theorem minmax_sound {isMax : Bool} : ∀ {l : List AV} {us : List Value} {k : IntKind} {x : Int} {v : AV}, toVs m l = some us → minmaxA isMax (.int k x) l = some v →
    ∃ v', v.toV m = some v' ∧ (us.foldlM (if isMax then Builtin.max2 else Builtin.min2) (.int k x)).run P w = .ok v' w
  | [], us, k, x, v, hl, h => by simp [toVs] at hl; subst hl; simp [minmaxA] at h; subst h; exact ⟨_, rfl, by simp⟩
  | y :: l, us, k, x, v, hl, h => by
    obtain ⟨u, us', hy, hl', rfl⟩ := toVs_cons hl
    unfold minmaxA at h
    split at h
    · rename_i h0; cases h0
    · rename_i k' a kk b l' e1 e2
      cases e1; cases e2
      cases inv_int hy
      obtain ⟨v', h1, h2⟩ := minmax_sound hl' h
      refine ⟨v', h1, ?_⟩
      cases isMax
      · simpa [List.foldlM_cons, Builtin.min2] using h2
      · simpa [List.foldlM_cons, Builtin.max2] using h2
    · cases h

theorem bytesOf_sound : ∀ {l : List AV} {us : List Value} {ns : List Int}, toVs m l = some us → bytesOf l = some ns → us = ns.map (Value.int .u8)
  | [], us, ns, hl, h => by simp [toVs] at hl; subst hl; simp [bytesOf] at h; subst h; rfl
  | x :: l, us, ns, hl, h => by
    obtain ⟨u, us', hx, hl', rfl⟩ := toVs_cons hl
    unfold bytesOf at h
    split at h
    · rename_i h0; cases h0
    · rename_i n l' e
      cases e
      cases inv_int hx
      simp only [Option.map_eq_some_iff] at h
      obtain ⟨ns', hns, rfl⟩ := h
      simp [bytesOf_sound hl' hns]
    · cases h

/-- Cells of a slice. -/
theorem cellsAt_sound (hr : Rel NG W0 m H w) {i o n : Nat} {c : List AV} (h : cellsAt H i o n = some c) {q : Nat × Nat} (hq : m i = some q) :
    ∃ us, toVs m c = some us ∧ us.length = n ∧ ∀ j u, us[j]? = some u → w.cell? ((⟨q.1, o, none⟩ : Addr).add j) = some u := by
  unfold cellsAt at h
  split at h
  · rename_i cs wr sp hget
    obtain ⟨b, x, vs, ty, fz, h1, h2, h3, h4, _⟩ := hr.cells hget
    rw [hq] at h1; cases h1
    split at h
    · rename_i hle
      obtain ⟨rfl, hkn⟩ := okL_some h
      obtain ⟨us, e1, e2, e3⟩ := h4.piece o n (Nat.le_of_ble_eq_true hle) hkn
      refine ⟨us, e1, e2, fun j u hu => ?_⟩
      rw [Addr.add_lit, cell_of h2]
      simpa using e3 j u hu
    · cases h
  · cases h

theorem b2s_sound (hr : Rel NG W0 m H w) {x v : AV} (h : b2sA H x = some v) {vx : Value} (hx : x.toV m = some vx) : ∃ v', v.toV m = some v' ∧ (Conv.bytesToString vx).run P w = .ok v' w := by
  unfold b2sA at h
  split at h
  · cases h
    obtain ⟨_, rfl⟩ := inv_nilslc hx
    exact ⟨_, rfl, by simp [Conv.bytesToString]⟩
  · rename_i p len cap more
    obtain ⟨q, hq, rfl⟩ := inv_slc hx
    split at h
    · cases h
    · rename_i cs hcs
      simp only [Option.map_eq_some_iff] at h
      obtain ⟨ns, hns, rfl⟩ := h
      obtain ⟨us, e1, e2, e3⟩ := cellsAt_sound hr hcs hq
      have hl := run_loadCells_list (P := P) w ⟨q.1, p.2, none⟩ us e3
      rw [e2, bytesOf_sound e1 hns] at hl
      exact ⟨_, rfl, run_bytesToString w _ _ _ ns hl⟩
  · cases h

theorem call_builtin {o : Oper} {c : Call} {b : Builtin} (ho : o.op = .call c) (hc : c.callee = .builtin b) :
    ∃ cs, (execOp a.eval o).run P w = (builtin b c.argTypes o.type cs (c.args.map a.eval)).run P w := by
  unfold execOp
  simp only [ho, resolve, hc, Sem.run_bind, Sem.run_pure, Result.andThen_ok, invoke]
  exact ⟨_, rfl⟩

theorem args_one {c : Call} {x' : AOpd} (h : trOpds P c.args.toList = some [x']) : ∃ x, c.args = #[x] ∧ trOpd P x = some x' := by
  simp only [trOpds] at h
  cases hc : c.args.toList with
  | nil => simp [hc] at h
  | cons x l =>
    simp only [hc, List.mapM_cons, Option.pure_def, Option.bind_eq_bind, Option.bind_eq_some_iff] at h
    obtain ⟨y, hy, ys, hys, h⟩ := h
    cases h
    cases l with
    | nil => exact ⟨x, by apply Array.ext'; simp [hc], hy⟩
    | cons z l =>
      simp only [List.mapM_cons, Option.pure_def, Option.bind_eq_bind, Option.bind_eq_some_iff] at hys
      obtain ⟨_, _, _, _, e⟩ := hys
      cases e

theorem args_two {c : Call} {x' y' : AOpd} (h : trOpds P c.args.toList = some [x', y']) : ∃ x y, c.args = #[x, y] ∧ trOpd P x = some x' ∧ trOpd P y = some y' := by
  simp only [trOpds] at h
  cases hc : c.args.toList with
  | nil => simp [hc] at h
  | cons x l =>
    simp only [hc, List.mapM_cons, Option.pure_def, Option.bind_eq_bind, Option.bind_eq_some_iff] at h
    obtain ⟨y, hy, ys, hys, h⟩ := h
    cases h
    cases l with
    | nil => simp at hys
    | cons z l =>
      simp only [List.mapM_cons, Option.pure_def, Option.bind_eq_bind, Option.bind_eq_some_iff] at hys
      obtain ⟨z', hz, zs, hzs, e⟩ := hys
      cases e
      cases l with
      | nil => exact ⟨x, z, by apply Array.ext'; simp [hc], hy, hz⟩
      | cons _ l =>
        simp only [List.mapM_cons, Option.pure_def, Option.bind_eq_bind, Option.bind_eq_some_iff] at hzs
        obtain ⟨_, _, _, _, e⟩ := hzs
        cases e

theorem entries_length : ∀ {l : List (AV × AV)} {l' : List MapEntry}, Entries m l l' → l'.length = l.length
  | [], [], _ => rfl
  | [], _ :: _, h => h.elim
  | _ :: _, [], h => h.elim
  | _ :: _, _ :: _, h => by simp [entries_length h.2.2]

theorem lenA_sound (hr : Rel NG W0 m H w) {ts : Array TypeId} {ty t0 : TypeId} (ht : ts[0]? = some t0) {kind : Nat} {x : AV} {n : Nat} (hl : lenA H kind x = some n) {vx : Value} (hx : x.toV m = some vx)
    (hk : (kind = 0 ∧ ∃ e, P.underlying t0 = some (.slice e)) ∨ (kind = 1 ∧ P.underlying t0 = some .string) ∨ (kind = 2 ∧ ∃ k e, P.underlying t0 = some (.map k e))) :
    (Builtin.len_ ts ty #[vx]).run P w = .ok (.int .i64 n) w := by
  rcases hk with ⟨rfl, e, he⟩ | ⟨rfl, he⟩ | ⟨rfl, k, e, he⟩
  · cases x <;> simp [lenA] at hl
    rename_i b l c more
    subst hl
    cases b with
    | none => obtain ⟨_, rfl⟩ := inv_nilslc hx; simp [Builtin.len_, ht, run_underlying he, goInt]
    | some p => obtain ⟨q, _, rfl⟩ := inv_slc hx; simp [Builtin.len_, ht, run_underlying he, goInt]
  · cases x <;> simp [lenA] at hl
    subst hl
    cases inv_str hx
    simp [Builtin.len_, ht, run_underlying he, goInt]
  · cases x with
    | map q =>
      cases q with
      | none =>
        simp [lenA] at hl; subst hl
        cases inv_nilmap hx
        simp [Builtin.len_, ht, run_underlying he, goInt]
      | some r =>
        simp only [lenA] at hl
        split at hl
        · rename_i es hget
          cases hl
          obtain ⟨q, hq, rfl⟩ := inv_map hx
          obtain ⟨b, y, ms, clock, h1, h2, _, h4⟩ := hr.obj r _ hget
          rw [hq] at h1; cases h1
          have hgo : (getObj b).run P w = .ok (.map ms clock) w := by simp [getObj, Sem.run, h2]
          have := entries_length h4
          simp only [Array.length_toList] at this
          simp [Builtin.len_, ht, run_underlying he, goInt, hgo, this]
        · cases hl
    | _ => simp [lenA] at hl

theorem ext_find0 {fn : Func} (h : fn.name = "math.Float64bits") : Extern.find fn = some Extern.MathFloatBits.float64bits := by
  unfold Extern.find
  rw [h]
  simp only [show Extern.allGenericRows.lookup "math.Float64bits" = none by kernel_rfl, show Extern.allTypedRows.lookup "math.Float64bits" = none by kernel_rfl, show Extern.allRows.lookup "math.Float64bits" = some Extern.MathFloatBits.float64bits by kernel_rfl]
  rfl
theorem ext_find1 {fn : Func} (h : fn.name = "math.Float64frombits") : Extern.find fn = some Extern.MathFloatBits.float64frombits := by
  unfold Extern.find
  rw [h]
  simp only [show Extern.allGenericRows.lookup "math.Float64frombits" = none by kernel_rfl, show Extern.allTypedRows.lookup "math.Float64frombits" = none by kernel_rfl, show Extern.allRows.lookup "math.Float64frombits" = some Extern.MathFloatBits.float64frombits by kernel_rfl]
  rfl
def add64E : Array Value → Sem Value := fun args => do
  let (x, y, c) ← Extern.MathBitsCarry.three "Add64" args
  pure (Extern.MathBitsCarry.pair ((x + y + c) % Extern.MathBitsCarry.m64) ((x + y + c) / Extern.MathBitsCarry.m64))
def sub64E : Array Value → Sem Value := fun args => do
  let (x, y, b) ← Extern.MathBitsCarry.three "Sub64" args
  pure (Extern.MathBitsCarry.pair ((x + Extern.MathBitsCarry.m64 - y - b) % Extern.MathBitsCarry.m64) (if x < y + b then 1 else 0))
theorem ext_find2 {fn : Func} (h : fn.name = "math/bits.Add64") : Extern.find fn = some add64E := by
  unfold Extern.find
  rw [h]
  simp only [show Extern.allGenericRows.lookup "math/bits.Add64" = none by kernel_rfl, show Extern.allTypedRows.lookup "math/bits.Add64" = none by kernel_rfl, show Extern.allRows.lookup "math/bits.Add64" = some add64E by kernel_rfl]
  rfl
theorem ext_find3 {fn : Func} (h : fn.name = "math/bits.Sub64") : Extern.find fn = some sub64E := by
  unfold Extern.find
  rw [h]
  simp only [show Extern.allGenericRows.lookup "math/bits.Sub64" = none by kernel_rfl, show Extern.allTypedRows.lookup "math/bits.Sub64" = none by kernel_rfl, show Extern.allRows.lookup "math/bits.Sub64" = some sub64E by kernel_rfl]
  rfl

theorem three_run (name : String) (x y c : Int) (hc : ¬ c.toNat > 1) : (Extern.MathBitsCarry.three name #[.int .u64 x, .int .u64 y, .int .u64 c]).run P w = .ok (x.toNat, y.toNat, c.toNat) w := by
  change Sem.run P (do
    let c := (← asInt (.int .u64 c)).toNat
    if c > 1 then unsupported (.noEntry ("extern/math/bits." ++ name ++ ": a carry that is neither 0 nor 1"))
    pure ((← asInt (.int .u64 x)).toNat, (← asInt (.int .u64 y)).toNat, c)) w = _
  have h : ∀ n, (asInt (.int .u64 n)).run P w = .ok n w := fun n => rfl
  simp only [Sem.run_bind, h, Result.andThen_ok, if_neg hc, Sem.run_pure]

theorem add64_run (x y c : Int) (hc : ¬ c.toNat > 1) : (add64E [Value.int .u64 x, .int .u64 y, .int .u64 c].toArray).run P w =
    .ok (.tuple #[.int .u64 (Int.ofNat ((x.toNat + y.toNat + c.toNat) % 2 ^ 64)), .int .u64 (Int.ofNat ((x.toNat + y.toNat + c.toNat) / 2 ^ 64))]) w := by
  show Sem.run P (add64E #[.int .u64 x, .int .u64 y, .int .u64 c]) w = _
  unfold add64E
  simp only [Sem.run_bind, three_run _ _ _ _ hc, Result.andThen_ok, Sem.run_pure]
  rfl

theorem sub64_run (x y c : Int) (hc : ¬ c.toNat > 1) : (sub64E [Value.int .u64 x, .int .u64 y, .int .u64 c].toArray).run P w =
    .ok (.tuple #[.int .u64 (Int.ofNat ((x.toNat + 2 ^ 64 - y.toNat - c.toNat) % 2 ^ 64)), .int .u64 (Int.ofNat (if x.toNat < y.toNat + c.toNat then 1 else 0))]) w := by
  show Sem.run P (sub64E #[.int .u64 x, .int .u64 y, .int .u64 c]) w = _
  unfold sub64E
  simp only [Sem.run_bind, three_run _ _ _ _ hc, Result.andThen_ok, Sem.run_pure]
  rfl

theorem toVs_nil_inv {m : Env} {vs : List Value} (h : toVs m [] = some vs) : vs = [] := by simp [toVs] at h; exact h

/-- Functions without a body. -/
theorem ext_sound {f : FuncId} {fn : Func} (hf : P.funcs[f]? = some fn) {k : Nat} (hk : extOf fn = some k) {args : List AV} {v : AV} (he : extA k args = some v) {vs : List Value} (hv : toVs m args = some vs) :
    ∃ v', v.toV m = some v' ∧ (callFunc f vs.toArray).run P w = .ok (.value v') w := by
  unfold extOf at hk
  split at hk
  · cases hk
  rename_i hbody
  simp only [Bool.or_eq_true, not_or, Bool.not_eq_true] at hbody
  have hb : fn.body.isNone = true := by cases h : fn.body <;> simp [h] at hbody ⊢
  have hn : Extern.findNext fn = none := by cases h : Extern.findNext fn <;> simp [h] at hbody ⊢
  have go : ∀ {e : Array Value → Sem Value} {v' : Value} (name : String), fn.name = name → (name == "runtime.NumGoroutine") = false → Extern.find fn = some e → v.toV m = some v' → (e vs.toArray).run P w = .ok v' w →
      ∃ v', v.toV m = some v' ∧ (callFunc f vs.toArray).run P w = .ok (.value v') w := by
    intro e v' name hname hne hfi h1 h2
    refine ⟨v', h1, ?_⟩
    rw [run_callFunc_extern hf (by rw [hname]; exact hne) hb hn hfi, h2]
    rfl
  split at hk
  · rename_i hname; cases hk
    unfold extA at he
    split at he <;> first | (rename_i h0; cases h0; done) | (rename_i h0 _; cases h0; done) | skip
    · cases he
      obtain ⟨u, r, hu, hr, rfl⟩ := toVs_cons hv
      obtain rfl := toVs_nil_inv hr
      cases inv_flt hu
      exact go _ hname rfl (ext_find0 hname) rfl rfl
    · cases he
  split at hk
  · rename_i hname; cases hk
    unfold extA at he
    split at he <;> first | (rename_i h0; cases h0; done) | (rename_i h0 _; cases h0; done) | skip
    · cases he
      obtain ⟨u, r, hu, hr, rfl⟩ := toVs_cons hv
      obtain rfl := toVs_nil_inv hr
      cases inv_int hu
      exact go _ hname rfl (ext_find1 hname) rfl rfl
    · cases he
  split at hk
  · rename_i hname; cases hk
    unfold extA at he
    split at he <;> first | (rename_i h0; cases h0; done) | (rename_i h0 _; cases h0; done) | skip
    · split at he
      · cases he
      · rename_i hc
        cases he
        obtain ⟨u, r, hu, hr, rfl⟩ := toVs_cons hv
        obtain ⟨u2, r2, hu2, hr2, rfl⟩ := toVs_cons hr
        obtain ⟨u3, r3, hu3, hr3, rfl⟩ := toVs_cons hr2
        obtain rfl := toVs_nil_inv hr3
        cases inv_int hu; cases inv_int hu2; cases inv_int hu3
        refine go _ hname rfl (ext_find2 hname) rfl ?_
        exact add64_run _ _ _ hc
    · cases he
  split at hk
  · rename_i hname; cases hk
    unfold extA at he
    split at he <;> first | (rename_i h0; cases h0; done) | (rename_i h0 _; cases h0; done) | skip
    · split at he
      · cases he
      · rename_i hc
        cases he
        obtain ⟨u, r, hu, hr, rfl⟩ := toVs_cons hv
        obtain ⟨u2, r2, hu2, hr2, rfl⟩ := toVs_cons hr
        obtain ⟨u3, r3, hu3, hr3, rfl⟩ := toVs_cons hr2
        obtain rfl := toVs_nil_inv hr3
        cases inv_int hu; cases inv_int hu2; cases inv_int hu3
        refine go _ hname rfl (ext_find3 hname) rfl ?_
        exact sub64_run _ _ _ hc
    · cases he
  · cases hk

/-- All operations that leave the heap alone. -/
theorem evalP_sound (hr : Rel P.pg W0 m H w) (ht : TRel m t a.tmps) {o : Oper} {ao : AOp} (htr : trOp P o.op = some ao) {v : AV} (hev : evalP ao t H = some v) :
    ∃ v', v.toV m = some v' ∧ (execOp a.eval o).run P w = .ok (.value v') w := by
  have hg := hr.glob
  cases ho : o.op <;> rw [ho] at htr
  case move x =>
    simp only [trOp, Option.map_eq_some_iff] at htr
    obtain ⟨y, hy, rfl⟩ := htr
    simp only [evalP, Option.some.injEq] at hev; subst hev
    exact ⟨_, opd_sound hg ht hy, by simp [execOp, ho]⟩
  case assign x =>
    simp only [trOp, Option.map_eq_some_iff] at htr
    obtain ⟨y, hy, rfl⟩ := htr
    simp only [evalP, Option.some.injEq] at hev; subst hev
    exact ⟨_, opd_sound hg ht hy, by simp [execOp, ho]⟩
  case pick c x y =>
    simp only [trOp] at htr
    split at htr
    · rename_i c' x' y' hc hx hy
      cases htr
      have hc' := opd_sound hg ht hc
      simp only [evalP] at hev
      split at hev
      · rename_i e; rw [e] at hc'; have := inv_bool hc'; cases hev
        exact ⟨_, opd_sound hg ht hx, by simp [execOp, ho, this, asBool]⟩
      · rename_i e; rw [e] at hc'; have := inv_bool hc'; cases hev
        exact ⟨_, opd_sound hg ht hy, by simp [execOp, ho, this, asBool]⟩
      · cases hev
    · cases htr
  case build ty parts =>
    obtain ⟨v', h1, h2⟩ := build_sound hg ht htr hev
    exact ⟨v', h1, by unfold execOp; simp only [ho]; exact run_v h2⟩
  case load ty x =>
    simp only [trOp] at htr
    split at htr
    · rename_i g x' hagg hx
      cases htr
      have hx' := opd_sound hg ht hx
      simp only [evalP] at hev
      cases e : x'.ev t <;> rw [e] at hev hx' <;> (try (simp [loadA] at hev; done))
      rename_i p
      cases p with
      | none => simp [loadA] at hev
      | some p =>
        obtain ⟨q, hq, hv⟩ := inv_ptr hx'
        obtain ⟨v', h1, h2⟩ := loadA_sound hr hagg hev hq
        refine ⟨v', h1, ?_⟩
        unfold execOp
        simp only [ho]
        refine run_v ?_
        simp only [Instr.loadAt, hv, Instr.sureAddr, Sem.run_bind, Sem.run_pure, Result.andThen_ok]
        exact h2
    · cases htr
  case nilCheck x =>
    simp only [trOp, Option.map_eq_some_iff] at htr
    obtain ⟨x', hx, rfl⟩ := htr
    have hx' := opd_sound hg ht hx
    simp only [evalP] at hev
    split at hev
    · rename_i p e
      rw [e] at hx'
      cases hev
      obtain ⟨q, hq, hv⟩ := inv_ptr hx'
      exact ⟨_, hx', by simp [execOp, ho, hv]⟩
    · rename_i f x1 x2 e
      rw [e] at hx'
      cases hev
      obtain ⟨_, _, _, _, hv⟩ := inv_fn hx'
      exact ⟨_, hx', by simp [execOp, ho, hv]⟩
    · rename_i r e
      rw [e] at hx'
      cases hev
      cases r with
      | none => have hv := inv_nilmap hx'; exact ⟨_, hx', by simp [execOp, ho, hv]⟩
      | some r => obtain ⟨_, _, hv⟩ := inv_map hx'; exact ⟨_, hx', by simp [execOp, ho, hv]⟩
    · cases hev
  case binOp op ty x y ty2 =>
    simp only [trOp, trBin] at htr
    split at htr
    · rename_i k x' y' hu hx hy
      cases htr
      simp only [evalP] at hev
      obtain ⟨v', h1, h2⟩ := bin_sound (P := P) (w := w) hev (opd_sound hg ht hx) (opd_sound hg ht hy) ty x y
      exact ⟨v', h1, by unfold execOp; simp only [ho]; exact run_v h2⟩
    · rename_i x' y' hu hx hy
      cases htr
      simp only [evalP] at hev
      obtain ⟨v', h1, h2⟩ := bin_sound (P := P) (w := w) hev (opd_sound hg ht hx) (opd_sound hg ht hy) ty x y
      exact ⟨v', h1, by unfold execOp; simp only [ho]; exact run_v h2⟩
    · rename_i x' y' hx hy _ _
      split at htr
      · rename_i k hk
        cases htr
        simp only [evalP, Option.map_eq_some_iff] at hev
        obtain ⟨r, hr', rfl⟩ := hev
        exact ⟨_, rfl, by unfold execOp; simp only [ho]; exact run_v (eqv_sound (.inl ⟨rfl, rfl⟩) hk hr' (opd_sound hg ht hx) (opd_sound hg ht hy))⟩
      · rename_i k hk
        cases htr
        simp only [evalP, Option.map_eq_some_iff] at hev
        obtain ⟨r, hr', rfl⟩ := hev
        exact ⟨_, rfl, by unfold execOp; simp only [ho]; exact run_v (eqv_sound (.inr ⟨rfl, rfl⟩) hk hr' (opd_sound hg ht hx) (opd_sound hg ht hy))⟩
      · cases htr
    · cases htr
  case unOp op ty x =>
    simp only [trOp, Option.map_eq_some_iff] at htr
    obtain ⟨x', hx, rfl⟩ := htr
    have hx' := opd_sound hg ht hx
    simp only [evalP, unA] at hev
    split at hev
    · rename_i k n e; rw [e] at hx'; have := inv_int hx'; cases hev; exact ⟨_, rfl, by simp [execOp, ho, this, Op.unary, Op.intArith]⟩
    · rename_i k n e; rw [e] at hx'; have := inv_int hx'; cases hev; exact ⟨_, rfl, by simp [execOp, ho, this, Op.unary, Op.intBits]⟩
    · rename_i b e; rw [e] at hx'; have := inv_bool hx'; cases hev; exact ⟨_, rfl, by simp [execOp, ho, this, Op.unary]⟩
    · rename_i b e; rw [e] at hx'; have := inv_flt hx'; cases hev; exact ⟨_, rfl, by simp [execOp, ho, this, Op.unary]⟩
    · cases hev
  case convert s d x =>
    simp only [trOp] at htr
    split at htr
    · rename_i k1 k2 x' hs hd hx
      cases htr
      have hx' := opd_sound hg ht hx
      simp only [evalP] at hev
      split at hev
      · rename_i k n e; rw [e] at hx'; have := inv_int hx'; cases hev
        exact ⟨_, rfl, by simp [execOp, ho, this, convert, run_underlying hs, run_underlying hd, Conv.intToInt]⟩
      · cases hev
    · rename_i k1 x' hs hd hx
      cases htr
      have hx' := opd_sound hg ht hx
      simp only [evalP] at hev
      split at hev
      · rename_i k n e; rw [e] at hx'; have := inv_int hx'; cases hev
        exact ⟨_, rfl, by simp [execOp, ho, this, convert, run_underlying hs, run_underlying hd, Conv.intToFloat]⟩
      · cases hev
    · rename_i e x' hs hd hx
      split at htr
      · rename_i he
        cases htr
        have hx' := opd_sound hg ht hx
        simp only [evalP] at hev
        obtain ⟨v', h1, h2⟩ := b2s_sound (P := P) hr hev hx'
        refine ⟨v', h1, ?_⟩
        unfold execOp
        simp only [ho]
        refine run_v ?_
        have hsl : ∃ b l c, a.eval x = .slice b l c := by
          cases ex : x'.ev t <;> rw [ex] at hev hx' <;> (try (simp [b2sA] at hev; done))
          rename_i b l c more
          cases b with
          | none => obtain ⟨_, hv⟩ := inv_nilslc hx'; exact ⟨_, _, _, hv⟩
          | some p => obtain ⟨_, _, hv⟩ := inv_slc hx'; exact ⟨_, _, _, hv⟩
        obtain ⟨b, l, c, hv⟩ := hsl
        rw [hv] at h2 ⊢
        rw [run_convert_bytes_string w s d e b l c hs he hd]
        exact h2
      · cases htr
    · cases htr
  case makeInterface ty x =>
    simp only [trOp] at htr
    split at htr
    · cases htr
    · rename_i d hu hne
      simp only [Option.map_eq_some_iff] at htr
      obtain ⟨x', hx, rfl⟩ := htr
      simp only [evalP, Option.some.injEq] at hev; subst hev
      refine ⟨.iface ty (a.eval x), by simp [AV.toV, opd_sound hg ht hx], ?_⟩
      unfold execOp
      simp only [ho]
      refine run_v ?_
      cases d <;> first | (exact (hu _ rfl).elim) | simp [Instr.makeInterface, run_underlying hne]
    · cases htr
  case makeFunc fn first captured =>
    cases fn with
    | func f =>
      simp only [trOp] at htr
      split at htr
      · rename_i x y hx hy
        cases htr
        simp only [evalP, Option.some.injEq] at hev; subst hev
        have e1 := opds_sound hg ht hx
        have e2 := opds_sound hg ht hy
        refine ⟨.func (.func f) (first.map a.eval) (captured.map a.eval), ?_, by simp [execOp, ho, Instr.makeFunc]⟩
        simp only [AV.toV, e1, e2]
        congr 2 <;> (apply Array.ext'; simp)
      · cases htr
    | _ => simp [trOp] at htr
  case slice ty x lo hi mx =>
    simp only [trOp] at htr
    split at htr
    · rename_i x' lo' hi' hu hx hlo hhi hmx
      cases htr
      have hx' := opd_sound hg ht hx
      simp only [evalP] at hev
      split at hev
      · rename_i s e
        rw [e] at hx'
        have hv := inv_str hx'
        unfold stringA at hev
        split at hev
        · cases hev
        · rename_i h e2
          split at hev
          · cases hev
          · rename_i l e3
            cases hev
            have hmx0 : mx = none := by cases mx with | none => rfl | some _ => simp [trOpt] at hmx
            subst hmx0
            obtain ⟨m', hrun, _, _⟩ := bounds_sound (P := P) (w := w) hg ht hlo hhi (mx := none) (mx' := none) rfl (by simp) (len := s.size) (cap := s.size) (Nat.le_refl _) rfl e2 e3 false
            refine ⟨_, rfl, ?_⟩
            unfold execOp
            simp only [ho]
            refine run_v ?_
            simp only [Option.map_none] at hrun
            simp [Instr.sliceAt, Instr.slice, run_underlying hu, hv, hrun]
      · cases hev
    · rename_i e x' lo' hi' mx' hu hx hlo hhi hmx
      simp only [Option.bind_eq_some_iff] at htr
      obtain ⟨sz, hsz, htr⟩ := htr
      split at htr
      · cases htr
      · rename_i hnb
        cases htr
        have hx' := opd_sound hg ht hx
        simp only [evalP] at hev
        split at hev
        · rename_i p len cap more ex
          rw [ex] at hx'
          have hsl : ∃ b cap', a.eval x = .slice b len cap' := by
            cases p with
            | none => obtain ⟨_, hv⟩ := inv_nilslc hx'; exact ⟨_, _, hv⟩
            | some p => obtain ⟨_, _, hv⟩ := inv_slc hx'; exact ⟨_, _, hv⟩
          obtain ⟨b, cap', hv⟩ := hsl
          rw [hv] at hx'
          obtain ⟨v', l, h, m', h1, h2, h3⟩ := slice_sound (P := P) (w := w) hg ht hlo hhi hmx (by cases mx' <;> cases hi' <;> simp_all) hev hx' true
          refine ⟨v', h1, ?_⟩
          unfold execOp
          simp only [ho]
          refine run_v ?_
          rw [h3]
          simp [Instr.sliceAt, Instr.slice, run_underlying hu, hv, h2, sizeP_run (w := w) hsz]
        · cases hev
    · rename_i n e x' lo' hi' mx' hu hx hlo hhi hmx
      simp only [Option.bind_eq_some_iff] at htr
      obtain ⟨sz, hsz, htr⟩ := htr
      split at htr
      · cases htr
      · rename_i hnb
        cases htr
        have hx' := opd_sound hg ht hx
        simp only [evalP] at hev
        split at hev
        · rename_i p ex
          rw [ex] at hx'
          obtain ⟨q, hq, hv⟩ := inv_ptr hx'
          obtain ⟨v', l, h, m', h1, h2, h3⟩ := slice_sound (P := P) (w := w) hg ht hlo hhi hmx (by cases mx' <;> cases hi' <;> simp_all) hev (b := some ⟨q.1, p.2, none⟩) (cap' := n) (by simp [AV.toV, hq]) false
          refine ⟨v', h1, ?_⟩
          unfold execOp
          simp only [ho]
          refine run_v ?_
          rw [h3]
          simp only [Instr.sliceAt, Sem.run_bind, run_underlying hu, Result.andThen_ok, hv, Instr.sureAddr, Sem.run_pure, h2, sizeP_run (w := w) hsz]
          by_cases hml : m' = l <;> simp [hml]
        · cases hev
    · cases htr
  case fieldAddr s x f =>
    simp only [trOp] at htr
    split at htr
    · rename_i fs hu
      split at htr
      · rename_i fld x' hf hx
        split at htr
        · rename_i k hk
          cases htr
          have hx' := opd_sound hg ht hx
          simp only [evalP] at hev
          split at hev
          · rename_i p e
            rw [e] at hx'
            cases hev
            obtain ⟨q, hq, hv⟩ := inv_ptr hx'
            refine ⟨.pointer (some ⟨q.1, p.2 + fld.offset, none⟩), by simp [AV.toV, hq], ?_⟩
            simp [execOp, ho, Instr.fieldAt, run_underlying hu, hf, hv, Instr.sureAddr, fieldPlace, Addr.add_lit, sizeP_run (w := w) hk]
          · cases hev
        · cases htr
      · cases htr
    · cases htr
  case field ty x f =>
    simp only [trOp] at htr
    split at htr
    · rename_i fs hu
      split at htr
      · rename_i fld x' hf hx
        simp only [Option.map_eq_some_iff] at htr
        obtain ⟨g, hagg, rfl⟩ := htr
        have hx' := opd_sound hg ht hx
        simp only [evalP] at hev
        split at hev
        · rename_i c e
          rw [e] at hx'
          obtain ⟨l', hl, hv⟩ := inv_agg hx'
          obtain ⟨v', h1, h2⟩ := partOf_sound (w := w) hagg (cs := l'.toArray) (by simpa using hl) hev
          exact ⟨v', h1, by simp [execOp, ho, Instr.field, run_underlying hu, hf, hv, asAgg, h2]⟩
        · cases hev
      · cases htr
    · cases htr
  case indexAddr ty x i =>
    simp only [trOp] at htr
    split at htr
    · rename_i n e x' i' hu hx hi
      simp only [Option.map_eq_some_iff] at htr
      obtain ⟨sz, hsz, rfl⟩ := htr
      have hx' := opd_sound hg ht hx
      have hi' := opd_sound hg ht hi
      simp only [evalP] at hev
      split at hev
      · rename_i p k j ex ei
        rw [ex] at hx'; rw [ei] at hi'
        obtain ⟨q, hq, hv⟩ := inv_ptr hx'
        have hvi := inv_int hi'
        split at hev
        · rename_i hb
          cases hev
          refine ⟨.pointer (some ⟨q.1, p.2 + j.toNat * sz, none⟩), by simp [AV.toV, hq], ?_⟩
          simp [execOp, ho, Instr.indexAt, run_underlying hu, hv, hvi, asIntOf, Instr.sureAddr, hb, sizeP_run (w := w) hsz, Addr.add_lit]
        · cases hev
      · cases hev
    · rename_i e x' i' hu hx hi
      simp only [Option.map_eq_some_iff] at htr
      obtain ⟨sz, hsz, rfl⟩ := htr
      have hx' := opd_sound hg ht hx
      have hi' := opd_sound hg ht hi
      simp only [evalP] at hev
      split at hev
      · rename_i p len cap more k j ex ei
        rw [ex] at hx'; rw [ei] at hi'
        obtain ⟨q, hq, hv⟩ := inv_slc hx'
        have hvi := inv_int hi'
        split at hev
        · rename_i hb
          cases hev
          refine ⟨.pointer (some ⟨q.1, p.2 + j.toNat * sz, none⟩), by simp [AV.toV, hq], ?_⟩
          simp [execOp, ho, Instr.indexAt, run_underlying hu, hv, hvi, asIntOf, hb, sizeP_run (w := w) hsz, Addr.add_lit]
        · cases hev
      · cases hev
    · cases htr
  case index ty x i =>
    simp only [trOp] at htr
    split at htr
    · rename_i n e x' i' hu hx hi
      split at htr
      · rename_i sz g hsz hagg
        cases htr
        have hx' := opd_sound hg ht hx
        have hi' := opd_sound hg ht hi
        simp only [evalP] at hev
        split at hev
        · rename_i c k j ex ei
          rw [ex] at hx'; rw [ei] at hi'
          obtain ⟨l', hl, hv⟩ := inv_agg hx'
          have hvi := inv_int hi'
          split at hev
          · rename_i hb
            obtain ⟨v', h1, h2⟩ := partOf_sound (w := w) hagg (cs := l'.toArray) (by simpa using hl) hev
            exact ⟨v', h1, by simp [execOp, ho, Instr.index, run_underlying hu, hv, hvi, asIntOf, hb, sizeP_run (w := w) hsz, h2]⟩
          · cases hev
        · cases hev
      · cases htr
    · rename_i x' i' hu hx hi
      cases htr
      have hx' := opd_sound hg ht hx
      have hi' := opd_sound hg ht hi
      simp only [evalP] at hev
      split at hev
      · rename_i s k j ex ei
        rw [ex] at hx'; rw [ei] at hi'
        have hv := inv_str hx'
        have hvi := inv_int hi'
        split at hev
        · rename_i h0
          split at hev
          · rename_i b hb
            cases hev
            exact ⟨_, rfl, by simp [execOp, ho, Instr.index, run_underlying hu, hv, hvi, asIntOf, h0, hb]⟩
          · cases hev
        · cases hev
      · cases hev
    · cases htr
  case lookup ty x k ok =>
    simp only [trOp] at htr
    split at htr
    · rename_i kt e hu
      split at htr
      · rename_i str z x' k' hks hz hx hk
        cases htr
        simp only [evalP] at hev
        split at hev
        · cases hev
        · rename_i es hes
          split at hev
          · cases hev
          · rename_i r hf
            cases hev
            obtain ⟨v', h1, h2⟩ := lookup_sound (P := P) hr hu hks hz (opd_sound hg ht hx) (opd_sound hg ht hk) hes hf (ok := ok)
            exact ⟨v', h1, by unfold execOp; simp only [ho]; exact run_v h2⟩
      · cases htr
    · cases htr
  case extract x i =>
    simp only [trOp, Option.map_eq_some_iff] at htr
    obtain ⟨x', hx, rfl⟩ := htr
    have hx' := opd_sound hg ht hx
    simp only [evalP] at hev
    split at hev
    · rename_i l e
      rw [e] at hx'
      obtain ⟨l', hl, hv⟩ := inv_tup hx'
      obtain ⟨v', h1, h2⟩ := toVs_get hl _ _ hev
      exact ⟨v', h1, by simp [execOp, ho, hv, Instr.extract, h2]⟩
    · cases hev
  case call c =>
    simp only [trOp, trCall] at htr
    split at htr
    · rename_i f args hc hargs
      split at htr
      · rename_i k hk
        cases htr
        simp only [Option.bind_eq_some_iff] at hk
        obtain ⟨fn, hfn, hk⟩ := hk
        simp only [evalP] at hev
        obtain ⟨v', h1, h2⟩ := ext_sound (P := P) (w := w) hfn hk hev (opds_sound hg ht hargs)
        refine ⟨v', h1, ?_⟩
        unfold execOp
        simp only [ho, resolve, hc, Act.eval, Deferred.ofValue, Sem.run_bind, Sem.run_pure, Result.andThen_ok, invoke]
        have e : (c.args.toList.map a.eval).toArray = c.args.map a.eval := by apply Array.ext'; simp
        rw [e] at h2
        simpa using h2
      · cases htr; simp [evalP] at hev
    · simp only [Option.map_eq_some_iff] at htr
      obtain ⟨_, _, rfl⟩ := htr
      simp [evalP] at hev
    · rename_i x' hc hargs
      obtain ⟨x, ha, hx⟩ := args_one hargs
      have hx' := opd_sound hg ht hx
      obtain ⟨cs, hcall⟩ := call_builtin (P := P) (w := w) (a := a) ho hc
      cases ht0 : c.argTypes[0]? with
      | none => simp [ht0] at htr
      | some t0 =>
        simp only [ht0, Option.bind_some] at htr
        have fin : ∀ vv : Value, (Builtin.len_ c.argTypes o.type #[a.eval x]).run P w = .ok vv w → (execOp a.eval o).run P w = .ok (.value vv) w := by
          intro vv hl
          rw [hcall]
          simp only [builtin, ha, List.map_toArray, List.map_cons, List.map_nil]
          exact run_v hl
        split at htr
        · rename_i n e hu
          cases htr
          simp only [evalP, Option.some.injEq] at hev; subst hev
          exact ⟨_, rfl, fin _ (by simp [Builtin.len_, ht0, run_underlying hu, goInt])⟩
        · rename_i e hu
          cases htr
          simp only [evalP] at hev
          split at hev
          · rename_i n hn
            cases hev
            exact ⟨_, rfl, fin _ (lenA_sound hr ht0 hn hx' (.inl ⟨rfl, e, hu⟩))⟩
          · cases hev
        · rename_i hu
          cases htr
          simp only [evalP] at hev
          split at hev
          · rename_i n hn
            cases hev
            exact ⟨_, rfl, fin _ (lenA_sound hr ht0 hn hx' (.inr (.inl ⟨rfl, hu⟩)))⟩
          · cases hev
        · rename_i k e hu
          cases htr
          simp only [evalP] at hev
          split at hev
          · rename_i n hn
            cases hev
            exact ⟨_, rfl, fin _ (lenA_sound hr ht0 hn hx' (.inr (.inr ⟨rfl, k, e, hu⟩)))⟩
          · cases hev
        · cases htr
    · split at htr
      · split at htr
        · split at htr
          · cases htr; simp [evalP] at hev
          · cases htr
        · cases htr
      · split at htr
        · split at htr
          · cases htr; simp [evalP] at hev
          · cases htr
        · cases htr
      · cases htr
    · split at htr
      · simp only [Option.map_eq_some_iff] at htr; obtain ⟨_, _, rfl⟩ := htr; simp [evalP] at hev
      · cases htr
    · split at htr
      · simp only [Option.map_eq_some_iff] at htr; obtain ⟨_, _, rfl⟩ := htr; simp [evalP] at hev
      · cases htr
    · split at htr
      · split at htr
        · split at htr
          · cases htr; simp [evalP] at hev
          · cases htr
        · cases htr
      · cases htr
    · rename_i x' l' hc hargs
      cases htr
      have hl := opds_sound hg ht hargs
      obtain ⟨vx, us, hvx, hus, hall⟩ := toVs_cons hl
      obtain ⟨cs, hcall⟩ := call_builtin (P := P) (w := w) (a := a) ho hc
      simp only [evalP] at hev
      split at hev
      · rename_i k n e
        have hvx' : (x'.ev t).toV m = some vx := hvx
        rw [e] at hvx'
        cases inv_int hvx'
        obtain ⟨v', h1, h2⟩ := minmax_sound (P := P) (w := w) hus hev
        refine ⟨v', h1, ?_⟩
        rw [hcall]
        have hargs2 : (c.args.map a.eval).toList = .int k n :: us := by rw [Array.toList_map]; exact hall
        simp only [builtin]
        refine run_v ?_
        simp only [Builtin.min_, hargs2]
        simpa using h2
      · cases hev
    · rename_i x' l' hc hargs
      cases htr
      have hl := opds_sound hg ht hargs
      obtain ⟨vx, us, hvx, hus, hall⟩ := toVs_cons hl
      obtain ⟨cs, hcall⟩ := call_builtin (P := P) (w := w) (a := a) ho hc
      simp only [evalP] at hev
      split at hev
      · rename_i k n e
        have hvx' : (x'.ev t).toV m = some vx := hvx
        rw [e] at hvx'
        cases inv_int hvx'
        obtain ⟨v', h1, h2⟩ := minmax_sound (P := P) (w := w) hus hev
        refine ⟨v', h1, ?_⟩
        rw [hcall]
        have hargs2 : (c.args.map a.eval).toList = .int k n :: us := by rw [Array.toList_map]; exact hall
        simp only [builtin]
        refine run_v ?_
        simp only [Builtin.max_, hargs2]
        simpa using h2
      · cases hev
    · cases htr
  case alloc e =>
    simp only [trOp, Option.map_eq_some_iff] at htr
    obtain ⟨_, _, rfl⟩ := htr
    simp [evalP] at hev
  case box e x =>
    simp only [trOp, Option.map_eq_some_iff] at htr
    obtain ⟨_, _, rfl⟩ := htr
    simp [evalP] at hev
  case buildSlice ty n parts =>
    simp only [trOp] at htr
    split at htr
    · split at htr
      · split at htr
        · simp only [Option.map_eq_some_iff] at htr
          obtain ⟨_, _, rfl⟩ := htr
          simp [evalP] at hev
        · cases htr
      · cases htr
    · cases htr
  case store ty x y =>
    simp only [trOp] at htr
    split at htr
    · cases htr; simp [evalP] at hev
    · cases htr
  case makeMap ty r =>
    simp only [trOp] at htr
    split at htr
    · cases htr; simp [evalP] at hev
    · cases htr
  case makeSlice ty l c =>
    simp only [trOp] at htr
    split at htr
    · split at htr
      · split at htr
        · cases htr; simp [evalP] at hev
        · cases htr
      · cases htr
    · cases htr
  case mapUpdate ty x k y =>
    simp only [trOp] at htr
    split at htr
    · split at htr
      · cases htr; simp [evalP] at hev
      · cases htr
    · cases htr
  all_goals (simp [trOp] at htr; done)

end
end Go.AM
