/- All operations that change the heap and call nothing. -/
import Derived.Test.YtkajahlgiglliaaGreatDoorAm10
namespace Go.AM

section
variable {P : Program} {NG : PG} {W0 : Base} {m : Env} {H : AHeap} {w : World} {t : List AV} {a : Act}

theorem copy_sound (hr : Rel NG W0 m H w) {ts : Array TypeId} {ty t0 e : TypeId} {i : TypeInfo} (ht0 : ts[0]? = some t0) (ht : P.underlying t0 = some (.slice e)) (hi : P.info? e = some i)
    {d s : AV} {vd vs : Value} (hd : d.toV m = some vd) (hs : s.toV m = some vs) {v : AV} {H' : AHeap} (h : copyA H d s i.size = some (v, H')) :
    ∃ w' v', Rel NG W0 m H' w' ∧ v.toV m = some v' ∧ (Builtin.copy_ ts ty #[vd, vs]).run P w = .ok v' w' := by
  unfold copyA at h
  split at h
  · rename_i base dl cp more sl hsl
    have hlen := sliceLen_sound (P := P) (w := w) hsl hs
    simp only at h
    split at h
    · cases h
    · rename_i cs hcs
      obtain ⟨us, hus, hfc⟩ := srcCells_sound (P := P) hr hcs hs
      split at h
      · cases h
        obtain ⟨_, rfl⟩ := inv_nilslc hd
        refine ⟨w, _, hr, rfl, ?_⟩
        simp [Builtin.copy_, ht0, run_underlying ht, sizeOf, typeInfo, hi, hlen, hfc, goInt]
      · rename_i p
        simp only [Option.map_eq_some_iff] at h
        obtain ⟨H1, hw, h⟩ := h
        cases h
        obtain ⟨q, hq, rfl⟩ := inv_slc hd
        obtain ⟨w', h1, h2⟩ := writeAt_sound (P := P) hr hw hus hq
        refine ⟨w', _, h2, rfl, ?_⟩
        simp [Builtin.copy_, ht0, run_underlying ht, sizeOf, typeInfo, hi, hlen, hfc, goInt, h1]
  · cases h

theorem range0 (f : Nat → Value) : (Array.range 0).map f = #[] := by apply Array.ext'; simp

theorem bslice_sound (hr : Rel NG W0 m H w) (hg : ∀ g, g < P.globals.size → m g = some (g, 0)) (ht : TRel m t a.tmps) {ty : TypeId} {len : Nat} {parts : Array (Nat × Operand)} {ao : AOp} (htr : trOp P (.buildSlice ty len parts) = some ao) {call rnd : CallF} {v : AV} {H' : AHeap}
    (hev : evalE call rnd ao t H = some (v, H')) : ∃ m' w' v', m.le m' ∧ Rel NG W0 m' H' w' ∧ v.toV m' = some v' ∧ (Instr.buildSlice ty len (parts.map fun (i, x) => (i, a.eval x))).run P w = .ok v' w' := by
  simp only [trOp] at htr
  split at htr
  · rename_i e hu
    split at htr
    · rename_i sz z hsz hz
      split at htr
      · rename_i hc
        simp only [Option.map_eq_some_iff] at htr
        obtain ⟨qs, hqs, rfl⟩ := htr
        obtain ⟨zv, hz1, hz2⟩ := zeroP_run (P := P) (w := w) (m := m) hz
        simp only [evalE] at hev
        split at hev
        · rename_i c hf
          cases hev
          have hzc := toV_cells hz2
          have hzl := toVs_length hzc
          simp only [Array.length_toList] at hzl
          have hrep := repeated_sound hzc (len * sz) (by omega)
          obtain ⟨cs', h1, h2⟩ := fill_sound hg ht hqs hf hrep
          obtain ⟨hle, hrel⟩ := new_cells hr (c := c) (cs := cs') 0 0 (by have := toVs_length h2; simp only [Array.length_toList] at this; omega) (toVs_get h2) e
          refine ⟨_, _, .slice (some ⟨w.heap.size, 0, none⟩) len len, hle, hrel, by simp [AV.toV, Env.put_same], ?_⟩
          have hfill : ∀ zc : Array Value, zc = zv.cells ∨ len * sz = 0 → Instr.fill (fun i => some (i * sz, sz)) ((Array.range (len * sz)).map (fun k => zc[k % zc.size]!)) (parts.map fun (i, x) => (i, a.eval x)).toList = some cs' := by
            intro zc hzc2
            rw [parts_map, ← h1]
            rcases hzc2 with rfl | h0
            · rfl
            · simp [h0, range0]
          have hlt : ¬ (2 ^ 24 < len * sz) := by omega
          simp only [Instr.buildSlice, Sem.run_bind, run_underlying hu, Result.andThen_ok, sizeP_run (w := w) hsz, Sem.run_ite, if_neg hlt, Sem.run_pure]
          by_cases h0 : len * sz = 0
          · simp only [if_pos h0, Sem.run_pure, Result.andThen_ok, hfill #[] (.inr h0)]
            simp [newRow]
          · simp only [if_neg h0, Sem.run_bind, hz1, Result.andThen_ok, Sem.run_pure, hfill zv.cells (.inl rfl)]
            simp [newRow]
        · cases hev
      · cases htr
    · cases htr
  · cases htr

theorem mkSlice_sound (hr : Rel NG W0 m H w) (hg : ∀ g, g < P.globals.size → m g = some (g, 0)) (ht : TRel m t a.tmps) {ty : TypeId} {l c : Operand} {ao : AOp} (htr : trOp P (.makeSlice ty l c) = some ao) {call rnd : CallF} {v : AV} {H' : AHeap}
    (hev : evalE call rnd ao t H = some (v, H')) : ∃ m' w' v', m.le m' ∧ Rel NG W0 m' H' w' ∧ v.toV m' = some v' ∧ (Instr.makeSlice ty (a.eval l) (a.eval c)).run P w = .ok v' w' := by
  simp only [trOp] at htr
  split at htr
  · rename_i e hu
    split at htr
    · rename_i i z l' c' hi hz hl hc
      split at htr
      · rename_i hcond
        cases htr
        obtain ⟨zv, hz1, hz2⟩ := zeroP_run (P := P) (w := w) (m := m) hz
        simp only [evalE] at hev
        split at hev
        · rename_i ln cn el ec
          split at hev
          · rename_i hb
            cases hev
            have hl' := opd_sound hg ht hl
            have hc' := opd_sound hg ht hc
            rw [el] at hl'; rw [ec] at hc'
            have hvl := inv_int hl'
            have hvc := inv_int hc'
            have hzc := toV_cells hz2
            have hzl := toVs_length hzc
            simp only [Array.length_toList] at hzl
            have hrep := repeated_sound hzc (cn.toNat * z.cells.length) (by omega)
            obtain ⟨hle, hrel⟩ := new_cells hr (c := repeated z.cells (cn.toNat * z.cells.length)) (cs := (Array.range (cn.toNat * z.cells.length)).map fun k => zv.cells[k % zv.cells.size]!) 0 0 (by simp [repeated]) (toVs_get hrep) e
            refine ⟨_, _, .slice (some ⟨w.heap.size, 0, none⟩) ln.toNat cn.toNat, hle, hrel, by simp [AV.toV, Env.put_same], ?_⟩
            have hwl : IntKind.i64.wrap ln = ln := by
              obtain ⟨_, _, _, _⟩ := hb
              exact IntWalk.i64_in _ (by omega)
            have hwc : IntKind.i64.wrap cn = cn := by
              obtain ⟨_, _, _, _⟩ := hb
              exact IntWalk.i64_in _ (by omega)
            obtain ⟨hb1, hb2, hb3, hb4⟩ := hb
            have t1 : ¬ (cn < 0) := by omega
            have t2 : ¬ ((i.bytes : Int) * cn > 281474976710656) := by rw [Int.mul_comm]; omega
            have t3 : ¬ (ln < 0) := by omega
            have t4 : ¬ (ln > cn) := by omega
            have t2' : ¬ (281474976710656 < (i.bytes : Int) * cn) := t2
            have t4' : ¬ (cn < ln) := t4
            have t5 : ¬ (2 ^ 48 < (i.bytes : Int) * cn) := t2
            have hzi : i.zero = some zv := by
              unfold zeroP at hz
              rw [hi] at hz
              simp only [zeroValue, typeInfo, Sem.run_bind, run_program, Result.andThen_ok, hi, Sem.run_pure] at hz1
              cases hzz : i.zero with
              | none => simp [hzz] at hz
              | some z2 => simp [hzz] at hz1; rw [hz1]
            rw [hvl, hvc]
            by_cases h0 : cn.toNat * i.size = 0
            · have hc0 : cn.toNat = 0 := by
                rcases Nat.mul_eq_zero.1 h0 with h1 | h1
                · exact h1
                · omega
              simp [Instr.makeSlice, run_underlying hu, asInt, asIntOf, typeInfo, hi, hwl, hwc, t1, t2', t3, t4', sizeOf, zeroValue, hzi, newRow, hc0, range0]
            · simp [Instr.makeSlice, run_underlying hu, asInt, asIntOf, typeInfo, hi, hwl, hwc, t1, t2', t3, t4', sizeOf, zeroValue, hzi, newRow, h0, hcond.2]
          · cases hev
        · cases hev
      · cases htr
    · cases htr
  · cases htr

/-- All of them. -/
theorem evalE_sound (hr : Rel P.pg W0 m H w) (ht : TRel m t a.tmps) {o : Oper} {ao : AOp} (htr : trOp P o.op = some ao) {call rnd : CallF} (hnc : (∀ f args, ao ≠ .call f args) ∧ ∀ x args, ao ≠ .callv x args) {v : AV} {H' : AHeap}
    (hev : evalE call rnd ao t H = some (v, H')) : ∃ m' w' v' n, m.le m' ∧ Rel P.pg W0 m' H' w' ∧ v.toV m' = some v' ∧ (execOp a.eval o).run P w = .ok n w' ∧ (n = .value v' ∨ (n = .skip ∧ v' = undef)) := by
  have hg := hr.glob
  cases ho : o.op <;> rw [ho] at htr
  case alloc e =>
    simp only [trOp, Option.map_eq_some_iff] at htr
    obtain ⟨z, hz, rfl⟩ := htr
    obtain ⟨zv, hz1, hz2⟩ := zeroP_run (P := P) (w := w) (m := m) hz
    simp only [evalE, Option.some.injEq, Prod.mk.injEq] at hev
    obtain ⟨rfl, rfl⟩ := hev
    have hzc := toV_cells hz2
    obtain ⟨hle, hrel⟩ := new_cells hr (c := z.cells) (cs := zv.cells) 0 0 (by have := toVs_length hzc; simp only [Array.length_toList] at this; omega) (toVs_get hzc) e
    refine ⟨_, _, _, _, hle, hrel, new_toV _ _ _ _, ?_, .inl rfl⟩
    simp [execOp, ho, Instr.alloc, hz1, newVar, newRow]
  case box e x =>
    simp only [trOp, Option.map_eq_some_iff] at htr
    obtain ⟨x', hx, rfl⟩ := htr
    simp only [evalE, Option.some.injEq, Prod.mk.injEq] at hev
    obtain ⟨rfl, rfl⟩ := hev
    have hxc := toV_cells (opd_sound hg ht hx)
    obtain ⟨hle, hrel⟩ := new_cells hr (c := (x'.ev t).cells) (cs := (a.eval x).cells) 0 0 (by have := toVs_length hxc; simp only [Array.length_toList] at this; omega) (toVs_get hxc) e
    refine ⟨_, _, _, _, hle, hrel, new_toV _ _ _ _, ?_, .inl rfl⟩
    simp [execOp, ho, Instr.box, newVar, newRow]
  case buildSlice ty n parts =>
    obtain ⟨m', w', v', h1, h2, h3, h4⟩ := bslice_sound hr hg ht htr hev
    exact ⟨m', w', v', _, h1, h2, h3, by unfold execOp; simp only [ho]; exact run_v h4, .inl rfl⟩
  case makeSlice ty l c =>
    obtain ⟨m', w', v', h1, h2, h3, h4⟩ := mkSlice_sound hr hg ht htr hev
    exact ⟨m', w', v', _, h1, h2, h3, by unfold execOp; simp only [ho]; exact run_v h4, .inl rfl⟩
  case store ty x y =>
    simp only [trOp] at htr
    split at htr
    · rename_i n x' y' hn hx hy
      cases htr
      have hx' := opd_sound hg ht hx
      have hy' := opd_sound hg ht hy
      simp only [evalE] at hev
      split at hev
      · rename_i p e
        rw [e] at hx'
        obtain ⟨q, hq, hv⟩ := inv_ptr hx'
        split at hev
        · rename_i hl
          simp only [Option.map_eq_some_iff, Prod.mk.injEq] at hev
          obtain ⟨H1, hw, rfl, rfl⟩ := hev
          obtain ⟨w', h1, h2⟩ := store_sound (P := P) hr hn hy' (Nat.eq_of_beq_eq_true hl) hw hq
          refine ⟨m, w', undef, .skip, Env.le_refl m, h2, rfl, ?_, .inr ⟨rfl, rfl⟩⟩
          simp [execOp, ho, Instr.storeAt, hv, Instr.sureAddr, h1]
        · cases hev
      · cases hev
    · cases htr
  case makeMap ty r =>
    simp only [trOp] at htr
    split at htr
    · cases htr
      simp only [evalE, Option.some.injEq, Prod.mk.injEq] at hev
      obtain ⟨rfl, rfl⟩ := hev
      have hn := hr.fresh H.next (Nat.le_refl _)
      obtain ⟨hle, hrel⟩ := hr.new (o := .dict []) (O := .map #[] 0) 0 ⟨w.heap.size, 0, #[], 0, Env.put_same _ _ _ _, by show (w.heap.push _)[w.heap.size]? = _; simp, hr.size, trivial⟩
      refine ⟨_, _, .map (some w.heap.size), _, hle, hrel, by simp [AV.toV, Env.put_same], ?_, .inl rfl⟩
      simp [execOp, ho, Instr.makeMap]
    · cases htr
  case mapUpdate ty x k y =>
    simp only [trOp] at htr
    split at htr
    · rename_i kt e hu
      split at htr
      · rename_i str x' k' y' hks hx hk hy
        cases htr
        have hx' := opd_sound hg ht hx
        simp only [evalE] at hev
        split at hev
        · rename_i r er
          rw [er] at hx'
          split at hev
          · rename_i es hes
            simp only [Option.map_eq_some_iff, Prod.mk.injEq] at hev
            obtain ⟨es', hup, rfl, rfl⟩ := hev
            obtain ⟨w', h1, h2⟩ := mapUpd_sound hr hu hks hx' (opd_sound hg ht hk) (opd_sound hg ht hy) hes hup
            refine ⟨m, w', undef, .skip, Env.le_refl m, h2, rfl, ?_, .inr ⟨rfl, rfl⟩⟩
            simp [execOp, ho, h1]
          · cases hev
        · cases hev
      · cases htr
    · cases htr
  case call c =>
    simp only [trOp, trCall] at htr
    split at htr
    · split at htr
      · cases htr; simp [evalE] at hev
      · cases htr; exact absurd rfl (hnc.1 _ _)
    · simp only [Option.map_eq_some_iff] at htr
      obtain ⟨_, _, rfl⟩ := htr
      exact absurd rfl (hnc.2 _ _)
    · split at htr <;> (cases htr) <;> simp [evalE] at hev
    · rename_i s' x' hc hargs
      obtain ⟨s, x, ha, hs, hx⟩ := args_two hargs
      obtain ⟨cs, hcall⟩ := call_builtin (P := P) (w := w) (a := a) ho hc
      have main : ∀ e, (c.argTypes[0]?).bind P.underlying = some (.slice e) → (∃ t1, c.argTypes[1]? = some t1 ∧ ((∃ e', P.underlying t1 = some (.slice e')) ∨ P.underlying t1 = some .string)) →
          (match elemP P e, zeroP P e with
            | some p, some z => if z.cells.length = p.1 ∧ 0 < p.1 then some (AOp.append s' x' p.1 p.2) else none
            | _, _ => none) = some ao →
          ∃ m' w' v' n, m.le m' ∧ Rel P.pg W0 m' H' w' ∧ v.toV m' = some v' ∧ (execOp a.eval o).run P w = .ok n w' ∧ (n = .value v' ∨ (n = .skip ∧ v' = undef)) := by
        intro e he ht1 htr
        split at htr
        · rename_i p z hp hz
          split at htr
          · rename_i hcond
            cases htr
            simp only [elemP, Option.map_eq_some_iff] at hp
            obtain ⟨i, hi, rfl⟩ := hp
            cases ht0 : c.argTypes[0]? with
            | none => simp [ht0] at he
            | some t0 =>
              simp only [ht0, Option.bind_some] at he
              simp only [evalE] at hev
              obtain ⟨m', w', v', h1, h2, h3, h4⟩ := append_sound (ty := o.type) hr ht0 he hi hz hcond.1 ht1 (opd_sound hg ht hs) (opd_sound hg ht hx) hev
              refine ⟨m', w', v', _, h1, h2, h3, ?_, .inl rfl⟩
              rw [hcall]
              simp only [builtin, ha, List.map_toArray, List.map_cons, List.map_nil]
              exact run_v h4
          · cases htr
        · cases htr
      split at htr
      · rename_i e e' he he'
        refine main e he ?_ htr
        cases ht1 : c.argTypes[1]? with
        | none => simp [ht1] at he'
        | some t1 => simp only [ht1, Option.bind_some] at he'; exact ⟨t1, rfl, .inl ⟨e', he'⟩⟩
      · rename_i e he he'
        refine main e he ?_ htr
        cases ht1 : c.argTypes[1]? with
        | none => simp [ht1] at he'
        | some t1 => simp only [ht1, Option.bind_some] at he'; exact ⟨t1, rfl, .inr he'⟩
      · cases htr
    · rename_i d' s' hc hargs
      obtain ⟨d, s, ha, hd, hs⟩ := args_two hargs
      obtain ⟨cs, hcall⟩ := call_builtin (P := P) (w := w) (a := a) ho hc
      split at htr
      · rename_i e he
        simp only [Option.map_eq_some_iff] at htr
        obtain ⟨p, hp, rfl⟩ := htr
        simp only [elemP, Option.map_eq_some_iff] at hp
        obtain ⟨i, hi, rfl⟩ := hp
        cases ht0 : c.argTypes[0]? with
        | none => simp [ht0] at he
        | some t0 =>
          simp only [ht0, Option.bind_some] at he
          simp only [evalE] at hev
          obtain ⟨w', v', h2, h3, h4⟩ := copy_sound (ty := o.type) hr ht0 he hi (opd_sound hg ht hd) (opd_sound hg ht hs) hev
          refine ⟨m, w', v', _, Env.le_refl m, h2, h3, ?_, .inl rfl⟩
          rw [hcall]
          simp only [builtin, ha, List.map_toArray, List.map_cons, List.map_nil]
          exact run_v h4
      · cases htr
    · rename_i d' s' hc hargs
      obtain ⟨d, s, ha, hd, hs⟩ := args_two hargs
      obtain ⟨cs, hcall⟩ := call_builtin (P := P) (w := w) (a := a) ho hc
      split at htr
      · rename_i kt e he
        simp only [Option.map_eq_some_iff] at htr
        obtain ⟨str, hks, rfl⟩ := htr
        cases ht0 : c.argTypes[0]? with
        | none => simp [ht0] at he
        | some t0 =>
          simp only [ht0, Option.bind_some] at he
          have hd' := opd_sound hg ht hd
          simp only [evalE] at hev
          split at hev
          · rename_i r er
            rw [er] at hd'
            split at hev
            · rename_i es hes
              simp only [Option.map_eq_some_iff, Prod.mk.injEq] at hev
              obtain ⟨es', hup, rfl, rfl⟩ := hev
              obtain ⟨w', h1, h2⟩ := delete_sound (ty := o.type) hr ht0 he hks hd' (opd_sound hg ht hs) hes hup
              refine ⟨m, w', _, _, Env.le_refl m, h2, rfl, ?_, .inl rfl⟩
              rw [hcall]
              simp only [builtin, ha, List.map_toArray, List.map_cons, List.map_nil]
              exact run_v h1
            · cases hev
          · cases hev
      · cases htr
    · rename_i x' hc hargs
      obtain ⟨x, ha, hx⟩ := args_one hargs
      obtain ⟨cs, hcall⟩ := call_builtin (P := P) (w := w) (a := a) ho hc
      split at htr
      · rename_i e he
        split at htr
        · rename_i sz z hsz hz
          split at htr
          · rename_i hcond
            cases htr
            cases ht0 : c.argTypes[0]? with
            | none => simp [ht0] at he
            | some t0 =>
              simp only [ht0, Option.bind_some] at he
              have hx' := opd_sound hg ht hx
              obtain ⟨zv, hz1, hz2⟩ := zeroP_run (P := P) (w := w) (m := m) hz
              have fin : ∀ w', (Builtin.clear_ c.argTypes o.type #[a.eval x]).run P w = .ok (.tuple #[]) w' → (execOp a.eval o).run P w = .ok (.value (.tuple #[])) w' := by
                intro w' hc2
                rw [hcall]
                simp only [builtin, ha, List.map_toArray, List.map_cons, List.map_nil]
                exact run_v hc2
              simp only [evalE] at hev
              split at hev
              · rename_i l cp more ex
                rw [ex] at hx'
                obtain ⟨_, hv⟩ := inv_nilslc hx'
                cases hev
                refine ⟨m, w, .tuple #[], _, Env.le_refl m, hr, rfl, fin w ?_, .inl rfl⟩
                simp [Builtin.clear_, ht0, run_underlying he, hv]
              · rename_i p n cp more ex
                rw [ex] at hx'
                obtain ⟨q, hq, hv⟩ := inv_slc hx'
                split at hev
                · rename_i hn
                  have hn' := Nat.eq_of_beq_eq_true hn
                  subst hn'
                  cases hev
                  refine ⟨m, w, .tuple #[], _, Env.le_refl m, hr, rfl, fin w ?_, .inl rfl⟩
                  simp [Builtin.clear_, ht0, run_underlying he, hv]
                · rename_i hn
                  have hn0 : n ≠ 0 := by rintro rfl; simp at hn
                  simp only [Option.map_eq_some_iff, Prod.mk.injEq] at hev
                  obtain ⟨H1, hw, rfl, rfl⟩ := hev
                  have hzc := toV_cells hz2
                  have hzl := toVs_length hzc
                  simp only [Array.length_toList] at hzl
                  have hrep := repeated_sound hzc (n * z.cells.length) (by omega)
                  obtain ⟨w', h1, h2⟩ := writeAt_sound (P := P) hr hw hrep hq
                  refine ⟨m, w', .tuple #[], _, Env.le_refl m, h2, rfl, fin w' ?_, .inl rfl⟩
                  rw [← hzl] at h1
                  have hzc2 : Builtin.zeroCells zv.cells n = (Array.range (n * zv.cells.size)).map fun k => zv.cells[k % zv.cells.size]! := rfl
                  rw [← hzc2] at h1
                  obtain ⟨n', rfl⟩ : ∃ n', n = n' + 1 := ⟨n - 1, by omega⟩
                  simp [Builtin.clear_, ht0, run_underlying he, hv, hz1, h1]
              · cases hev
          · cases htr
        · cases htr
      · cases htr
    · cases htr; simp [evalE] at hev
    · cases htr; simp [evalE] at hev
    · cases htr
  all_goals
    simp only [trOp, trBin] at htr
    repeat' (split at htr)
    all_goals first
      | (cases htr; done)
      | (cases htr; simp [evalE] at hev; done)
      | (simp only [Option.map_eq_some_iff] at htr; obtain ⟨_, _, rfl⟩ := htr; simp [evalE] at hev; done)
      | (simp only [Option.bind_eq_some_iff] at htr; obtain ⟨_, _, htr⟩ := htr; cases htr; done)
      | (simp only [Option.bind_eq_some_iff] at htr; obtain ⟨_, _, htr⟩ := htr; cases htr; simp [evalE] at hev; done)
      | (rename_i heq _ _ _ _; cases heq; done)
      | (exfalso; simp_all; done)

end
end Go.AM
