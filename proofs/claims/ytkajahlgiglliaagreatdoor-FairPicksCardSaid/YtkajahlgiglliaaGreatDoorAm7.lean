/- The other operations that leave the heap alone: addresses, slices, maps that are read, aggregates that are built; then all of them. -/
import Derived.Test.YtkajahlgiglliaaGreatDoorAm6
namespace Go.AM

section
variable {P : Program} {NG : PG} {W0 : Base} {m : Env} {H : AHeap} {w : World} {t : List AV} {a : Act}

theorem sizeP_run {e : TypeId} {n : Nat} (h : sizeP P e = some n) : (sizeOf e).run P w = .ok n w := by
  simp only [sizeP, Option.map_eq_some_iff] at h
  obtain ⟨i, hi, rfl⟩ := h
  simp [sizeOf, typeInfo, hi]

theorem zeroP_run {e : TypeId} {z : AV} (h : zeroP P e = some z) : ∃ zv, (zeroValue e).run P w = .ok zv w ∧ z.toV m = some zv := by
  unfold zeroP at h
  split at h
  · rename_i i hi
    cases hz : i.zero with
    | none => simp [hz] at h
    | some zv => simp [hz] at h; exact ⟨zv, by simp [zeroValue, typeInfo, hi, hz], ofConst_toV m _ _ h⟩
  · cases h

/- Slices. -/

theorem boundA_inv {v : AV} {y n : Nat} (h : boundA v y = some n) : ∃ k i, v = .int k i ∧ 0 ≤ i ∧ i ≤ (y : Int) ∧ n = i.toNat := by
  unfold boundA at h
  split at h
  · rename_i k i
    split at h
    · rename_i hi; cases h; exact ⟨k, i, rfl, hi.1, hi.2, rfl⟩
    · cases h
  · cases h

theorem bound_run {k : IntKind} {i : Int} {y y' : Nat} (h0 : 0 ≤ i) (h1 : i ≤ (y : Int)) (hy : y ≤ y') (code : BoundsCode) : (Instr.sliceBound (.int k i) y' code).run P w = .ok i.toNat w := by
  unfold Instr.sliceBound
  simp [asIntOf, h0, show i ≤ (y' : Int) by omega]

/-- The three bounds of a slice expression. -/
theorem bounds_sound (hg : ∀ g, g < P.globals.size → m g = some (g, 0)) (ht : TRel m t a.tmps) {lo hi mx : Option Operand} {lo' hi' mx' : Option AOpd} (hlo : trOpt P lo = some lo') (hhi : trOpt P hi = some hi')
    (hmx : trOpt P mx = some mx') (hnb : (mx'.isSome && hi'.isNone) = false) {len cap cap' mm h l : Nat} (hcap : cap ≤ cap') (e1 : boundO t mx' cap cap = some mm) (e2 : boundO t hi' len mm = some h) (e3 : boundO t lo' 0 h = some l) (isSlice : Bool) :
    ∃ m', (Instr.sliceBounds isSlice len cap' (lo.map a.eval) (hi.map a.eval) (mx.map a.eval)).run P w = .ok (l, h, m') w ∧ (mx' = none → mm = cap ∧ m' = cap') ∧ (mx' ≠ none → m' = mm) := by
  have key : ∀ (X : Option Operand) (X' : Option AOpd), trOpt P X = some X' → (X = none ∧ X' = none) ∨ ∃ x x', X = some x ∧ X' = some x' ∧ (x'.ev t).toV m = some (a.eval x) := by
    intro X X' hX
    cases X with
    | none => simp [trOpt] at hX; exact .inl ⟨rfl, hX.symm⟩
    | some x =>
      simp only [trOpt, Option.map_eq_some_iff] at hX
      obtain ⟨x', hx, rfl⟩ := hX
      exact .inr ⟨x, x', rfl, rfl, opd_sound hg ht hx⟩
  rcases key _ _ hmx with ⟨rfl, rfl⟩ | ⟨xm, xm', rfl, rfl, em⟩
  · simp only [boundO] at e1; cases e1
    refine ⟨cap', ?_, fun _ => ⟨rfl, rfl⟩, fun h => absurd rfl h⟩
    rcases key _ _ hhi with ⟨rfl, rfl⟩ | ⟨xh, xh', rfl, rfl, eh⟩
    · simp only [boundO] at e2; cases e2
      rcases key _ _ hlo with ⟨rfl, rfl⟩ | ⟨xl, xl', rfl, rfl, el⟩
      · simp only [boundO] at e3; cases e3
        simp [Instr.sliceBounds]
      · simp only [boundO] at e3
        obtain ⟨k, i, hv, h0, h1, rfl⟩ := boundA_inv e3
        rw [hv] at el; have el' := inv_int el
        simp [Instr.sliceBounds, el', bound_run h0 h1 (Nat.le_refl _)]
    · simp only [boundO] at e2
      obtain ⟨kh, ih, hvh, h0h, h1h, rfl⟩ := boundA_inv e2
      rw [hvh] at eh; have eh' := inv_int eh
      rcases key _ _ hlo with ⟨rfl, rfl⟩ | ⟨xl, xl', rfl, rfl, el⟩
      · simp only [boundO] at e3; cases e3
        simp [Instr.sliceBounds, eh', bound_run h0h h1h hcap]
      · simp only [boundO] at e3
        obtain ⟨k, i, hv, h0, h1, rfl⟩ := boundA_inv e3
        rw [hv] at el; have el' := inv_int el
        simp [Instr.sliceBounds, eh', el', bound_run h0h h1h hcap, bound_run h0 h1 (Nat.le_refl _)]
  · simp only [boundO] at e1
    obtain ⟨km, im, hvm, h0m, h1m, rfl⟩ := boundA_inv e1
    rw [hvm] at em; have em' := inv_int em
    refine ⟨im.toNat, ?_, fun h => by simp at h, fun _ => rfl⟩
    rcases key _ _ hhi with ⟨rfl, rfl⟩ | ⟨xh, xh', rfl, rfl, eh⟩
    · simp at hnb
    · simp only [boundO] at e2
      obtain ⟨kh, ih, hvh, h0h, h1h, rfl⟩ := boundA_inv e2
      rw [hvh] at eh; have eh' := inv_int eh
      rcases key _ _ hlo with ⟨rfl, rfl⟩ | ⟨xl, xl', rfl, rfl, el⟩
      · simp only [boundO] at e3; cases e3
        simp [Instr.sliceBounds, em', eh', bound_run h0m h1m hcap, bound_run h0h h1h (Nat.le_refl _)]
      · simp only [boundO] at e3
        obtain ⟨k, i, hv, h0, h1, rfl⟩ := boundA_inv e3
        rw [hv] at el; have el' := inv_int el
        simp [Instr.sliceBounds, em', eh', el', bound_run h0m h1m hcap, bound_run h0h h1h (Nat.le_refl _), bound_run h0 h1 (Nat.le_refl _)]

theorem boundO_le {x : Option AOpd} {d y n : Nat} (h : boundO t x d y = some n) (hd : d ≤ y) : n ≤ y := by
  unfold boundO at h
  split at h
  · cases h; exact hd
  · obtain ⟨k, i, _, h0, h1, rfl⟩ := boundA_inv h; omega

theorem slice_sound (hg : ∀ g, g < P.globals.size → m g = some (g, 0)) (ht : TRel m t a.tmps) {lo hi mx : Option Operand} {lo' hi' mx' : Option AOpd} (hlo : trOpt P lo = some lo') (hhi : trOpt P hi = some hi')
    (hmx : trOpt P mx = some mx') (hnb : (mx'.isSome && hi'.isNone) = false) {p : Option (Nat × Nat)} {len cap : Nat} {more : Bool} {esz : Nat} {v : AV} (h : sliceA t p len cap more lo' hi' mx' esz = some v)
    {b : Option Addr} {cap' : Nat} (hsl : (AV.slc p len cap more).toV m = some (.slice b len cap')) (isSlice : Bool) :
    ∃ v' l h m', v.toV m = some v' ∧ (Instr.sliceBounds isSlice len cap' (lo.map a.eval) (hi.map a.eval) (mx.map a.eval)).run P w = .ok (l, h, m') w ∧
      v' = .slice (if m' = l then b else b.map (·.add (l * esz))) (h - l) (m' - l) := by
  have hcap : cap ≤ cap' ∧ (more = false → cap' = cap) := by
    cases p with
    | none => obtain ⟨hm, e⟩ := inv_nilslc hsl; cases e; exact ⟨Nat.le_refl _, fun _ => rfl⟩
    | some p =>
      obtain ⟨q, _, e⟩ := inv_slc hsl
      cases e
      cases more
      · exact ⟨Nat.le_refl _, fun _ => rfl⟩
      · exact ⟨by simp, fun h => by simp at h⟩
  unfold sliceA at h
  split at h
  · cases h
  · rename_i mm e1
    split at h
    · cases h
    · rename_i hh e2
      split at h
      · cases h
      · rename_i l e3
        obtain ⟨m', hrun, hm1, hm2⟩ := bounds_sound (P := P) (w := w) hg ht hlo hhi hmx hnb hcap.1 e1 e2 e3 isSlice
        have hlh : l ≤ hh := boundO_le e3 (Nat.zero_le _)
        split at h
        · -- nil
          cases h
          obtain ⟨hmore, e⟩ := inv_nilslc hsl
          cases e
          have : m' = mm := by
            by_cases hx : mx' = none
            · obtain ⟨r1, r2⟩ := hm1 hx; omega
            · exact hm2 hx
          subst this
          exact ⟨_, l, hh, m', rfl, hrun, by simp⟩
        · rename_i p
          obtain ⟨q, hq, e⟩ := inv_slc hsl
          injection e with eb el ec
          subst eb
          split at h
          · rename_i hcond
            simp only [Bool.and_eq_true] at hcond
            obtain ⟨hmore, hnone⟩ := hcond
            subst hmore
            have hx : mx' = none := by cases mx' <;> simp at hnone; rfl
            obtain ⟨r1, r2⟩ := hm1 hx
            split at h
            · cases h
            · rename_i hb
              cases h
              have hb' : mm ≤ l → l = 0 := by
                intro hle
                have h1 : Nat.ble mm l = true := Nat.ble_eq_true_of_le hle
                rw [h1] at hb
                simp only [Bool.true_and] at hb
                cases hz : Nat.beq l 0 with
                | true => exact Nat.eq_of_beq_eq_true hz
                | false => rw [hz] at hb; simp at hb
              simp only [if_true] at ec
              refine ⟨_, l, hh, m', ?_, hrun, rfl⟩
              simp only [AV.toV, hq, Option.map_some, if_true]
              by_cases hml : m' = l
              · have hl0 : l = 0 := hb' (by omega)
                subst hl0
                rw [if_pos hml]
                simp only [Nat.zero_mul, Nat.add_zero, Nat.sub_zero]
                congr 2
                omega
              · rw [if_neg hml]
                simp only [Option.map_some, Addr.add_lit]
                congr 2
                rcases Nat.lt_or_ge l mm with h1 | h1
                · omega
                · have := hb' h1; omega
          · rename_i hcond
            cases h
            have hmm : m' = mm := by
              by_cases hx : mx' = none
              · obtain ⟨r1, r2⟩ := hm1 hx
                subst hx
                simp at hcond
                have := hcap.2 hcond
                omega
              · exact hm2 hx
            subst hmm
            refine ⟨_, l, hh, m', ?_, hrun, rfl⟩
            simp only [AV.toV, hq, Option.map_some]
            by_cases hml : m' = l
            · simp [hml]
            · simp [hml, Addr.add_lit]

/- Maps that are read. -/

theorem sameKey_sound {str : Bool} {d : TypeDesc} (hd : (str = false ∧ ∃ k, d = .int k) ∨ (str = true ∧ d = .string)) {k x : AV} {r : Bool} (h : sameKey str k x = some r) {vk vx : Value}
    (hk : k.toV m = some vk) (hx : x.toV m = some vx) : Instr.sameNow d vk vx = some r := by
  unfold sameKey at h
  split at h
  · rename_i i a j b
    cases inv_int hk; cases inv_int hx
    split at h
    · rename_i hij; cases h
      rcases hd with ⟨_, k', rfl⟩ | ⟨hs, _⟩
      · simp [Instr.sameNow, hij]
      · cases hs
    · cases h
  · cases inv_str hk; cases inv_str hx; cases h
    rcases hd with ⟨hs, _⟩ | ⟨_, rfl⟩
    · cases hs
    · simp [Instr.sameNow]
  · cases h

theorem findA_sound {str : Bool} {d : TypeDesc} (hd : (str = false ∧ ∃ k, d = .int k) ∨ (str = true ∧ d = .string)) {k : AV} {vk : Value} (hk : k.toV m = some vk) :
    ∀ {es : List (AV × AV)} {ms : List MapEntry} {r : Option AV} (i : Nat), Entries m es ms → findA str k es = some r →
      (r = none ∧ Instr.findNow d vk ms i = some none) ∨ ∃ x vx j, r = some x ∧ x.toV m = some vx ∧ Instr.findNow d vk ms i = some (some (j, vx))
  | [], [], r, i, _, h => by simp [findA] at h; subst h; exact .inl ⟨rfl, rfl⟩
  | [], _ :: _, _, _, he, _ => he.elim
  | _ :: _, [], _, _, he, _ => he.elim
  | e :: es, e' :: ms, r, i, he, h => by
    simp only [findA] at h
    split at h
    · rename_i hs
      cases h
      refine .inr ⟨e.2, e'.val, i, rfl, he.2.1, ?_⟩
      simp [Instr.findNow, sameKey_sound hd hs hk he.1]
    · rename_i hs
      rcases findA_sound hd hk (i + 1) he.2.2 h with ⟨h1, h2⟩ | ⟨x, vx, j, h1, h2, h3⟩
      · exact .inl ⟨h1, by simp [Instr.findNow, sameKey_sound hd hs hk he.1, h2]⟩
      · exact .inr ⟨x, vx, j, h1, h2, by simp [Instr.findNow, sameKey_sound hd hs hk he.1, h3]⟩
    · cases h

theorem keyStr_inv {kt : TypeId} {str : Bool} (h : keyStr P kt = some str) : ∃ d, P.underlying kt = some d ∧ ((str = false ∧ ∃ k, d = .int k) ∨ (str = true ∧ d = .string)) := by
  unfold keyStr at h
  split at h
  · rename_i k hu; cases h; exact ⟨_, hu, .inl ⟨rfl, k, rfl⟩⟩
  · rename_i hu; cases h; exact ⟨_, hu, .inr ⟨rfl, rfl⟩⟩
  · cases h

theorem checkKey_run {kt : TypeId} {d : TypeDesc} (hu : P.underlying kt = some d) (hd : (∃ k, d = .int k) ∨ d = .string) (e : Bool) (v : Value) (n : Nat) : (Instr.checkKey e (n + 1) kt v).run P w = .ok () w := by
  rcases hd with ⟨k, rfl⟩ | rfl <;> simp [Instr.checkKey, run_underlying hu]

theorem findKey_run {kt : TypeId} {d : TypeDesc} (hu : P.underlying kt = some d) {vk : Value} {l : List MapEntry} {r : Option (Nat × Value)} (h : Instr.findNow d vk l 0 = some r) : (Instr.findKey kt vk l).run P w = .ok r w := by
  simp [Instr.findKey, run_underlying hu, h]

theorem lookup_sound (hr : Rel NG W0 m H w) {mt kt e : TypeId} (hmt : P.underlying mt = some (.map kt e)) {str ok : Bool} (hks : keyStr P kt = some str) {z : AV} (hz : zeroP P e = some z) {x k : AV} {vx vk : Value}
    (hx : x.toV m = some vx) (hk : k.toV m = some vk) {es : List (AV × AV)} (hes : dictOf H x = some es) {r : Option AV} (hf : findA str k es = some r) :
    ∃ v', (if ok then AV.tup [r.getD z, .bool r.isSome] else r.getD z).toV m = some v' ∧ (Instr.lookup mt vx vk ok).run P w = .ok v' w := by
  obtain ⟨d, hu, hd⟩ := keyStr_inv hks
  have hd' : (∃ k, d = .int k) ∨ d = .string := by rcases hd with ⟨_, k, rfl⟩ | ⟨_, rfl⟩; exact .inl ⟨k, rfl⟩; exact .inr rfl
  obtain ⟨zv, hz1, hz2⟩ := zeroP_run (P := P) (w := w) (m := m) hz
  have main : ∀ (ms : Array MapEntry), Entries m es ms.toList →
      ∃ fr v', (Instr.findKey kt vk ms.toList).run P w = .ok fr w ∧ (if ok then AV.tup [r.getD z, .bool r.isSome] else r.getD z).toV m = some v' ∧
        ((fr = none ∧ v' = if ok then .tuple #[zv, .bool false] else zv) ∨ ∃ j vy, fr = some (j, vy) ∧ v' = if ok then .tuple #[vy, .bool true] else vy) := by
    intro ms hms
    rcases findA_sound hd hk 0 hms hf with ⟨rfl, h2⟩ | ⟨y, vy, j, rfl, hy, h2⟩
    · refine ⟨_, _, findKey_run hu h2, ?_, .inl ⟨rfl, rfl⟩⟩
      cases ok
      · simpa using hz2
      · simp [AV.toV, toVs, hz2]
    · refine ⟨_, _, findKey_run hu h2, ?_, .inr ⟨j, vy, rfl, rfl⟩⟩
      cases ok
      · simpa using hy
      · simp [AV.toV, toVs, hy]
  have hck : ∀ b, (Instr.checkKey b 10000 kt vk).run P w = .ok () w := fun b => checkKey_run (w := w) hu hd' b vk 9999
  cases x with
  | map q =>
    cases q with
    | none =>
      simp only [dictOf] at hes
      cases hes
      cases inv_nilmap hx
      obtain ⟨fr, v', h1, h2, h3⟩ := main #[] trivial
      refine ⟨v', h2, ?_⟩
      have h1' : (Instr.findKey kt vk []).run P w = .ok fr w := h1
      rcases h3 with ⟨rfl, rfl⟩ | ⟨j, vy, rfl, rfl⟩
      · simp [Instr.lookup, run_underlying hmt, hck, h1', hz1]
      · simp [Instr.lookup, run_underlying hmt, hck, h1']
    | some rr =>
      simp only [dictOf] at hes
      split at hes
      · rename_i es' hget
        cases hes
        obtain ⟨q, hq, rfl⟩ := inv_map hx
        obtain ⟨b, y, ms, clock, h1, h2, _, h4⟩ := hr.obj rr _ hget
        rw [hq] at h1; cases h1
        obtain ⟨fr, v', e1, e2, e3⟩ := main ms h4
        refine ⟨v', e2, ?_⟩
        have hgo : (getObj b).run P w = .ok (.map ms clock) w := by simp [getObj, Sem.run, h2]
        rcases e3 with ⟨rfl, rfl⟩ | ⟨j, vy, rfl, rfl⟩
        · simp [Instr.lookup, run_underlying hmt, hck, hgo, e1, hz1]
        · simp [Instr.lookup, run_underlying hmt, hck, hgo, e1]
      · cases hes
  | _ => simp [dictOf] at hes

end
end Go.AM
