/- The single operations that leave the heap alone: numbers, comparisons, slices, maps that are read. -/
import Derived.Test.YtkajahlgiglliaaGreatDoorAm5
import Derived.Laws.StructEq
namespace Go.AM

section
variable {P : Program} {NG : PG} {W0 : Base} {m : Env} {H : AHeap} {w : World}

theorem run_eqGuard_int (op : BinOp) (t : TypeId) (x y : Operand) (k k' : IntKind) (a b : Int) : (eqGuard op t x y (.int k a) (.int k' b)).run P w = .ok () w := by
  cases op <;> simp [eqGuard]

theorem arith_sound {op : BinOp} {k : IntKind} {x y : Int} {v : AV} (h : arithA op k x y = some v) (t : TypeId) : ∃ v', v.toV m = some v' ∧ (binOp op t (.int k x) (.int k y)).run P w = .ok v' w := by
  cases op <;> simp only [arithA] at h
  case add => cases h; exact ⟨_, rfl, by simp [binOp, Op.intArith]⟩
  case sub => cases h; exact ⟨_, rfl, by simp [binOp, Op.intArith]⟩
  case mul => cases h; exact ⟨_, rfl, by simp [binOp, Op.intArith]⟩
  case quo => split at h; · cases h
              · rename_i hy; cases h; exact ⟨_, rfl, by simp [binOp, Op.intDiv, hy]⟩
  case rem => split at h; · cases h
              · rename_i hy; cases h; exact ⟨_, rfl, by simp [binOp, Op.intDiv, hy]⟩
  case and => cases h; exact ⟨_, rfl, by simp [binOp, Op.intBits]⟩
  case or => cases h; exact ⟨_, rfl, by simp [binOp, Op.intBits]⟩
  case xor => cases h; exact ⟨_, rfl, by simp [binOp, Op.intBits]⟩
  case andNot => cases h; exact ⟨_, rfl, by simp [binOp, Op.intBits]⟩
  case eql => cases h; exact ⟨_, rfl, by simp [binOp, Op.intCmp]⟩
  case neq => cases h; exact ⟨_, rfl, by simp [binOp, Op.intCmp]⟩
  case lss => cases h; exact ⟨_, rfl, by simp [binOp, Op.intCmp]⟩
  case leq => cases h; exact ⟨_, rfl, by simp [binOp, Op.intCmp]⟩
  case gtr => cases h; exact ⟨_, rfl, by simp [binOp, Op.intCmp]⟩
  case geq => cases h; exact ⟨_, rfl, by simp [binOp, Op.intCmp]⟩
  case shl => cases h
  case shr => cases h

theorem inv_flt {n : Nat} {v : Value} (h : (AV.flt n).toV m = some v) : v = .float .f64 n := by simp [AV.toV] at h; exact h.symm

theorem flt_sound {op : BinOp} {x y : Nat} {v : AV} (h : fltA op x y = some v) (t : TypeId) : ∃ v', v.toV m = some v' ∧ (binOp op t (.float .f64 x) (.float .f64 y)).run P w = .ok v' w := by
  cases op <;> simp only [fltA, Option.map_eq_some_iff] at h
  case add => obtain ⟨r, hr, rfl⟩ := h; exact ⟨_, rfl, by simp [binOp, Op.floatArith, hr]⟩
  case sub => obtain ⟨r, hr, rfl⟩ := h; exact ⟨_, rfl, by simp [binOp, Op.floatArith, hr]⟩
  case mul => obtain ⟨r, hr, rfl⟩ := h; exact ⟨_, rfl, by simp [binOp, Op.floatArith, hr]⟩
  case quo => obtain ⟨r, hr, rfl⟩ := h; exact ⟨_, rfl, by simp [binOp, Op.floatArith, hr]⟩
  case eql => cases h; exact ⟨_, rfl, by simp [binOp, Op.floatCmp]⟩
  case neq => cases h; exact ⟨_, rfl, by simp [binOp, Op.floatCmp]⟩
  case lss => cases h; exact ⟨_, rfl, by simp [binOp, Op.floatCmp]⟩
  case leq => cases h; exact ⟨_, rfl, by simp [binOp, Op.floatCmp]⟩
  case gtr => cases h; exact ⟨_, rfl, by simp [binOp, Op.floatCmp]⟩
  case geq => cases h; exact ⟨_, rfl, by simp [binOp, Op.floatCmp]⟩
  all_goals cases h

theorem run_eqGuard_flt (op : BinOp) (t : TypeId) (x y : Operand) (k k' : FloatKind) (a b : Nat) : (eqGuard op t x y (.float k a) (.float k' b)).run P w = .ok () w := by
  cases op <;> simp [eqGuard]

theorem bin_sound {op : BinOp} {x y v : AV} {vx vy : Value} (h : binA op x y = some v) (hx : x.toV m = some vx) (hy : y.toV m = some vy) (t : TypeId) (X Y : Operand) :
    ∃ v', v.toV m = some v' ∧ (do eqGuard op t X Y vx vy; binOp op t vx vy : Sem Value).run P w = .ok v' w := by
  unfold binA at h
  split at h
  · rename_i k a k' b
    cases inv_int hx; cases inv_int hy
    split at h
    · cases h
    · rename_i hb; cases h
      exact ⟨_, rfl, by simp [run_eqGuard_int, binOp, Op.shift, hb]⟩
  · rename_i k a k' b
    cases inv_int hx; cases inv_int hy
    split at h
    · cases h
    · rename_i hb; cases h
      exact ⟨_, rfl, by simp [run_eqGuard_int, binOp, Op.shift, hb]⟩
  · rename_i k a k' b _ _
    cases inv_int hx; cases inv_int hy
    split at h
    · rename_i hk
      subst hk
      obtain ⟨v', h1, h2⟩ := arith_sound (P := P) (m := m) (w := w) h t
      exact ⟨v', h1, by simp [run_eqGuard_int, h2]⟩
    · cases h
  · rename_i a b
    cases inv_flt hx; cases inv_flt hy
    obtain ⟨v', h1, h2⟩ := flt_sound (P := P) (m := m) (w := w) h t
    exact ⟨v', h1, by simp [run_eqGuard_flt, h2]⟩
  · cases h

theorem flat_sound (d : Nat) : ∀ {fs : List Field} {offs : List (Nat × Nat)} {a b : List AV} {xs ys : Array Value} {r : Bool}, flatOffs P fs = some offs →
    toVs m a = some xs.toList → toVs m b = some ys.toList → eqOffs a b offs = some r → (Op.eqFields (d + 1) xs ys fs).run P w = .ok r w := by
  intro fs
  induction fs with
  | nil => intro offs a b xs ys r h _ _ he; simp [flatOffs] at h; subst h; simp [eqOffs] at he; subst he; simp [Op.eqFields]
  | cons f fs ih =>
    intro offs a b xs ys r h ha hb he
    simp only [flatOffs] at h
    split at h
    · cases h
    · rename_i hname
      have step : ∀ (os : List (Nat × Nat)) (kind : Nat), flatOffs P fs = some os → (∀ x y r' vx vy, eqFlat kind x y = some r' → x.toV m = some vx → y.toV m = some vy → (Op.equalIn (d + 1) f.type vx vy).run P w = .ok r' w) →
          (isAgg f.type).run P w = .ok false w → eqOffs a b ((f.offset, kind) :: os) = some r → (Op.eqFields (d + 1) xs ys (f :: fs)).run P w = .ok r w := by
        intro os kind hos heq hagg he
        simp only [eqOffs] at he
        split at he
        · rename_i x y hx hy
          obtain ⟨vx, hvx, ex⟩ := toVs_get ha _ _ hx
          obtain ⟨vy, hvy, ey⟩ := toVs_get hb _ _ hy
          have ex' : xs[f.offset]? = some vx := by simpa using ex
          have ey' : ys[f.offset]? = some vy := by simpa using ey
          split at he
          · rename_i hflat
            have := heq x y _ vx vy hflat hvx hvy
            simp [Op.eqFields, hname, part, hagg, ex', ey', this, ih hos ha hb he]
          · rename_i hflat
            cases he
            have := heq x y _ vx vy hflat hvx hvy
            simp [Op.eqFields, hname, part, hagg, ex', ey', this]
          · cases he
        · cases he
      split at h
      · rename_i k os hu hos
        cases h
        refine step os 0 hos ?_ (by simp [isAgg, underlying, hu]) he
        intro x y r' vx vy hf hx hy
        unfold eqFlat at hf
        split at hf
        · cases inv_int hx; cases inv_int hy
          split at hf
          · rename_i hk; subst hk; cases hf; exact run_equalIn_int w d f.type _ _ _ _ hu
          · cases hf
        · rename_i h0; cases h0
        · rename_i h0; cases h0
        · cases hf
      · rename_i os hu hos
        cases h
        refine step os 1 hos ?_ (by simp [isAgg, underlying, hu]) he
        intro x y r' vx vy hf hx hy
        unfold eqFlat at hf
        split at hf
        · rename_i h0; cases h0
        · cases inv_bool hx; cases inv_bool hy; cases hf; exact run_equalIn_bool' w d f.type _ _ hu
        · rename_i h0; cases h0
        · cases hf
      · rename_i os hu hos
        cases h
        refine step os 2 hos ?_ (by simp [isAgg, underlying, hu]) he
        intro x y r' vx vy hf hx hy
        unfold eqFlat at hf
        split at hf
        · rename_i h0; cases h0
        · rename_i h0; cases h0
        · cases inv_str hx; cases inv_str hy; cases hf
          rw [run_equalIn_string w d f.type _ _ hu, beq_toListBytes]
        · cases hf
      · cases h

/- Each kind of equality, at any depth. -/
section
variable (w) (d : Nat) {t : TypeId}
theorem eqIn_bool (hu : P.underlying t = some .bool) (a b : Bool) : (Op.equalIn (d + 1) t (.bool a) (.bool b)).run P w = .ok (a == b) w := by simp [Op.equalIn, run_underlying hu]
theorem eqIn_ptr1 {e : TypeId} (hu : P.underlying t = some (.pointer e)) (b : Option Addr) : (Op.equalIn (d + 1) t (.pointer none) (.pointer b)).run P w = .ok b.isNone w := by simp [Op.equalIn, run_underlying hu]
theorem eqIn_ptr2 {e : TypeId} (hu : P.underlying t = some (.pointer e)) (a : Addr) : (Op.equalIn (d + 1) t (.pointer (some a)) (.pointer none)).run P w = .ok false w := by simp [Op.equalIn, run_underlying hu]
theorem eqIn_slc1 {e : TypeId} (hu : P.underlying t = some (.slice e)) (b : Option Addr) (l c l' c' : Nat) : (Op.equalIn (d + 1) t (.slice none l c) (.slice b l' c')).run P w = .ok b.isNone w := by simp [Op.equalIn, run_underlying hu]
theorem eqIn_slc2 {e : TypeId} (hu : P.underlying t = some (.slice e)) (a : Addr) (l c l' c' : Nat) : (Op.equalIn (d + 1) t (.slice (some a) l c) (.slice none l' c')).run P w = .ok false w := by simp [Op.equalIn, run_underlying hu]
theorem eqIn_map1 {k e : TypeId} (hu : P.underlying t = some (.map k e)) (b : Option Nat) : (Op.equalIn (d + 1) t (.map none) (.map b)).run P w = .ok b.isNone w := by simp [Op.equalIn, run_underlying hu]
theorem eqIn_map2 {k e : TypeId} (hu : P.underlying t = some (.map k e)) (a : Nat) : (Op.equalIn (d + 1) t (.map (some a)) (.map none)).run P w = .ok false w := by simp [Op.equalIn, run_underlying hu]
theorem eqIn_fn0 {ps rs : Array TypeId} {v : Bool} (hu : P.underlying t = some (.func ps rs v)) : (Op.equalIn (d + 1) t .nilFunc .nilFunc).run P w = .ok true w := by simp [Op.equalIn, run_underlying hu]
theorem eqIn_fn1 {ps rs : Array TypeId} {v : Bool} (hu : P.underlying t = some (.func ps rs v)) (f : Fn) (x y : Array Value) : (Op.equalIn (d + 1) t .nilFunc (.func f x y)).run P w = .ok false w := by simp [Op.equalIn, run_underlying hu]
theorem eqIn_fn2 {ps rs : Array TypeId} {v : Bool} (hu : P.underlying t = some (.func ps rs v)) (f : Fn) (x y : Array Value) : (Op.equalIn (d + 1) t (.func f x y) .nilFunc).run P w = .ok false w := by simp [Op.equalIn, run_underlying hu]
theorem eqIn_if0 {ms : Array (String × TypeId)} (hu : P.underlying t = some (.interface ms)) : (Op.equalIn (d + 1) t .nilIface .nilIface).run P w = .ok true w := by simp [Op.equalIn, run_underlying hu]
theorem eqIn_if1 {ms : Array (String × TypeId)} (hu : P.underlying t = some (.interface ms)) (u : TypeId) (x : Value) : (Op.equalIn (d + 1) t .nilIface (.iface u x)).run P w = .ok false w := by simp [Op.equalIn, run_underlying hu]
theorem eqIn_if2 {ms : Array (String × TypeId)} (hu : P.underlying t = some (.interface ms)) (u : TypeId) (x : Value) : (Op.equalIn (d + 1) t (.iface u x) .nilIface).run P w = .ok false w := by simp [Op.equalIn, run_underlying hu]
end

/-- The operator is Op.equal there. -/
def eqShape : Value → Value → Bool
  | .bool _, .bool _ | .pointer _, .pointer _ | .slice .., .slice .. | .map _, .map _ | .nilFunc, .nilFunc | .nilFunc, .func .. | .func .., .nilFunc
  | .nilIface, .nilIface | .nilIface, .iface .. | .iface .., .nilIface | .agg _, .agg _ => true
  | _, _ => false

theorem eq_finish {op : BinOp} {neg : Bool} (hop : (op = .eql ∧ neg = false) ∨ (op = .neq ∧ neg = true)) {t : TypeId} {X Y : Operand} {vx vy : Value} {r : Bool}
    (hs : eqShape vx vy = true) (hg : (eqGuard op t X Y vx vy).run P w = .ok () w) (he : (Op.equalIn (9999 + 1) t vx vy).run P w = .ok r w) :
    (do eqGuard op t X Y vx vy; binOp op t vx vy : Sem Value).run P w = .ok (.bool (if neg then !r else r)) w := by
  have he' : (Op.equal t vx vy).run P w = .ok r w := he
  have hb : binOp .eql t vx vy = (do pure (.bool (← Op.equal t vx vy)) : Sem Value) := by
    unfold eqShape at hs
    split at hs <;> first | rfl | simp at hs
  have hb' : binOp .neq t vx vy = (do pure (.bool (!(← Op.equal t vx vy))) : Sem Value) := by
    unfold eqShape at hs
    split at hs <;> first | rfl | simp at hs
  rcases hop with ⟨rfl, rfl⟩ | ⟨rfl, rfl⟩
  · simp only [Sem.run_bind, hg, Result.andThen_ok, hb, he', Sem.run_pure]; rfl
  · simp only [Sem.run_bind, hg, Result.andThen_ok, hb', he', Sem.run_pure]; rfl

theorem guard_free {op : BinOp} {t : TypeId} {X Y : Operand} {vx vy : Value} (hs : eqShape vx vy = true) (h1 : vx ≠ .nilIface ∨ vy ≠ .nilIface) (h2 : ∀ a, vx ≠ .agg a) :
    (eqGuard op t X Y vx vy).run P w = .ok () w := by
  unfold eqShape at hs
  split at hs <;> first | (simp at h1; done) | (simp at hs; done) | (exact absurd rfl (h2 _)) | (cases op <;> simp [eqGuard])

theorem eqv_sound {op : BinOp} {neg : Bool} (hop : (op = .eql ∧ neg = false) ∨ (op = .neq ∧ neg = true)) {t : TypeId} {X Y : Operand} {k : EqKind} (hk : eqKindOf P t X Y = some k)
    {x y : AV} {r : Bool} (h : eqA k x y = some r) {vx vy : Value} (hx : x.toV m = some vx) (hy : y.toV m = some vy) :
    (do eqGuard op t X Y vx vy; binOp op t vx vy : Sem Value).run P w = .ok (.bool (if neg then !r else r)) w := by
  unfold eqKindOf at hk
  split at hk
  · rename_i hu; cases hk
    unfold eqA at h; split at h <;> first | (rename_i h0; cases h0; done) | (rename_i h0 _; cases h0; done) | (rename_i h0 _ _; cases h0; done) | skip
    · cases inv_bool hx; cases inv_bool hy; cases h
      exact eq_finish hop rfl (guard_free rfl (by simp) (by simp)) (eqIn_bool w _ hu _ _)
    · cases h
  · rename_i hu; cases hk
    unfold eqA at h; split at h <;> first | (rename_i h0; cases h0; done) | (rename_i h0 _; cases h0; done) | (rename_i h0 _ _; cases h0; done) | skip
    · cases inv_str hx; cases inv_str hy; cases h
      rcases hop with ⟨rfl, rfl⟩ | ⟨rfl, rfl⟩ <;> simp [eqGuard, binOp, Op.stringOp, beq_toListBytes]
    · cases h
  · rename_i e hu; cases hk
    unfold eqA at h; split at h <;> first | (rename_i h0; cases h0; done) | (rename_i h0 _; cases h0; done) | (rename_i h0 _ _; cases h0; done) | skip
    · rename_i b _
      cases inv_nilptr hx; cases h
      cases b with
      | none => cases inv_nilptr hy; exact eq_finish hop rfl (guard_free rfl (by simp) (by simp)) (eqIn_ptr1 w _ hu _)
      | some q => obtain ⟨q', _, rfl⟩ := inv_ptr hy; exact eq_finish hop rfl (guard_free rfl (by simp) (by simp)) (eqIn_ptr1 w _ hu _)
    · obtain ⟨q', _, rfl⟩ := inv_ptr hx; cases inv_nilptr hy; cases h
      exact eq_finish hop rfl (guard_free rfl (by simp) (by simp)) (eqIn_ptr2 w _ hu _)
    · cases h
  · rename_i e hu; cases hk
    unfold eqA at h; split at h <;> first | (rename_i h0; cases h0; done) | (rename_i h0 _; cases h0; done) | (rename_i h0 _ _; cases h0; done) | skip
    · rename_i b _ _ _ _
      obtain ⟨_, rfl⟩ := inv_nilslc hx; cases h
      cases b with
      | none => obtain ⟨_, rfl⟩ := inv_nilslc hy; exact eq_finish hop rfl (guard_free rfl (by simp) (by simp)) (eqIn_slc1 w _ hu _ _ _ _ _)
      | some q => obtain ⟨q', _, rfl⟩ := inv_slc hy; exact eq_finish hop rfl (guard_free rfl (by simp) (by simp)) (eqIn_slc1 w _ hu _ _ _ _ _)
    · obtain ⟨q', _, rfl⟩ := inv_slc hx; obtain ⟨_, rfl⟩ := inv_nilslc hy; cases h
      exact eq_finish hop rfl (guard_free rfl (by simp) (by simp)) (eqIn_slc2 w _ hu _ _ _ _ _)
    · cases h
  · rename_i e e' hu; cases hk
    unfold eqA at h; split at h <;> first | (rename_i h0; cases h0; done) | (rename_i h0 _; cases h0; done) | (rename_i h0 _ _; cases h0; done) | skip
    · rename_i b _
      cases inv_nilmap hx; cases h
      cases b with
      | none => cases inv_nilmap hy; exact eq_finish hop rfl (guard_free rfl (by simp) (by simp)) (eqIn_map1 w _ hu _)
      | some q => obtain ⟨q', _, rfl⟩ := inv_map hy; exact eq_finish hop rfl (guard_free rfl (by simp) (by simp)) (eqIn_map1 w _ hu _)
    · obtain ⟨q', _, rfl⟩ := inv_map hx; cases inv_nilmap hy; cases h
      exact eq_finish hop rfl (guard_free rfl (by simp) (by simp)) (eqIn_map2 w _ hu _)
    · cases h
  · rename_i e e' e'' hu; cases hk
    unfold eqA at h; split at h <;> first | (rename_i h0; cases h0; done) | (rename_i h0 _; cases h0; done) | (rename_i h0 _ _; cases h0; done) | skip
    · cases inv_nilfn hx; cases inv_nilfn hy; cases h
      exact eq_finish hop rfl (guard_free rfl (by simp) (by simp)) (eqIn_fn0 w _ hu)
    · cases inv_nilfn hx; obtain ⟨_, _, _, _, rfl⟩ := inv_fn hy; cases h
      exact eq_finish hop rfl (guard_free rfl (by simp) (by simp)) (eqIn_fn1 w _ hu _ _ _)
    · cases inv_nilfn hy; obtain ⟨_, _, _, _, rfl⟩ := inv_fn hx; cases h
      exact eq_finish hop rfl (guard_free rfl (by simp) (by simp)) (eqIn_fn2 w _ hu _ _ _)
    · cases h
  · rename_i ms hu
    split at hk
    · rename_i hc; cases hk
      unfold eqA at h; split at h <;> first | (rename_i h0; cases h0; done) | (rename_i h0 _; cases h0; done) | (rename_i h0 _ _; cases h0; done) | skip
      · cases inv_niliface hx; cases inv_niliface hy; cases h
        have hg : (eqGuard op t X Y .nilIface .nilIface).run P w = .ok () w := by
          cases X <;> cases Y <;> simp [isConstO] at hc <;> (rcases hop with ⟨rfl, rfl⟩ | ⟨rfl, rfl⟩ <;> simp [eqGuard])
        exact eq_finish hop rfl hg (eqIn_if0 w _ hu)
      · cases inv_niliface hx; obtain ⟨_, _, rfl⟩ := inv_iface hy; cases h
        exact eq_finish hop rfl (guard_free rfl (by simp) (by simp)) (eqIn_if1 w _ hu _ _)
      · cases inv_niliface hy; obtain ⟨_, _, rfl⟩ := inv_iface hx; cases h
        exact eq_finish hop rfl (guard_free rfl (by simp) (by simp)) (eqIn_if2 w _ hu _ _)
      · cases h
    · cases hk
  · rename_i fs hu
    split at hk
    · cases hk
    · rename_i hguard
      simp only [Bool.or_eq_true, not_or, Bool.not_eq_true] at hguard
      simp only [Option.map_eq_some_iff] at hk
      obtain ⟨offs, hoffs, rfl⟩ := hk
      unfold eqA at h; split at h <;> first | (rename_i h0; cases h0; done) | (rename_i h0 _; cases h0; done) | (rename_i h0 _ _; cases h0; done) | skip
      · rename_i offs' a b h0
        cases h0
        obtain ⟨xs, hxs, rfl⟩ := inv_agg hx
        obtain ⟨ys, hys, rfl⟩ := inv_agg hy
        have hf : P.fieldsOf t = fs := by simp [Program.fieldsOf, hu]
        have hs : P.underlying t = some (.struct (P.fieldsOf t)) := by rw [hf]; exact hu
        refine eq_finish hop rfl (run_eqGuard_agg w _ _ _ _ _ _ hguard.1) ?_
        rw [run_equalIn_agg w 9999 t _ _ hs hguard.2, hf]
        exact flat_sound 9998 hoffs (by simpa using hxs) (by simpa using hys) h
      · cases h
  · cases hk

end
end Go.AM
