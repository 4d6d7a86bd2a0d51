/- How the small machine's values and heap stand to the program's: the relation, and what it gives for operands. -/
import Derived.Test.YtkajahlgiglliaaGreatDoorAm2
import Derived.WalkKit
namespace Go.AM

abbrev Env := Nat → Option (Nat × Nat)

/-- What of a program the relation knows: how many variables there are, and the translation of its code. -/
structure PG where
  n : Nat
  tr : Code → Option ACode

@[reducible] def _root_.Go.Program.pg (P : Program) : PG := ⟨P.globals.size, trCode P⟩

/-- The world at the begin, the blocks for deferred calls that are open, and the records of loops that are there. -/
structure Base extends World where
  D : List Nat
  L : List Nat

def Base.addD (W : Base) (D : List Nat) : Base := { W with D := D ++ W.D }
def Base.addL (W : Base) (l : Nat) : Base := { W with L := l :: W.L }

mutual
def AV.toV (m : Env) : AV → Option Value
  | .bool b => some (.bool b)
  | .int k n => some (.int k n)
  | .flt n => some (.float .f64 n)
  | .str s => some (.string s)
  | .ptr none => some (.pointer none)
  | .ptr (some p) => (m p.1).map fun q => .pointer (some ⟨q.1, p.2, none⟩)
  | .slc none l c more => if more then none else some (.slice none l c)
  | .slc (some p) l c more => (m p.1).map fun q => .slice (some ⟨q.1, p.2, none⟩) l (if more then c + q.2 else c)
  | .map none => some (.map none)
  | .map (some r) => (m r).map fun q => .map (some q.1)
  | .fn f a b => match toVs m a, toVs m b with
    | some a, some b => some (.func (.func f) a.toArray b.toArray)
    | _, _ => none
  | .nilFn => some .nilFunc
  | .iface t v => (v.toV m).map (.iface t)
  | .nilIface => some .nilIface
  | .agg l => (toVs m l).map fun l => .agg l.toArray
  | .tup l => (toVs m l).map fun l => .tuple l.toArray
  | .yld i => (m i).map fun q => .func (.yield q.1) #[] #[]
def toVs (m : Env) : List AV → Option (List Value)
  | [] => some []
  | x :: l => match x.toV m, toVs m l with
    | some v, some vs => some (v :: vs)
    | _, _ => none
end

/-- One map says all that another one says. -/
def Env.le (m m' : Env) : Prop := ∀ i p, m i = some p → m' i = some p

theorem Env.le_refl (m : Env) : m.le m := fun _ _ h => h
theorem Env.le_trans {a b c : Env} (h : a.le b) (k : b.le c) : a.le c := fun i p e => k i p (h i p e)

mutual
theorem AV.toV_mono {m m' : Env} (h : m.le m') : ∀ (x : AV) {v : Value}, x.toV m = some v → x.toV m' = some v
  | .bool b, _, e => e
  | .int k n, _, e => e
  | .flt n, _, e => e
  | .str s, _, e => e
  | .ptr none, _, e => e
  | .ptr (some p), v, e => by
    simp only [AV.toV, Option.map_eq_some_iff] at e ⊢
    obtain ⟨q, hq, rfl⟩ := e
    exact ⟨q, h _ _ hq, rfl⟩
  | .slc none l c more, _, e => e
  | .slc (some p) l c more, v, e => by
    simp only [AV.toV, Option.map_eq_some_iff] at e ⊢
    obtain ⟨q, hq, rfl⟩ := e
    exact ⟨q, h _ _ hq, rfl⟩
  | .map none, _, e => e
  | .map (some r), v, e => by
    simp only [AV.toV, Option.map_eq_some_iff] at e ⊢
    obtain ⟨q, hq, rfl⟩ := e
    exact ⟨q, h _ _ hq, rfl⟩
  | .fn f a b, v, e => by
    simp only [AV.toV] at e ⊢
    cases ha : toVs m a with
    | none => simp [ha] at e
    | some a' =>
      cases hb : toVs m b with
      | none => simp [ha, hb] at e
      | some b' =>
        simp only [ha, hb] at e
        rw [toVs_mono h a ha, toVs_mono h b hb]
        exact e
  | .nilFn, _, e => e
  | .iface t x, v, e => by
    simp only [AV.toV, Option.map_eq_some_iff] at e ⊢
    obtain ⟨q, hq, rfl⟩ := e
    exact ⟨q, AV.toV_mono h x hq, rfl⟩
  | .nilIface, _, e => e
  | .agg l, v, e => by
    simp only [AV.toV, Option.map_eq_some_iff] at e ⊢
    obtain ⟨q, hq, rfl⟩ := e
    exact ⟨q, toVs_mono h l hq, rfl⟩
  | .tup l, v, e => by
    simp only [AV.toV, Option.map_eq_some_iff] at e ⊢
    obtain ⟨q, hq, rfl⟩ := e
    exact ⟨q, toVs_mono h l hq, rfl⟩
  | .yld i, v, e => by
    simp only [AV.toV, Option.map_eq_some_iff] at e ⊢
    obtain ⟨q, hq, rfl⟩ := e
    exact ⟨q, h _ _ hq, rfl⟩
theorem toVs_mono {m m' : Env} (h : m.le m') : ∀ (l : List AV) {vs : List Value}, toVs m l = some vs → toVs m' l = some vs
  | [], _, e => e
  | x :: l, vs, e => by
    simp only [toVs] at e ⊢
    cases hx : x.toV m with
    | none => simp [hx] at e
    | some v =>
      cases hl : toVs m l with
      | none => simp [hx, hl] at e
      | some w =>
        simp only [hx, hl] at e
        rw [AV.toV_mono h x hx, toVs_mono h l hl]
        exact e
end

theorem toVs_cons {m : Env} {x : AV} {l : List AV} {vs : List Value} (h : toVs m (x :: l) = some vs) : ∃ v w, x.toV m = some v ∧ toVs m l = some w ∧ vs = v :: w := by
  simp only [toVs] at h
  cases hx : x.toV m with
  | none => simp [hx] at h
  | some v =>
    cases hl : toVs m l with
    | none => simp [hx, hl] at h
    | some w => simp [hx, hl] at h; exact ⟨v, w, rfl, rfl, h.symm⟩

/-- Cell by cell. -/
def Cellwise (m : Env) (c : List AV) (vs : List Value) : Prop := ∀ (k : Nat) (x : AV), c[k]? = some x → ∃ v, x.toV m = some v ∧ vs[k]? = some v

theorem toVs_length {m : Env} : ∀ {l : List AV} {vs : List Value}, toVs m l = some vs → vs.length = l.length
  | [], vs, h => by simp [toVs] at h; subst h; rfl
  | x :: l, vs, h => by
    obtain ⟨v, w, _, hl, rfl⟩ := toVs_cons h
    simp [toVs_length hl]

theorem toVs_get {m : Env} : ∀ {l : List AV} {vs : List Value}, toVs m l = some vs → Cellwise m l vs
  | [], vs, h => by intro k x hx; simp at hx
  | y :: l, vs, h => by
    obtain ⟨v, w, hy, hl, rfl⟩ := toVs_cons h
    intro k x hx
    cases k with
    | zero => simp at hx; subst hx; exact ⟨v, hy, rfl⟩
    | succ k => simp at hx; obtain ⟨u, hu, hk⟩ := toVs_get hl k x hx; exact ⟨u, hu, by simpa using hk⟩

theorem toVs_of {m : Env} : ∀ {l : List AV} {vs : List Value}, vs.length = l.length → Cellwise m l vs → toVs m l = some vs
  | [], vs, hl, _ => by
    have : vs = [] := List.eq_nil_of_length_eq_zero (by simpa using hl)
    subst this; rfl
  | x :: l, vs, hl, h => by
    cases vs with
    | nil => simp at hl
    | cons v w =>
      obtain ⟨u, hu, e⟩ := h 0 x rfl
      simp at e; subst e
      have := toVs_of (l := l) (vs := w) (by simpa using hl) (fun k x hx => by
        obtain ⟨u, hu, e⟩ := h (k + 1) x (by simpa using hx)
        exact ⟨u, hu, by simpa using e⟩)
      simp [toVs, hu, this]

/-- Cell by cell; where it is not written, some may be unknown. -/
def Holey (m : Env) (wr : Bool) (c : List AV) (vs : List Value) : Prop := c.length ≤ vs.length ∧ ∀ (k : Nat) (x : AV), c[k]? = some x → (wr = false ∧ x.hole = true) ∨ ∃ v, x.toV m = some v ∧ vs[k]? = some v

theorem Cellwise.holey {m : Env} {c : List AV} {vs : List Value} (h : Cellwise m c vs) (wr : Bool) : Holey m wr c vs := by
  refine ⟨?_, fun k x hx => .inr (h k x hx)⟩
  rcases Nat.lt_or_ge vs.length c.length with hl | hg
  · obtain ⟨v, _, e⟩ := h vs.length c[vs.length] (List.getElem?_eq_getElem hl)
    simp at e
  · exact hg

theorem Holey.strong {m : Env} {c : List AV} {vs : List Value} (h : Holey m true c vs) : Cellwise m c vs := fun k x hx => (h.2 k x hx).elim (fun h => by cases h.1) id

theorem toVs_append {m : Env} : ∀ {a b : List AV} {va vb : List Value}, toVs m a = some va → toVs m b = some vb → toVs m (a ++ b) = some (va ++ vb)
  | [], b, va, vb, h, h' => by simp [toVs] at h; subst h; simpa using h'
  | x :: a, b, va, vb, h, h' => by
    obtain ⟨v, w, hx, hl, rfl⟩ := toVs_cons h
    simp [toVs, hx, toVs_append hl h']

theorem Cellwise.mono {m m' : Env} {c : List AV} {vs : List Value} (h : Cellwise m c vs) (hm : m.le m') : Cellwise m' c vs :=
  fun k x hx => let ⟨v, hv, e⟩ := h k x hx; ⟨v, AV.toV_mono hm x hv, e⟩

theorem Holey.mono {m m' : Env} {wr : Bool} {c : List AV} {vs : List Value} (h : Holey m wr c vs) (hm : m.le m') : Holey m' wr c vs :=
  ⟨h.1, fun k x hx => (h.2 k x hx).imp id fun ⟨v, hv, e⟩ => ⟨v, AV.toV_mono hm x hv, e⟩⟩

/-- A value's cells are those of what it stands for. -/
theorem toV_cells {m : Env} {x : AV} {v : Value} (h : x.toV m = some v) : toVs m x.cells = some v.cells.toList := by
  cases x with
  | agg l =>
    simp only [AV.toV, Option.map_eq_some_iff] at h
    obtain ⟨q, hq, rfl⟩ := h
    simpa [AV.cells, Value.cells] using hq
  | ptr a => 
    cases a <;> simp only [AV.toV, Option.map_eq_some_iff, Option.some.injEq] at h
    · subst h; simp [AV.cells, toVs, AV.toV, Value.cells]
    · obtain ⟨q, hq, rfl⟩ := h; simp [AV.cells, toVs, AV.toV, Value.cells, hq]
  | slc a =>
    cases a <;> simp only [AV.toV, Option.map_eq_some_iff, Option.some.injEq] at h
    · split at h <;> simp at h
      rename_i hm; subst h; simp [AV.cells, toVs, AV.toV, Value.cells, hm]
    · obtain ⟨q, hq, rfl⟩ := h; simp [AV.cells, toVs, AV.toV, Value.cells, hq]
  | map a =>
    cases a <;> simp only [AV.toV, Option.map_eq_some_iff, Option.some.injEq] at h
    · subst h; simp [AV.cells, toVs, AV.toV, Value.cells]
    · obtain ⟨q, hq, rfl⟩ := h; simp [AV.cells, toVs, AV.toV, Value.cells, hq]
  | fn f a b =>
    simp only [AV.toV] at h
    cases ha : toVs m a <;> cases hb : toVs m b <;> simp [ha, hb] at h
    subst h
    simp [AV.cells, toVs, AV.toV, Value.cells, ha, hb]
  | iface t x =>
    simp only [AV.toV, Option.map_eq_some_iff] at h
    obtain ⟨q, hq, rfl⟩ := h
    simp [AV.cells, toVs, AV.toV, Value.cells, hq]
  | tup l =>
    simp only [AV.toV, Option.map_eq_some_iff] at h
    obtain ⟨q, hq, rfl⟩ := h
    simp [AV.cells, toVs, AV.toV, Value.cells, hq]
  | yld i =>
    simp only [AV.toV, Option.map_eq_some_iff] at h
    obtain ⟨q, hq, rfl⟩ := h
    simp [AV.cells, toVs, AV.toV, Value.cells, hq]
  | _ => simp only [AV.toV, Option.some.injEq] at h; subst h; simp [AV.cells, toVs, AV.toV, Value.cells]

/-- A value of one cell stands for one. -/
theorem toV_one {m : Env} {x : AV} {v : Value} (h : x.toV m = some v) (ho : x.one = true) : v.oneCell' = true := by
  cases x with
  | agg l => simp [AV.one] at ho
  | tup l => simp [AV.one] at ho
  | ptr a =>
    cases a <;> simp only [AV.toV, Option.map_eq_some_iff, Option.some.injEq] at h
    · subst h; rfl
    · obtain ⟨q, hq, rfl⟩ := h; rfl
  | slc a =>
    cases a <;> simp only [AV.toV, Option.map_eq_some_iff, Option.some.injEq] at h
    · split at h <;> simp at h
      subst h; rfl
    · obtain ⟨q, hq, rfl⟩ := h; rfl
  | map a =>
    cases a <;> simp only [AV.toV, Option.map_eq_some_iff, Option.some.injEq] at h
    · subst h; rfl
    · obtain ⟨q, hq, rfl⟩ := h; rfl
  | fn f a b =>
    simp only [AV.toV] at h
    cases ha : toVs m a <;> cases hb : toVs m b <;> simp [ha, hb] at h
    subst h; rfl
  | iface t x =>
    simp only [AV.toV, Option.map_eq_some_iff] at h
    obtain ⟨q, hq, rfl⟩ := h; rfl
  | yld i =>
    simp only [AV.toV, Option.map_eq_some_iff] at h
    obtain ⟨q, hq, rfl⟩ := h; rfl
  | _ => simp only [AV.toV, Option.some.injEq] at h; subst h; rfl

/-- Entry by entry. -/
def Entries (m : Env) : List (AV × AV) → List MapEntry → Prop
  | [], [] => True
  | e :: l, e' :: l' => e.1.toV m = some e'.key ∧ e.2.toV m = some e'.val ∧ Entries m l l'
  | _, _ => False

theorem Entries.mono {m m' : Env} (hm : m.le m') : ∀ {l : List (AV × AV)} {l' : List MapEntry}, Entries m l l' → Entries m' l l'
  | [], [], _ => trivial
  | _ :: _, _ :: _, h => ⟨AV.toV_mono hm _ h.1, AV.toV_mono hm _ h.2.1, Entries.mono hm h.2.2⟩
  | [], _ :: _, h => h.elim
  | _ :: _, [], h => h.elim

/-- The jump that a round has left. -/
def AExit.jump : AExit → Option Code
  | .norm => none
  | .exit id => some (.exit id)
  | .ret => some .ret

/-- How a loop's record stands. -/
def LSt.rel : LSt → Loop → Prop
  | .ready, r => r.state = .ready ∧ r.pending = none
  | .busy, r => r.state = .busy
  | .done x, r => r.state = .done ∧ r.pending = x.jump
  | .over, _ => True

/-- A block of the heap, and what it stands for. -/
def ObjRel (NG : PG) (W0 : Base) (m : Env) (w : World) (i : Nat) : AObj → Prop
  | .cells c wr sp => ∃ b x cs ty fz, m i = some (b, x) ∧ w.heap[b]? = some (.cells cs ty fz) ∧ cs.size = c.length + x * sp ∧ Holey m wr c cs.toList ∧
      (if wr = true then fz = (0, 0) ∧ W0.heap.size ≤ b else b < W0.heap.size)
  | .dict es => ∃ b x ms clock, m i = some (b, x) ∧ w.heap[b]? = some (.map ms clock) ∧ W0.heap.size ≤ b ∧
      Entries m es ms.toList
  | .loop st t ps asg body => ∃ b x r, m i = some (b, x) ∧ w.heap[b]? = some (.loop r) ∧ W0.heap.size ≤ b ∧ st.rel r ∧ toVs m t = some r.tmps.toList ∧ r.params.toList = ps ∧ NG.tr r.assign = some asg ∧ NG.tr r.body = some body

/-- May a block be written? -/
def AObj.wr : AObj → Bool
  | .cells _ wr _ => wr
  | .dict _ => true
  | .loop .. => true

structure Rel (NG : PG) (W0 : Base) (m : Env) (H : AHeap) (w : World) : Prop where
  obj : ∀ i o, H.get i = some o → ObjRel NG W0 m w i o
  inj : ∀ i j o o' b x y, H.get i = some o → H.get j = some o' → o.wr = true → m i = some (b, x) → m j = some (b, y) → i = j
  fresh : ∀ i, H.next ≤ i → m i = none
  low : ∀ i b x, m i = some (b, x) → b < w.heap.size
  frame : ∀ b, b < W0.heap.size → w.heap[b]? = W0.heap[b]?
  size : W0.heap.size ≤ w.heap.size
  os : w.os = W0.os
  output : w.output = W0.output
  tape : w.tape = W0.tape
  glob : ∀ g, g < NG.n → m g = some (g, 0)
  dfr : ∀ b ∈ W0.D, W0.heap.size ≤ b ∧ w.heap[b]? = some (.deferred (some []))
  nd : W0.D.Nodup
  lps : ∀ b ∈ W0.L, ∃ r, w.heap[b]? = some (.loop r)

/-- The slots. -/
def TRel (m : Env) (t : List AV) (tmps : Array Value) : Prop := toVs m t = some tmps.toList

theorem undef_toV (m : Env) : AV.undef.toV m = some undef := rfl

theorem TRel.getD {m : Env} {t : List AV} {tmps : Array Value} (h : TRel m t tmps) (n : Nat) : (t.getD n .undef).toV m = some (tmps.getD n undef) := by
  cases hx : t[n]? with
  | none =>
    have hl := toVs_length h
    have h1 : t.length ≤ n := by simpa using hx
    have h2 : tmps.size ≤ n := by simp at hl; omega
    simp [List.getD, hx, Array.getD, Nat.not_lt.2 h2, undef_toV]
  | some x =>
    obtain ⟨v, hv, e⟩ := toVs_get h n x hx
    have hn : n < tmps.size := by
      have := List.getElem?_eq_some_iff.1 e
      simpa using this.1
    have e' : tmps[n] = v := by simpa [hn] using e
    simp [List.getD, hx, Array.getD, hn, hv, e']

theorem ofConst_toV (m : Env) : ∀ (n : Nat) (v : Value) {x : AV}, ofConst n v = some x → x.toV m = some v := by
  intro n
  induction n with
  | zero => intro v x h; simp [ofConst] at h
  | succ n ih =>
    have hl : ∀ (l : List Value) (xs : List AV), l.mapM (ofConst n) = some xs → toVs m xs = some l := by
      intro l
      induction l with
      | nil => intro xs h; simp at h; subst h; rfl
      | cons v l ihl =>
        intro xs h
        simp only [List.mapM_cons, Option.pure_def, Option.bind_eq_bind, Option.bind_eq_some_iff] at h
        obtain ⟨y, hy, ys, hys, h⟩ := h
        cases h
        simp [toVs, ih v hy, ihl ys hys]
    intro v x h
    cases v with
    | float k b => cases k <;> simp [ofConst] at h; subst h; rfl
    | pointer a => cases a <;> simp [ofConst] at h; subst h; rfl
    | slice a l c => cases a <;> simp [ofConst] at h; subst h; rfl
    | map a => cases a <;> simp [ofConst] at h; subst h; rfl
    | func f a b =>
      cases f <;> simp only [ofConst] at h <;> try (cases h; done)
      split at h
      · rename_i hab
        cases h
        have ha : a = #[] := Array.eq_empty_of_size_eq_zero hab.1
        have hb : b = #[] := Array.eq_empty_of_size_eq_zero hab.2
        subst ha; subst hb
        rfl
      · cases h
    | iface t v =>
      simp only [ofConst, Option.map_eq_some_iff] at h
      obtain ⟨y, hy, rfl⟩ := h
      simp [AV.toV, ih v hy]
    | agg cs =>
      simp only [ofConst, Option.map_eq_some_iff] at h
      obtain ⟨y, hy, rfl⟩ := h
      simp [AV.toV, hl _ _ hy]
    | tuple cs =>
      simp only [ofConst, Option.map_eq_some_iff] at h
      obtain ⟨y, hy, rfl⟩ := h
      simp [AV.toV, hl _ _ hy]
    | _ => simp [ofConst] at h <;> (subst h; rfl)

section
variable {P : Program} {m : Env} {t : List AV} {a : Act}

theorem opd_sound (hg : ∀ g, g < P.globals.size → m g = some (g, 0)) (ht : TRel m t a.tmps) {x : Operand} {y : AOpd} (h : trOpd P x = some y) :
    (y.ev t).toV m = some (a.eval x) := by
  cases x with
  | tmp n => simp [trOpd] at h; subst h; exact ht.getD n
  | const v =>
    simp only [trOpd, Option.map_eq_some_iff] at h
    obtain ⟨z, hz, rfl⟩ := h
    exact ofConst_toV m _ _ hz
  | global g =>
    simp only [trOpd] at h
    split at h
    · rename_i hlt
      cases h
      simp [AOpd.ev, AV.toV, hg g hlt, Act.eval]
    · cases h
  | func f => simp [trOpd] at h; subst h; rfl

theorem opds_sound (hg : ∀ g, g < P.globals.size → m g = some (g, 0)) (ht : TRel m t a.tmps) : ∀ {l : List Operand} {ys : List AOpd}, trOpds P l = some ys →
    toVs m (evs t ys) = some (l.map a.eval) := by
  intro l
  induction l with
  | nil => intro ys h; simp [trOpds] at h; subst h; rfl
  | cons x l ih =>
    intro ys h
    simp only [trOpds, List.mapM_cons, Option.pure_def, Option.bind_eq_bind, Option.bind_eq_some_iff] at h
    obtain ⟨y, hy, ys', hys, h⟩ := h
    cases h
    simp [evs, toVs, opd_sound hg ht hy, ih hys]

end
end Go.AM
