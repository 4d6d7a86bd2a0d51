/- Arguments of plain data: whole numbers, bools, strings, floats, structs and arrays of such; slices of such. What the given reading says of them, and how the small machine has them. -/
import Derived.Test.YtkajahlgiglliaaGreatDoorAm19
import Derived.OpenShut
import Derived.ProofKit
import Derived.Carry
import Derived.LaidMore
namespace Go.AM

/-- Kinds of cells. -/
inductive Kd where
  | int (k : IntKind)
  | bool
  | str
  | f64
  deriving DecidableEq

def Kd.ok : Kd → Value → Prop
  | .int k, v => ∃ n, v = .int k n ∧ (Lit.int k n).wf = true
  | .bool, v => ∃ b, v = .bool b
  | .str, v => ∃ s : ByteArray, v = .string s ∧ s.size ≤ maxLen
  | .f64, v => ∃ n, v = .float .f64 n

/-- A row of cells of such kinds. -/
def OkRow : List Kd → List Value → Prop
  | [], [] => True
  | k :: ks, v :: vs => k.ok v ∧ OkRow ks vs
  | _, _ => False

theorem OkRow.length : ∀ {ks : List Kd} {vs : List Value}, OkRow ks vs → vs.length = ks.length
  | [], [], _ => rfl
  | _ :: _, _ :: _, h => by simp [OkRow.length h.2]
  | [], _ :: _, h => h.elim
  | _ :: _, [], h => h.elim

theorem OkRow.append : ∀ {ks ls : List Kd} {vs us : List Value}, OkRow ks vs → OkRow ls us → OkRow (ks ++ ls) (vs ++ us)
  | [], _, [], _, _, h => h
  | _ :: _, _, _ :: _, _, h, h' => ⟨h.1, OkRow.append h.2 h'⟩
  | [], _, _ :: _, _, h, _ => h.elim
  | _ :: _, _, [], _, h, _ => h.elim

theorem OkRow.inv {k : Kd} {ks : List Kd} {cs : List Value} (h : OkRow (k :: ks) cs) : ∃ v vs, cs = v :: vs ∧ k.ok v ∧ OkRow ks vs := by
  cases cs with
  | nil => exact h.elim
  | cons v vs => exact ⟨v, vs, rfl, h.1, h.2⟩
theorem OkRow.nil_inv {cs : List Value} (h : OkRow [] cs) : cs = [] := by
  cases cs with
  | nil => rfl
  | cons v vs => exact h.elim
theorem OkRow.int {k : IntKind} {ks : List Kd} {cs : List Value} (h : OkRow (.int k :: ks) cs) : ∃ n vs, cs = .int k n :: vs ∧ (Lit.int k n).wf = true ∧ OkRow ks vs := by
  obtain ⟨v, vs, rfl, ⟨n, rfl, hw⟩, h'⟩ := h.inv
  exact ⟨n, vs, rfl, hw, h'⟩

section
variable (P : Program)

/-- The kinds of a struct's fields, one behind the other without a gap. -/
def kindsFs (r : TypeId → Option (List Kd)) (total : Nat) : List Field → Nat → Option (List Kd)
  | [], off => if off = total then some [] else none
  | f :: fs, off => match r f.type, kindsFs r total fs (off + P.cellsOf f.type) with
    | some k, some ks => if f.offset = off ∧ k.length = P.cellsOf f.type then some (k ++ ks) else none
    | _, _ => none

def kindsRep (k : List Kd) : Nat → List Kd
  | 0 => []
  | n + 1 => k ++ kindsRep k n

def kindsOf : Nat → TypeId → Option (List Kd)
  | 0, _ => none
  | n + 1, t => match P.underlying t with
    | some .bool => some [.bool]
    | some (.int k) => some [.int k]
    | some .string => some [.str]
    | some (.float .f64) => some [.f64]
    | some (.struct fs) => kindsFs P (kindsOf n) (P.cellsOf t) fs.toList 0
    | some (.array m e) => match kindsOf n e with
      | some k => if k.length = P.cellsOf e ∧ P.cellsOf t = m * P.cellsOf e then some (kindsRep k m) else none
      | none => none
    | _ => none
end

section
variable {P : Program} {H : Type} {enc : TypeId × Value → H} {w : World} {base : Nat} {sp : Nat → Bool} {held : Bool}

theorem mapM_all {α β : Type} {f : α → Option β} : ∀ {l : List α} {r : List β}, l.mapM f = some r → ∀ x ∈ l, ∃ y, f x = some y
  | [], _, _, x, hx => by cases hx
  | a :: l, r, h, x, hx => by
    rw [List.mapM_cons] at h
    cases ha : f a with
    | none => simp [ha] at h
    | some y =>
      cases hl : l.mapM f with
      | none => simp [ha, hl] at h
      | some ys =>
        rcases List.mem_cons.1 hx with rfl | hx
        · exact ⟨y, ha⟩
        · exact mapM_all hl x hx

theorem okRow_fs {r : TypeId → Option (List Kd)} {g : TypeId → List Value → Prop} (hr : ∀ t ks cs, r t = some ks → g t cs → OkRow ks cs) {cs : List Value} : ∀ {fs : List Field} {off : Nat} {ks : List Kd}, off ≤ cs.length →
    kindsFs P r cs.length fs off = some ks → (∀ f ∈ fs, g f.type ((cs.drop f.offset).take (P.cellsOf f.type))) → OkRow ks (cs.drop off)
  | [], off, ks, _, h, _ => by
    simp only [kindsFs] at h
    split at h
    · rename_i e
      cases h
      rw [List.drop_eq_nil_of_le (by omega)]
      trivial
    · cases h
  | f :: fs, off, ks, hoff, h, hg => by
    simp only [kindsFs] at h
    split at h
    · rename_i k ks' hk hks
      split at h
      · rename_i hc
        cases h
        obtain ⟨rfl, hlen⟩ := hc
        have h1 := hr _ _ _ hk (hg f (List.mem_cons_self ..))
        have hl1 := h1.length
        rw [hlen] at hl1
        rw [List.length_take, List.length_drop] at hl1
        have hle : f.offset + P.cellsOf f.type ≤ cs.length := by omega
        have h2 := okRow_fs hr hle hks (fun f' hf' => hg f' (List.mem_cons_of_mem _ hf'))
        have e : cs.drop f.offset = (cs.drop f.offset).take (P.cellsOf f.type) ++ cs.drop (f.offset + P.cellsOf f.type) := by
          rw [← List.drop_drop]; exact (List.take_append_drop _ _).symm
        rw [e]
        exact h1.append h2
      · cases h
    · cases h

theorem okRow_rep {k : List Kd} {sz : Nat} (hk : k.length = sz) {cs : List Value} : ∀ (m a : Nat), cs.length = (a + m) * sz → (∀ i, a ≤ i → i < a + m → OkRow k ((cs.drop (i * sz)).take sz)) → OkRow (kindsRep k m) (cs.drop (a * sz))
  | 0, a, hl, _ => by
    rw [List.drop_eq_nil_of_le (by simp [hl])]
    trivial
  | m + 1, a, hl, h => by
    have e : cs.drop (a * sz) = (cs.drop (a * sz)).take sz ++ cs.drop ((a + 1) * sz) := by
      rw [show (a + 1) * sz = a * sz + sz by rw [Nat.add_mul]; omega, ← List.drop_drop]; exact (List.take_append_drop _ _).symm
    rw [e]
    exact (h a (Nat.le_refl _) (by omega)).append (okRow_rep hk m (a + 1) (by rw [hl]; congr 1; omega) (fun i hi hi' => h i (by omega) (by omega)))

/-- What the reading says of plain data: its cells are of the kinds of its type. -/
theorem kinds_sound : ∀ (n : Nat) {t : TypeId} {ks : List Kd}, kindsOf P n t = some ks → ∀ {fuel : Nat} {cs : List Value} {x : DataW H × List MemPlace}, DataW.trod enc P w base sp held fuel t cs = some x → OkRow ks cs
  | 0, _, _, h, _, _, _, _ => by simp [kindsOf] at h
  | n + 1, t, ks, h, fuel, cs, x, hx => by
    simp only [kindsOf] at h
    split at h
    · rename_i hu; cases h
      obtain ⟨b, rfl, _⟩ := DataW.trod_bool hu hx
      exact ⟨⟨b, rfl⟩, trivial⟩
    · rename_i k hu; cases h
      obtain ⟨b, rfl, _, hw⟩ := DataW.trod_int hu hx
      exact ⟨⟨b, rfl, hw⟩, trivial⟩
    · rename_i hu; cases h
      obtain ⟨b, rfl, _, hs⟩ := DataW.trod_string hu hx
      exact ⟨⟨b, rfl, hs⟩, trivial⟩
    · rename_i hu; cases h
      cases fuel with
      | zero => cases hx
      | succ fuel =>
        rw [DataW.trod_step] at hx
        unfold DataW.trodStep at hx
        rw [hu] at hx
        split at hx <;> first | (rename_i h0 _ ; cases h0; done) | (rename_i h0 ; cases h0; done) | (rename_i h0 _ _; cases h0; done) | skip
        · rename_i k' b nn h0
          cases h0
          split at hx
          · rename_i hc; obtain ⟨rfl, _⟩ := hc; exact ⟨⟨_, rfl⟩, trivial⟩
          · cases hx
        all_goals cases hx
    · rename_i fs hu
      obtain ⟨n', xs, hlen, hxs⟩ : ∃ n' xs, cs.length = P.cellsOf t ∧ (fs.toList.mapM fun f => DataW.trod enc P w base sp held n' f.type ((cs.drop f.offset).take (P.cellsOf f.type))) = some xs := by
        cases fuel with
        | zero => cases hx
        | succ fuel =>
          rw [DataW.trod_step] at hx
          unfold DataW.trodStep at hx
          rw [hu] at hx
          simp only at hx
          split at hx
          · rename_i hl
            simp only [Option.map_eq_some_iff] at hx
            obtain ⟨xs, hxs, _⟩ := hx
            exact ⟨fuel, xs, hl, hxs⟩
          · cases hx
      rw [← hlen] at h
      have := okRow_fs (g := fun t cs => ∃ x, DataW.trod enc P w base sp held n' t cs = some x) (fun t ks cs hk hg => by obtain ⟨x, hg⟩ := hg; exact kinds_sound n hk hg) (Nat.zero_le _) h
        (fun f hf => mapM_all hxs f hf)
      simpa using this
    · rename_i m e hu
      split at h
      · rename_i k hk
        split at h
        · rename_i hc
          cases h
          obtain ⟨n', xs, hlen, hxs⟩ : ∃ n' xs, cs.length = P.cellsOf t ∧ ((List.range m).mapM fun i => DataW.trod enc P w base sp held n' e ((cs.drop (i * P.cellsOf e)).take (P.cellsOf e))) = some xs := by
            cases fuel with
            | zero => cases hx
            | succ fuel =>
              rw [DataW.trod_step] at hx
              unfold DataW.trodStep at hx
              rw [hu] at hx
              simp only at hx
              split at hx
              · rename_i hl
                simp only [Option.map_eq_some_iff] at hx
                obtain ⟨xs, hxs, _⟩ := hx
                exact ⟨fuel, xs, hl, hxs⟩
              · cases hx
          have := okRow_rep (k := k) (sz := P.cellsOf e) hc.1 (cs := cs) m 0 (by rw [hlen, hc.2]; simp) (fun i _ hi => by
            obtain ⟨x, hx⟩ := mapM_all hxs i (by simpa using hi)
            exact kinds_sound n hk hx)
          simpa using this
        · cases h
      · cases h
    · cases h

end

/-- A cell of plain data, as the small machine has it. -/
def flatA : Value → AV
  | .bool b => .bool b
  | .int k n => .int k n
  | .float _ b => .flt b
  | .string s => .str s
  | _ => .undef

theorem flatA_toV {k : Kd} {v : Value} (h : k.ok v) (m : Env) : (flatA v).toV m = some v := by
  cases k with
  | int k => obtain ⟨n, rfl, _⟩ := h; rfl
  | bool => obtain ⟨n, rfl⟩ := h; rfl
  | str => obtain ⟨n, rfl, _⟩ := h; rfl
  | f64 => obtain ⟨n, rfl⟩ := h; rfl

theorem flatA_toVs (m : Env) : ∀ {ks : List Kd} {vs : List Value}, OkRow ks vs → toVs m (vs.map flatA) = some vs
  | [], [], _ => rfl
  | k :: ks, v :: vs, h => by simp only [List.map_cons, toVs, flatA_toV h.1, flatA_toVs m h.2]
  | [], _ :: _, h => h.elim
  | _ :: _, [], h => h.elim

section
open Go.RowKit
variable {H : Type} {enc : TypeId × Value → H} {P : Program}

/-- What came in reads as it did, if nothing that was there has changed. -/
theorem trodAll_below (hl : laidOutB P = true) {W W' : World} (hb : Below W.heap.size W W') : ∀ {ts : List TypeId} {vs : List Value} {ds : List (DataW H)} {ps : List MemPlace},
    (ts.all fun t => P.readableRec t && decide (t < P.types.size)) = true → DataW.TrodAll enc P W 0 (fun _ => true) true ts vs ds ps → (∀ x ∈ ps, x.block < W.heap.size) → DataW.TrodAll enc P W' 0 (fun b => decide (b < W.heap.size)) true ts vs ds ps
  | [], [], [], _, _, h, _ => h
  | t :: ts, v :: vs, d :: ds, ps, ht, h, hlt => by
    obtain ⟨p, q, h1, h2, rfl⟩ := h
    simp only [List.all_cons, Bool.and_eq_true, decide_eq_true_eq] at ht
    exact ⟨p, q, Below.trod hl ht.1.1 ht.1.2 h1 hb (fun x hx => hlt x (List.mem_append_left _ hx)), trodAll_below hl hb ht.2 h2 (fun x hx => hlt x (List.mem_append_right _ hx)), rfl⟩
  | [], [], _ :: _, _, _, h, _ => h.elim
  | [], _ :: _, _, _, _, h, _ => h.elim
  | _ :: _, [], _, _, _, h, _ => h.elim
  | _ :: _, _ :: _, [], _, _, h, _ => h.elim

/-- A struct of plain data. -/
theorem struct_kinds {t : TypeId} {fs : Array Field} (ht : P.underlying t = some (.struct fs)) {n : Nat} {ks : List Kd} (hk : kindsOf P n t = some ks) {W : World} {r : Reach} {b : Nat} {v : Value} (hv : Value.okWide P W r b t v) {sp : Nat → Bool} {d : DataW H} {p : List MemPlace}
    (h : DataW.Trod enc P W 0 sp true t v d p) : ∃ cs : List Value, v = .agg cs.toArray ∧ OkRow ks cs := by
  obtain ⟨cs, rfl, _⟩ := WideShapes.okWide_struct ht hv
  obtain ⟨fuel, hf⟩ := h
  exact ⟨cs.toList, rfl, kinds_sound n hk hf⟩

theorem flat_struct {m : Env} {ks : List Kd} {cs : List Value} (h : OkRow ks cs) : (AV.agg (cs.map flatA)).toV m = some (.agg cs.toArray) := by
  simp [AV.toV, flatA_toVs m h]

/-- One cell of plain data. -/
theorem cell_kinds {t : TypeId} {k : Kd} (hk : kindsOf P 1 t = some [k]) {W : World} {r : Reach} {b : Nat} {v : Value} (hv : Value.okWide P W r b t v) {sp : Nat → Bool} {d : DataW H} {p : List MemPlace}
    (h : DataW.Trod enc P W 0 sp true t v d p) : k.ok v := by
  have key : ∀ {td : TypeDesc}, P.underlying t = some td → (∀ fs, td ≠ .struct fs) → (∀ n e, td ≠ .array n e) → v.cells = #[v] := by
    intro td hu h1 h2
    have hv' : Cell.okWide P W r b t v := by
      unfold Value.okWide at hv
      rw [hu] at hv
      cases td <;> first | exact hv | exact absurd rfl (h1 _) | exact absurd rfl (h2 _ _)
    cases v <;> first | rfl | (exfalso; simp only [Cell.okWide, Cell.ok, hu] at hv' <;> cases td <;> simp_all)
  obtain ⟨fuel, hf⟩ := h
  have hr := kinds_sound 1 hk hf
  have hc : v.cells = #[v] := by
    simp only [kindsOf] at hk
    split at hk
    · rename_i hu; exact key hu (by simp) (by simp)
    · rename_i k hu; exact key hu (by simp) (by simp)
    · rename_i hu; exact key hu (by simp) (by simp)
    · rename_i hu; exact key hu (by simp) (by simp)
    · rename_i fs hu
      exfalso
      have : ∀ (fs : List Field) (off : Nat) (l : List Kd), kindsFs P (kindsOf P 0) (P.cellsOf t) fs off = some l → l = [] := by
        intro fs off l h
        cases fs with
        | nil => simp only [kindsFs] at h; split at h <;> cases h; rfl
        | cons f fs => simp [kindsFs, kindsOf] at h
      exact absurd (this _ _ _ hk) (by simp)
    · simp [kindsOf] at hk
    · cases hk
  rw [hc] at hr
  exact hr.1
end

theorem ints_inj {k' : IntKind} {k : IntKind} : ∀ (a b : List Int), (a.map fun n => AV.int k' n) = (b.map fun n => AV.int k n) → (a.map fun n => Value.int k' n) = b.map fun n => Value.int k n
  | [], [], _ => rfl
  | [], _ :: _, h => by simp at h
  | _ :: _, [], h => by simp at h
  | x :: a, y :: b, h => by
    simp only [List.map_cons, List.cons.injEq, AV.int.injEq] at h
    obtain ⟨⟨rfl, rfl⟩, h⟩ := h
    simp only [List.map_cons, ints_inj a b h]

end Go.AM
