/- A run of fixed inputs, done over the constants alone, holds wherever the constants stand. -/
import Derived.Test.YtkajahlgiglliaaGreatDoorAm16
namespace Go.AM

section
variable {P : Program} {W0 : Base} {m : Env} {H : AHeap} {w : World}

/-- The world changed, but nothing that was there. -/
theorem Rel.again {NG : PG} (hr : Rel NG W0 m H w) {w' : World} (hf : ∀ b, b < w.heap.size → w'.heap[b]? = w.heap[b]?) (hs : w.heap.size ≤ w'.heap.size)
    (ho : w'.os = w.os) (hout : w'.output = w.output) (ht : w'.tape = w.tape) : Rel NG W0 m H w' where
  obj i o hi := by
    have h := hr.obj i o hi
    cases o with
    | cells c wr sp =>
      obtain ⟨b, x, cs, ty, fz, h1, h2, h3⟩ := h
      exact ⟨b, x, cs, ty, fz, h1, (hf b (hr.low i b x h1)).trans h2, h3⟩
    | dict es =>
      obtain ⟨b, x, ms, clock, h1, h2, h3⟩ := h
      exact ⟨b, x, ms, clock, h1, (hf b (hr.low i b x h1)).trans h2, h3⟩
    | loop st t ps asg body =>
      obtain ⟨b, x, r, h1, h2, h3⟩ := h
      exact ⟨b, x, r, h1, (hf b (hr.low i b x h1)).trans h2, h3⟩
  inj := hr.inj
  fresh := hr.fresh
  low i b x hi := Nat.lt_of_lt_of_le (hr.low i b x hi) hs
  frame b hb := (hf b (Nat.lt_of_lt_of_le hb hr.size)).trans (hr.frame b hb)
  size := Nat.le_trans hr.size hs
  os := ho.trans hr.os
  output := hout.trans hr.output
  tape := ht.trans hr.tape
  glob := hr.glob
  dfr b hb := by
    obtain ⟨h1, h2⟩ := hr.dfr b hb
    exact ⟨h1, (hf b (Array.getElem?_eq_some_iff.1 h2).1).trans h2⟩
  nd := hr.nd
  lps b hb := by
    obtain ⟨r, h2⟩ := hr.lps b hb
    exact ⟨r, (hf b (Array.getElem?_eq_some_iff.1 h2).1).trans h2⟩

/-- The variables alone. -/
def envG (n : Nat) : Env := fun i => if i < n then some (i, 0) else none

/-- The constants that a run leans on: rows of numbers. -/
def Consts (NG : Nat) (H : AHeap) : Prop := H.next = NG ∧ ∀ i o, H.get i = some o → i < NG ∧ ∃ k, ∃ l : List Int, o = .cells (l.map fun n => .int k n) false 0

theorem rel_consts {NG : PG} (hr : Rel NG W0 m H w) {H0 : AHeap} (hc : Consts NG.n H0) (hsub : ∀ i o, H0.get i = some o → H.get i = some o) : Rel NG ⟨w, [], []⟩ (envG NG.n) H0 w where
  obj i o hi := by
    obtain ⟨hlt, k, l, rfl⟩ := hc.2 i o hi
    obtain ⟨b, x, cs, ty, fz, h1, h2, h3, h4, h5⟩ := hr.obj i _ (hsub i _ hi)
    have hg := hr.glob i hlt
    rw [h1] at hg; cases hg
    refine ⟨i, 0, cs, ty, fz, by simp [envG, hlt], h2, h3, ?_, hr.low _ _ _ h1⟩
    refine ⟨h4.1, fun j y hy => ?_⟩
    have hm := List.mem_of_getElem? hy
    obtain ⟨n, _, rfl⟩ := List.mem_map.1 hm
    rcases h4.2 j _ hy with ⟨_, hh⟩ | ⟨v, hv, e⟩
    · cases hh
    · exact .inr ⟨v, hv, e⟩
  inj i j o o' b x y h1 _ hw _ _ := by
    obtain ⟨_, k, l, rfl⟩ := hc.2 i o h1
    cases hw
  fresh i hi := by rw [hc.1] at hi; simp [envG, Nat.not_lt.2 hi]
  low i b x hi := by
    unfold envG at hi
    split at hi
    · rename_i h; cases hi; exact hr.low _ _ _ (hr.glob _ h)
    · cases hi
  frame _ _ := rfl
  size := Nat.le_refl _
  os := rfl
  output := rfl
  tape := rfl
  glob g hg := by simp [envG, hg]
  dfr b hb := nomatch hb
  nd := .nil
  lps b hb := nomatch hb

open Classical in
/-- What a fixed call comes to where the constants stand. -/
noncomputable def fixedA (H0 : AHeap) (args0 : List AV) (r : AV) : List AV → AHeap → Option (AV × AHeap) := fun args H =>
  if args = args0 ∧ ∀ i o, H0.get i = some o → H.get i = some o then some (r, H) else none

theorem fixed_sound {A : FuncId → Option ADef} (hA : TableOk P A) (hmix : P.follows .mixedOrders = true) {n : Nat} {f : FuncId} {args0 : List AV} {b : Bool} {H0 H1 : AHeap}
    (h : callA A (exec A n) f args0 H0 = some (.bool b, H1)) (hc : Consts P.globals.size H0) (hpure : ∀ m m', toVs m args0 = toVs m' args0) : SimFn P f (fixedA H0 args0 (.bool b)) := by
  intro W0 m H w args args' r H' hs hr hargs
  unfold fixedA at hs
  split at hs
  · rename_i hcond
    obtain ⟨rfl, hsub⟩ := hcond
    cases hs
    have h0 := rel_consts hr hc hsub
    refine Calls.mono (sound hA hmix n h h0 (hpure m (envG P.globals.size) ▸ hargs)) fun e w' hp => ?_
    obtain ⟨m', v, hle, hr', hv, rfl⟩ := hp
    refine ⟨m, v, Env.le_refl m, hr.again hr'.frame hr'.size hr'.os hr'.output hr'.tape, hv, rfl⟩
  · cases hs

/-- The truth about one place of a table. -/
def OkAt (P : Program) (f : FuncId) (o : Option ADef) : Prop := ∀ d, o = some d → HasBody P f ∧ match d with
    | .code fn => trFn P f = some fn
    | .prim g => SimFn P f g

def bodyB (P : Program) (f : FuncId) : Bool := match P.funcs[f]? with
  | some fn => !(fn.name == "runtime.NumGoroutine") && fn.body.isSome
  | none => false

theorem bodyB_has {f : FuncId} (h : bodyB P f = true) : HasBody P f := by
  unfold bodyB at h
  split at h
  · rename_i fn hfn
    simp only [Bool.and_eq_true, Bool.not_eq_true'] at h
    refine ⟨fn, hfn, h.1, ?_⟩
    cases hb : fn.body <;> rw [hb] at h <;> simp at h ⊢
  · cases h

theorem OkAt.leaf {f : FuncId} {k : Nat} {fn : AFn} (h : trFn P k = some fn) (hb : bodyB P k = true) : OkAt P f (cond (Nat.beq f k) (some (.code fn)) none) := by
  intro d hd
  cases e : Nat.beq f k <;> rw [e] at hd <;> simp at hd
  obtain rfl := Nat.eq_of_beq_eq_true e
  subst hd
  exact ⟨bodyB_has hb, h⟩

theorem OkAt.over {f : FuncId} {k : Nat} {g : List AV → AHeap → Option (AV × AHeap)} {o : Option ADef} (h : SimFn P k g) (hb : bodyB P k = true) (ho : OkAt P f o) : OkAt P f (cond (Nat.beq f k) (some (.prim g)) o) := by
  intro d hd
  cases e : Nat.beq f k <;> rw [e] at hd <;> simp at hd
  · exact ho d hd
  · obtain rfl := Nat.eq_of_beq_eq_true e
    subst hd
    exact ⟨bodyB_has hb, h⟩

theorem OkAt.branch {f : FuncId} {b : Bool} {x y : Option ADef} (h1 : OkAt P f x) (h2 : OkAt P f y) : OkAt P f (cond b x y) := by
  cases b
  · exact h2
  · exact h1

end
end Go.AM
