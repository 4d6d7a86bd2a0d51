/- A call's begin: the constants, and rows that came in. -/
import Derived.Test.YtkajahlgiglliaaGreatDoorAm18
namespace Go.AM

section
variable {NG : PG} {W0 : Base} {m : Env} {H : AHeap} {w : World}

/-- A block that was there, read alone. -/
theorem Rel.lend (h : Rel NG W0 m H w) {b x : Nat} {c : List AV} {cs : Array Value} {ty : TypeId} {fz : Nat × Nat} {sp : Nat} (hb : W0.heap[b]? = some (.cells cs ty fz))
    (hsz : cs.size = c.length + x * sp) (hc : Holey (m.put H.next b x) false c cs.toList) (hng : NG.n ≤ H.next) :
    m.le (m.put H.next b x) ∧ Rel NG W0 (m.put H.next b x) (H.new (.cells c false sp)) w := by
  have hn : m H.next = none := h.fresh _ (Nat.le_refl _)
  have hlt : b < W0.heap.size := (Array.getElem?_eq_some_iff.1 hb).1
  have hle := Env.le_put (b := b) (x := x) hn
  have hbw : w.heap[b]? = some (.cells cs ty fz) := (h.frame b hlt).trans hb
  have old : ∀ i o, (H.new (.cells c false sp)).get i = some o → i ≠ H.next → H.get i = some o := fun i o hi hne => by rw [AHeap.get_new_other _ _ hne] at hi; exact hi
  have hlow : ∀ i o, H.get i = some o → i ≠ H.next := by
    intro i o hi e
    subst e
    have := h.obj _ _ hi
    cases o with
    | cells c wr sp => obtain ⟨b, x, cs, ty, fz, h1, _⟩ := this; rw [hn] at h1; cases h1
    | dict es => obtain ⟨b, x, ms, cl, h1, _⟩ := this; rw [hn] at h1; cases h1
    | loop st t ps asg body => obtain ⟨b, x, r, h1, _⟩ := this; rw [hn] at h1; cases h1
  refine ⟨hle, ?_, ?_, ?_, ?_, h.frame, h.size, h.os, h.output, h.tape, ?_, h.dfr, h.nd, h.lps⟩
  · intro i o hi
    by_cases e : i = H.next
    · subst e
      rw [AHeap.get_new] at hi
      cases hi
      exact ⟨b, x, cs, ty, fz, Env.put_same _ _ _ _, hbw, hsz, hc, by simpa using hlt⟩
    · exact (h.obj i o (old i o hi e)).keep hle (fun _ _ _ => rfl)
  · intro i j o o' b1 x1 y1 hi hj hw mi mj
    have writ : ∀ i o b1 x1, H.get i = some o → o.wr = true → m i = some (b1, x1) → W0.heap.size ≤ b1 := by
      intro i o b1 x1 hi hw mi
      obtain ⟨b2, x2, h1, h2, _⟩ := (h.obj i o hi).mapped
      rw [mi] at h1; cases h1
      exact h2 hw
    by_cases e : i = H.next
    · subst e
      rw [AHeap.get_new] at hi
      cases hi; cases hw
    · have hi' := old i o hi e
      rw [Env.put_other _ _ _ _ e] at mi
      by_cases e2 : j = H.next
      · subst e2
        rw [Env.put_same] at mj
        cases mj
        have := writ i o b x1 hi' hw mi
        omega
      · rw [Env.put_other _ _ _ _ e2] at mj
        exact h.inj i j o o' b1 x1 y1 hi' (old j o' hj e2) hw mi mj
  · intro i hi
    simp at hi
    rw [Env.put_other _ _ _ _ (by omega)]
    exact h.fresh i (by omega)
  · intro i b1 x1 hi
    by_cases e : i = H.next
    · subst e
      rw [Env.put_same] at hi
      cases hi
      exact Nat.lt_of_lt_of_le hlt h.size
    · rw [Env.put_other _ _ _ _ e] at hi
      exact h.low i b1 x1 hi
  · intro g hg
    rw [Env.put_other _ _ _ _ (by omega)]
    exact h.glob g hg

/-- The begin: the constants. -/
theorem rel_start {NG : PG} {W : World} {H0 : AHeap} (hc : Consts NG.n H0) (hg : NG.n ≤ W.heap.size)
    (hcells : ∀ i k (l : List Int), H0.get i = some (.cells (l.map fun n => .int k n) false 0) → ∃ cs ty fz, W.heap[i]? = some (.cells cs ty fz) ∧ cs.toList = l.map fun n => Value.int k n) : Rel NG ⟨W, [], []⟩ (envG NG.n) H0 W where
  obj i o hi := by
    obtain ⟨hlt, k, l, rfl⟩ := hc.2 i o hi
    obtain ⟨cs, ty, fz, h1, h2⟩ := hcells i k l hi
    have hl : cs.size = l.length := by rw [← Array.length_toList, h2, List.length_map]
    refine ⟨i, 0, cs, ty, fz, by simp [envG, hlt], h1, by simpa using hl, ⟨by simp [hl], fun j y hy => ?_⟩, by simp; omega⟩
    rw [List.getElem?_map, Option.map_eq_some_iff] at hy
    obtain ⟨n, hn, rfl⟩ := hy
    exact .inr ⟨.int k n, rfl, by rw [h2, List.getElem?_map, hn]; rfl⟩
  inj i j o o' b x y h1 _ hw _ _ := by
    obtain ⟨_, k, l, rfl⟩ := hc.2 i o h1
    cases hw
  fresh i hi := by rw [hc.1] at hi; simp [envG, Nat.not_lt.2 hi]
  low i b x hi := by
    unfold envG at hi
    split at hi
    · cases hi; omega
    · cases hi
  frame _ _ := rfl
  size := Nat.le_refl _
  os := rfl
  output := rfl
  tape := rfl
  glob g hg := by simp [envG, hg]
  dfr b hb := nomatch hb
  nd := .nil
  lps b hb := nomatch hb

/-- Cells of a row of numbers in a block of which no more is known. -/
def rowCells (k : IntKind) (o : Nat) (l : List Int) : List AV := match l with
  | [] => []
  | _ => List.replicate o (.tup []) ++ l.map fun v => .int k v

theorem rowCells_get {k : IntKind} {o : Nat} {l : List Int} {j : Nat} {v : Int} (h : l[j]? = some v) : (rowCells k o l)[o + j]? = some (.int k v) := by
  unfold rowCells
  split
  · simp at h
  · rw [List.getElem?_append_right (by simp)]
    simp [h]

theorem rowCells_holey {m : Env} {k : IntKind} {o b : Nat} {l : List Int} {cs : Array Value} {ty : TypeId} {fz : Nat × Nat} (hb : w.heap[b]? = some (.cells cs ty fz))
    (hl : ∀ j v, l[j]? = some v → w.cell? ⟨b, o + j, none⟩ = some (.int k v)) : Holey m false (rowCells k o l) cs.toList := by
  have hget : ∀ j v, l[j]? = some v → cs[o + j]? = some (.int k v) := fun j v h => by rw [← cell_of hb]; exact hl j v h
  unfold rowCells
  split
  · exact ⟨by simp, fun j x hx => by simp at hx⟩
  · rename_i hne
    refine ⟨?_, ?_⟩
    · have hpos : 0 < l.length := List.length_pos_iff.2 (by intro e; exact hne e)
      have := hget (l.length - 1) _ (List.getElem?_eq_getElem (by omega))
      have := (Array.getElem?_eq_some_iff.1 this).1
      simp; omega
    · intro j x hx
      rcases Nat.lt_or_ge j o with h | h
      · rw [List.getElem?_append_left (by simpa using h), List.getElem?_replicate, if_pos h] at hx
        cases hx
        exact .inl ⟨rfl, rfl⟩
      · rw [List.getElem?_append_right (by simpa using h)] at hx
        simp only [List.length_replicate, List.getElem?_map, Option.map_eq_some_iff] at hx
        obtain ⟨v, hv, rfl⟩ := hx
        have := hget _ _ hv
        rw [show o + (j - o) = j by omega] at this
        exact .inr ⟨_, rfl, by simpa using this⟩

/-- A row of numbers that came in. -/
theorem lend_ints {W : World} (h : Rel NG ⟨W, [], []⟩ m H W) (hng : NG.n ≤ H.next) {b o cap : Nat} {l : List Int} {cs : Array Value} {ty : TypeId} {fz : Nat × Nat} (hb : W.heap[b]? = some (.cells cs ty fz)) (hcap : l.length ≤ cap)
    (hl : ∀ j v, l[j]? = some v → W.cell? ⟨b, o + j, none⟩ = some (.int .i64 v)) :
    ∃ m' H' s, m.le m' ∧ Rel NG ⟨W, [], []⟩ m' H' W ∧ Keeps H H' ∧ s.toV m' = some (.slice (some ⟨b, o, none⟩) l.length cap) ∧ IntsAt H' s l := by
  have hh := rowCells_holey (m := m.put H.next b (cs.size - (rowCells .i64 o l).length)) hb hl
  have hsz : (rowCells .i64 o l).length ≤ cs.size := by simpa using hh.1
  obtain ⟨hle, hr⟩ := h.lend (x := cs.size - (rowCells .i64 o l).length) (sp := 1) hb (by omega) hh hng
  refine ⟨_, _, .slc (some (H.next, o)) l.length cap false, hle, hr, Keeps.new _ _, ?_, ?_⟩
  · simp [AV.toV, Env.put_same]
  · exact .inr ⟨H.next, o, cap, false, _, _, _, rfl, by simp, hcap, AHeap.get_new _ _, fun k v hv => rowCells_get hv⟩

end
end Go.AM
