/- The relation between the heaps is kept: by a new block, by cells that are written, by a map that changes, by a block that is given up. -/
import Derived.Test.YtkajahlgiglliaaGreatDoorAm3
namespace Go.AM

theorem getO_setO_same {i : Nat} {o : AObj} : ∀ {l : List (Nat × AObj)} {o' : AObj}, getO i l = some o' → getO i (setO i o l) = some o
  | [], _, h => by simp [getO] at h
  | p :: l, o', h => by
    simp only [getO, setO] at h ⊢
    cases hb : Nat.beq p.1 i with
    | true => simp [hb, getO, Nat.beq_refl]
    | false => simp only [hb] at h ⊢; simp only [getO, hb]; exact getO_setO_same h

theorem getO_setO_other {i j : Nat} {o : AObj} (hn : j ≠ i) : ∀ {l : List (Nat × AObj)}, getO j (setO i o l) = getO j l
  | [] => rfl
  | p :: l => by
    simp only [getO, setO]
    cases hb : Nat.beq p.1 i with
    | true =>
      have hp : p.1 = i := Nat.eq_of_beq_eq_true hb
      have h1 : Nat.beq i j = false := by
        cases h : Nat.beq i j with
        | false => rfl
        | true => exact absurd (Nat.eq_of_beq_eq_true h).symm hn
      simp [getO, hp, h1]
    | false => simp only [getO]; rw [getO_setO_other hn]

theorem getO_delO_same {i : Nat} : ∀ {l : List (Nat × AObj)}, getO i (delO i l) = none
  | [] => rfl
  | p :: l => by
    simp only [delO]
    cases hb : Nat.beq p.1 i with
    | true => simp only []; exact getO_delO_same
    | false => simp only [getO, hb]; exact getO_delO_same

theorem getO_delO_other {i j : Nat} (hn : j ≠ i) : ∀ {l : List (Nat × AObj)}, getO j (delO i l) = getO j l
  | [] => rfl
  | p :: l => by
    simp only [getO, delO]
    cases hb : Nat.beq p.1 i with
    | true =>
      have hp : p.1 = i := Nat.eq_of_beq_eq_true hb
      have h1 : Nat.beq i j = false := by
        cases h : Nat.beq i j with
        | false => rfl
        | true => exact absurd (Nat.eq_of_beq_eq_true h).symm hn
      simp only [hp, h1]
      exact getO_delO_other hn
    | false => simp only [getO]; rw [getO_delO_other hn]

theorem AHeap.get_new (H : AHeap) (o : AObj) : (H.new o).get H.next = some o := by simp [AHeap.get, AHeap.new, getO, Nat.beq_refl]
theorem AHeap.get_new_other (H : AHeap) (o : AObj) {j : Nat} (h : j ≠ H.next) : (H.new o).get j = H.get j := by
  have h1 : Nat.beq H.next j = false := by
    cases h' : Nat.beq H.next j with
    | false => rfl
    | true => exact absurd (Nat.eq_of_beq_eq_true h').symm h
  simp [AHeap.get, AHeap.new, getO, h1]
theorem AHeap.get_set (H : AHeap) {i : Nat} {o o' : AObj} (h : H.get i = some o') : (H.set i o).get i = some o := getO_setO_same h
theorem AHeap.get_set_other (H : AHeap) {i j : Nat} (o : AObj) (h : j ≠ i) : (H.set i o).get j = H.get j := getO_setO_other h
theorem AHeap.get_del (H : AHeap) (i : Nat) : (H.del i).get i = none := getO_delO_same
theorem AHeap.get_del_other (H : AHeap) {i j : Nat} (h : j ≠ i) : (H.del i).get j = H.get j := getO_delO_other h

/-- What a block stands for hangs on its own true block alone. -/
theorem ObjRel.keep {NG : PG} {W0 : Base} {m m' : Env} {w w' : World} {i : Nat} {o : AObj} (h : ObjRel NG W0 m w i o) (hm : m.le m')
    (hb : ∀ b x, m i = some (b, x) → w'.heap[b]? = w.heap[b]?) : ObjRel NG W0 m' w' i o := by
  cases o with
  | cells c wr sp =>
    obtain ⟨b, x, cs, ty, fz, h1, h2, h3, h4, h5⟩ := h
    exact ⟨b, x, cs, ty, fz, hm _ _ h1, by rw [hb b x h1, h2], h3, h4.mono hm, h5⟩
  | dict es =>
    obtain ⟨b, x, ms, k, h1, h2, h3, h4⟩ := h
    exact ⟨b, x, ms, k, hm _ _ h1, by rw [hb b x h1, h2], h3, h4.mono hm⟩
  | loop st t ps asg body =>
    obtain ⟨b, x, r, h1, h2, h3, h4, h5, h6⟩ := h
    exact ⟨b, x, r, hm _ _ h1, by rw [hb b x h1, h2], h3, h4, toVs_mono hm t h5, h6⟩

/-- A block of the heap is mapped. -/
theorem ObjRel.mapped {NG : PG} {W0 : Base} {m : Env} {w : World} {i : Nat} {o : AObj} (h : ObjRel NG W0 m w i o) : ∃ b x, m i = some (b, x) ∧ (o.wr = true → W0.heap.size ≤ b) ∧ (o.wr = false → b < W0.heap.size) := by
  cases o with
  | cells c wr sp =>
    obtain ⟨b, x, cs, ty, fz, h1, h2, h3, h4, h5⟩ := h
    refine ⟨b, x, h1, ?_, ?_⟩
    · intro hw; simp only [AObj.wr] at hw; rw [if_pos hw] at h5; exact h5.2
    · intro hw; simp only [AObj.wr] at hw; rw [if_neg (by simp [hw])] at h5; exact h5
  | dict es =>
    obtain ⟨b, x, ms, k, h1, h2, h3, h4⟩ := h
    exact ⟨b, x, h1, fun _ => h3, fun hw => by simp [AObj.wr] at hw⟩
  | loop st t ps asg body =>
    obtain ⟨b, x, r, h1, h2, h3, h4⟩ := h
    exact ⟨b, x, h1, fun _ => h3, fun hw => by simp [AObj.wr] at hw⟩

section
variable {NG : PG} {W0 : Base} {m : Env} {H : AHeap} {w : World}

theorem Rel.drew (h : Rel NG W0 m H w) : Rel NG W0 m H w.drew :=
  ⟨fun i o e => (h.obj i o e).keep (Env.le_refl m) (fun _ _ _ => rfl), h.inj, h.fresh, h.low, h.frame, h.size, h.os, h.output, h.tape, h.glob, h.dfr, h.nd, h.lps⟩

theorem Rel.lt (h : Rel NG W0 m H w) {i : Nat} {p : Nat × Nat} (e : m i = some p) : i < H.next := by
  rcases Nat.lt_or_ge i H.next with hl | hg
  · exact hl
  · rw [h.fresh i hg] at e; cases e

theorem Rel.next_free (h : Rel NG W0 m H w) : H.get H.next = none := by
  cases e : H.get H.next with
  | none => rfl
  | some o =>
    obtain ⟨b, x, hm, _⟩ := (h.obj _ _ e).mapped
    exact absurd (h.lt hm) (Nat.lt_irrefl _)

/-- The map with one place more. -/
def Env.put (m : Env) (i b x : Nat) : Env := fun j => if j = i then some (b, x) else m j

theorem Env.le_put {m : Env} {i b x : Nat} (h : m i = none) : m.le (m.put i b x) := by
  intro j p e
  unfold Env.put
  split
  · rename_i hj; subst hj; rw [h] at e; cases e
  · exact e
theorem Env.put_same (m : Env) (i b x : Nat) : m.put i b x i = some (b, x) := by simp [Env.put]
theorem Env.put_other (m : Env) (i b x : Nat) {j : Nat} (h : j ≠ i) : m.put i b x j = m j := by simp [Env.put, h]

/-- A new block. -/
theorem Rel.new (h : Rel NG W0 m H w) {o : AObj} {O : Obj} (x : Nat)
    (ho : ObjRel NG W0 (m.put H.next w.heap.size x) (w.alloc O) H.next o) : m.le (m.put H.next w.heap.size x) ∧ Rel NG W0 (m.put H.next w.heap.size x) (H.new o) (w.alloc O) := by
  have hn := h.fresh H.next (Nat.le_refl _)
  refine ⟨Env.le_put hn, ?_, ?_, ?_, ?_, ?_, ?_, h.os, h.output, h.tape, ?_, ?_, h.nd, ?_⟩
  · intro i o' e
    by_cases hi : i = H.next
    · subst hi; rw [AHeap.get_new] at e; cases e; exact ho
    · rw [AHeap.get_new_other _ _ hi] at e
      refine (h.obj i o' e).keep (Env.le_put hn) (fun b y hb => ?_)
      exact Go.RowKit.Below.heap_alloc w O b (h.low i b y hb)
  · intro i j oi oj b y z hi hj hwr hmi hmj
    by_cases h1 : i = H.next
    · by_cases h2 : j = H.next
      · rw [h1, h2]
      · subst h1
        rw [Env.put_same] at hmi; rw [Env.put_other _ _ _ _ h2] at hmj
        cases hmi
        exact absurd (h.low _ _ _ hmj) (Nat.lt_irrefl _)
    · rw [Env.put_other _ _ _ _ h1] at hmi
      rw [AHeap.get_new_other _ _ h1] at hi
      by_cases h2 : j = H.next
      · subst h2
        rw [Env.put_same] at hmj
        cases hmj
        exact absurd (h.low _ _ _ hmi) (Nat.lt_irrefl _)
      · rw [Env.put_other _ _ _ _ h2] at hmj
        rw [AHeap.get_new_other _ _ h2] at hj
        exact h.inj i j oi oj b y z hi hj hwr hmi hmj
  · intro i hi
    have hi' : H.next + 1 ≤ i := hi
    rw [Env.put_other _ _ _ _ (by omega)]
    exact h.fresh i (by omega)
  · intro i b y hb
    rw [World.size_alloc]
    by_cases h1 : i = H.next
    · subst h1; rw [Env.put_same] at hb; cases hb; omega
    · rw [Env.put_other _ _ _ _ h1] at hb; have := h.low i b y hb; omega
  · intro b hb
    rw [Go.RowKit.Below.heap_alloc w O b (by have := h.size; omega)]
    exact h.frame b hb
  · rw [World.size_alloc]; have := h.size; omega
  · intro g hg
    have := h.glob g hg
    rw [Env.put_other _ _ _ _ (by have := h.lt this; omega)]
    exact this
  · intro b hb
    obtain ⟨h1, h2⟩ := h.dfr b hb
    exact ⟨h1, (Go.RowKit.Below.heap_alloc w O b (Array.getElem?_eq_some_iff.1 h2).1).trans h2⟩
  · intro b hb
    obtain ⟨r, h2⟩ := h.lps b hb
    exact ⟨r, (Go.RowKit.Below.heap_alloc w O b (Array.getElem?_eq_some_iff.1 h2).1).trans h2⟩

/-- Cells that are written. -/
theorem Rel.setCells (h : Rel NG W0 m H w) {i b x sp : Nat} {c c' : List AV} (hg : H.get i = some (.cells c true sp)) (hm : m i = some (b, x)) {cs : Array Value}
    (hsz : cs.size = c'.length + x * sp) (hc : Cellwise m c' cs.toList) : Rel NG W0 m (H.set i (.cells c' true sp)) (w.setRow b cs) := by
  obtain ⟨b', x', cs0, ty, fz, h1, h2, h3, h4, h5⟩ := h.obj i _ hg
  rw [hm] at h1; cases h1
  rw [if_pos rfl] at h5
  obtain ⟨rfl, hW⟩ := h5
  refine ⟨?_, ?_, h.fresh, ?_, ?_, ?_, h.os, h.output, h.tape, h.glob, ?_, h.nd, ?_⟩
  · intro j o' e
    by_cases hj : j = i
    · subst hj
      rw [AHeap.get_set _ hg] at e; cases e
      exact ⟨b, x, cs, ty, (0, 0), hm, setRow_heap w b cs0 cs ty (0, 0) h2, hsz, hc.holey true, by rw [if_pos rfl]; exact ⟨rfl, hW⟩⟩
    · rw [AHeap.get_set_other _ _ hj] at e
      refine (h.obj j o' e).keep (Env.le_refl m) (fun b' y hb => ?_)
      exact setRow_other w b b' cs (fun hbb => hj (h.inj i j _ _ b x y hg e rfl hm (hbb ▸ hb)).symm)
  · intro j k oj ok b' y z hj hk hwr hmj hmk
    have key : ∀ (j' : Nat) (oj' : AObj), (H.set i (.cells c' true sp)).get j' = some oj' → ∃ o2, H.get j' = some o2 ∧ o2.wr = oj'.wr := by
      intro j' oj' e
      by_cases h1 : j' = i
      · subst h1; rw [AHeap.get_set _ hg] at e; cases e; exact ⟨_, hg, rfl⟩
      · rw [AHeap.get_set_other _ _ h1] at e; exact ⟨_, e, rfl⟩
    obtain ⟨o1, e1, w1⟩ := key j oj hj
    obtain ⟨o2, e2, _⟩ := key k ok hk
    exact h.inj j k o1 o2 b' y z e1 e2 (w1.trans hwr) hmj hmk
  · intro j b' y hb; rw [size_setRow]; exact h.low j b' y hb
  · intro b' hb
    rw [setRow_other w b b' cs (by omega)]
    exact h.frame b' hb
  · rw [size_setRow]; exact h.size
  · intro b' hb
    obtain ⟨g1, g2⟩ := h.dfr b' hb
    exact ⟨g1, (setRow_other w b b' cs (by rintro rfl; rw [h2] at g2; cases g2)).trans g2⟩
  · intro b' hb
    obtain ⟨r, g2⟩ := h.lps b' hb
    exact ⟨r, (setRow_other w b b' cs (by rintro rfl; rw [h2] at g2; cases g2)).trans g2⟩

/-- A map that changes. -/
theorem Rel.setDict (h : Rel NG W0 m H w) {r b x : Nat} {es es' : List (AV × AV)} (hg : H.get r = some (.dict es)) (hm : m r = some (b, x)) {ms : Array MapEntry} {k : Nat}
    (hc : Entries m es' ms.toList) : Rel NG W0 m (H.set r (.dict es')) { w with heap := w.heap.setIfInBounds b (.map ms k) } := by
  obtain ⟨b', x', ms0, k0, h1, h2, hW, h4⟩ := h.obj r _ hg
  rw [hm] at h1; cases h1
  have hlt : b < w.heap.size := h.low r b x hm
  have hoth : ∀ b', b' ≠ b → (w.heap.setIfInBounds b (.map ms k))[b']? = w.heap[b']? := by
    intro b' hb; rw [Array.getElem?_setIfInBounds, if_neg (Ne.symm hb)]
  refine ⟨?_, ?_, h.fresh, ?_, ?_, ?_, h.os, h.output, h.tape, h.glob, ?_, h.nd, ?_⟩
  · intro j o' e
    by_cases hj : j = r
    · subst hj
      rw [AHeap.get_set _ hg] at e; cases e
      exact ⟨b, x, ms, k, hm, by simp [Array.getElem?_setIfInBounds, hlt], hW, hc⟩
    · rw [AHeap.get_set_other _ _ hj] at e
      refine (h.obj j o' e).keep (Env.le_refl m) (fun b' y hb => ?_)
      exact hoth b' (fun hbb => hj (h.inj r j _ _ b x y hg e rfl hm (hbb ▸ hb)).symm)
  · intro j l oj ol b' y z hj hk hwr hmj hmk
    have key : ∀ (j' : Nat) (oj' : AObj), (H.set r (.dict es')).get j' = some oj' → ∃ o2, H.get j' = some o2 ∧ o2.wr = oj'.wr := by
      intro j' oj' e
      by_cases h1 : j' = r
      · subst h1; rw [AHeap.get_set _ hg] at e; cases e; exact ⟨_, hg, rfl⟩
      · rw [AHeap.get_set_other _ _ h1] at e; exact ⟨_, e, rfl⟩
    obtain ⟨o1, e1, w1⟩ := key j oj hj
    obtain ⟨o2, e2, _⟩ := key l ol hk
    exact h.inj j l o1 o2 b' y z e1 e2 (w1.trans hwr) hmj hmk
  · intro j b' y hb; simp; exact h.low j b' y hb
  · intro b' hb
    show (w.heap.setIfInBounds b (.map ms k))[b']? = _
    rw [hoth b' (by omega)]
    exact h.frame b' hb
  · simp; exact h.size
  · intro b' hb
    obtain ⟨g1, g2⟩ := h.dfr b' hb
    exact ⟨g1, (hoth b' (by rintro rfl; rw [h2] at g2; cases g2)).trans g2⟩
  · intro b' hb
    obtain ⟨q, g2⟩ := h.lps b' hb
    exact ⟨q, (hoth b' (by rintro rfl; rw [h2] at g2; cases g2)).trans g2⟩

/-- The record of a loop that goes on. -/
theorem Rel.setLoop (h : Rel NG W0 m H w) {i b x : Nat} {st st' : LSt} {t : List AV} {ps : List Nat} {asg body : ACode} (hg : H.get i = some (.loop st t ps asg body)) (hm : m i = some (b, x)) {r : Loop}
    (hr : w.heap[b]? = some (.loop r)) {s : LoopState} {pe : Option Code} (hst : st'.rel { r with state := s, pending := pe }) :
    Rel NG W0 m (H.set i (.loop st' t ps asg body)) { w with heap := w.heap.setIfInBounds b (.loop { r with state := s, pending := pe }) } := by
  obtain ⟨b', x', r', h1, h2, hW, h4, h5⟩ := h.obj i _ hg
  rw [hm] at h1; cases h1
  rw [hr] at h2; cases h2
  have hlt : b < w.heap.size := h.low i b x hm
  have hoth : ∀ b', b' ≠ b → (w.heap.setIfInBounds b (.loop { r with state := s, pending := pe }))[b']? = w.heap[b']? := by
    intro b' hb; rw [Array.getElem?_setIfInBounds, if_neg (Ne.symm hb)]
  refine ⟨?_, ?_, h.fresh, ?_, ?_, ?_, h.os, h.output, h.tape, h.glob, ?_, h.nd, ?_⟩
  · intro j o' e
    by_cases hj : j = i
    · subst hj
      rw [AHeap.get_set _ hg] at e; cases e
      exact ⟨b, x, _, hm, by simp [Array.getElem?_setIfInBounds, hlt], hW, hst, h5⟩
    · rw [AHeap.get_set_other _ _ hj] at e
      refine (h.obj j o' e).keep (Env.le_refl m) (fun b' y hb => ?_)
      exact hoth b' (fun hbb => hj (h.inj i j _ _ b x y hg e rfl hm (hbb ▸ hb)).symm)
  · intro j l oj ol b' y z hj hk hwr hmj hmk
    have key : ∀ (j' : Nat) (oj' : AObj), (H.set i (.loop st' t ps asg body)).get j' = some oj' → ∃ o2, H.get j' = some o2 ∧ o2.wr = oj'.wr := by
      intro j' oj' e
      by_cases h1 : j' = i
      · subst h1; rw [AHeap.get_set _ hg] at e; cases e; exact ⟨_, hg, rfl⟩
      · rw [AHeap.get_set_other _ _ h1] at e; exact ⟨_, e, rfl⟩
    obtain ⟨o1, e1, w1⟩ := key j oj hj
    obtain ⟨o2, e2, _⟩ := key l ol hk
    exact h.inj j l o1 o2 b' y z e1 e2 (w1.trans hwr) hmj hmk
  · intro j b' y hb; simp; exact h.low j b' y hb
  · intro b' hb
    show (w.heap.setIfInBounds b _)[b']? = _
    rw [hoth b' (by omega)]
    exact h.frame b' hb
  · simp; exact h.size
  · intro b' hb
    obtain ⟨g1, g2⟩ := h.dfr b' hb
    exact ⟨g1, (hoth b' (by rintro rfl; rw [hr] at g2; cases g2)).trans g2⟩
  · intro b' hb
    obtain ⟨q, g2⟩ := h.lps b' hb
    by_cases e : b' = b
    · subst e; exact ⟨_, by simp [Array.getElem?_setIfInBounds, hlt]; rfl⟩
    · exact ⟨q, (hoth b' e).trans g2⟩

theorem delO_setO {i : Nat} {o : AObj} : ∀ {l : List (Nat × AObj)}, delO i (setO i o l) = delO i l
  | [] => rfl
  | p :: l => by
    simp only [setO, delO]
    cases hb : Nat.beq p.1 i with
    | true => simp only [delO, Nat.beq_refl]
    | false => simp only [delO, hb]; rw [delO_setO]

/-- Fewer open blocks, fewer records. -/
theorem Rel.forget {W1 : Base} (h : Rel NG W1 m H w) (hw : W1.toWorld = W0.toWorld) (hD : W0.D.Sublist W1.D) (hL : ∀ b ∈ W0.L, b ∈ W1.L) : Rel NG W0 m H w := by
  refine ⟨?_, h.inj, h.fresh, h.low, by rw [← hw]; exact h.frame, by rw [← hw]; exact h.size, by rw [← hw]; exact h.os, by rw [← hw]; exact h.output, by rw [← hw]; exact h.tape, h.glob, ?_, hD.nodup h.nd, fun b hb => h.lps b (hL b hb)⟩
  · intro i o e
    have := h.obj i o e
    cases o <;> (simp only [ObjRel] at this ⊢; rw [← hw]; exact this)
  · intro b hb
    rw [← hw]
    exact h.dfr b (hD.subset hb)

theorem Rel.dropD {D : List Nat} (h : Rel NG (W0.addD D) m H w) : Rel NG W0 m H w := h.forget rfl (List.sublist_append_right _ _) (fun _ h => h)
theorem Rel.dropL {l : Nat} (h : Rel NG (W0.addL l) m H w) : Rel NG W0 m H w := h.forget rfl (List.Sublist.refl _) (fun _ h => List.mem_cons_of_mem _ h)

/-- A record that is there may be told. -/
theorem Rel.tellL (h : Rel NG W0 m H w) {i b x : Nat} {st : LSt} {t : List AV} {ps : List Nat} {asg body : ACode} (hg : H.get i = some (.loop st t ps asg body)) (hm : m i = some (b, x)) : Rel NG (W0.addL b) m H w := by
  obtain ⟨b', x', r', h1, h2, _⟩ := h.obj i _ hg
  rw [hm] at h1; cases h1
  refine ⟨?_, h.inj, h.fresh, h.low, h.frame, h.size, h.os, h.output, h.tape, h.glob, h.dfr, h.nd, ?_⟩
  · intro i o e; have := h.obj i o e; cases o <;> exact this
  · intro b' hb
    rcases List.mem_cons.1 hb with rfl | hb
    · exact ⟨_, h2⟩
    · exact h.lps b' hb

/-- A block for deferred calls is opened. -/
theorem Rel.openD (h : Rel NG W0 m H w) : Rel NG (W0.addD [w.heap.size]) m H (w.alloc (.deferred (some []))) := by
  have hk : ∀ b, b < w.heap.size → (w.alloc (.deferred (some []))).heap[b]? = w.heap[b]? := fun b hb => Go.RowKit.Below.heap_alloc w _ b hb
  have hk2 : ∀ {b : Nat} {o : Obj}, w.heap[b]? = some o → (w.alloc (.deferred (some []))).heap[b]? = some o := fun {b o} e => (hk b (Array.getElem?_eq_some_iff.1 e).1).trans e
  refine ⟨?_, h.inj, h.fresh, fun i b x e => by rw [World.size_alloc]; have := h.low i b x e; omega, fun b hb => (hk b (Nat.lt_of_lt_of_le hb h.size)).trans (h.frame b hb), by rw [World.size_alloc]; have := h.size; exact Nat.le_succ_of_le this, h.os, h.output, h.tape, h.glob, ?_, ?_, ?_⟩
  · intro i o e
    have h1 : ObjRel NG (W0.addD [w.heap.size]) m w i o := by have := h.obj i o e; cases o <;> exact this
    exact h1.keep (Env.le_refl m) (fun b x hb => hk b (h.low i b x hb))
  · intro b hb
    rcases List.mem_cons.1 hb with rfl | hb
    · exact ⟨h.size, by show (w.heap.push _)[w.heap.size]? = _; simp⟩
    · obtain ⟨g1, g2⟩ := h.dfr b hb
      exact ⟨g1, hk2 g2⟩
  · show ([w.heap.size] ++ W0.D).Nodup
    rw [List.singleton_append, List.nodup_cons]
    refine ⟨fun hm => ?_, h.nd⟩
    obtain ⟨_, g2⟩ := h.dfr _ hm
    exact absurd (Array.getElem?_eq_some_iff.1 g2).1 (Nat.lt_irrefl _)
  · intro b hb
    obtain ⟨r, g2⟩ := h.lps b hb
    exact ⟨r, hk2 g2⟩

/-- One is shut. -/
theorem Rel.shutD {d : Nat} {D : List Nat} (h : Rel NG (W0.addD (d :: D)) m H w) : Rel NG (W0.addD D) m H { w with heap := w.heap.setIfInBounds d (.deferred none) } := by
  obtain ⟨hd1, hd2⟩ := h.dfr d (List.mem_cons_self ..)
  have hnd := h.nd
  have hnd' : (d :: (D ++ W0.D)).Nodup := hnd
  rw [List.nodup_cons] at hnd'
  have hoth : ∀ b', b' ≠ d → (w.heap.setIfInBounds d (.deferred none))[b']? = w.heap[b']? := by
    intro b' hb; rw [Array.getElem?_setIfInBounds, if_neg (Ne.symm hb)]
  refine ⟨?_, h.inj, h.fresh, fun i b x e => by simp; exact h.low i b x e, ?_, by simp; exact h.size, h.os, h.output, h.tape, h.glob, ?_, hnd'.2, ?_⟩
  · intro i o e
    have h1 : ObjRel NG (W0.addD D) m w i o := by have := h.obj i o e; cases o <;> exact this
    refine h1.keep (Env.le_refl m) (fun b x hb => hoth b ?_)
    rintro rfl
    have := h.obj i o e
    cases o with
    | cells c wr sp => obtain ⟨b', x', cs, ty, fz, e1, e2, _⟩ := this; rw [hb] at e1; cases e1; rw [hd2] at e2; cases e2
    | dict es => obtain ⟨b', x', ms, k, e1, e2, _⟩ := this; rw [hb] at e1; cases e1; rw [hd2] at e2; cases e2
    | loop st t ps asg body => obtain ⟨b', x', r, e1, e2, _⟩ := this; rw [hb] at e1; cases e1; rw [hd2] at e2; cases e2
  · intro b hb
    have hb' : b < W0.heap.size := hb
    have hd1' : W0.heap.size ≤ d := hd1
    exact (hoth b (by omega)).trans (h.frame b hb)
  · intro b hb
    obtain ⟨g1, g2⟩ := h.dfr b (List.mem_cons_of_mem _ hb)
    exact ⟨g1, (hoth b (by rintro rfl; exact hnd'.1 hb)).trans g2⟩
  · intro b hb
    obtain ⟨r, g2⟩ := h.lps b hb
    exact ⟨r, (hoth b (by rintro rfl; rw [hd2] at g2; cases g2)).trans g2⟩

/-- A block that is given up. -/
theorem Rel.del (h : Rel NG W0 m H w) (i : Nat) : Rel NG W0 m (H.del i) w := by
  have key : ∀ (j : Nat) (o : AObj), (H.del i).get j = some o → H.get j = some o := by
    intro j o e
    by_cases hj : j = i
    · subst hj; rw [AHeap.get_del] at e; cases e
    · rwa [AHeap.get_del_other _ hj] at e
  exact ⟨fun j o e => h.obj j o (key j o e), fun j k oj ok b y z hj hk => h.inj j k oj ok b y z (key _ _ hj) (key _ _ hk), h.fresh, h.low, h.frame, h.size, h.os, h.output, h.tape, h.glob, h.dfr, h.nd, h.lps⟩

/-- The record of a loop that is over is given up. -/
theorem Rel.endLoop (h : Rel NG W0 m H w) {i b x : Nat} {st : LSt} {t : List AV} {ps : List Nat} {asg body : ACode} (hg : H.get i = some (.loop st t ps asg body)) (hm : m i = some (b, x)) {r : Loop}
    (hr : w.heap[b]? = some (.loop r)) {s : LoopState} {pe : Option Code} : Rel NG W0 m (H.del i) { w with heap := w.heap.setIfInBounds b (.loop { r with state := s, pending := pe }) } := by
  have h1 := (h.setLoop (st' := .over) hg hm hr (s := s) (pe := pe) trivial).del i
  have e : (H.set i (.loop .over t ps asg body)).del i = H.del i := by
    show AHeap.mk H.next (delO i (setO i _ H.objs)) = AHeap.mk H.next (delO i H.objs)
    rw [delO_setO]
  rwa [e] at h1

/-- A block that goes on under another number, its row written anew. -/
theorem Rel.move (h : Rel NG W0 m H w) {i b x sp : Nat} {c c' : List AV} (hg : H.get i = some (.cells c true sp)) (hm : m i = some (b, x)) {cs : Array Value} (y : Nat)
    (hsz : cs.size = c'.length + y * sp) (hc : Cellwise m c' cs.toList) :
    m.le (m.put H.next b y) ∧ Rel NG W0 (m.put H.next b y) ((H.del i).new (.cells c' true sp)) (w.setRow b cs) := by
  obtain ⟨b', x', cs0, ty, fz, h1, h2, h3, h4, h5⟩ := h.obj i _ hg
  rw [hm] at h1; cases h1
  rw [if_pos rfl] at h5
  obtain ⟨rfl, hW⟩ := h5
  have hn := h.fresh H.next (Nat.le_refl _)
  have hnx : (H.del i).next = H.next := rfl
  have hle : m.le (m.put H.next b y) := Env.le_put hn
  have key : ∀ (j : Nat) (o : AObj), j ≠ H.next → ((H.del i).new (.cells c' true sp)).get j = some o → H.get j = some o ∧ j ≠ i := by
    intro j o hj e
    rw [AHeap.get_new_other _ _ (by rw [hnx]; exact hj)] at e
    by_cases hji : j = i
    · subst hji; rw [AHeap.get_del] at e; cases e
    · rw [AHeap.get_del_other _ hji] at e; exact ⟨e, hji⟩
  refine ⟨hle, ?_, ?_, ?_, ?_, ?_, ?_, h.os, h.output, h.tape, ?_, ?_, h.nd, ?_⟩
  · intro j o e
    by_cases hj : j = H.next
    · subst hj
      have : ((H.del i).new (.cells c' true sp)).get H.next = some (.cells c' true sp) := AHeap.get_new (H.del i) _
      rw [this] at e; cases e
      exact ⟨b, y, cs, ty, (0, 0), Env.put_same _ _ _ _, setRow_heap w b cs0 cs ty (0, 0) h2, hsz, (hc.mono hle).holey true, by rw [if_pos rfl]; exact ⟨rfl, hW⟩⟩
    · obtain ⟨e', hji⟩ := key j o hj e
      refine (h.obj j o e').keep hle (fun b' z hb => ?_)
      exact setRow_other w b b' cs (fun hbb => hji (h.inj i j _ _ b x z hg e' rfl hm (hbb ▸ hb)).symm)
  · intro j k oj ok b' z z' hj hk hwr hmj hmk
    by_cases h1 : j = H.next
    · by_cases h2 : k = H.next
      · rw [h1, h2]
      · subst h1
        obtain ⟨e', hki⟩ := key k ok h2 hk
        rw [Env.put_same] at hmj; rw [Env.put_other _ _ _ _ h2] at hmk
        cases hmj
        exact absurd (h.inj i k _ _ b x z' hg e' rfl hm hmk).symm hki
    · obtain ⟨e1, hji⟩ := key j oj h1 hj
      rw [Env.put_other _ _ _ _ h1] at hmj
      by_cases h2 : k = H.next
      · subst h2
        rw [Env.put_same] at hmk
        cases hmk
        exact absurd (h.inj j i _ _ b z x e1 hg hwr hmj hm) hji
      · obtain ⟨e2, _⟩ := key k ok h2 hk
        rw [Env.put_other _ _ _ _ h2] at hmk
        exact h.inj j k oj ok b' z z' e1 e2 hwr hmj hmk
  · intro j hj
    have hj' : H.next + 1 ≤ j := hj
    rw [Env.put_other _ _ _ _ (by omega)]
    exact h.fresh j (by omega)
  · intro j b' z hb
    rw [size_setRow]
    by_cases h1 : j = H.next
    · subst h1; rw [Env.put_same] at hb; cases hb; exact h.low i b x hm
    · rw [Env.put_other _ _ _ _ h1] at hb; exact h.low j b' z hb
  · intro b' hb
    rw [setRow_other w b b' cs (by omega)]
    exact h.frame b' hb
  · rw [size_setRow]; exact h.size
  · intro g hg'
    have := h.glob g hg'
    rw [Env.put_other _ _ _ _ (by have := h.lt this; omega)]
    exact this
  · intro b' hb
    obtain ⟨g1, g2⟩ := h.dfr b' hb
    exact ⟨g1, (setRow_other w b b' cs (by rintro rfl; rw [h2] at g2; cases g2)).trans g2⟩
  · intro b' hb
    obtain ⟨r, g2⟩ := h.lps b' hb
    exact ⟨r, (setRow_other w b b' cs (by rintro rfl; rw [h2] at g2; cases g2)).trans g2⟩

/-- Cells that are there are there in memory. -/
theorem Rel.cells (h : Rel NG W0 m H w) {i : Nat} {c : List AV} {wr : Bool} {sp : Nat} (hg : H.get i = some (.cells c wr sp)) :
    ∃ b x cs ty fz, m i = some (b, x) ∧ w.heap[b]? = some (.cells cs ty fz) ∧ cs.size = c.length + x * sp ∧ Holey m wr c cs.toList ∧ (wr = true → fz = (0, 0) ∧ W0.heap.size ≤ b) := by
  obtain ⟨b, x, cs, ty, fz, h1, h2, h3, h4, h5⟩ := h.obj i _ hg
  exact ⟨b, x, cs, ty, fz, h1, h2, h3, h4, fun hw => by rwa [if_pos hw] at h5⟩

end

theorem cell_of {w : World} {b : Nat} {cs : Array Value} {ty : TypeId} {fz : Nat × Nat} (h : w.heap[b]? = some (.cells cs ty fz)) (k : Nat) : w.cell? ⟨b, k, none⟩ = cs[k]? := by
  simp [World.cell?, h]

/-- A piece of a row. -/
theorem Cellwise.piece {m : Env} {c : List AV} {vs : List Value} (h : Cellwise m c vs) (o n : Nat) (hn : o + n ≤ c.length) :
    ∃ us, toVs m ((c.drop o).take n) = some us ∧ us.length = n ∧ ∀ j u, us[j]? = some u → vs[o + j]? = some u := by
  have hlen : ((vs.drop o).take n).length = n := by
    have : c.length ≤ vs.length := by
      rcases Nat.lt_or_ge vs.length c.length with hl | hg
      · obtain ⟨v, _, e⟩ := h vs.length c[vs.length] (List.getElem?_eq_getElem hl)
        simp at e
      · exact hg
    simp; omega
  refine ⟨(vs.drop o).take n, toVs_of (by rw [hlen]; simp; omega) ?_, hlen, ?_⟩
  · intro k x hx
    rw [List.getElem?_take] at hx
    split at hx
    · rename_i hk
      rw [List.getElem?_drop] at hx
      obtain ⟨v, hv, e⟩ := h (o + k) x hx
      exact ⟨v, hv, by rw [List.getElem?_take, if_pos hk, List.getElem?_drop]; exact e⟩
    · cases hx
  · intro j u hu
    rw [List.getElem?_take] at hu
    split at hu
    · rwa [List.getElem?_drop] at hu
    · cases hu

theorem okV_some {v x : AV} (h : okV v = some x) : v = x ∧ v.known = true := by
  unfold okV at h
  cases hk : v.known <;> rw [hk] at h <;> simp at h
  exact ⟨h, rfl⟩

theorem okL_some {l l' : List AV} (h : okL l = some l') : l = l' ∧ noHoles l = true := by
  unfold okL at h
  cases hk : noHoles l <;> rw [hk] at h <;> simp at h
  exact ⟨h, rfl⟩

theorem noHoles_get : ∀ {l : List AV}, noHoles l = true → ∀ (k : Nat) (x : AV), l[k]? = some x → x.hole = false
  | [], _, k, x, h => by simp at h
  | y :: l, hn, k, x, h => by
    simp only [noHoles] at hn
    cases hy : y.hole <;> rw [hy] at hn <;> simp at hn
    cases k with
    | zero => simp at h; subst h; exact hy
    | succ k => exact noHoles_get hn k x (by simpa using h)

/-- A piece of a row. -/
theorem Holey.piece {m : Env} {wr : Bool} {c : List AV} {vs : List Value} (h : Holey m wr c vs) (o n : Nat) (hn : o + n ≤ c.length) (hk : noHoles ((c.drop o).take n) = true) :
    ∃ us, toVs m ((c.drop o).take n) = some us ∧ us.length = n ∧ ∀ j u, us[j]? = some u → vs[o + j]? = some u := by
  have hlen : ((vs.drop o).take n).length = n := by
    have := h.1
    simp; omega
  refine ⟨(vs.drop o).take n, toVs_of (by rw [hlen]; simp; omega) ?_, hlen, ?_⟩
  · intro k x hx
    have hno := noHoles_get hk k x hx
    rw [List.getElem?_take] at hx
    split at hx
    · rename_i hk
      rw [List.getElem?_drop] at hx
      rcases h.2 (o + k) x hx with ⟨_, hh⟩ | ⟨v, hv, e⟩
      · rw [hno] at hh; cases hh
      · exact ⟨v, hv, by rw [List.getElem?_take, if_pos hk, List.getElem?_drop]; exact e⟩
    · cases hx
  · intro j u hu
    rw [List.getElem?_take] at hu
    split at hu
    · rwa [List.getElem?_drop] at hu
    · cases hu

end Go.AM
