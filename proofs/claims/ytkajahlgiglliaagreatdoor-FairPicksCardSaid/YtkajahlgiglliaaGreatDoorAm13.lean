/- A statement that leaves its order open: what the small machine says of the order of the text holds in every order. -/
import Derived.Test.YtkajahlgiglliaaGreatDoorAm12
namespace Go.AM

section congr
variable {t t' : List AV} {H : AHeap}

theorem ev_congr {x : AOpd} (h : ∀ d ∈ x.tmps, t[d]? = t'[d]?) : x.ev t = x.ev t' := by
  cases x with
  | t n => simp only [AOpd.ev, List.getD_eq_getElem?_getD, h n (by simp [AOpd.tmps])]
  | c v => rfl

theorem evs_congr : ∀ {l : List AOpd}, (∀ d ∈ l.flatMap AOpd.tmps, t[d]? = t'[d]?) → evs t l = evs t' l
  | [], _ => rfl
  | x :: l, h => by
    simp only [evs]
    rw [ev_congr (fun d hd => h d (by simp only [List.flatMap_cons, List.mem_append]; exact .inl hd)), evs_congr (l := l) (fun d hd => h d (by simp only [List.flatMap_cons, List.mem_append]; exact .inr hd))]

theorem evParts_congr : ∀ {l : List (Nat × Nat × AOpd)}, (∀ d ∈ l.flatMap (fun p => p.2.2.tmps), t[d]? = t'[d]?) → evParts t l = evParts t' l
  | [], _ => rfl
  | x :: l, h => by
    simp only [evParts]
    rw [ev_congr (fun d hd => h d (by simp only [List.flatMap_cons, List.mem_append]; exact .inl hd)), evParts_congr (l := l) (fun d hd => h d (by simp only [List.flatMap_cons, List.mem_append]; exact .inr hd))]

theorem boundO_congr {x : Option AOpd} (h : ∀ d ∈ optTmps x, t[d]? = t'[d]?) (d y : Nat) : boundO t x d y = boundO t' x d y := by
  cases x with
  | none => rfl
  | some x => simp only [boundO, ev_congr (x := x) h]

theorem sliceA_congr {a : Option (Nat × Nat)} {len cap : Nat} {more : Bool} {lo hi mx : Option AOpd} {esz : Nat} (h1 : ∀ d ∈ optTmps lo, t[d]? = t'[d]?) (h2 : ∀ d ∈ optTmps hi, t[d]? = t'[d]?) (h3 : ∀ d ∈ optTmps mx, t[d]? = t'[d]?) :
    sliceA t a len cap more lo hi mx esz = sliceA t' a len cap more lo hi mx esz := by
  simp only [sliceA, boundO_congr h1, boundO_congr h2, boundO_congr h3]

theorem evalP_congr {op : AOp} (h : ∀ d ∈ op.tmps, t[d]? = t'[d]?) : evalP op t H = evalP op t' H := by
  cases op <;> simp only [AOp.tmps, List.mem_append] at h
  case mv x => simp only [evalP, ev_congr h]
  case pick c a b => simp only [evalP, ev_congr (x := c) (fun d hd => h d (.inl (.inl hd))), ev_congr (x := a) (fun d hd => h d (.inl (.inr hd))), ev_congr (x := b) (fun d hd => h d (.inr hd))]
  case build z ps => simp only [evalP, evParts_congr h]
  case load x g => simp only [evalP, ev_congr h]
  case nilCheck x => simp only [evalP, ev_congr h]
  case bin op x y => simp only [evalP, ev_congr (x := x) (fun d hd => h d (.inl hd)), ev_congr (x := y) (fun d hd => h d (.inr hd))]
  case eqv n k x y => simp only [evalP, ev_congr (x := x) (fun d hd => h d (.inl hd)), ev_congr (x := y) (fun d hd => h d (.inr hd))]
  case un op x => simp only [evalP, ev_congr h]
  case conv k x => simp only [evalP, ev_congr h]
  case convF x => simp only [evalP, ev_congr h]
  case b2s x => simp only [evalP, ev_congr h]
  case fieldAddr x o => simp only [evalP, ev_congr h]
  case field x o g => simp only [evalP, ev_congr h]
  case idxA x y l e => simp only [evalP, ev_congr (x := x) (fun d hd => h d (.inl hd)), ev_congr (x := y) (fun d hd => h d (.inr hd))]
  case idxS x y e => simp only [evalP, ev_congr (x := x) (fun d hd => h d (.inl hd)), ev_congr (x := y) (fun d hd => h d (.inr hd))]
  case idxV x y l e g => simp only [evalP, ev_congr (x := x) (fun d hd => h d (.inl hd)), ev_congr (x := y) (fun d hd => h d (.inr hd))]
  case idxStr x y => simp only [evalP, ev_congr (x := x) (fun d hd => h d (.inl hd)), ev_congr (x := y) (fun d hd => h d (.inr hd))]
  case slice x a b c e =>
    simp only [evalP, ev_congr (x := x) (fun d hd => h d (.inl (.inl (.inl hd))))]
    split
    · exact sliceA_congr (fun d hd => h d (.inl (.inl (.inr hd)))) (fun d hd => h d (.inl (.inr hd))) (fun d hd => h d (.inr hd))
    · rfl
  case sliceA x a b c l e =>
    simp only [evalP, ev_congr (x := x) (fun d hd => h d (.inl (.inl (.inl hd))))]
    split
    · exact sliceA_congr (fun d hd => h d (.inl (.inl (.inr hd)))) (fun d hd => h d (.inl (.inr hd))) (fun d hd => h d (.inr hd))
    · rfl
  case sliceStr x a b =>
    simp only [evalP, ev_congr (x := x) (fun d hd => h d (.inl (.inl hd))), stringA, boundO_congr (x := a) (fun d hd => h d (.inl (.inr hd))), boundO_congr (x := b) (fun d hd => h d (.inr hd))]
  case lookup x y z ok s => simp only [evalP, ev_congr (x := x) (fun d hd => h d (.inl hd)), ev_congr (x := y) (fun d hd => h d (.inr hd))]
  case mkFn f a b =>
    have h1 : ∀ d ∈ a.flatMap AOpd.tmps, t[d]? = t'[d]? := fun d hd => h d (by simp only [List.flatMap_append, List.mem_append]; exact .inl hd)
    have h2 : ∀ d ∈ b.flatMap AOpd.tmps, t[d]? = t'[d]? := fun d hd => h d (by simp only [List.flatMap_append, List.mem_append]; exact .inr hd)
    simp only [evalP, evs_congr h1, evs_congr h2]
  case mkIface ty x => simp only [evalP, ev_congr h]
  case extract x i => simp only [evalP, ev_congr h]
  case len k x => simp only [evalP, ev_congr h]
  case minmax b x l => simp only [evalP, ev_congr (x := x) (fun d hd => h d (.inl hd)), evs_congr (l := l) (fun d hd => h d (.inr hd))]
  case ext k l => simp only [evalP, evs_congr h]
  all_goals rfl

theorem evalE_congr {call rnd : CallF} {op : AOp} (h : ∀ d ∈ op.tmps, t[d]? = t'[d]?) : evalE call rnd op t H = evalE call rnd op t' H := by
  cases op <;> simp only [AOp.tmps, List.mem_append] at h
  case box x => simp only [evalE, ev_congr h]
  case bslice z l ps => simp only [evalE, evParts_congr h]
  case store x y n => simp only [evalE, ev_congr (x := x) (fun d hd => h d (.inl hd)), ev_congr (x := y) (fun d hd => h d (.inr hd))]
  case mapUpd m k v s => simp only [evalE, ev_congr (x := m) (fun d hd => h d (.inl (.inl hd))), ev_congr (x := k) (fun d hd => h d (.inl (.inr hd))), ev_congr (x := v) (fun d hd => h d (.inr hd))]
  case delete x y s => simp only [evalE, ev_congr (x := x) (fun d hd => h d (.inl hd)), ev_congr (x := y) (fun d hd => h d (.inr hd))]
  case mkSlice x y z b => simp only [evalE, ev_congr (x := x) (fun d hd => h d (.inl hd)), ev_congr (x := y) (fun d hd => h d (.inr hd))]
  case append x y e b => simp only [evalE, ev_congr (x := x) (fun d hd => h d (.inl hd)), ev_congr (x := y) (fun d hd => h d (.inr hd))]
  case copy x y e => simp only [evalE, ev_congr (x := x) (fun d hd => h d (.inl hd)), ev_congr (x := y) (fun d hd => h d (.inr hd))]
  case call f l => simp only [evalE, evs_congr h]
  case clear x z => simp only [evalE, ev_congr h]
  case callv x l => simp only [evalE, ev_congr (x := x) (fun d hd => h d (.inl hd)), evs_congr (l := l) (fun d hd => h d (.inr hd))]
  all_goals rfl

theorem wantA_congr {o : AOper} (h : ∀ d ∈ o.reads, t[d]? = t'[d]?) : wantA o t = wantA o t' := by
  unfold wantA
  split
  · rfl
  · rename_i g hg
    rw [h g.1 (by simp [AOper.reads, hg])]

theorem evalV_congr {call rnd : CallF} {o : AOper} (h : ∀ d ∈ o.reads, t[d]? = t'[d]?) : evalV call rnd o t H = evalV call rnd o t' H := by
  have h' : ∀ d ∈ o.op.tmps, t[d]? = t'[d]? := fun d hd => h d (by simp only [AOper.reads, List.mem_append]; exact .inl hd)
  unfold evalV
  rw [wantA_congr h, evalE_congr h', evalP_congr h']

theorem evalP_blind {op : AOp} (h : op.looks = false) (H H' : AHeap) : evalP op t H = evalP op t H' := by
  cases op <;> first | rfl | (simp [AOp.looks] at h; done) | skip
  case len k x =>
    have hk : k ≠ 2 := by rintro rfl; simp [AOp.looks] at h
    simp only [evalP]
    have : ∀ v, lenA H k v = lenA H' k v := by
      intro v
      unfold lenA
      split <;> first | rfl | (exact absurd rfl hk)
    rw [this]

end congr

mutual
theorem sameAV_eq : ∀ {a b : AV}, sameAV a b = true → a = b
  | .bool a, .bool b, h => by simp [sameAV] at h; rw [h]
  | .int k a, .int k' b, h => by simp [sameAV] at h; rw [h.1, h.2]
  | .flt a, .flt b, h => by simp [sameAV] at h; rw [h]
  | .str a, .str b, h => by simp [sameAV] at h; rw [h]
  | .ptr none, .ptr none, _ => rfl
  | .ptr (some p), .ptr (some q), h => by simp [sameAV] at h; rw [Prod.ext h.1 h.2]
  | .slc none l c m, .slc none l' c' m', h => by simp [sameAV] at h; rw [h.1.1, h.1.2, h.2]
  | .slc (some p) l c m, .slc (some q) l' c' m', h => by simp [sameAV] at h; rw [Prod.ext h.1.1.1.1 h.1.1.1.2, h.1.1.2, h.1.2, h.2]
  | .map none, .map none, _ => rfl
  | .map (some p), .map (some q), h => by simp [sameAV] at h; rw [h]
  | .fn f a b, .fn f' a' b', h => by simp [sameAV] at h; rw [h.1.1, sameAVs_eq h.1.2, sameAVs_eq h.2]
  | .nilFn, .nilFn, _ => rfl
  | .iface t v, .iface t' v', h => by simp [sameAV] at h; rw [h.1, sameAV_eq h.2]
  | .nilIface, .nilIface, _ => rfl
  | .agg a, .agg b, h => by simp [sameAV] at h; rw [sameAVs_eq h]
  | .tup a, .tup b, h => by simp [sameAV] at h; rw [sameAVs_eq h]
  | .yld i, .yld j, h => by simp [sameAV] at h; rw [h]
theorem sameAVs_eq : ∀ {a b : List AV}, sameAVs a b = true → a = b
  | [], [], _ => rfl
  | x :: l, y :: l', h => by simp [sameAVs] at h; rw [sameAV_eq h.1, sameAVs_eq h.2]
end

/- The slots behind some of the operations. -/

def tS : List AOper → List (AV × AHeap) → Nat → (Nat → Bool) → List AV → List AV
  | o :: l, r :: rl, k, S, t => tS l rl (k + 1) S (if S k then putT t o.dst r.1 else t)
  | _, _, _, _, t => t

theorem putT_length (t : List AV) (d : Option Nat) (v : AV) : (putT t d v).length = t.length := by cases d <;> simp [putT]

theorem putT_get (t : List AV) (d : Option Nat) (v : AV) (s : Nat) : (putT t d v)[s]? = if d = some s then (if s < t.length then some v else none) else t[s]? := by
  cases d with
  | none => simp [putT]
  | some d =>
    simp only [putT, List.getElem?_set, Option.some.injEq]
    by_cases h : d = s
    · subst h; rfl
    · rw [if_neg h, if_neg h]

theorem tS_length : ∀ (l : List AOper) (rl : List (AV × AHeap)) (k : Nat) (S : Nat → Bool) (t : List AV), (tS l rl k S t).length = t.length
  | [], _, _, _, _ => rfl
  | _ :: _, [], _, _, _ => rfl
  | o :: l, r :: rl, k, S, t => by
    simp only [tS]
    rw [tS_length l rl]
    split
    · exact putT_length _ _ _
    · rfl

theorem tS_agree {d : Nat} : ∀ {l : List AOper} {rl : List (AV × AHeap)} {k : Nat} {S S' : Nat → Bool} {t t' : List AV}, t.length = t'.length → (∀ (j : Nat) (o : AOper), l[j]? = some o → o.dst = some d → S (k + j) = S' (k + j)) → t[d]? = t'[d]? →
    (tS l rl k S t)[d]? = (tS l rl k S' t')[d]?
  | [], _, _, _, _, _, _, _, _, h => h
  | _ :: _, [], _, _, _, _, _, _, _, h => h
  | o :: l, r :: rl, k, S, S', t, t', hl, hS, h => by
    simp only [tS]
    refine tS_agree ?_ (fun j o' hj hd => by have := hS (j + 1) o' (by simpa using hj) hd; rw [show k + 1 + j = k + (j + 1) by omega]; exact this) ?_
    · split <;> split <;> simp [putT_length, hl]
    · by_cases hd : o.dst = some d
      · have := hS 0 o rfl hd
        rw [Nat.add_zero] at this
        rw [this]
        split
        · rw [putT_get, putT_get, if_pos hd, if_pos hd, hl]
        · exact h
      · have e1 : (if S k = true then putT t o.dst r.1 else t)[d]? = t[d]? := by split; rw [putT_get, if_neg hd]; rfl
        have e2 : (if S' k = true then putT t' o.dst r.1 else t')[d]? = t'[d]? := by split; rw [putT_get, if_neg hd]; rfl
        rw [e1, e2, h]

theorem tS_none : ∀ {l : List AOper} {rl : List (AV × AHeap)} {k : Nat} {S : Nat → Bool} {t : List AV}, (∀ j, k ≤ j → S j = false) → tS l rl k S t = t
  | [], _, _, _, _, _ => rfl
  | _ :: _, [], _, _, _, _ => rfl
  | o :: l, r :: rl, k, S, t, h => by
    simp only [tS, h k (Nat.le_refl _), Bool.false_eq_true, if_false]
    exact tS_none (fun j hj => h j (by omega))

theorem tS_all : ∀ {l : List AOper} {rl : List (AV × AHeap)} {k : Nat} {S : Nat → Bool} {t : List AV}, (∀ (j : Nat) (o : AOper), l[j]? = some o → S (k + j) = true) → tS l rl k S t = tmpsD l rl t
  | [], _, _, _, _, _ => by simp [tS, tmpsD]
  | _ :: _, [], _, _, _, _ => by simp [tS, tmpsD]
  | o :: l, r :: rl, k, S, t, h => by
    have h0 := h 0 o rfl
    rw [Nat.add_zero] at h0
    simp only [tS, tmpsD, h0, if_true]
    exact tS_all (fun j o' hj => by have := h (j + 1) o' (by simpa using hj); rw [show k + 1 + j = k + (j + 1) by omega]; exact this)

theorem runD_length {call rnd : CallF} : ∀ {l : List AOper} {t : List AV} {H : AHeap} {tr : List (AV × AHeap)}, runD call rnd l t H = some tr → tr.length = l.length
  | [], _, _, tr, h => by simp [runD] at h; subst h; rfl
  | o :: l, t, H, tr, h => by
    simp only [runD] at h
    split at h
    · split at h
      · rename_i rest hr; cases h; simp [runD_length hr]
      · cases h
    · cases h

theorem heapAt_cons {H : AHeap} {r : AV × AHeap} {rl : List (AV × AHeap)} {i : Nat} (hi : i < rl.length + 1) : heapAt H (r :: rl) (i + 1) = heapAt r.2 rl i := by
  cases i with
  | zero => rfl
  | succ i =>
    simp only [heapAt, List.getElem?_cons_succ]
    have : i < rl.length := by omega
    rw [List.getElem?_eq_getElem this]

theorem runD_facts {call rnd : CallF} : ∀ {l : List AOper} {k : Nat} {t : List AV} {H : AHeap} {tr : List (AV × AHeap)}, runD call rnd l t H = some tr →
    ∀ (i : Nat) (o : AOper) (r : AV × AHeap), l[i]? = some o → tr[i]? = some r → evalV call rnd o (tS l tr k (fun j => decide (j < k + i)) t) (heapAt H tr i) = some r
  | [], _, _, _, _, _, i, o, r, hl, _ => by simp at hl
  | o :: l, k, t, H, tr, h, i, o', r', hl, hr => by
    simp only [runD] at h
    split at h
    · rename_i r hev
      split at h
      · rename_i rest hrest
        cases h
        cases i with
        | zero =>
          simp at hl hr
          subst hl; subst hr
          simp only [tS, Nat.add_zero, Nat.lt_irrefl, decide_false, Bool.false_eq_true, if_false, heapAt]
          rw [tS_none (fun j hj => by simp; omega)]
          exact hev
        | succ i =>
          simp at hl hr
          have ih := runD_facts (k := k + 1) hrest i o' r' hl hr
          have hi : i < rest.length + 1 := by have := (List.getElem?_eq_some_iff.1 hr).1; omega
          rw [heapAt_cons hi]
          simp only [tS, show k < k + (i + 1) by omega, decide_true, if_true]
          rw [show k + (i + 1) = k + 1 + i by omega]
          exact ih
      · cases h
    · cases h

theorem stableAt_facts {H : AHeap} {tr : List (AV × AHeap)} {op : AOp} {t : List AV} {v : AV} : ∀ {ps : List Nat}, stableAt H tr op t v ps = true → ∀ p ∈ ps, evalP op t (heapAt H tr p) = some v
  | [], _, p, hp => by simp at hp
  | q :: ps, h, p, hp => by
    simp only [stableAt] at h
    split at h
    · rename_i u hu
      simp only [Bool.and_eq_true] at h
      rcases List.mem_cons.1 hp with rfl | hp
      · rw [hu, sameAV_eq h.1]
      · exact stableAt_facts h.2 p hp
    · cases h

theorem stableD_facts {H0 : AHeap} {tr0 : List (AV × AHeap)} : ∀ {l : List AOper} {pl : List (List Nat)} {tr : List (AV × AHeap)} {k : Nat} {t : List AV}, stableD H0 tr0 l pl tr t = true →
    ∀ (i : Nat) (o : AOper) (r : AV × AHeap) (ps : List Nat), l[i]? = some o → tr[i]? = some r → pl[i]? = some ps → o.op.eff = false → wantA o (tS l tr k (fun j => decide (j < k + i)) t) = true →
      ∀ p ∈ ps, evalP o.op (tS l tr k (fun j => decide (j < k + i)) t) (heapAt H0 tr0 p) = some r.1
  | [], _, _, _, _, _, i, o, r, ps, hl, _, _, _, _ => by simp at hl
  | o :: l, [], _, _, _, h, i, _, _, _, _, _, hp, _, _ => by simp at hp
  | o :: l, ps0 :: pl, [], _, _, h, i, _, _, _, _, hr, _, _, _ => by simp at hr
  | o :: l, ps0 :: pl, r :: tr, k, t, h, i, o', r', ps, hl, hr, hp, heff, hw => by
    simp only [stableD, Bool.and_eq_true, Bool.or_eq_true, Bool.not_eq_true'] at h
    cases i with
    | zero =>
      simp at hl hr hp
      subst hl; subst hr; subst hp
      simp only [tS, Nat.add_zero, Nat.lt_irrefl, decide_false, Bool.false_eq_true, if_false] at hw ⊢
      rw [tS_none (fun j hj => by simp; omega)] at hw ⊢
      rcases h.1 with (h1 | h1) | h1
      · rw [h1] at heff; cases heff
      · rw [h1] at hw; cases hw
      · exact stableAt_facts h1
    | succ i =>
      simp at hl hr hp
      have ih := stableD_facts (k := k + 1) h.2 i o' r' ps hl hr hp heff
      simp only [tS, show k < k + (i + 1) by omega, decide_true, if_true] at hw ⊢
      rw [show k + (i + 1) = k + 1 + i by omega] at hw ⊢
      exact ih hw

/-- What is waited for, through others too, has been done. -/
theorem befores_closed {S : Nat → Bool} : ∀ (l : List (List Nat)) (acc : List (List Nat)), (∀ (i : Nat) (es : List Nat), l[i]? = some es → S (acc.length + i) = true → ∀ e ∈ es, S e = true) →
    (∀ i, i < acc.length → S i = true → ∀ j ∈ acc.getD i [], S j = true) → ∀ i, S i = true → ∀ j ∈ (befores l acc).getD i [], S j = true
  | [], acc, _, hacc, i, hi, j, hj => by
    simp only [befores] at hj
    rcases Nat.lt_or_ge i acc.length with h | h
    · exact hacc i h hi j hj
    · rw [List.getD_eq_getElem?_getD, List.getElem?_eq_none h] at hj; simp at hj
  | es :: l, acc, hl, hacc, i, hi, j, hj => by
    simp only [befores] at hj
    refine befores_closed l (acc ++ [(es ++ es.flatMap fun j => acc.getD j []).eraseDups]) ?_ ?_ i hi j hj
    · intro i' es' he hS e hm
      rw [List.length_append] at hS
      exact hl (i' + 1) es' (by simpa using he) (by rw [show acc.length + (i' + 1) = acc.length + 1 + i' by omega]; exact hS) e hm
    · intro i' hi' hS j' hj'
      rw [List.length_append] at hi'
      rcases Nat.lt_or_ge i' acc.length with h | h
      · rw [List.getD_eq_getElem?_getD, List.getElem?_append_left h] at hj'
        exact hacc i' h hS j' (by rw [List.getD_eq_getElem?_getD]; exact hj')
      · have e : i' = acc.length := by simp at hi'; omega
        subst e
        have h0 := hl 0 es rfl (by rw [Nat.add_zero]; exact hS)
        rw [List.getD_eq_getElem?_getD, List.getElem?_append_right (Nat.le_refl _)] at hj'
        simp only [Nat.sub_self, List.getElem?_cons_zero, Option.getD_some, List.mem_eraseDups, List.mem_append, List.mem_flatMap] at hj'
        rcases hj' with hj' | ⟨q, hq, hj'⟩
        · exact h0 j' hj'
        · have hSq := h0 q hq
          rcases Nat.lt_or_ge q acc.length with h2 | h2
          · exact hacc q h2 hSq j' hj'
          · rw [List.getD_eq_getElem?_getD, List.getElem?_eq_none h2] at hj'; simp at hj'

theorem tS_step : ∀ {l : List AOper} {tr : List (AV × AHeap)} {k : Nat} {t : List AV} (i : Nat) {o : AOper} {r : AV × AHeap}, l[i]? = some o → tr[i]? = some r →
    tS l tr k (fun j => decide (j < k + i + 1)) t = putT (tS l tr k (fun j => decide (j < k + i)) t) o.dst r.1
  | [], _, _, _, i, _, _, hl, _ => by simp at hl
  | _ :: _, [], _, _, i, _, _, _, hr => by simp at hr
  | o :: l, r :: tr, k, t, 0, o', r', hl, hr => by
    simp at hl hr
    subst hl; subst hr
    simp only [tS, Nat.add_zero, show k < k + 1 by omega, decide_true, if_true, Nat.lt_irrefl, decide_false, Bool.false_eq_true, if_false]
    rw [tS_none (fun j hj => by simp; omega), tS_none (fun j hj => by simp; omega)]
  | o :: l, r :: tr, k, t, i + 1, o', r', hl, hr => by
    simp at hl hr
    simp only [tS, show k < k + (i + 1) + 1 by omega, show k < k + (i + 1) by omega, decide_true, if_true]
    have := tS_step (k := k + 1) (t := putT t o.dst r.1) i hl hr
    rw [show k + (i + 1) + 1 = k + 1 + i + 1 by omega, show k + (i + 1) = k + 1 + i by omega]
    exact this

theorem mapM_get {α β : Type} {f : α → Option β} : ∀ {os : List α} {l : List β}, os.mapM f = some l → l.length = os.length ∧ ∀ (i : Nat) (o : α), os[i]? = some o → ∃ y, f o = some y ∧ l[i]? = some y
  | [], l, h => by simp at h; subst h; exact ⟨rfl, fun i o ho => by simp at ho⟩
  | x :: os, l, h => by
    simp only [List.mapM_cons, Option.pure_def, Option.bind_eq_bind, Option.bind_eq_some_iff] at h
    obtain ⟨y, hy, ys, hys, h⟩ := h
    cases h
    obtain ⟨h1, h2⟩ := mapM_get hys
    refine ⟨by simp [h1], fun i o ho => ?_⟩
    cases i with
    | zero => simp at ho; subst ho; exact ⟨y, hy, rfl⟩
    | succ i => simp at ho; obtain ⟨z, hz, e⟩ := h2 i o ho; exact ⟨z, hz, by simpa using e⟩

section
variable {P : Program} {W0 : Base} {ds : List Deferred}

variable {ro : Option Nat} {n : Nat}

theorem dreg_sound {call rnd : CallF} (hcall : CallsOk P call) (hrnd : RoundsOk P rnd) (hmix : P.follows .mixedOrders = true) {ops : Array Oper} {l : List AOper} (hm : ops.toList.mapM (trOper P ops) = some l)
    (hord : orderOk l (edgesOf ops.toList) (befores (edgesOf ops.toList) []) = true) {m : Env} {H : AHeap} {w : World} {t : List AV} {a : Act} (hr : Rel P.pg W0 m H w) (ht : TRel m t a.tmps) (hd : a.defers = ds)
    {tr : List (AV × AHeap)} (hrun : runD call rnd l t H = some tr) (hst : stableD H tr l (probesOf l (befores (edgesOf ops.toList) [])) tr t = true) {Q : Exit → Act → World → Prop}
    (hQ : Good P W0 ds m (tmpsD l tr t) (heapAt H tr l.length) (Q .normal)) (id : Nat) : (Code.region id ops true).wpIn (Fw ro) n P Q a w := by
  obtain ⟨hll0, hget⟩ := mapM_get hm
  have hll : l.length = ops.size := by simpa using hll0
  have htl := runD_length hrun
  -- the edges
  have hes : ∀ (i : Nat) (o : Oper), ops[i]? = some o → (edgesOf ops.toList)[i]? = some ((o.after.toList.filter fun e => Region.binds .any e).map (·.on)) := by
    intro i o ho
    simp [edgesOf, ho]
  have hesn : ∀ (i : Nat) (es : List Nat), (edgesOf ops.toList)[i]? = some es → ∃ o, ops[i]? = some o ∧ es = (o.after.toList.filter fun e => Region.binds .any e).map (·.on) := by
    intro i es he
    simp only [edgesOf, List.getElem?_map, Option.map_eq_some_iff] at he
    obtain ⟨o, ho, rfl⟩ := he
    exact ⟨o, by simpa using ho, rfl⟩
  generalize hbs : befores (edgesOf ops.toList) [] = bs at *
  -- what is bound stands in order
  have hO : ∀ i, i < l.length → (∀ e ∈ (edgesOf ops.toList).getD i [], e < i) ∧ ∀ j, j < i → ∀ x y, l[j]? = some x → l[i]? = some y → bound x y = true → j ∈ bs.getD i [] := by
    intro i hi
    have h := (List.all_eq_true.1 hord) i (by simp [hi])
    simp only [Bool.and_eq_true] at h
    refine ⟨fun e he => by simpa using (List.all_eq_true.1 h.1) e he, ?_⟩
    intro j hj x y hx hy hb
    have h2 := (List.all_eq_true.1 h.2) j (by simp [hj])
    rw [hx, hy] at h2
    simp only [hb, Bool.not_true, Bool.false_or] at h2
    simpa using h2
  have hlt : ∀ {i : Nat} {o : AOper}, l[i]? = some o → i < l.length := fun h => (List.getElem?_eq_some_iff.1 h).1
  -- closed sets
  have hclosed : ∀ S : Nat → Bool, (∀ (i : Nat) (es : List Nat), (edgesOf ops.toList)[i]? = some es → S i = true → ∀ e ∈ es, S e = true) → ∀ i, S i = true → ∀ j ∈ bs.getD i [], S j = true := by
    intro S hS
    have := befores_closed (S := S) (edgesOf ops.toList) [] (fun i es he hi e hm => hS i es he (by simpa using hi) e hm) (fun i hi => by simp at hi)
    rw [hbs] at this
    exact this
  -- between two changes the heap is one
  have hsame : ∀ q i, q ≤ i → i ≤ l.length → (∀ j o, q ≤ j → j < i → l[j]? = some o → o.op.eff = false) → heapAt H tr q = heapAt H tr i := by
    intro q i hq
    induction i with
    | zero =>
      intro _ _
      have h0 : q = 0 := by omega
      rw [h0]
    | succ i ih =>
      intro hil hno
      rcases Nat.lt_or_ge i q with h1 | h1
      · have : q = i + 1 := by omega
        rw [this]
      · rw [ih h1 (by omega) (fun j o a b c => hno j o a (by omega) c)]
        have hi : i < l.length := by omega
        have hit : i < tr.length := by omega
        obtain ⟨r, hri⟩ : ∃ r, tr[i]? = some r := ⟨_, List.getElem?_eq_getElem hit⟩
        have hf := runD_facts (k := 0) hrun i l[i] r (List.getElem?_eq_getElem hi) hri
        have hne := hno i l[i] h1 (by omega) (List.getElem?_eq_getElem hi)
        unfold evalV at hf
        simp only [hne] at hf
        have h2 : heapAt H tr (i + 1) = r.2 := by simp only [heapAt, hri]
        rw [h2]
        split at hf
        · cases hf; rfl
        · split at hf
          · cases hf; rfl
          · cases hf
  refine wpIn_region_any hmix ?_
  -- the walk through all orders
  have key : ∀ (fuel : Nat) (listed : Array Bool) (p : Nat) (a' : Act) (w' : World), listed.size = ops.size → ((List.range ops.size).filter fun i => !listed.getD i false).length ≤ fuel →
      (∀ i, listed.getD i false = true → i < ops.size) → (∀ (i : Nat) (es : List Nat), (edgesOf ops.toList)[i]? = some es → listed.getD i false = true → ∀ e ∈ es, listed.getD e false = true) →
      (p = 0 ∨ ∃ e o, p = e + 1 ∧ l[e]? = some o ∧ o.op.eff = true ∧ listed.getD e false = true) → (∀ (j : Nat) (o : AOper), l[j]? = some o → o.op.eff = true → listed.getD j false = true → j < p) →
      (∃ m', m.le m' ∧ Rel P.pg W0 m' (heapAt H tr p) w' ∧ TRel m' (tS l tr 0 (fun j => listed.getD j false) t) a'.tmps ∧ a'.defers = ds) →
      wpAnyIn (Fw ro) n P .any ops Q fuel listed a' w' := by
    -- when all is done
    have hfin : ∀ (listed : Array Bool) (p : Nat) (a' : Act) (w' : World), (∀ i, i < ops.size → listed.getD i false = true) →
        (p = 0 ∨ ∃ e o, p = e + 1 ∧ l[e]? = some o ∧ o.op.eff = true ∧ listed.getD e false = true) → (∀ (j : Nat) (o : AOper), l[j]? = some o → o.op.eff = true → listed.getD j false = true → j < p) →
        (∃ m', m.le m' ∧ Rel P.pg W0 m' (heapAt H tr p) w' ∧ TRel m' (tS l tr 0 (fun j => listed.getD j false) t) a'.tmps ∧ a'.defers = ds) → Q .normal a' w' := by
      rintro listed p a' w' hall hp hpm ⟨m', h1, h2, h3, h4⟩
      have hple : p ≤ l.length := by
        rcases hp with rfl | ⟨e, o, rfl, he, _⟩
        · omega
        · exact hlt he
      rw [hsame p l.length hple (Nat.le_refl _) (fun j o hj1 hj2 ho => by
        cases he : o.op.eff with
        | false => rfl
        | true => exact absurd (hpm j o ho he (hall j (by omega))) (by omega))] at h2
      rw [tS_all (fun j o ho => by rw [Nat.zero_add]; exact hall j (by have := hlt ho; omega))] at h3
      exact hQ m' a' w' h1 h2 h3 h4
    intro fuel
    induction fuel with
    | zero =>
      intro listed p a' w' hsz hcount hin hcl hp hpm hstate
      have hall : ∀ i, i < ops.size → listed.getD i false = true := by
        intro i hi
        have h0 : ((List.range ops.size).filter fun i => !listed.getD i false) = [] := List.eq_nil_of_length_eq_zero (by omega)
        have := (List.filter_eq_nil_iff.1 h0) i (by simp [hi])
        simpa using this
      refine ⟨?_, hfin listed p a' w' hall hp hpm hstate⟩
      cases hrd : Region.ready .any ops listed with
      | nil => rfl
      | cons i rest =>
        have hi : i ∈ Region.ready .any ops listed := by rw [hrd]; exact List.mem_cons_self ..
        rw [mem_ready] at hi
        obtain ⟨h0, o, ho, _⟩ := hi
        have hlt2 : i < ops.size := (Array.getElem?_eq_some_iff.1 ho).1
        have h1 := hall i hlt2
        have hls : i < listed.size := by omega
        simp [hls] at h0 h1
        rw [h0] at h1; cases h1
    | succ fuel ih =>
      intro listed p a' w' hsz hcount hin hcl hp hpm hstate
      have hunl : ∀ i, i < ops.size → listed.getD i true = listed.getD i false := by
        intro i hi
        have hls : i < listed.size := by omega
        simp [hls]
      refine ⟨?_, ?_⟩
      · intro hrd
        refine hfin listed p a' w' ?_ hp hpm hstate
        intro i
        induction i using Nat.strongRecOn with
        | _ i ihi =>
          intro hi
          cases hS : listed.getD i false with
          | true => rfl
          | false =>
            exfalso
            have ho : ops[i]? = some ops[i] := Array.getElem?_eq_getElem hi
            have : i ∈ Region.ready .any ops listed := by
              rw [mem_ready]
              refine ⟨by rw [hunl i hi]; exact hS, ops[i], ho, ?_⟩
              intro e he hb
              have hle := (hO i (by omega)).1 e.on (by
                rw [List.getD_eq_getElem?_getD, hes i _ ho]
                simp only [Option.getD_some, List.mem_map, List.mem_filter]
                exact ⟨e, ⟨by simpa using he, hb⟩, rfl⟩)
              exact ihi e.on hle (by omega)
            rw [hrd] at this
            cases this
      · intro i hi
        rw [mem_ready] at hi
        obtain ⟨h0, o, ho, hdeps⟩ := hi
        have hilt : i < ops.size := (Array.getElem?_eq_some_iff.1 ho).1
        rw [hunl i hilt] at h0
        obtain ⟨ao, hao, hli⟩ := hget i o (by simpa using ho)
        obtain ⟨r, hri⟩ : ∃ r, tr[i]? = some r := ⟨_, List.getElem?_eq_getElem (by omega)⟩
        obtain ⟨m', g1, g2, g3, g4⟩ := hstate
        -- what is listed then
        have hnew : ∀ j, (listed.setIfInBounds i true).getD j false = (if j = i then true else listed.getD j false) := by
          intro j
          by_cases hj : j = i
          · subst hj; rw [if_pos rfl]; simp [show j < listed.size by omega]
          · rw [if_neg hj]; exact getD_set_ne false (Ne.symm hj)
        have hcl' : ∀ (j : Nat) (es : List Nat), (edgesOf ops.toList)[j]? = some es → (listed.setIfInBounds i true).getD j false = true → ∀ e ∈ es, (listed.setIfInBounds i true).getD e false = true := by
          intro j es he hj e hm'
          rw [hnew] at hj ⊢
          by_cases hji : j = i
          · subst hji
            obtain ⟨o', ho', rfl⟩ := hesn j es he
            rw [ho] at ho'; cases ho'
            simp only [List.mem_map, List.mem_filter] at hm'
            obtain ⟨ed, ⟨hed, hb⟩, rfl⟩ := hm'
            split
            · rfl
            · exact hdeps ed (by simpa using hed) hb
          · rw [if_neg hji] at hj
            split
            · rfl
            · exact hcl j es he hj e hm'
        have hbef : ∀ j ∈ bs.getD i [], j ≠ i → listed.getD j false = true := by
          intro j hj hne
          have := hclosed (fun j => (listed.setIfInBounds i true).getD j false) hcl' i (by show (listed.setIfInBounds i true).getD i false = true; rw [hnew, if_pos rfl]) j hj
          have h2 : (listed.setIfInBounds i true).getD j false = true := this
          rw [hnew, if_neg hne] at h2
          exact h2
        have hbeh : ∀ j, i ∈ bs.getD j [] → listed.getD j false = false := by
          intro j hj
          cases hS : listed.getD j false with
          | false => rfl
          | true =>
            have : listed.getD i false = true := hclosed (fun j => listed.getD j false) hcl j hS i hj
            rw [h0] at this; cases this
        -- those that are bound to it
        have hbd1 : ∀ j x, l[j]? = some x → j < i → bound x ao = true → listed.getD j false = true := fun j x hx hj hb => hbef j ((hO i (by omega)).2 j hj x ao hx hli hb) (by omega)
        have hbd2 : ∀ j x, l[j]? = some x → i < j → bound ao x = true → listed.getD j false = false := fun j x hx hj hb => hbeh j ((hO j (hlt hx)).2 i hj ao x hli hx hb)
        -- the slots that it reads
        have hread : ∀ d ∈ ao.reads, (tS l tr 0 (fun j => listed.getD j false) t)[d]? = (tS l tr 0 (fun j => decide (j < 0 + i)) t)[d]? := by
          intro d hdr
          refine tS_agree rfl (fun j x hx hxd => ?_) rfl
          simp only [Nat.zero_add]
          rcases Nat.lt_trichotomy j i with hj | hj | hj
          · rw [hbd1 j x hx hj (by simp only [bound, hxd]; simp [hdr])]; simp [hj]
          · subst hj; rw [h0]; simp
          · rw [hbd2 j x hx hj (by simp only [bound, hxd]; simp [hdr])]; simp; omega
        have hev0 := runD_facts (k := 0) hrun i ao r hli hri
        rw [← evalV_congr hread] at hev0
        -- the heap there
        have hple : p ≤ i ∨ ao.op.eff = false := by
          cases he : ao.op.eff with
          | false => exact .inr rfl
          | true =>
            left
            rcases hp with rfl | ⟨e, x, rfl, hx, hxe, hS⟩
            · omega
            · rcases Nat.lt_trichotomy e i with hj | hj | hj
              · omega
              · subst hj; rw [h0] at hS; cases hS
              · rw [hbd2 e x hx hj (by simp [bound, he, hxe])] at hS; cases hS
        have hstep : ∃ p', evalV call rnd ao (tS l tr 0 (fun j => listed.getD j false) t) (heapAt H tr p) = some (r.1, heapAt H tr p') ∧
            ((ao.op.eff = true ∧ p' = i + 1) ∨ (ao.op.eff = false ∧ p' = p)) := by
          cases he : ao.op.eff with
          | true =>
            refine ⟨i + 1, ?_, .inl ⟨rfl, rfl⟩⟩
            have hpi : p ≤ i := hple.resolve_right (by rw [he]; simp)
            rw [hsame p i hpi (by omega) (fun j x hj1 hj2 hx => by
              cases hxe : x.op.eff with
              | false => rfl
              | true => exact absurd (hpm j x hx hxe (hbd1 j x hx hj2 (by simp [bound, he, hxe]))) (by omega))]
            rw [hev0]
            have : heapAt H tr (i + 1) = r.2 := by simp only [heapAt, hri]
            rw [this]
          | false =>
            refine ⟨p, ?_, .inr ⟨rfl, rfl⟩⟩
            unfold evalV at hev0 ⊢
            simp only [he] at hev0 ⊢
            cases hw : wantA ao (tS l tr 0 (fun j => listed.getD j false) t) with
            | false =>
              simp only [hw] at hev0 ⊢
              cases hev0; rfl
            | true =>
              simp only [hw] at hev0 ⊢
              split at hev0
              · rename_i v hv
                cases hev0
                have : evalP ao.op (tS l tr 0 (fun j => listed.getD j false) t) (heapAt H tr p) = some v := by
                  cases hlk : ao.op.looks with
                  | false => rw [evalP_blind hlk (heapAt H tr p) (heapAt H tr i)]; exact hv
                  | true =>
                    have hpr : (probesOf l bs)[i]? = some (probesAt l bs i) := by
                      unfold probesOf
                      rw [List.getElem?_map, List.getElem?_range (by omega)]
                      simp only [Option.map_some, hli, hlk, if_true]
                    have hread' : ∀ d ∈ ao.op.tmps, (tS l tr 0 (fun j => listed.getD j false) t)[d]? = (tS l tr 0 (fun j => decide (j < 0 + i)) t)[d]? := fun d hd' => hread d (by simp only [AOper.reads, List.mem_append]; exact .inl hd')
                    rw [evalP_congr hread']
                    refine stableD_facts (k := 0) hst i ao (v, heapAt H tr i) _ hli hri hpr he (by rw [← wantA_congr hread]; exact hw) p ?_
                    unfold probesAt
                    rw [List.mem_filter]
                    refine ⟨?_, ?_⟩
                    · rcases hp with rfl | ⟨e, x, rfl, hx, hxe, _⟩
                      · exact List.mem_cons_self ..
                      · refine List.mem_cons_of_mem _ (List.mem_map.2 ⟨e, ?_, rfl⟩)
                        rw [List.mem_filter, List.mem_range]
                        exact ⟨hlt hx, by unfold effAt; rw [hx]; exact hxe⟩
                    · rw [List.all_eq_true]
                      intro j hj
                      unfold probeOk effAt
                      cases hx : l[j]? with
                      | none => rfl
                      | some x =>
                        simp only
                        cases hxe : x.op.eff with
                        | false => rfl
                        | true =>
                          simp only [Bool.not_true, Bool.false_or, Bool.and_eq_true, Bool.or_eq_true, Bool.not_eq_true', decide_eq_true_eq, decide_eq_false_iff_not]
                          refine ⟨?_, ?_⟩
                          · cases hc : (bs.getD i []).contains j with
                            | false => exact .inl rfl
                            | true =>
                              right
                              have hmem : j ∈ bs.getD i [] := by simpa using hc
                              have hji : j ≠ i := by rintro rfl; rw [hli] at hx; cases hx; rw [he] at hxe; cases hxe
                              exact hpm j x hx hxe (hbef j hmem hji)
                          · cases hc : (bs.getD j []).contains i with
                            | false => exact .inl rfl
                            | true =>
                              right
                              intro hjp
                              have hmem : i ∈ bs.getD j [] := by simpa using hc
                              have hnS := hbeh j hmem
                              rcases hp with rfl | ⟨e, y, rfl, hy, hye, hS⟩
                              · omega
                              · rcases Nat.lt_or_ge j e with hje | hje
                                · have hje2 := (hO e (hlt hy)).2 j hje x y hx hy (by simp [bound, hxe, hye])
                                  have : listed.getD j false = true := hclosed (fun j => listed.getD j false) hcl e hS j hje2
                                  rw [hnS] at this; cases this
                                · have : j = e := by omega
                                  subst this
                                  rw [hnS] at hS; cases hS
                rw [this]
              · cases hev0
        obtain ⟨p', hev, hp'⟩ := hstep
        have hevO : evalO call rnd ao (tS l tr 0 (fun j => listed.getD j false) t) (heapAt H tr p) = some (putT (tS l tr 0 (fun j => listed.getD j false) t) ao.dst r.1, heapAt H tr p') := by
          unfold evalO; rw [hev]
        -- the slots then
        have htS : putT (tS l tr 0 (fun j => listed.getD j false) t) ao.dst r.1 = tS l tr 0 (fun j => (listed.setIfInBounds i true).getD j false) t := by
          apply List.ext_getElem?
          intro s
          rw [putT_get, tS_length]
          by_cases hs : ao.dst = some s
          · rw [if_pos hs]
            have h1 : (tS l tr 0 (fun j => (listed.setIfInBounds i true).getD j false) t)[s]? = (tS l tr 0 (fun j => decide (j < 0 + i + 1)) t)[s]? := by
              refine tS_agree rfl (fun j x hx hxd => ?_) rfl
              simp only [Nat.zero_add]
              rw [hnew]
              rcases Nat.lt_trichotomy j i with hj | hj | hj
              · rw [if_neg (by omega), hbd1 j x hx hj (by simp only [bound, hxd, hs]; simp)]; simp; omega
              · subst hj; simp
              · rw [if_neg (by omega), hbd2 j x hx hj (by simp only [bound, hxd, hs]; simp)]; simp; omega
            rw [h1, tS_step (k := 0) i hli hri, putT_get, if_pos hs, tS_length]
          · rw [if_neg hs]
            refine tS_agree rfl (fun j x hx hxd => ?_) rfl
            simp only [Nat.zero_add]
            rw [hnew, if_neg]
            rintro rfl
            rw [hli] at hx; cases hx
            exact hs hxd
        unfold wpOpIn
        rw [ho]
        refine evalO_sound (ro := ro) (n := n) (W0 := W0) hcall hrnd g2 g3 g4 hao hevO ?_
        intro m2 a2 w2 k1 k2 k3 k4
        refine ih (listed.setIfInBounds i true) p' a2 w2 (by simp [hsz]) ?_ ?_ hcl' ?_ ?_ ⟨m2, Env.le_trans g1 k1, k2, by rw [← htS]; exact k3, k4⟩
        · have hsub : ((List.range ops.size).filter fun j => !(listed.setIfInBounds i true).getD j false).length + 1 ≤ ((List.range ops.size).filter fun j => !listed.getD j false).length := by
            rw [← List.countP_eq_length_filter, ← List.countP_eq_length_filter]
            have hgen : ∀ (L : List Nat), i ∈ L → (L.countP fun j => !(listed.setIfInBounds i true).getD j false) + 1 ≤ L.countP fun j => !listed.getD j false := by
              intro L
              have hmono : ∀ (L : List Nat), (L.countP fun j => !(listed.setIfInBounds i true).getD j false) ≤ L.countP fun j => !listed.getD j false := by
                intro L
                refine List.countP_mono_left (fun j _ hj => ?_)
                rw [hnew] at hj
                split at hj
                · simp at hj
                · exact hj
              induction L with
              | nil => intro h; cases h
              | cons x L ihL =>
                intro hx
                rw [List.countP_cons, List.countP_cons]
                by_cases hxi : x = i
                · subst hxi
                  rw [hnew, if_pos rfl, h0]
                  have := hmono L
                  simp only [Bool.not_true, Bool.false_eq_true, if_false, Bool.not_false, if_true, Nat.add_zero]
                  omega
                · have hm2 := ihL ((List.mem_cons.1 hx).resolve_left (Ne.symm hxi))
                  rw [hnew, if_neg hxi]
                  omega
            exact hgen _ (by simp [hilt])
          omega
        · intro j hj
          rw [hnew] at hj
          split at hj
          · rename_i hji; rw [hji]; exact hilt
          · exact hin j hj
        · rcases hp' with ⟨he, rfl⟩ | ⟨he, rfl⟩
          · exact .inr ⟨i, ao, rfl, hli, he, by rw [hnew, if_pos rfl]⟩
          · rcases hp with rfl | ⟨e, x, rfl, hx, hxe, hS⟩
            · exact .inl rfl
            · exact .inr ⟨e, x, rfl, hx, hxe, by rw [hnew]; split; rfl; exact hS⟩
        · intro j x hx hxe hS
          rw [hnew] at hS
          rcases hp' with ⟨he, rfl⟩ | ⟨he, rfl⟩
          · rcases Nat.lt_trichotomy j i with hj | hj | hj
            · omega
            · omega
            · rw [if_neg (by omega), hbd2 j x hx hj (by simp [bound, he, hxe])] at hS; cases hS
          · split at hS
            · rename_i hji; subst hji; rw [hli] at hx; cases hx; rw [he] at hxe; cases hxe
            · exact hpm j x hx hxe hS
  refine key ops.size _ 0 a w.drew (by simp) ?_ ?_ ?_ (.inl rfl) ?_ ⟨m, Env.le_refl m, hr.drew, ?_, hd⟩
  · exact Nat.le_trans (List.length_filter_le _ _) (by simp)
  · intro i hi
    rcases Nat.lt_or_ge i ops.size with h | h
    · exact h
    · simp [Array.getElem?_eq_none (show (Array.replicate ops.size false).size ≤ i by simp; omega)] at hi
  · intro i es _ hi
    exfalso
    rcases Nat.lt_or_ge i ops.size with h | h
    · simp [h] at hi
    · simp [Array.getElem?_eq_none (show (Array.replicate ops.size false).size ≤ i by simp; omega)] at hi
  · intro j o _ _ hi
    exfalso
    rcases Nat.lt_or_ge j ops.size with h | h
    · simp [h] at hi
    · simp [Array.getElem?_eq_none (show (Array.replicate ops.size false).size ≤ j by simp; omega)] at hi
  · rw [tS_none (fun j _ => ?_)]
    · exact ht
    · rcases Nat.lt_or_ge j ops.size with h | h
      · simp [h]
      · simp [Array.getElem?_eq_none (show (Array.replicate ops.size false).size ≤ j by simp; omega)]

end
end Go.AM
