/- The small machine without a count of steps: what it comes to at some count it comes to at every greater one; 'lim' is that. -/
import Derived.Test.YtkajahlgiglliaaGreatDoorAm14
namespace Go.AM

/-- One knows no less than another one. -/
def CallF.le (c c' : CallF) : Prop := ∀ f args H r, c f args H = some r → c' f args H = some r
def Ev.le (e e' : Ev) : Prop := ∀ c t H r, e c t H = some r → e' c t H = some r

section
variable {call call' rnd rnd' : CallF}

theorem evalE_mono (h : call.le call') (h' : rnd.le rnd') {op : AOp} {t : List AV} {H : AHeap} {r : AV × AHeap} (e : evalE call rnd op t H = some r) : evalE call' rnd' op t H = some r := by
  cases op
  case call f args => exact h _ _ _ _ e
  case callv x args =>
    simp only [evalE] at e ⊢
    split at e
    · exact h _ _ _ _ e
    · exact h' _ _ _ _ e
    · cases e
  all_goals exact e

theorem evalV_mono (h : call.le call') (h' : rnd.le rnd') {o : AOper} {t : List AV} {H : AHeap} {r : AV × AHeap} (e : evalV call rnd o t H = some r) : evalV call' rnd' o t H = some r := by
  unfold evalV at e ⊢
  split at e
  · exact e
  · split at e
    · exact evalE_mono h h' e
    · exact e

theorem evalO_mono (h : call.le call') (h' : rnd.le rnd') {o : AOper} {t : List AV} {H : AHeap} {r : List AV × AHeap} (e : evalO call rnd o t H = some r) : evalO call' rnd' o t H = some r := by
  unfold evalO at e ⊢
  split at e
  · rename_i r' hr
    rw [evalV_mono h h' hr]; exact e
  · cases e

theorem evalOs_mono (h : call.le call') (h' : rnd.le rnd') : ∀ {l : List AOper} {t : List AV} {H : AHeap} {r : List AV × AHeap}, evalOs call rnd l t H = some r → evalOs call' rnd' l t H = some r
  | [], _, _, _, e => e
  | o :: l, t, H, r, e => by
    simp only [evalOs] at e ⊢
    split at e
    · rename_i r' hr
      rw [evalO_mono h h' hr]
      exact evalOs_mono h h' e
    · cases e

theorem runD_mono (h : call.le call') (h' : rnd.le rnd') : ∀ {l : List AOper} {t : List AV} {H : AHeap} {r : List (AV × AHeap)}, runD call rnd l t H = some r → runD call' rnd' l t H = some r
  | [], _, _, _, e => e
  | o :: l, t, H, r, e => by
    simp only [runD] at e ⊢
    split at e
    · rename_i r' hr
      rw [evalV_mono h h' hr]
      simp only
      split at e
      · rename_i rest hrest
        rw [runD_mono h h' hrest]; exact e
      · cases e
    · cases e
end

section
variable {A : FuncId → Option ADef} {ev ev' : Ev}

theorem callA_mono (h : ev.le ev') : (callA A ev).le (callA A ev') := by
  intro f args H r e
  unfold callA at e ⊢
  split at e
  · rename_i fn hf
    split at e
    · rename_i t H' hex; rw [h _ _ _ _ hex]; exact e
    · rename_i t H' hex; rw [h _ _ _ _ hex]; exact e
    · cases e
  · exact e
  · cases e

theorem roundA_mono (h : ev.le ev') : (roundA ev).le (roundA ev') := by
  intro i args H r e
  unfold roundA at e ⊢
  split at e
  case h_2 => cases e
  rename_i t ps asg body hg
  split at e
  case h_2 => cases e
  split at e
  case h_2 => cases e
  rename_i t1 H1 h1
  split at e
  case h_2 => cases e
  rename_i t2 ps2 asg2 body2 hg1
  split at e
  case h_2 => cases e
  rename_i x t3 H2 h2
  simp only [h _ _ _ _ h1, hg1, h _ _ _ _ h2]
  exact e

theorem rangeA_mono {call call' : CallF} (h : call.le call') {g : AV} {t : List AV} {ps : List Nat} {asg body : ACode} {H : AHeap} {r} (e : rangeA call g t ps asg body H = some r) : rangeA call' g t ps asg body H = some r := by
  unfold rangeA at e ⊢
  split at e
  case h_2 => cases e
  split at e
  case h_2 => cases e
  rename_i r1 h1
  simp only [h _ _ _ _ h1]
  exact e

theorem stepA_mono (h : ev.le ev') : (stepA A ev).le (stepA A ev') := by
  intro c t H r e
  cases c <;> simp only [stepA] at e ⊢
  case skip => exact e
  case reg ops =>
    split at e
    · rename_i r' hr; rw [evalOs_mono (callA_mono h) (roundA_mono h) hr]; exact e
    · cases e
  case dreg ops ps =>
    split at e
    · rename_i tr hr; rw [runD_mono (callA_mono h) (roundA_mono h) hr]; exact e
    · cases e
  case seq a b =>
    split at e
    · rename_i t' H' hr; rw [h _ _ _ _ hr]; exact h _ _ _ _ e
    · rename_i hne
      rw [h _ _ _ _ e]
      split
      · rename_i t' H' hr; cases hr; exact absurd e (hne _ _)
      · rfl
  case cond c a b =>
    split at e
    · exact h _ _ _ _ e
    · exact h _ _ _ _ e
    · cases e
  case block id b =>
    split at e
    · rename_i j t' H' hr
      rw [h _ _ _ _ hr]
      exact e
    · rename_i hne
      rw [h _ _ _ _ e]
      split
      · rename_i j t' H' hr; cases hr; exact absurd e (hne _ _ _)
      · rfl
  case loop b =>
    split at e
    · rename_i t' H' hr; rw [h _ _ _ _ hr]; exact h _ _ _ _ e
    · rename_i hne
      rw [h _ _ _ _ e]
      split
      · rename_i t' H' hr; cases hr; exact absurd e (hne _ _)
      · rfl
  case exit id => exact e
  case ret => exact e
  case rangeF g ps asg body => exact rangeA_mono (callA_mono h) e
  case bad => cases e

theorem exec_step (A : FuncId → Option ADef) (n : Nat) : (exec A n).le (exec A (n + 1)) := by
  induction n with
  | zero => intro c t H r e; simp [exec] at e
  | succ n ih => exact stepA_mono ih

theorem exec_le (A : FuncId → Option ADef) {n k : Nat} (h : n ≤ k) : (exec A n).le (exec A k) := by
  induction h with
  | refl => exact fun _ _ _ _ e => e
  | step _ ih => exact fun c t H r e => exec_step A _ c t H r (ih c t H r e)

end

open Classical in
/-- What a statement comes to, at whatever count of steps. -/
noncomputable def lim (A : FuncId → Option ADef) : Ev := fun c t H =>
  if h : ∃ n r, exec A n c t H = some r then some (Classical.choose (Classical.choose_spec h)) else none

section
variable {A : FuncId → Option ADef}

theorem of_lim {c : ACode} {t : List AV} {H : AHeap} {r : AExit × List AV × AHeap} (e : lim A c t H = some r) : ∃ n, exec A n c t H = some r := by
  unfold lim at e
  split at e
  · rename_i h
    refine ⟨Classical.choose h, ?_⟩
    rw [Classical.choose_spec (Classical.choose_spec h)]
    exact e
  · cases e

theorem lim_of {n : Nat} {c : ACode} {t : List AV} {H : AHeap} {r : AExit × List AV × AHeap} (e : exec A n c t H = some r) : lim A c t H = some r := by
  have h : ∃ n r, exec A n c t H = some r := ⟨n, r, e⟩
  have h2 : lim A c t H = some (Classical.choose (Classical.choose_spec h)) := by unfold lim; rw [dif_pos h]
  obtain ⟨k, hk⟩ := of_lim h2
  have e1 := exec_le A (Nat.le_max_left n k) _ _ _ _ e
  have e2 := exec_le A (Nat.le_max_right n k) _ _ _ _ hk
  rw [e1] at e2
  rw [h2]; exact e2.symm

theorem exec_le_lim (n : Nat) : (exec A n).le (lim A) := fun _ _ _ _ e => lim_of e

/-- What needs 'lim' needs a count alone. -/
theorem call_of_lim {f : FuncId} {args : List AV} {H : AHeap} {r : AV × AHeap} (e : callA A (lim A) f args H = some r) : ∃ n, callA A (exec A n) f args H = some r := by
  unfold callA at e
  split at e
  · rename_i fn hf
    have key : ∀ x t H', lim A fn.body (args ++ undefs (fn.ntmps - args.length)) H = some (x, t, H') → (x = .norm ∨ x = .ret) → ((resA H' t fn.res).map fun l => (resOf l, H')) = some r → ∃ n, callA A (exec A n) f args H = some r := by
      intro x t H' hex hx hr
      obtain ⟨n, hn⟩ := of_lim hex
      refine ⟨n, ?_⟩
      unfold callA
      rw [hf]
      simp only [hn]
      rcases hx with rfl | rfl <;> exact hr
    split at e
    · rename_i t H' hex; exact key _ _ _ hex (.inl rfl) e
    · rename_i t H' hex; exact key _ _ _ hex (.inr rfl) e
    · cases e
  · rename_i g hg
    exact ⟨0, by unfold callA; rw [hg]; exact e⟩
  · cases e

theorem round_of_lim {i : Nat} {args : List AV} {H : AHeap} {r : AV × AHeap} (e : roundA (lim A) i args H = some r) : ∃ n, roundA (exec A n) i args H = some r := by
  unfold roundA at e
  split at e
  case h_2 => cases e
  rename_i t ps asg body hg
  split at e
  case h_2 => cases e
  rename_i hlen
  split at e
  case h_2 => cases e
  rename_i t1 H1 h1
  split at e
  case h_2 => cases e
  rename_i t2 ps2 asg2 body2 hg1
  split at e
  case h_2 => cases e
  rename_i x t3 H2 h2
  obtain ⟨n, hn⟩ := of_lim h1
  obtain ⟨k, hk⟩ := of_lim h2
  refine ⟨max n k, ?_⟩
  unfold roundA
  simp only [hg, hlen, exec_le A (Nat.le_max_left n k) _ _ _ _ hn, hg1, exec_le A (Nat.le_max_right n k) _ _ _ _ hk]
  exact e

theorem range_of_lim {g : AV} {t : List AV} {ps : List Nat} {asg body : ACode} {H : AHeap} {r} (e : rangeA (callA A (lim A)) g t ps asg body H = some r) : ∃ n, rangeA (callA A (exec A n)) g t ps asg body H = some r := by
  unfold rangeA at e
  split at e
  case h_2 => cases e
  split at e
  case h_2 => cases e
  rename_i r1 h1
  obtain ⟨n, hn⟩ := call_of_lim h1
  refine ⟨n, ?_⟩
  unfold rangeA
  simp only [hn]
  exact e

theorem call_lim_of {n : Nat} {f : FuncId} {args : List AV} {H : AHeap} {r : AV × AHeap} (e : callA A (exec A n) f args H = some r) : callA A (lim A) f args H = some r :=
  callA_mono (exec_le_lim n) _ _ _ _ e

theorem evalE_lim {op : AOp} {t : List AV} {H : AHeap} {r : AV × AHeap} (e : evalE (callA A (lim A)) (roundA (lim A)) op t H = some r) : ∃ n, evalE (callA A (exec A n)) (roundA (exec A n)) op t H = some r := by
  cases op
  case call f args => exact call_of_lim e
  case callv x args =>
    simp only [evalE] at e ⊢
    split at e
    · exact call_of_lim e
    · exact round_of_lim e
    · cases e
  all_goals exact ⟨0, e⟩

theorem evalV_lim {o : AOper} {t : List AV} {H : AHeap} {r : AV × AHeap} (e : evalV (callA A (lim A)) (roundA (lim A)) o t H = some r) : ∃ n, evalV (callA A (exec A n)) (roundA (exec A n)) o t H = some r := by
  unfold evalV at e ⊢
  split at e
  · exact ⟨0, e⟩
  · split at e
    · exact evalE_lim e
    · exact ⟨0, e⟩

theorem evalOs_lim : ∀ {l : List AOper} {t : List AV} {H : AHeap} {r : List AV × AHeap}, evalOs (callA A (lim A)) (roundA (lim A)) l t H = some r → ∃ n, evalOs (callA A (exec A n)) (roundA (exec A n)) l t H = some r
  | [], _, _, _, e => ⟨0, e⟩
  | o :: l, t, H, r, e => by
    simp only [evalOs, evalO] at e ⊢
    split at e
    · rename_i r' hr
      split at hr
      · rename_i r2 hr2
        cases hr
        obtain ⟨n, hn⟩ := evalV_lim hr2
        obtain ⟨k, hk⟩ := evalOs_lim e
        refine ⟨max n k, ?_⟩
        rw [evalV_mono (callA_mono (exec_le A (Nat.le_max_left n k))) (roundA_mono (exec_le A (Nat.le_max_left n k))) hn]
        exact evalOs_mono (callA_mono (exec_le A (Nat.le_max_right n k))) (roundA_mono (exec_le A (Nat.le_max_right n k))) hk
      · cases hr
    · cases e

theorem runD_lim : ∀ {l : List AOper} {t : List AV} {H : AHeap} {r : List (AV × AHeap)}, runD (callA A (lim A)) (roundA (lim A)) l t H = some r → ∃ n, runD (callA A (exec A n)) (roundA (exec A n)) l t H = some r
  | [], _, _, _, e => ⟨0, e⟩
  | o :: l, t, H, r, e => by
    simp only [runD] at e ⊢
    split at e
    · rename_i r' hr
      split at e
      · rename_i rest hrest
        cases e
        obtain ⟨n, hn⟩ := evalV_lim hr
        obtain ⟨k, hk⟩ := runD_lim hrest
        refine ⟨max n k, ?_⟩
        rw [evalV_mono (callA_mono (exec_le A (Nat.le_max_left n k))) (roundA_mono (exec_le A (Nat.le_max_left n k))) hn]
        simp only
        rw [runD_mono (callA_mono (exec_le A (Nat.le_max_right n k))) (roundA_mono (exec_le A (Nat.le_max_right n k))) hk]
      · cases e
    · cases e

theorem step_of_lim {c : ACode} {t : List AV} {H : AHeap} {r : AExit × List AV × AHeap} (e : stepA A (lim A) c t H = some r) : ∃ n, stepA A (exec A n) c t H = some r := by
  have two : ∀ {c1 c2 : ACode} {t1 t2 : List AV} {H1 H2 : AHeap} {r1 r2}, lim A c1 t1 H1 = some r1 → lim A c2 t2 H2 = some r2 → ∃ n, exec A n c1 t1 H1 = some r1 ∧ exec A n c2 t2 H2 = some r2 := by
    intro c1 c2 t1 t2 H1 H2 r1 r2 e1 e2
    obtain ⟨n, hn⟩ := of_lim e1
    obtain ⟨k, hk⟩ := of_lim e2
    exact ⟨max n k, exec_le A (Nat.le_max_left n k) _ _ _ _ hn, exec_le A (Nat.le_max_right n k) _ _ _ _ hk⟩
  cases c <;> simp only [stepA] at e ⊢
  case skip => exact ⟨0, e⟩
  case reg ops =>
    split at e
    · rename_i r' hr; obtain ⟨n, hn⟩ := evalOs_lim hr; exact ⟨n, by rw [hn]; exact e⟩
    · cases e
  case dreg ops ps =>
    split at e
    · rename_i tr hr; obtain ⟨n, hn⟩ := runD_lim hr; exact ⟨n, by rw [hn]; exact e⟩
    · cases e
  case seq a b =>
    split at e
    · rename_i t' H' hr; obtain ⟨n, h1, h2⟩ := two hr e; exact ⟨n, by rw [h1]; exact h2⟩
    · rename_i hne
      obtain ⟨n, hn⟩ := of_lim e
      refine ⟨n, ?_⟩
      rw [hn]
      split
      · rename_i t' H' hr; cases hr; exact absurd e (hne _ _)
      · rfl
  case cond c a b =>
    split at e
    · exact of_lim e
    · exact of_lim e
    · cases e
  case block id b =>
    split at e
    · rename_i j t' H' hr; obtain ⟨n, hn⟩ := of_lim hr; exact ⟨n, by rw [hn]; exact e⟩
    · rename_i hne
      obtain ⟨n, hn⟩ := of_lim e
      refine ⟨n, ?_⟩
      rw [hn]
      split
      · rename_i j t' H' hr; cases hr; exact absurd e (hne _ _ _)
      · rfl
  case loop b =>
    split at e
    · rename_i t' H' hr; obtain ⟨n, h1, h2⟩ := two hr e; exact ⟨n, by rw [h1]; exact h2⟩
    · rename_i hne
      obtain ⟨n, hn⟩ := of_lim e
      refine ⟨n, ?_⟩
      rw [hn]
      split
      · rename_i t' H' hr; cases hr; exact absurd e (hne _ _)
      · rfl
  case exit id => exact ⟨0, e⟩
  case ret => exact ⟨0, e⟩
  case rangeF g ps asg body => exact range_of_lim e
  case bad => cases e

theorem lim_eq (A : FuncId → Option ADef) (c : ACode) (t : List AV) (H : AHeap) : lim A c t H = stepA A (lim A) c t H := by
  cases e : stepA A (lim A) c t H with
  | some r =>
    obtain ⟨n, hn⟩ := step_of_lim e
    exact lim_of (n := n + 1) hn
  | none =>
    cases e2 : lim A c t H with
    | none => rfl
    | some r =>
      obtain ⟨n, hn⟩ := of_lim e2
      cases n with
      | zero => simp [exec] at hn
      | succ n =>
        have := stepA_mono (exec_le_lim n) c t H r hn
        rw [e] at this; cases this

end

/-- A statement's meaning, loops and calls apart. -/
def den (call rnd : CallF) (loopF : Ev) : ACode → List AV → AHeap → Out
  | .skip, t, H => some (.norm, t, H)
  | .reg ops, t, H => match evalOs call rnd ops t H with
    | some r => some (.norm, r.1, r.2)
    | none => none
  | .dreg ops probes, t, H => match runD call rnd ops t H with
    | some tr => match stableD H tr ops probes tr t with
      | true => some (.norm, tmpsD ops tr t, heapAt H tr ops.length)
      | false => none
    | none => none
  | .seq a b, t, H => match den call rnd loopF a t H with
    | some (.norm, t', H') => den call rnd loopF b t' H'
    | r => r
  | .cond c a b, t, H => match c.ev t with
    | .bool true => den call rnd loopF a t H
    | .bool false => den call rnd loopF b t H
    | _ => none
  | .block id b, t, H => match den call rnd loopF b t H with
    | some (.exit j, t', H') => match Nat.beq j id with
      | true => some (.norm, t', H')
      | false => some (.exit j, t', H')
    | r => r
  | .loop b, t, H => loopF b t H
  | .exit id, t, H => some (.exit id, t, H)
  | .ret, t, H => some (.ret, t, H)
  | .rangeF g ps asg body, t, H => rangeA call (g.ev t) t ps asg body H
  | .bad, _, _ => none

/-- The functions of a table. -/
noncomputable def fnA (A : FuncId → Option ADef) : CallF := callA A (lim A)
/-- The rounds of loops over functions. -/
noncomputable def roA (A : FuncId → Option ADef) : CallF := roundA (lim A)
/-- The loops. -/
noncomputable def loA (A : FuncId → Option ADef) : Ev := fun b => lim A (.loop b)

theorem lim_den (A : FuncId → Option ADef) : ∀ (c : ACode) (t : List AV) (H : AHeap), lim A c t H = den (fnA A) (roA A) (loA A) c t H := by
  intro c
  induction c with
  | skip => intro t H; rw [lim_eq]; rfl
  | reg ops => intro t H; rw [lim_eq]; rfl
  | dreg ops ps => intro t H; rw [lim_eq]; rfl
  | seq a b iha ihb =>
    intro t H
    rw [lim_eq]
    simp only [stepA, den, iha, ihb]
    rfl
  | cond c a b iha ihb => intro t H; rw [lim_eq]; simp only [stepA, den, iha, ihb]; rfl
  | block id b ih => intro t H; rw [lim_eq]; simp only [stepA, den, ih]; rfl
  | loop b ih => intro t H; rfl
  | exit id => intro t H; rw [lim_eq]; rfl
  | ret => intro t H; rw [lim_eq]; rfl
  | rangeF g ps asg body => intro t H; rw [lim_eq]; rfl
  | bad => intro t H; rw [lim_eq]; rfl

/-- A loop: a round, and the loop again. -/
theorem loA_eq (A : FuncId → Option ADef) (b : ACode) (t : List AV) (H : AHeap) : loA A b t H = match den (fnA A) (roA A) (loA A) b t H with
    | some (.norm, t', H') => loA A b t' H'
    | r => r := by
  show lim A (.loop b) t H = _
  rw [lim_eq]
  simp only [stepA, lim_den A b]
  rfl

theorem fnA_eq {A : FuncId → Option ADef} {f : FuncId} {fn : AFn} (h : A f = some (.code fn)) (args : List AV) (H : AHeap) : fnA A f args H = match den (fnA A) (roA A) (loA A) fn.body (args ++ undefs (fn.ntmps - args.length)) H with
    | some (.norm, t, H') | some (.ret, t, H') => (resA H' t fn.res).map fun l => (resOf l, H')
    | _ => none := by
  show callA A (lim A) f args H = _
  unfold callA
  rw [h]
  simp only [lim_den A fn.body]
  rfl

/-- A round: the assignment, the body, the record. -/
theorem roA_eq (A : FuncId → Option ADef) (i : Nat) (args : List AV) (H : AHeap) : roA A i args H = roundA (den (fnA A) (roA A) (loA A)) i args H := by
  show roundA (lim A) i args H = _
  have : lim A = den (fnA A) (roA A) (loA A) := by funext c t H; exact lim_den A c t H
  rw [← this]

end Go.AM
