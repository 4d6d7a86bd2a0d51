/- What the small machine runs the program runs: operations one after another, statements, functions. -/
import Derived.Test.YtkajahlgiglliaaGreatDoorAm11
import Derived.RangeFuncCalls
import Derived.RangeFuncLeaves
import Derived.OrdersIn
import Derived.LoopNIn
namespace Go.AM

/-- A function of the program does what 'sem' says. -/
def SimFn (P : Program) (f : FuncId) (sem : List AV → AHeap → Option (AV × AHeap)) : Prop :=
  ∀ {W0 : Base} {m : Env} {H : AHeap} {w : World} {args : List AV} {args' : Array Value} {r : AV} {H' : AHeap}, sem args H = some (r, H') → Rel P.pg W0 m H w → toVs m args = some args'.toList →
    Calls P f args' w fun e w' => ∃ m' v, m.le m' ∧ Rel P.pg W0 m' H' w' ∧ r.toV m' = some v ∧ e = .returned v

/-- The function is there, with a body. -/
def HasBody (P : Program) (f : FuncId) : Prop := ∃ fn, P.funcs[f]? = some fn ∧ (fn.name == "runtime.NumGoroutine") = false ∧ fn.body.isNone = false

/-- The table tells the truth about each function: its code is translated, or its meaning is proved. -/
def TableOk (P : Program) (A : FuncId → Option ADef) : Prop :=
  ∀ f d, A f = some d → HasBody P f ∧ match d with
    | .code fn => trFn P f = some fn
    | .prim g => SimFn P f g

section
variable {P : Program} {W0 : Base} {m : Env} {H : AHeap} {w : World} {t : List AV} {a : Act} {ds : List Deferred}

theorem inv_yld {i : Nat} {v : Value} (h : (AV.yld i).toV m = some v) : ∃ q, m i = some q ∧ v = .func (.yield q.1) #[] #[] := by
  simp only [AV.toV, Option.map_eq_some_iff] at h; obtain ⟨q, hq, rfl⟩ := h; exact ⟨q, hq, rfl⟩

theorem callFunc_run {f : FuncId} (hb : HasBody P f) (args : Array Value) : (callFunc f args).run P w = .ok (.enter f args) w := by
  obtain ⟨fn, h1, h2, h3⟩ := hb
  have h2' : ¬ (fn.name = "runtime.NumGoroutine") := by simpa using h2
  have h3' : ¬ (fn.body = none) := by intro e; rw [e] at h3; simp at h3
  simp [callFunc, h1, h2', h3']

theorem TRel.put {m' : Env} (hle : m.le m') (ht : TRel m t a.tmps) (d : Option Nat) {v : AV} {v' : Value} (hv : v.toV m' = some v') : TRel m' (putT t d v) (a.put d v').tmps := by
  have ht' : TRel m' t a.tmps := toVs_mono hle t ht
  cases d with
  | none => exact ht'
  | some d =>
    have hl := toVs_length ht'
    simp only [Array.length_toList] at hl
    refine toVs_of (by simp [putT, Act.put, hl]) ?_
    intro k x hx
    simp only [putT, List.getElem?_set] at hx
    simp only [Act.put, Array.getElem?_toList, Array.getElem?_setIfInBounds]
    by_cases hk : d = k
    · subst hk
      rw [if_pos rfl] at hx ⊢
      split at hx
      · rename_i hlt
        cases hx
        exact ⟨v', hv, by rw [if_pos (by omega)]⟩
      · cases hx
    · rw [if_neg hk] at hx ⊢
      obtain ⟨u, hu, e⟩ := toVs_get ht' k x hx
      exact ⟨u, hu, by simpa using e⟩

theorem put_defers (a : Act) (d : Option Tmp) (v : Value) : (a.put d v).defers = a.defers := by cases d <;> rfl

theorem wantA_sound (ht : TRel m t a.tmps) {ops : Array Oper} {o : Oper} {ao : AOper} (htr : trOper P ops o = some ao) : Region.wanted o (yielded ops a.tmps) = wantA ao t := by
  unfold trOper at htr
  split at htr
  · rename_i g hg
    cases htr
    unfold trGuard at hg
    split at hg
    · rename_i hgd
      cases hg
      simp [Region.wanted, hgd, wantA]
    · rename_i j b hgd
      simp only [Option.map_eq_some_iff] at hg
      obtain ⟨d, hd, rfl⟩ := hg
      simp only [Region.wanted, hgd, yielded, hd, Option.bind_some, wantA]
      cases hx : t[d]? with
      | none =>
        have hl := toVs_length ht
        simp only [Array.length_toList] at hl
        have h1 : t.length ≤ d := by simpa using hx
        have h2 : a.tmps[d]? = none := by simp; omega
        simp [h2]
      | some x =>
        obtain ⟨v, hv, e⟩ := toVs_get ht d x hx
        have e' : a.tmps[d]? = some v := by simpa using e
        rw [e']
        cases x with
        | bool b' => cases inv_bool hv; simp
        | ptr p => cases p with
          | none => cases inv_nilptr hv; simp
          | some p => obtain ⟨_, _, rfl⟩ := inv_ptr hv; simp
        | slc p => cases p with
          | none => obtain ⟨_, rfl⟩ := inv_nilslc hv; simp
          | some p => obtain ⟨_, _, rfl⟩ := inv_slc hv; simp
        | map p => cases p with
          | none => cases inv_nilmap hv; simp
          | some p => obtain ⟨_, _, rfl⟩ := inv_map hv; simp
        | fn f x y => obtain ⟨_, _, _, _, rfl⟩ := inv_fn hv; simp
        | iface ty x => obtain ⟨_, _, rfl⟩ := inv_iface hv; simp
        | agg l => obtain ⟨_, _, rfl⟩ := inv_agg hv; simp
        | tup l => obtain ⟨_, _, rfl⟩ := inv_tup hv; simp
        | yld i => obtain ⟨_, _, rfl⟩ := inv_yld hv; simp
        | _ => simp [AV.toV] at hv; subst hv; simp
  · cases htr

/-- What follows a step. -/
def Good (P : Program) (W0 : Base) (ds : List Deferred) (m : Env) (t' : List AV) (H' : AHeap) (K : Act → World → Prop) : Prop :=
  ∀ m' a' w', m.le m' → Rel P.pg W0 m' H' w' → TRel m' t' a'.tmps → a'.defers = ds → K a' w'

/-- A call of a function by its number. -/
theorem call_enter {o : Oper} {c : Call} {f : FuncId} (ho : o.op = .call c) (hc : c.callee = .value (.func f)) (hb : HasBody P f) :
    (execOp a.eval o).run P w = .ok (.enter f (c.args.map a.eval)) w := by
  unfold execOp
  simp only [ho, resolve, hc, Act.eval, Deferred.ofValue, Sem.run_bind, Sem.run_pure, Result.andThen_ok, invoke]
  rw [callFunc_run hb]
  simp

theorem call_value {o : Oper} {c : Call} {x : Operand} (ho : o.op = .call c) (hc : c.callee = .value x) {f : FuncId} {first captured : Array Value} (hx : a.eval x = .func (.func f) first captured) (hb : HasBody P f) :
    (execOp a.eval o).run P w = .ok (.enter f (first ++ c.args.map a.eval ++ captured)) w := by
  unfold execOp
  simp only [ho, resolve, hc, hx, Deferred.ofValue, Sem.run_bind, Sem.run_pure, Result.andThen_ok, invoke]
  rw [callFunc_run hb]

/-- The calls of a table, as it runs. -/
def CallsOk (P : Program) (call : CallF) : Prop := ∀ f args H r, call f args H = some r → HasBody P f ∧ SimFn P f (call f)

/-- A call of yield leads to a round. -/
theorem call_yield {o : Oper} {c : Call} {x : Operand} (ho : o.op = .call c) (hc : c.callee = .value x) {l : Nat} (hx : a.eval x = .func (.yield l) #[] #[]) :
    (execOp a.eval o).run P w = (Instr.yield l (c.args.map a.eval)).run P w := by
  unfold execOp
  simp only [ho, resolve, hc, hx, Deferred.ofValue, Sem.run_bind, Sem.run_pure, Result.andThen_ok, invoke]
  simp

/-- The fence that lets all in; in a round of a loop, or in none. -/
def Fw (ro : Option Nat) : Fence := { Fence.wide with round := ro }

/-- The rounds of the records, as it runs them. -/
def RoundsOk (P : Program) (rnd : CallF) : Prop :=
  ∀ {W0 : Base} {m : Env} {H : AHeap} {w : World} {i : Nat} {args : List AV} {args' : Array Value} {r : AV} {H' : AHeap}, rnd i args H = some (r, H') → Rel P.pg W0 m H w → toVs m args = some args'.toList →
    ∃ l x f tmps asg body, m i = some (l, x) ∧ (Instr.yield l args').run P w = .ok (.round l f tmps asg body) w ∧
      ∀ ro n, RoundIn (Fw ro) n P l f tmps asg body w fun e w' => ∃ m' v, m.le m' ∧ Rel P.pg W0 m' H' w' ∧ r.toV m' = some v ∧ e = .returned v

theorem callsIn_fw {ro : Option Nat} {n : Nat} {P : Program} {f : FuncId} {args : Array Value} {w : World} {R : Ending → World → Prop} (h : Calls P f args w R) : CallsIn (Fw ro) n P f args w R := by
  have h1 : CallsIn Fence.wide n P f args w R := callsIn_wide.2 h
  cases ro with
  | none => exact h1
  | some l => exact CallsIn.inRound l h1

variable {ro : Option Nat} {n : Nat}

/-- One operation. -/
theorem evalO_sound {call rnd : CallF} (hcall : CallsOk P call) (hrnd : RoundsOk P rnd) (hr : Rel P.pg W0 m H w) (ht : TRel m t a.tmps) (hd : a.defers = ds) {ops : Array Oper} {o : Oper} {ao : AOper} (htr : trOper P ops o = some ao)
    {t' : List AV} {H' : AHeap} (hev : evalO call rnd ao t H = some (t', H')) {K : Act → World → Prop} (hK : Good P W0 ds m t' H' K) {Q : Exit → Act → World → Prop} :
    if Region.wanted o (yielded ops a.tmps) then o.wpIn (Fw ro) n P a w K Q else (∀ f, o.about P w a.eval = some f → (Fw ro).fn f) ∧ K (a.put o.dst undef) w := by
  rw [wantA_sound ht htr]
  unfold trOper at htr
  split at htr
  · rename_i g hg
    cases htr
    unfold evalO at hev
    split at hev
    case h_2 => cases hev
    rename_i r hev'
    cases hev
    unfold evalV at hev'
    split at hev'
    · rename_i hw
      simp only [hw, Bool.false_eq_true, if_false]
      cases hev'
      exact ⟨fun _ _ => trivial, hK m _ w (Env.le_refl m) hr (TRel.put (Env.le_refl m) ht _ rfl) (by rw [put_defers]; exact hd)⟩
    · rename_i hw
      simp only [hw, if_true]
      refine ⟨fun _ _ => trivial, ?_⟩
      simp only at hev'
      cases hop : trOp P o.op with
      | none => rw [hop] at hev'; simp [AOp.eff, evalE] at hev'
      | some op => ?_
      rw [hop] at hev'
      simp only [Option.getD_some] at hev'
      rw [Oper.semAt_eq _ _ _ (fun c hc => by rw [hc] at hop; simp [trOp] at hop)]
      split at hev'
      · have he := hev'
        · by_cases hnc : (∀ f args, op ≠ .call f args) ∧ ∀ x args, op ≠ .callv x args
          · obtain ⟨m', w', v', n, h1, h2, h3, h4, h5⟩ := evalE_sound hr ht hop hnc he
            rw [h4]
            rcases h5 with rfl | ⟨rfl, rfl⟩
            · rw [Oper.uponIn_value]
              exact hK m' _ w' h1 h2 (TRel.put h1 ht _ h3) (by rw [put_defers]; exact hd)
            · rw [Oper.uponIn_skip]
              exact hK m' _ w' h1 h2 (TRel.put h1 ht _ h3) (by rw [put_defers]; exact hd)
          · -- a call
            have hcc : ∃ c, o.op = .call c ∧ trCall P c = some op := by
              cases ho : o.op <;> rw [ho] at hop
              case call c => exact ⟨c, rfl, by simpa [trOp] using hop⟩
              all_goals
                exfalso
                apply hnc
                simp only [trOp, trBin] at hop
                repeat' (split at hop)
                all_goals first
                  | (cases hop; done)
                  | (cases hop; exact ⟨fun _ _ => nofun, fun _ _ => nofun⟩)
                  | (simp only [Option.map_eq_some_iff] at hop; obtain ⟨_, _, rfl⟩ := hop; exact ⟨fun _ _ => nofun, fun _ _ => nofun⟩)
                  | (simp only [Option.bind_eq_some_iff] at hop; obtain ⟨_, _, hop⟩ := hop; cases hop; done)
                  | (simp only [Option.bind_eq_some_iff] at hop; obtain ⟨_, _, hop⟩ := hop; cases hop; exact ⟨fun _ _ => nofun, fun _ _ => nofun⟩)
                  | (exfalso; simp_all; done)
            obtain ⟨c, ho, htc⟩ := hcc
            unfold trCall at htc
            split at htc
            · rename_i f args hc hargs
              split at htc
              · cases htc; simp [evalE] at he
              cases htc
              simp only [evalE] at he
              obtain ⟨hb, hsim⟩ := hcall _ _ _ _ he
              rw [call_enter ho hc hb, Oper.uponIn_enter]
              have hl := opds_sound hr.glob ht hargs
              refine ⟨fun h => (by cases h), callsIn_fw ((hsim (W0 := W0) (args' := c.args.map a.eval) he hr (by rw [Array.toList_map]; exact hl)).mono ?_)⟩
              rintro e w' ⟨m', v, h1, h2, h3, rfl⟩
              exact hK m' _ w' h1 h2 (TRel.put h1 ht _ h3) (by rw [put_defers]; exact hd)
            · rename_i x args hne hc hargs
              simp only [Option.map_eq_some_iff] at htc
              obtain ⟨x', hx, rfl⟩ := htc
              simp only [evalE] at he
              split at he
              · rename_i f first captured ex
                have hx' := opd_sound hr.glob ht hx
                rw [ex] at hx'
                obtain ⟨f1, c1, hf1, hc1, hv⟩ := inv_fn hx'
                obtain ⟨hb, hsim⟩ := hcall _ _ _ _ he
                rw [call_value ho hc hv hb, Oper.uponIn_enter]
                have hl := opds_sound hr.glob ht hargs
                refine ⟨fun h => (by cases h), callsIn_fw ((hsim (W0 := W0) (args' := f1.toArray ++ c.args.map a.eval ++ c1.toArray) he hr (by
                  simp only [Array.toList_append, Array.toList_map]
                  exact toVs_append (toVs_append hf1 hl) hc1)).mono ?_)⟩
                rintro e w' ⟨m', v, h1, h2, h3, rfl⟩
                exact hK m' _ w' h1 h2 (TRel.put h1 ht _ h3) (by rw [put_defers]; exact hd)
              · rename_i i ex
                have hx' := opd_sound hr.glob ht hx
                rw [ex] at hx'
                obtain ⟨q, hq, hv⟩ := inv_yld hx'
                have hl := opds_sound hr.glob ht hargs
                obtain ⟨l, y, f, tmps, asg, body, e1, e2, e3⟩ := hrnd (args' := c.args.map a.eval) he hr (by rw [Array.toList_map]; exact hl)
                rw [hq] at e1; cases e1
                rw [call_yield ho hc hv, e2, Oper.uponIn_round]
                refine ⟨fun h => (by cases h), (e3 ro _).mono ?_⟩
                rintro e w' ⟨m', v, h1, h2, h3, rfl⟩
                exact hK m' _ w' h1 h2 (TRel.put h1 ht _ h3) (by rw [put_defers]; exact hd)
              · cases he
            all_goals
              exfalso
              apply hnc
              repeat' (split at htc)
              all_goals first
                | (cases htc; done)
                | (cases htc; exact ⟨fun _ _ => nofun, fun _ _ => nofun⟩)
                | (simp only [Option.map_eq_some_iff] at htc; obtain ⟨_, _, rfl⟩ := htc; exact ⟨fun _ _ => nofun, fun _ _ => nofun⟩)
      · split at hev'
        · rename_i v he
          cases hev'
          obtain ⟨v', h1, h2⟩ := evalP_sound hr ht hop he
          rw [h2, Oper.uponIn_value]
          exact hK m _ w (Env.le_refl m) hr (TRel.put (Env.le_refl m) ht _ h1) (by rw [put_defers]; exact hd)
        · cases hev'
  · cases htr

/-- Operations one after another. -/
theorem evalOs_sound {call rnd : CallF} (hcall : CallsOk P call) (hrnd : RoundsOk P rnd) {ops : Array Oper} : ∀ (os : List Oper) {l : List AOper} (k : Nat) {m : Env} {H : AHeap} {w : World} {t : List AV} {a : Act} {t' : List AV} {H' : AHeap},
    (∀ j : Nat, os[j]? = ops[k + j]?) → os.mapM (trOper P ops) = some l → Rel P.pg W0 m H w → TRel m t a.tmps → a.defers = ds → evalOs call rnd l t H = some (t', H') →
    ∀ {Q : Exit → Act → World → Prop}, Good P W0 ds m t' H' (Q .normal) → wpOpsIn (Fw ro) n P ops Q (List.range' k os.length) a w
  | [], l, k, m, H, w, t, a, t', H', _, hm, hr, ht, hd, hev, Q, hQ => by
    simp at hm; subst hm
    simp [evalOs] at hev
    obtain ⟨rfl, rfl⟩ := hev
    exact hQ m a w (Env.le_refl m) hr ht hd
  | o :: os, l, k, m, H, w, t, a, t', H', hos, hm, hr, ht, hd, hev, Q, hQ => by
    simp only [List.mapM_cons, Option.pure_def, Option.bind_eq_bind, Option.bind_eq_some_iff] at hm
    obtain ⟨ao, hao, l', hl', hm⟩ := hm
    cases hm
    simp only [evalOs] at hev
    split at hev
    · rename_i r he
      have h0 : ops[k]? = some o := by simpa using (hos 0).symm
      have hstep := evalO_sound (ro := ro) (n := n) (W0 := W0) hcall hrnd hr ht hd hao he (K := wpOpsIn (Fw ro) n P ops Q (List.range' (k + 1) os.length)) (Q := Q) (by
        intro m' a' w' h1 h2 h3 h4
        exact evalOs_sound hcall hrnd os (k + 1) (fun j => by have := hos (j + 1); simpa [Nat.add_assoc, Nat.add_comm 1 j] using this) hl' h2 h3 h4 hev (fun m'' a'' w'' g1 g2 g3 g4 => hQ m'' a'' w'' (Env.le_trans h1 g1) g2 g3 g4))
      simp only [List.length_cons, List.range'_succ, wpOpsIn, h0]
      exact hstep
    · cases hev

theorem region_sound {call rnd : CallF} (hcall : CallsOk P call) (hrnd : RoundsOk P rnd) {ops : Array Oper} {l : List AOper} (hm : ops.toList.mapM (trOper P ops) = some l) (hr : Rel P.pg W0 m H w) (ht : TRel m t a.tmps) (hd : a.defers = ds) {t' : List AV} {H' : AHeap}
    (hev : evalOs call rnd l t H = some (t', H')) {Q : Exit → Act → World → Prop} (hQ : Good P W0 ds m t' H' (Q .normal)) (id : Nat) : (Code.region id ops false).wpIn (Fw ro) n P Q a w := by
  refine wpIn_region ?_
  have := evalOs_sound (ro := ro) (n := n) (W0 := W0) hcall hrnd ops.toList 0 (fun j => by simp) hm hr ht hd hev hQ
  rwa [Array.length_toList, ← List.range_eq_range'] at this

end
end Go.AM
