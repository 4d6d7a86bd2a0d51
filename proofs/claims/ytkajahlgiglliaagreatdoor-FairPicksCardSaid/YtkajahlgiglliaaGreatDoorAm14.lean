/- What the small machine runs the program runs: statements, functions. -/
import Derived.Test.YtkajahlgiglliaaGreatDoorAm13
import Derived.Scope
import Derived.RangeFuncNested
namespace Go.AM

section
variable {P : Program} {W0 : Base} {m : Env} {H : AHeap} {w : World} {t : List AV} {a : Act}

def AExit.toE : AExit → Exit
  | .norm => .normal
  | .exit id => .exit id
  | .ret => .ret

/-- The marks of blocks for deferred calls. -/
def marks (D : List Nat) : List Deferred := D.map fun r => { target := .collected r, args := #[] }

/-- How a statement ends. -/
def Post (P : Program) (W0 : Base) (m : Env) (x : AExit) (t' : List AV) (H' : AHeap) : Exit → Act → World → Prop :=
  fun e a' w' => e = x.toE ∧ ∃ m' D, m.le m' ∧ Rel P.pg (W0.addD D) m' H' w' ∧ TRel m' t' a'.tmps ∧ a'.defers = marks D

theorem Post.mono {m m' : Env} (h : m.le m') {x : AExit} {t' : List AV} {H' : AHeap} {e : Exit} {a' : Act} {w' : World} (hp : Post P W0 m' x t' H' e a' w') : Post P W0 m x t' H' e a' w' :=
  ⟨hp.1, let ⟨m2, D, h1, h2⟩ := hp.2; ⟨m2, D, Env.le_trans h h1, h2⟩⟩

/-- Statements: 'n' is the number of steps. -/
def CodeOk (P : Program) (A : FuncId → Option ADef) (n : Nat) : Prop :=
  ∀ {W0 : Base} {D : List Nat} {c : Code} {ac : ACode} {m : Env} {H : AHeap} {w : World} {t : List AV} {a : Act} {x : AExit} {t' : List AV} {H' : AHeap}, trCode P c = some ac → exec A n ac t H = some (x, t', H') →
    Rel P.pg (W0.addD D) m H w → TRel m t a.tmps → a.defers = marks D → ∀ (ro : Option Nat) (k : Nat), (∀ l, ro = some l → l ∈ W0.L) → c.wpIn (Fw ro) k P (Post P W0 m x t' H') a w

def LoopOk (P : Program) (A : FuncId → Option ADef) (n : Nat) : Prop :=
  ∀ {W0 : Base} {D : List Nat} {c : Code} {ac : ACode} {m : Env} {H : AHeap} {w : World} {t : List AV} {a : Act} {x : AExit} {t' : List AV} {H' : AHeap}, trCode P c = some ac → exec A n (.loop ac) t H = some (x, t', H') →
    Rel P.pg (W0.addD D) m H w → TRel m t a.tmps → a.defers = marks D → ∀ (ro : Option Nat) (k : Nat), (∀ l, ro = some l → l ∈ W0.L) → Code.roundsIn (Fw ro) k P c (Post P W0 m x t' H') n a w

/- A round, and the record of its loop. -/

theorem putPs_sound : ∀ (ps : List Nat) (args : List AV) {vs : List Value} {t : List AV} {tmps : Array Value}, toVs m args = some vs → TRel m t tmps →
    TRel m (putPs ps args t) ((ps.zip vs).foldl (fun tmps (x : Nat × Value) => tmps.setIfInBounds x.1 x.2) tmps)
  | [], _, _, _, _, _, ht => by simpa [putPs] using ht
  | _ :: _, [], vs, _, _, h, ht => by simp [toVs] at h; subst h; simpa [putPs] using ht
  | p :: ps, x :: args, vs, t, tmps, h, ht => by
    obtain ⟨v, w, hx, hl, rfl⟩ := toVs_cons h
    simp only [putPs, List.zip_cons_cons, List.foldl_cons]
    refine putPs_sound ps args hl ?_
    exact TRel.put (a := { tmps := tmps, defers := [] }) (Env.le_refl m) ht (some p) hx

theorem round_tmps (ps : Array Tmp) (args : Array Value) (tmps : Array Value) : (ps.zip args).foldl (fun tmps (t, a) => tmps.setIfInBounds t a) tmps = (ps.toList.zip args.toList).foldl (fun tmps (x : Nat × Value) => tmps.setIfInBounds x.1 x.2) tmps := by
  rw [← Array.toList_zip, Array.foldl_toList]

/-- The record of a loop, in memory. -/
theorem Rel.loop {NG : PG} (hr : Rel NG W0 m H w) {i : Nat} {st : LSt} {t : List AV} {ps : List Nat} {asg body : ACode} (hg : H.get i = some (.loop st t ps asg body)) :
    ∃ l x r, m i = some (l, x) ∧ w.heap[l]? = some (.loop r) ∧ st.rel r ∧ toVs m t = some r.tmps.toList ∧ r.params.toList = ps ∧ NG.tr r.assign = some asg ∧ NG.tr r.body = some body := by
  obtain ⟨l, x, r, h1, h2, _, h3⟩ := hr.obj i _ hg
  exact ⟨l, x, r, h1, h2, h3⟩

theorem roundA_sound {A : FuncId → Option ADef} {n : Nat} (hn : CodeOk P A n) : RoundsOk P (roundA (exec A n)) := by
  intro W0 m H w i args args' r H' h hr hargs
  unfold roundA at h
  split at h
  case h_2 => cases h
  rename_i t ps asg body hg
  split at h
  case h_2 => cases h
  rename_i hlen
  split at h
  case h_2 => cases h
  rename_i t1 H1 hasg
  split at h
  case h_2 => cases h
  rename_i t2 ps2 asg2 body2 hg1
  split at h
  case h_2 => cases h
  rename_i x t3 H2 hbody
  split at h
  case h_2 => cases h
  rename_i t4 ps4 asg4 body4 hg2
  cases h
  obtain ⟨l, y, L, hm, hw, hst, htm, hps, hta, htb⟩ := hr.loop hg
  have hsz : args'.size = L.params.size := by
    have h1 := toVs_length hargs
    have h2 := Nat.eq_of_beq_eq_true hlen
    rw [← hps] at h2
    simp only [Array.length_toList] at h1 h2
    omega
  refine ⟨l, y, L.fn, _, L.assign, L.body, hm, run_yield hw hsz, ?_⟩
  intro ro k
  have hL : Rel P.pg ((W0.addL l).addD []) m H w := hr.tellL hg hm
  have hro : ∀ l', some l = some l' → l' ∈ (W0.addL l).L := fun l' e => by cases e; exact List.mem_cons_self ..
  refine roundIn_of_wpIn (F := Fw ro) trivial ?_
  have ht1 : TRel m (putPs ps args t) ((L.params.zip args').foldl (fun tmps (t, a) => tmps.setIfInBounds t a) L.tmps) := by
    rw [round_tmps, hps]
    exact putPs_sound ps args hargs htm
  refine wpIn_mono (hn (a := { tmps := _, defers := [] }) (D := []) hta hasg hL ht1 rfl (some l) k hro) ?_
  rintro e a1 w1 ⟨rfl, m1, D1, hle1, hr1, ht1', hd1⟩
  obtain ⟨l1, y1, L1, hm1, hw1, hst1, _⟩ := hr1.loop hg1
  rw [hle1 _ _ hm] at hm1; cases hm1
  refine ⟨_, run_beginRound hw1 hst1.1, ?_⟩
  have hr1' := hr1.setLoop (st' := .busy) hg1 (hle1 _ _ hm) hw1 (s := .busy) (pe := L1.pending) rfl
  refine wpIn_mono (hn htb hbody hr1' ht1' hd1 (some l) k hro) ?_
  rintro e a2 w2 ⟨rfl, m2, D2, hle2, hr2, ht2, hd2⟩
  obtain ⟨l2, y2, L2, hm2, hw2, hst2, _⟩ := hr2.loop hg2
  rw [hle2 _ _ (hle1 _ _ hm)] at hm2; cases hm2
  have fin : ∀ (jump : Option Code) (b : Bool), b = jump.isNone → (LSt.behind x).rel { L2 with state := if jump.isNone then .ready else .done, pending := jump } →
      ∃ v w', (Instr.endRound l jump).run P w2 = .ok v w' ∧ ∃ m' v', m.le m' ∧ Rel P.pg W0 m' (H2.set i (.loop (LSt.behind x) t4 ps4 asg4 body4)) w' ∧ (AV.bool b).toV m' = some v' ∧ Ending.returned v = Ending.returned v' := by
    rintro jump b rfl hst
    have hr3 := hr2.setLoop (st' := LSt.behind x) hg2 (hle2 _ _ (hle1 _ _ hm)) hw2 hst
    exact ⟨_, _, run_endRound jump hw2, m2, _, Env.le_trans hle1 hle2, hr3.dropD.dropL, rfl, rfl⟩
  cases x with
  | norm => exact fin none true rfl ⟨rfl, rfl⟩
  | exit id => exact fin (some (.exit id)) false rfl ⟨rfl, rfl⟩
  | ret => exact fin (some .ret) false rfl ⟨rfl, rfl⟩

theorem undefs_toVs (m : Env) : ∀ n, toVs m (undefs n) = some (List.replicate n undef)
  | 0 => rfl
  | n + 1 => by simp [undefs, toVs, undef_toV, undefs_toVs m n, List.replicate_succ]

/-- One result. -/
def resF (tmps : Array Value) : ResultVar → Sem Value
  | .tmp n => pure (tmps.getD n undef)
  | .cell p ty => do loadVar ty (← asAddr (tmps.getD p undef))

theorem results_eq (fn : Func) (tmps : Array Value) : results fn tmps = (do let vs ← fn.results.mapM (resF tmps); pure (if h : vs.size = 1 then vs[0] else .tuple vs)) := by
  unfold results
  congr 1

theorem res_sound (hr : Rel P.pg W0 m H w) (ht : TRel m t a.tmps) : ∀ {rs : List ResultVar} {l : List ARes} {vs : List AV}, rs.mapM (trRes P) = some l → resA H t l = some vs →
    ∃ us, (rs.mapM (resF a.tmps)).run P w = .ok us w ∧ toVs m vs = some us := by
  intro rs
  induction rs with
  | nil => intro l vs hl h; simp at hl; subst hl; simp [resA] at h; subst h; exact ⟨[], by simp, rfl⟩
  | cons r rs ih =>
    intro l vs hl h
    simp only [List.mapM_cons, Option.pure_def, Option.bind_eq_bind, Option.bind_eq_some_iff] at hl
    obtain ⟨y, hy, ys, hys, hl⟩ := hl
    cases hl
    have fin : ∀ (v' : Value) (us : List Value), (resF a.tmps r).run P w = .ok v' w → (rs.mapM (resF a.tmps)).run P w = .ok us w → ((r :: rs).mapM (resF a.tmps)).run P w = .ok (v' :: us) w := by
      intro v' us e1 e2
      simp only [List.mapM_cons, Sem.run_bind, e1, e2, Result.andThen_ok, Sem.run_pure]
    cases r with
    | tmp n =>
      simp [trRes] at hy; subst hy
      simp only [resA] at h
      split at h
      · rename_i vs' hvs
        cases h
        obtain ⟨us, h1, h2⟩ := ih hys hvs
        have := ht.getD n
        exact ⟨a.tmps.getD n undef :: us, fin _ _ (by simp [resF]) h1, by simp only [toVs, this, h2]⟩
      · cases h
    | cell p ty =>
      simp only [trRes, Option.map_eq_some_iff] at hy
      obtain ⟨g, hg, rfl⟩ := hy
      simp only [resA] at h
      split at h
      · rename_i v vs' hv hvs
        cases h
        obtain ⟨us, h1, h2⟩ := ih hys hvs
        have hp := ht.getD p
        cases e : t.getD p .undef <;> rw [e] at hv hp <;> (try (simp [loadA] at hv; done))
        rename_i q
        cases q with
        | none => simp [loadA] at hv
        | some q =>
          obtain ⟨b, hb, hpv⟩ := inv_ptr hp
          obtain ⟨v', g1, g2⟩ := loadA_sound hr hg hv hb
          refine ⟨v' :: us, fin _ _ ?_ h1, by simp only [toVs, g1, h2]⟩
          simp only [resF, Sem.run_bind, hpv, asAddr, Sem.run_pure, Result.andThen_ok]
          exact g2
      · cases h

theorem results_sound (hr : Rel P.pg W0 m H w) (ht : TRel m t a.tmps) {fn : Func} {l : List ARes} (hl : fn.results.toList.mapM (trRes P) = some l) {vs : List AV} (h : resA H t l = some vs) :
    ∃ v, (results fn a.tmps).run P w = .ok v w ∧ (resOf vs).toV m = some v := by
  obtain ⟨us, h1, h2⟩ := res_sound hr ht hl h
  rw [← Array.toList_mapM, Sem.run_map] at h1
  generalize hx : (fn.results.mapM (resF a.tmps)).run P w = r at h1
  cases r with
  | ok arr w' =>
    simp only [Result.andThen_ok, Result.ok.injEq] at h1
    obtain ⟨e1, e2⟩ := h1
    subst e2
    have hlen := toVs_length h2
    refine ⟨if h : arr.size = 1 then arr[0] else .tuple arr, by rw [results_eq]; simp only [Sem.run_bind, hx, Result.andThen_ok, Sem.run_pure], ?_⟩
    subst e1
    match vs, arr, h2, hlen with
    | [v], arr, h2, hlen =>
      obtain ⟨u, us', hu, hus, he⟩ := toVs_cons h2
      simp [toVs] at hus; subst hus
      have : arr = #[u] := by apply Array.ext'; simpa using he
      subst this
      simpa [resOf] using hu
    | [], arr, h2, hlen =>
      have hs : arr.size ≠ 1 := by rw [Array.length_toList] at hlen; simp only [List.length_nil] at hlen; omega
      simp [resOf, hs, AV.toV, h2]
    | x :: y :: l, arr, h2, hlen =>
      have hs : arr.size ≠ 1 := by simp at hlen; omega
      simp [resOf, hs, AV.toV, h2]
  | halt x w' => simp [Result.andThen] at h1

/-- On the way out: each block for deferred calls is shut; then the results. -/
theorem leaves_marks {fn : Func} {tmps : Array Value} {R : Ending → World → Prop} {n : Nat} : ∀ (D : List Nat) {w : World}, Rel P.pg (W0.addD D) m H w → (∀ w', Rel P.pg W0 m H w' → LeavesIn (Fw none) n P fn tmps R [] .returning w') →
    LeavesInM (Fw none) n P fn tmps R (marks D) .returning w
  | [], w, hr, h => h w hr
  | d :: D, w, hr, h => by
    refine ⟨nofun, .inl ⟨d, _, rfl, run_takeDeferred (hr.dfr d (List.mem_cons_self ..)).2, ?_⟩⟩
    exact leaves_marks D hr.shutD h

/-- A function of the table, once its statements are sound. -/
theorem callA_sound {A : FuncId → Option ADef} (hA : TableOk P A) {n : Nat} (hn : CodeOk P A n) : CallsOk P (callA A (exec A n)) := by
  intro f args0 H0 r0 h0
  unfold callA at h0
  split at h0
  · rename_i fn hf
    obtain ⟨hb, htr⟩ := hA f _ hf
    refine ⟨hb, ?_⟩
    intro W0 m H w args args' r H' h hr hargs
    simp only at htr
    unfold trFn at htr
    split at htr
    · rename_i F hF
      split at htr
      · rename_i c hc
        split at htr
        · rename_i ac rs hac hrs
          cases htr
          unfold callA at h
          rw [hf] at h
          simp only at h
          have hlen := toVs_length hargs
          simp only [Array.length_toList] at hlen
          have htm : TRel m (args ++ undefs (F.ntmps - args.length)) (args' ++ Array.replicate (F.ntmps - args'.size) undef) := by
            unfold TRel
            rw [Array.toList_append, Array.toList_replicate, hlen]
            exact toVs_append hargs (undefs_toVs m _)
          have toCalls : c.wpIn (Fw none) 0 P (bodyPostM (Fw none) 0 P F fun e w' => ∃ m' v, m.le m' ∧ Rel P.pg W0 m' H' w' ∧ r.toV m' = some v ∧ e = .returned v) { tmps := args' ++ Array.replicate (F.ntmps - args'.size) undef, defers := [] } w →
              Calls P f args' w fun e w' => ∃ m' v, m.le m' ∧ Rel P.pg W0 m' H' w' ∧ r.toV m' = some v ∧ e = .returned v := by
            intro hwp
            have : CallsIn Fence.wide 0 P f args' w fun e w' => ∃ m' v, m.le m' ∧ Rel P.pg W0 m' H' w' ∧ r.toV m' = some v ∧ e = .returned v := callsIn_of_wp_marks (F := Fw none) hF hc trivial hwp
            exact callsIn_wide.1 this
          refine toCalls ?_
          have main : ∀ (x : AExit) (t : List AV) (H1 : AHeap), exec A n ac (args ++ undefs (F.ntmps - args.length)) H = some (x, t, H1) → (x = .norm ∨ x = .ret) → ((resA H1 t rs).map fun l => (resOf l, H1)) = some (r, H') →
              c.wpIn (Fw none) 0 P (bodyPostM (Fw none) 0 P F fun e w' => ∃ m' v, m.le m' ∧ Rel P.pg W0 m' H' w' ∧ r.toV m' = some v ∧ e = .returned v) { tmps := args' ++ Array.replicate (F.ntmps - args'.size) undef, defers := [] } w := by
            intro x t H1 hex hx hres
            simp only [Option.map_eq_some_iff, Prod.mk.injEq] at hres
            obtain ⟨vs, hvs, rfl, rfl⟩ := hres
            have hr0 : Rel P.pg (W0.addD []) m H w := hr
            refine wpIn_mono (hn hac hex hr0 htm rfl none 0 (fun _ h => nomatch h)) ?_
            rintro e a' w' ⟨rfl, m', D, h1, h2, h3, h4⟩
            have fin : LeavesInM (Fw none) 0 P F a'.tmps (fun e w' => ∃ m' v, m.le m' ∧ Rel P.pg W0 m' H1 w' ∧ (resOf vs).toV m' = some v ∧ e = .returned v) a'.defers .returning w' := by
              rw [h4]
              refine leaves_marks D h2 (fun w2 hr2 => ?_)
              obtain ⟨v, e1, e2⟩ := results_sound hr2 h3 hrs hvs
              exact ⟨v, e1, m', v, h1, hr2, e2, rfl⟩
            rcases hx with rfl | rfl
            · exact fin
            · exact fin
          split at h
          · rename_i t1 H1 hex; exact main _ _ _ hex (.inl rfl) h
          · rename_i t1 H1 hex; exact main _ _ _ hex (.inr rfl) h
          · cases h
        · cases htr
      · cases htr
    · cases htr
  · rename_i g hg
    obtain ⟨hb, hsim⟩ := hA f _ hg
    refine ⟨hb, ?_⟩
    intro W0 m H w args args' r H' h hr hargs
    unfold callA at h
    rw [hg] at h
    exact hsim h hr hargs
  · cases h0

theorem stepR_scope {b : Frame} {k : List Item} {cs : List Frame} {c : Code} : step P (lone (b.atR a (.code (.scope c) :: k)) cs w) = .next (lone (b.atR a (.code c :: .inScope c :: k)) cs w) :=
  step_lone_go (by simp [stepG, stepG.exec, Frame.atR])
theorem stepR_inScope {b : Frame} {k : List Item} {cs : List Frame} {c : Code} : step P (lone (b.atR a (.inScope c :: k)) cs w) = .next (lone (b.atR a k) cs w) :=
  step_lone_go (by simp [stepG, stepG.exec, Frame.atR])

theorem wpIn_scope_straight {F : Fence} {n : Nat} {Q : Exit → Act → World → Prop} {c : Code} (h : c.wpIn F n P (Exit.noGoto Q) a w) : (Code.scope c).wpIn F n P Q a w := by
  intro b k cs hro hb hr
  have h0 : (lone (b.atR a (.code (.scope c) :: k)) cs w).fenced P F := fenced_calm hb hr rfl
  obtain ⟨e, a₁, w₁, hq, harr⟩ := h b (.inScope c :: k) cs hro hb hr
  cases e with
  | normal => exact ⟨.normal, a₁, w₁, hq, .head h0 stepR_scope (StepsIn.trans harr (.one (fenced_calm hb hr rfl) stepR_inScope))⟩
  | exit id =>
    have hx : exitTo id (.inScope c :: k) = exitTo id k := by simp [exitTo]
    exact ⟨.exit id, a₁, w₁, hq, fun k' hk => .head h0 stepR_scope (harr.1 k' (by rw [hx]; exact hk)),
      fun hr' hk => let ⟨k₁, h1, h2⟩ := harr.2 hr' (by rw [hx]; exact hk); ⟨k₁, h1, .head h0 stepR_scope h2⟩⟩
  | goto l => exact hq.elim
  | ret => exact ⟨_, a₁, w₁, hq, .of_steps (.one h0 stepR_scope) harr⟩
  | panic ch => exact ⟨_, a₁, w₁, hq, .of_steps (.one h0 stepR_scope) harr⟩
  | outgrown => exact ⟨_, a₁, w₁, hq, .of_steps (.one h0 stepR_scope) harr⟩

theorem rounds_mono {ro : Option Nat} {k : Nat} {c : Code} {Q Q' : Exit → Act → World → Prop} (hq : ∀ e a w, Q e a w → Q' e a w) : ∀ (n : Nat) {a : Act} {w : World}, Code.roundsIn (Fw ro) k P c Q n a w → Code.roundsIn (Fw ro) k P c Q' n a w
  | 0, _, _, h => h.elim
  | n + 1, a, w, h => by
    rw [roundsIn_succ] at h ⊢
    refine wpIn_mono h ?_
    intro e a w h
    cases e <;> first | exact rounds_mono hq n h | exact hq _ _ _ h

/-- A range over a function. -/
theorem rangeA_sound {call : CallF} (hcall : CallsOk P call) {g : Operand} {ps : Array Tmp} {asg body : Code} {y : AOpd} {aa ab : ACode} (hy : trOpd P g = some y) (ha : trCode P asg = some aa) (hb : trCode P body = some ab)
    {D : List Nat} {x : AExit} {t' : List AV} {H' : AHeap} (hex : rangeA call (y.ev t) t ps.toList aa ab H = some (x, t', H')) (hr : Rel P.pg (W0.addD D) m H w) (ht : TRel m t a.tmps) (hd : a.defers = marks D)
    {ro : Option Nat} {k : Nat} (hL : ∀ l, ro = some l → l ∈ W0.L) : (Code.rangeFunc g ps asg body).wpIn (Fw ro) k P (Post P W0 m x t' H') a w := by
  unfold rangeA at hex
  split at hex
  case h_2 => cases hex
  rename_i f first captured hfn
  have hgv := opd_sound hr.glob ht hy
  rw [hfn] at hgv
  obtain ⟨f1, c1, hf1, hc1, hv⟩ := inv_fn hgv
  split at hex
  case h_2 => cases hex
  rename_i r he
  obtain ⟨hbody, hsim⟩ := hcall _ _ _ _ he
  refine wpIn_rangeFunc (F := Fw ro) ?_
  intro fn _
  have hn := hr.fresh H.next (Nat.le_refl _)
  -- the record is laid
  have enter : ∃ l mark D' w1, (Instr.enterLoop fn a.tmps ps asg body (Fw ro).round).run P w = .ok (l, mark) w1 ∧ mark ++ a.defers = marks D' ∧ m.le (m.put H.next l 0) ∧
      Rel P.pg (W0.addD D') (m.put H.next l 0) (H.new (.loop .ready t ps.toList aa ab)) w1 := by
    have lay : ∀ {D' : List Nat} {w1 : World} (df : Nat), Rel P.pg (W0.addD D') m H w1 → m.le (m.put H.next w1.heap.size 0) ∧
        Rel P.pg (W0.addD D') (m.put H.next w1.heap.size 0) (H.new (.loop .ready t ps.toList aa ab)) (w1.alloc (.loop { state := .ready, pending := none, fn, tmps := a.tmps, params := ps, assign := asg, body, defers := df })) := by
      intro D' w1 df hr1
      refine hr1.new 0 ⟨w1.heap.size, 0, _, Env.put_same _ _ _ _, World.alloc_heap_new _ _, hr1.size, ⟨rfl, rfl⟩, toVs_mono (Env.le_put hn) _ ht, rfl, ha, hb⟩
    cases ro with
    | none =>
      obtain ⟨h1, h2⟩ := lay (D' := w.heap.size :: D) w.heap.size hr.openD
      refine ⟨_, [{ target := .collected w.heap.size, args := #[] }], w.heap.size :: D, _, ?_, ?_, h1, h2⟩
      · have := run_enterLoop_outer (P := P) (w := w) fn a.tmps ps asg body
        rw [show (w.alloc (.deferred (some []))).heap.size = w.heap.size + 1 from World.size_alloc ..]
        exact this
      · rw [hd]; rfl
    | some l0 =>
      obtain ⟨r0, h0⟩ := hr.lps l0 (hL l0 rfl)
      obtain ⟨h1, h2⟩ := lay r0.defers hr
      exact ⟨_, _, D, _, run_enterLoop_inner h0 fn a.tmps ps asg body, by rw [hd]; rfl, h1, h2⟩
  obtain ⟨l, mark, D', w1, henter, hmark, hle, hr1⟩ := enter
  have hargs : toVs (m.put H.next l 0) (first ++ [.yld H.next] ++ captured) = some (f1.toArray ++ #[Value.func (.yield l) #[] #[]] ++ c1.toArray).toList := by
    simp only [Array.toList_append]
    refine toVs_append (toVs_append (toVs_mono hle _ hf1) ?_) (toVs_mono hle _ hc1)
    simp [toVs, AV.toV, Env.put_same]
  refine ⟨l, mark, w1, { target := .fn (.func f) c1.toArray, args := f1.toArray ++ #[Value.func (.yield l) #[] #[]] }, w1, f, f1.toArray ++ #[Value.func (.yield l) #[] #[]] ++ c1.toArray, w1, henter, ?_, fun _ _ => trivial, ?_, nofun, ?_⟩
  · unfold resolve
    simp only [hv, Deferred.ofValue, Sem.run_pure]
    simp [Act.eval]
  · simp only [invoke]
    exact callFunc_run hbody _
  · refine callsIn_fw ((hsim he hr1 hargs).mono ?_)
    rintro e w3 ⟨m', v, hle', hr3, _, rfl⟩
    have hmi : m' H.next = some (l, 0) := hle' _ _ (Env.put_same _ _ _ _)
    have hle2 : m.le m' := Env.le_trans hle hle'
    have fin : ∀ {st : LSt} {t2 ps2 asg2 body2}, r.2.get H.next = some (.loop st t2 ps2 asg2 body2) → (st = .ready ∨ ∃ x, st = .done x) →
        ∃ jump w4, (Instr.endLoop l).run P w3 = .ok jump w4 ∧ st.rel { (default : Loop) with state := (match st with | .done _ => .done | _ => .ready), pending := jump } ∧ Rel P.pg (W0.addD D') m' (r.2.del H.next) w4 := by
      intro st t2 ps2 asg2 body2 hg hst
      obtain ⟨l2, y2, L2, hm2, hw2, hs2, _⟩ := hr3.loop hg
      rw [hmi] at hm2; cases hm2
      refine ⟨L2.pending, _, run_endLoop hw2 ?_, ?_, hr3.endLoop hg hmi hw2⟩
      · rcases hst with rfl | ⟨x, rfl⟩ <;> (rw [hs2.1]; nofun)
      · rcases hst with rfl | ⟨x, rfl⟩ <;> exact ⟨rfl, hs2.2⟩
    have post : ∀ (x : AExit) (w4 : World), Rel P.pg (W0.addD D') m' (r.2.del H.next) w4 → Post P W0 m x t (r.2.del H.next) x.toE { a with defers := mark ++ a.defers } w4 :=
      fun x w4 h4 => ⟨rfl, m', D', hle2, h4, toVs_mono hle2 _ ht, hmark⟩
    split at hex
    · rename_i t2 ps2 asg2 body2 hg
      cases hex
      obtain ⟨jump, w4, h1, h2, h3⟩ := fin hg (.inl rfl)
      refine ⟨jump, w4, h1, ?_⟩
      obtain rfl : jump = none := h2.2
      exact post .norm w4 h3
    · rename_i x2 t2 ps2 asg2 body2 hg
      cases hex
      obtain ⟨jump, w4, h1, h2, h3⟩ := fin hg (.inr ⟨_, rfl⟩)
      refine ⟨jump, w4, h1, ?_⟩
      obtain rfl : jump = x.jump := h2.2
      cases x with
      | norm => exact post .norm w4 h3
      | exit id => exact wpIn_exit (post (.exit id) w4 h3)
      | ret => exact wpIn_ret (post .ret w4 h3)
    · cases hex

theorem code_sound {A : FuncId → Option ADef} (hA : TableOk P A) (hmix : P.follows .mixedOrders = true) : ∀ n, CodeOk P A n ∧ LoopOk P A n := by
  intro n
  induction n with
  | zero => exact ⟨fun _ h => by simp [exec] at h, fun _ h => by simp [exec] at h⟩
  | succ n ih =>
    obtain ⟨ihc, ihl⟩ := ih
    have hloop : LoopOk P A (n + 1) := by
      intro W0 D c ac m H w t a x t' H' htr hex hr ht hd ro k hL
      simp only [exec, stepA] at hex
      rw [roundsIn_succ]
      split at hex
      · rename_i t1 H1 hb
        refine wpIn_mono (ihc htr hb hr ht hd ro k hL) ?_
        rintro e a' w' ⟨rfl, m', D', h1, h2, h3, h4⟩
        exact rounds_mono (fun _ _ _ hp => Post.mono h1 hp) n (ihl htr hex h2 h3 h4 ro k hL)
      · rename_i hne
        refine wpIn_mono (ihc htr hex hr ht hd ro k hL) ?_
        rintro e a' w' hp
        cases x with
        | norm => exact absurd hex (hne _ _)
        | exit id => obtain ⟨rfl, hp⟩ := hp; exact ⟨rfl, hp⟩
        | ret => obtain ⟨rfl, hp⟩ := hp; exact ⟨rfl, hp⟩
    refine ⟨?_, hloop⟩
    intro W0 D c ac m H w t a x t' H' htr hex hr ht hd ro k hL
    cases c with
    | skip =>
      simp [trCode] at htr; subst htr
      simp only [exec, stepA, Option.some.injEq, Prod.mk.injEq] at hex
      obtain ⟨rfl, rfl, rfl⟩ := hex
      exact wpIn_skip ⟨rfl, m, D, Env.le_refl m, hr, ht, hd⟩
    | region id ops draw =>
      simp only [trCode] at htr
      split at htr
      · rename_i l hl
        split at htr
        · rename_i hdr
          split at htr
          · rename_i hord
            cases htr
            simp only [exec, stepA] at hex
            split at hex
            · rename_i tr hrun
              split at hex
              · rename_i hst
                simp only [Option.some.injEq, Prod.mk.injEq] at hex
                obtain ⟨rfl, rfl, rfl⟩ := hex
                have : draw = true := hdr
                subst this
                exact dreg_sound (callA_sound hA ihc) (roundA_sound ihc) hmix hl hord hr ht hd hrun hst (fun m' a' w' h1 h2 h3 h4 => ⟨rfl, m', D, h1, h2, h3, h4⟩) id
              · cases hex
            · cases hex
          · cases htr; simp [exec, stepA] at hex
        · rename_i hdr
          cases htr
          have hdr' : draw = false := by simpa using hdr
          subst hdr'
          simp only [exec, stepA] at hex
          split at hex
          · rename_i r hev
            simp only [Option.some.injEq, Prod.mk.injEq] at hex
            obtain ⟨rfl, rfl, rfl⟩ := hex
            exact region_sound (callA_sound hA ihc) (roundA_sound ihc) hl hr ht hd hev (fun m' a' w' h1 h2 h3 h4 => ⟨rfl, m', D, h1, h2, h3, h4⟩) id
          · cases hex
      · cases htr; simp [exec, stepA] at hex
    | seq c1 c2 =>
      simp only [trCode] at htr
      split at htr
      · rename_i a1 a2 h1 h2
        cases htr
        simp only [exec, stepA] at hex
        refine wpIn_seq ?_
        split at hex
        · rename_i t1 H1 hb
          refine wpIn_mono (ihc h1 hb hr ht hd ro k hL) ?_
          rintro e a' w' ⟨rfl, m', D', g1, g2, g3, g4⟩
          exact wpIn_mono (ihc h2 hex g2 g3 g4 ro k hL) (fun _ _ _ hp => Post.mono g1 hp)
        · rename_i hne
          refine wpIn_mono (ihc h1 hex hr ht hd ro k hL) ?_
          rintro e a' w' hp
          cases x with
          | norm => exact absurd hex (hne _ _)
          | exit id => obtain ⟨rfl, hp⟩ := hp; exact ⟨rfl, hp⟩
          | ret => obtain ⟨rfl, hp⟩ := hp; exact ⟨rfl, hp⟩
      · cases htr
    | cond cc c1 c2 =>
      simp only [trCode] at htr
      split at htr
      · rename_i y a1 a2 hy h1 h2
        cases htr
        have hc := opd_sound hr.glob ht hy
        simp only [exec, stepA] at hex
        split at hex
        · rename_i e; rw [e] at hc; exact wpIn_cond_true (inv_bool hc) (ihc h1 hex hr ht hd ro k hL)
        · rename_i e; rw [e] at hc; exact wpIn_cond_false (inv_bool hc) (ihc h2 hex hr ht hd ro k hL)
        · cases hex
      · cases htr
    | block id b =>
      simp only [trCode, Option.map_eq_some_iff] at htr
      obtain ⟨ab, hb, rfl⟩ := htr
      simp only [exec, stepA] at hex
      refine wpIn_block ?_
      split at hex
      · rename_i j t1 H1 hex1
        refine wpIn_mono (ihc hb hex1 hr ht hd ro k hL) ?_
        rintro e a' w' ⟨rfl, hp⟩
        split at hex
        · rename_i hj
          cases hex
          have := Nat.eq_of_beq_eq_true hj
          subst this
          show (if j = j then _ else _)
          rw [if_pos rfl]
          exact ⟨rfl, hp⟩
        · rename_i hj
          cases hex
          have hne : j ≠ id := fun e => by rw [e, Nat.beq_refl] at hj; cases hj
          show (if j = id then _ else _)
          rw [if_neg hne]
          exact ⟨rfl, hp⟩
      · rename_i hne
        refine wpIn_mono (ihc hb hex hr ht hd ro k hL) ?_
        rintro e a' w' hp
        cases x with
        | norm => obtain ⟨rfl, hp⟩ := hp; exact ⟨rfl, hp⟩
        | exit j => exact absurd hex (hne _ _ _)
        | ret => obtain ⟨rfl, hp⟩ := hp; exact ⟨rfl, hp⟩
    | loop b =>
      simp only [trCode, Option.map_eq_some_iff] at htr
      obtain ⟨ab, hb, rfl⟩ := htr
      exact wpIn_loop_rounds (n + 1) (hloop hb hex hr ht hd ro k hL)
    | exit id =>
      simp [trCode] at htr; subst htr
      simp only [exec, stepA, Option.some.injEq, Prod.mk.injEq] at hex
      obtain ⟨rfl, rfl, rfl⟩ := hex
      exact wpIn_exit ⟨rfl, m, D, Env.le_refl m, hr, ht, hd⟩
    | ret =>
      simp [trCode] at htr; subst htr
      simp only [exec, stepA, Option.some.injEq, Prod.mk.injEq] at hex
      obtain ⟨rfl, rfl, rfl⟩ := hex
      exact wpIn_ret ⟨rfl, m, D, Env.le_refl m, hr, ht, hd⟩
    | label l =>
      simp [trCode] at htr; subst htr
      simp only [exec, stepA, Option.some.injEq, Prod.mk.injEq] at hex
      obtain ⟨rfl, rfl, rfl⟩ := hex
      exact wpIn_label ⟨rfl, m, D, Env.le_refl m, hr, ht, hd⟩
    | scope b =>
      simp only [trCode, Option.map_eq_some_iff] at htr
      obtain ⟨ab, hb, rfl⟩ := htr
      have hex' : exec A n ab t H = some (x, t', H') := by
        cases n with
        | zero => simp [exec, stepA] at hex
        | succ n =>
          have e0 : exec A (n + 1) .skip t H = some (.norm, t, H) := rfl
          have e1 : exec A (n + 1 + 1) (.seq .skip ab) t H = exec A (n + 1) ab t H := by
            show stepA A (exec A (n + 1)) (.seq .skip ab) t H = _
            simp only [stepA, e0]
          rw [← e1]; exact hex
      refine wpIn_scope_straight (wpIn_mono (ihc hb hex' hr ht hd ro k hL) ?_)
      rintro e a' w' ⟨rfl, hp⟩
      cases x <;> exact ⟨rfl, hp⟩
    | rangeFunc g ps asg body =>
      simp only [trCode] at htr
      split at htr
      · rename_i y aa ab hy ha hb
        cases htr
        simp only [exec, stepA] at hex
        exact rangeA_sound (callA_sound hA ihc) hy ha hb hex hr ht hd hL
      · cases htr
    | _ => simp [trCode] at htr; subst htr; simp [exec, stepA] at hex

/-- What the small machine says of a function holds of the program. -/
theorem sound {A : FuncId → Option ADef} (hA : TableOk P A) (hmix : P.follows .mixedOrders = true) (n : Nat) {f : FuncId} {args : List AV} {r : AV} {H' : AHeap} (h : callA A (exec A n) f args H = some (r, H')) {args' : Array Value}
    (hr : Rel P.pg W0 m H w) (hargs : toVs m args = some args'.toList) :
    Calls P f args' w fun e w' => ∃ m' v, m.le m' ∧ Rel P.pg W0 m' H' w' ∧ r.toV m' = some v ∧ e = .returned v :=
  ((callA_sound hA (code_sound hA hmix n).1) f args H (r, H') h).2 h hr hargs

end
end Go.AM
