/- What the small machine runs the program runs: statements, functions. -/
import Derived.Test.YtkajahlgiglliaaGreatDoorAm13
import Derived.Scope
set_option linter.unusedSimpArgs false
namespace Go.AM

section
variable {P : Program} {W0 : World} {m : Env} {H : AHeap} {w : World} {t : List AV} {a : Act}

def AExit.toE : AExit → Exit
  | .norm => .normal
  | .exit id => .exit id
  | .ret => .ret

/-- How a statement ends. -/
def Post (P : Program) (W0 : World) (m : Env) (x : AExit) (t' : List AV) (H' : AHeap) : Exit → Act → World → Prop :=
  fun e a' w' => e = x.toE ∧ ∃ m', m.le m' ∧ Rel P.globals.size W0 m' H' w' ∧ TRel m' t' a'.tmps ∧ a'.defers = []

theorem Post.mono {m m' : Env} (h : m.le m') {x : AExit} {t' : List AV} {H' : AHeap} {e : Exit} {a' : Act} {w' : World} (hp : Post P W0 m' x t' H' e a' w') : Post P W0 m x t' H' e a' w' :=
  ⟨hp.1, let ⟨m2, h1, h2⟩ := hp.2; ⟨m2, Env.le_trans h h1, h2⟩⟩

/-- Statements: 'n' is the number of steps. -/
def CodeOk (P : Program) (A : FuncId → Option ADef) (n : Nat) : Prop :=
  ∀ {W0 : World} {c : Code} {ac : ACode} {m : Env} {H : AHeap} {w : World} {t : List AV} {a : Act} {x : AExit} {t' : List AV} {H' : AHeap}, trCode P c = some ac → exec A n ac t H = some (x, t', H') →
    Rel P.globals.size W0 m H w → TRel m t a.tmps → a.defers = [] → c.wp P (Post P W0 m x t' H') a w

def LoopOk (P : Program) (A : FuncId → Option ADef) (n : Nat) : Prop :=
  ∀ {W0 : World} {c : Code} {ac : ACode} {m : Env} {H : AHeap} {w : World} {t : List AV} {a : Act} {x : AExit} {t' : List AV} {H' : AHeap}, trCode P c = some ac → exec A n (.loop ac) t H = some (x, t', H') →
    Rel P.globals.size W0 m H w → TRel m t a.tmps → a.defers = [] → Code.rounds P c (Post P W0 m x t' H') n a w

theorem undefs_toVs (m : Env) : ∀ n, toVs m (undefs n) = some (List.replicate n undef)
  | 0 => rfl
  | n + 1 => by simp [undefs, toVs, undef_toV, undefs_toVs m n, List.replicate_succ]

/-- One result. -/
def resF (tmps : Array Value) : ResultVar → Sem Value
  | .tmp n => pure (tmps.getD n undef)
  | .cell p ty => do loadVar ty (← asAddr (tmps.getD p undef))

theorem results_eq (fn : Func) (tmps : Array Value) : results fn tmps = (do let vs ← fn.results.mapM (resF tmps); pure (if h : vs.size = 1 then vs[0] else .tuple vs)) := by
  unfold results
  congr 1

theorem res_sound (hr : Rel P.globals.size W0 m H w) (ht : TRel m t a.tmps) : ∀ {rs : List ResultVar} {l : List ARes} {vs : List AV}, rs.mapM (trRes P) = some l → resA H t l = some vs →
    ∃ us, (rs.mapM (resF a.tmps)).run P w = .ok us w ∧ toVs m vs = some us := by
  intro rs
  induction rs with
  | nil => intro l vs hl h; simp at hl; subst hl; simp [resA] at h; subst h; exact ⟨[], by simp, rfl⟩
  | cons r rs ih =>
    intro l vs hl h
    simp only [List.mapM_cons, Option.pure_def, Option.bind_eq_bind, Option.bind_eq_some_iff] at hl
    obtain ⟨y, hy, ys, hys, hl⟩ := hl
    cases hl
    have fin : ∀ (v' : Value) (us : List Value), (resF a.tmps r).run P w = .ok v' w → (rs.mapM (resF a.tmps)).run P w = .ok us w → ((r :: rs).mapM (resF a.tmps)).run P w = .ok (v' :: us) w := by
      intro v' us e1 e2
      simp only [List.mapM_cons, Sem.run_bind, e1, e2, Result.andThen_ok, Sem.run_pure]
    cases r with
    | tmp n =>
      simp [trRes] at hy; subst hy
      simp only [resA] at h
      split at h
      · rename_i vs' hvs
        cases h
        obtain ⟨us, h1, h2⟩ := ih hys hvs
        have := ht.getD n
        exact ⟨a.tmps.getD n undef :: us, fin _ _ (by simp [resF]) h1, by simp only [toVs, this, h2]⟩
      · cases h
    | cell p ty =>
      simp only [trRes, Option.map_eq_some_iff] at hy
      obtain ⟨g, hg, rfl⟩ := hy
      simp only [resA] at h
      split at h
      · rename_i v vs' hv hvs
        cases h
        obtain ⟨us, h1, h2⟩ := ih hys hvs
        have hp := ht.getD p
        cases e : t.getD p .undef <;> rw [e] at hv hp <;> (try (simp [loadA] at hv; done))
        rename_i q
        cases q with
        | none => simp [loadA] at hv
        | some q =>
          obtain ⟨b, hb, hpv⟩ := inv_ptr hp
          obtain ⟨v', g1, g2⟩ := loadA_sound hr hg hv hb
          refine ⟨v' :: us, fin _ _ ?_ h1, by simp only [toVs, g1, h2]⟩
          simp only [resF, Sem.run_bind, hpv, asAddr, Sem.run_pure, Result.andThen_ok]
          exact g2
      · cases h

theorem results_sound (hr : Rel P.globals.size W0 m H w) (ht : TRel m t a.tmps) {fn : Func} {l : List ARes} (hl : fn.results.toList.mapM (trRes P) = some l) {vs : List AV} (h : resA H t l = some vs) :
    ∃ v, (results fn a.tmps).run P w = .ok v w ∧ (resOf vs).toV m = some v := by
  obtain ⟨us, h1, h2⟩ := res_sound hr ht hl h
  rw [← Array.toList_mapM, Sem.run_map] at h1
  generalize hx : (fn.results.mapM (resF a.tmps)).run P w = r at h1
  cases r with
  | ok arr w' =>
    simp only [Result.andThen_ok, Result.ok.injEq] at h1
    obtain ⟨e1, e2⟩ := h1
    subst e2
    have hlen := toVs_length h2
    refine ⟨if h : arr.size = 1 then arr[0] else .tuple arr, by rw [results_eq]; simp only [Sem.run_bind, hx, Result.andThen_ok, Sem.run_pure], ?_⟩
    subst e1
    match vs, arr, h2, hlen with
    | [v], arr, h2, hlen =>
      obtain ⟨u, us', hu, hus, he⟩ := toVs_cons h2
      simp [toVs] at hus; subst hus
      have : arr = #[u] := by apply Array.ext'; simpa using he
      subst this
      simpa [resOf] using hu
    | [], arr, h2, hlen =>
      have hs : arr.size ≠ 1 := by rw [Array.length_toList] at hlen; simp only [List.length_nil] at hlen; omega
      simp [resOf, hs, AV.toV, h2]
    | x :: y :: l, arr, h2, hlen =>
      have hs : arr.size ≠ 1 := by simp at hlen; omega
      simp [resOf, hs, AV.toV, h2]
  | halt x w' => simp [Result.andThen] at h1

/-- A function of the table, once its statements are sound. -/
theorem callA_sound {A : FuncId → Option ADef} (hA : TableOk P A) {n : Nat} (hn : CodeOk P A n) : CallsOk P (callA A (exec A n)) := by
  intro f args0 H0 r0 h0
  unfold callA at h0
  split at h0
  · rename_i fn hf
    obtain ⟨hb, htr⟩ := hA f _ hf
    refine ⟨hb, ?_⟩
    intro W0 m H w args args' r H' h hr hargs
    simp only at htr
    unfold trFn at htr
    split at htr
    · rename_i F hF
      split at htr
      · rename_i c hc
        split at htr
        · rename_i ac rs hac hrs
          cases htr
          unfold callA at h
          rw [hf] at h
          simp only at h
          have hlen := toVs_length hargs
          simp only [Array.length_toList] at hlen
          refine calls_of_wp hF hc ?_
          have htm : TRel m (args ++ undefs (F.ntmps - args.length)) (args' ++ Array.replicate (F.ntmps - args'.size) undef) := by
            unfold TRel
            rw [Array.toList_append, Array.toList_replicate, hlen]
            exact toVs_append hargs (undefs_toVs m _)
          have main : ∀ (x : AExit) (t : List AV) (H1 : AHeap), exec A n ac (args ++ undefs (F.ntmps - args.length)) H = some (x, t, H1) → (x = .norm ∨ x = .ret) → ((resA H1 t rs).map fun l => (resOf l, H1)) = some (r, H') →
              c.wp P (bodyPost P F fun e w' => ∃ m' v, m.le m' ∧ Rel P.globals.size W0 m' H' w' ∧ r.toV m' = some v ∧ e = .returned v) { tmps := args' ++ Array.replicate (F.ntmps - args'.size) undef, defers := [] } w := by
            intro x t H1 hex hx hres
            simp only [Option.map_eq_some_iff, Prod.mk.injEq] at hres
            obtain ⟨vs, hvs, rfl, rfl⟩ := hres
            refine wp_mono (hn hac hex hr htm rfl) ?_
            rintro e a' w' ⟨rfl, m', h1, h2, h3, h4⟩
            obtain ⟨v, e1, e2⟩ := results_sound h2 h3 hrs hvs
            rcases hx with rfl | rfl
            · exact ⟨h4, v, e1, m', v, h1, h2, e2, rfl⟩
            · exact ⟨h4, v, e1, m', v, h1, h2, e2, rfl⟩
          split at h
          · rename_i t1 H1 hex; exact main _ _ _ hex (.inl rfl) h
          · rename_i t1 H1 hex; exact main _ _ _ hex (.inr rfl) h
          · cases h
        · cases htr
      · cases htr
    · cases htr
  · rename_i g hg
    obtain ⟨hb, hsim⟩ := hA f _ hg
    refine ⟨hb, ?_⟩
    intro W0 m H w args args' r H' h hr hargs
    unfold callA at h
    rw [hg] at h
    exact hsim h hr hargs
  · cases h0

theorem rounds_mono {c : Code} {Q Q' : Exit → Act → World → Prop} (hq : ∀ e a w, Q e a w → Q' e a w) : ∀ (n : Nat) {a : Act} {w : World}, Code.rounds P c Q n a w → Code.rounds P c Q' n a w
  | 0, _, _, h => h.elim
  | n + 1, a, w, h => by
    rw [rounds_succ] at h ⊢
    refine wp_mono h ?_
    intro e a w h
    cases e <;> first | exact rounds_mono hq n h | exact hq _ _ _ h

theorem code_sound {A : FuncId → Option ADef} (hA : TableOk P A) (hmix : P.follows .mixedOrders = true) : ∀ n, CodeOk P A n ∧ LoopOk P A n := by
  intro n
  induction n with
  | zero => exact ⟨fun _ h => by simp [exec] at h, fun _ h => by simp [exec] at h⟩
  | succ n ih =>
    obtain ⟨ihc, ihl⟩ := ih
    have hloop : LoopOk P A (n + 1) := by
      intro W0 c ac m H w t a x t' H' htr hex hr ht hd
      simp only [exec, stepA] at hex
      rw [rounds_succ]
      split at hex
      · rename_i t1 H1 hb
        refine wp_mono (ihc htr hb hr ht hd) ?_
        rintro e a' w' ⟨rfl, m', h1, h2, h3, h4⟩
        exact rounds_mono (fun _ _ _ hp => Post.mono h1 hp) n (ihl htr hex h2 h3 h4)
      · rename_i hne
        refine wp_mono (ihc htr hex hr ht hd) ?_
        rintro e a' w' hp
        cases x with
        | norm => exact absurd hex (hne _ _)
        | exit id => obtain ⟨rfl, hp⟩ := hp; exact ⟨rfl, hp⟩
        | ret => obtain ⟨rfl, hp⟩ := hp; exact ⟨rfl, hp⟩
    refine ⟨?_, hloop⟩
    intro W0 c ac m H w t a x t' H' htr hex hr ht hd
    cases c with
    | skip =>
      simp [trCode] at htr; subst htr
      simp only [exec, stepA, Option.some.injEq, Prod.mk.injEq] at hex
      obtain ⟨rfl, rfl, rfl⟩ := hex
      exact wp_skip ⟨rfl, m, Env.le_refl m, hr, ht, hd⟩
    | region id ops draw =>
      simp only [trCode] at htr
      split at htr
      · rename_i l hl
        split at htr
        · rename_i hdr
          split at htr
          · rename_i hord
            cases htr
            simp only [exec, stepA] at hex
            split at hex
            · rename_i tr hrun
              split at hex
              · rename_i hst
                simp only [Option.some.injEq, Prod.mk.injEq] at hex
                obtain ⟨rfl, rfl, rfl⟩ := hex
                have : draw = true := hdr
                subst this
                exact dreg_sound (callA_sound hA ihc) hmix hl hord hr ht hd hrun hst (fun m' a' w' h1 h2 h3 h4 => ⟨rfl, m', h1, h2, h3, h4⟩) id
              · cases hex
            · cases hex
          · cases htr; simp [exec, stepA] at hex
        · rename_i hdr
          cases htr
          have hdr' : draw = false := by simpa using hdr
          subst hdr'
          simp only [exec, stepA] at hex
          split at hex
          · rename_i r hev
            simp only [Option.some.injEq, Prod.mk.injEq] at hex
            obtain ⟨rfl, rfl, rfl⟩ := hex
            exact region_sound (callA_sound hA ihc) hl hr ht hd hev (fun m' a' w' h1 h2 h3 h4 => ⟨rfl, m', h1, h2, h3, h4⟩) id
          · cases hex
      · cases htr; simp [exec, stepA] at hex
    | seq c1 c2 =>
      simp only [trCode] at htr
      split at htr
      · rename_i a1 a2 h1 h2
        cases htr
        simp only [exec, stepA] at hex
        refine wp_seq ?_
        split at hex
        · rename_i t1 H1 hb
          refine wp_mono (ihc h1 hb hr ht hd) ?_
          rintro e a' w' ⟨rfl, m', g1, g2, g3, g4⟩
          exact wp_mono (ihc h2 hex g2 g3 g4) (fun _ _ _ hp => Post.mono g1 hp)
        · rename_i hne
          refine wp_mono (ihc h1 hex hr ht hd) ?_
          rintro e a' w' hp
          cases x with
          | norm => exact absurd hex (hne _ _)
          | exit id => obtain ⟨rfl, hp⟩ := hp; exact ⟨rfl, hp⟩
          | ret => obtain ⟨rfl, hp⟩ := hp; exact ⟨rfl, hp⟩
      · cases htr
    | cond cc c1 c2 =>
      simp only [trCode] at htr
      split at htr
      · rename_i y a1 a2 hy h1 h2
        cases htr
        have hc := opd_sound hr.glob ht hy
        simp only [exec, stepA] at hex
        split at hex
        · rename_i e; rw [e] at hc; exact wp_cond_true (inv_bool hc) (ihc h1 hex hr ht hd)
        · rename_i e; rw [e] at hc; exact wp_cond_false (inv_bool hc) (ihc h2 hex hr ht hd)
        · cases hex
      · cases htr
    | block id b =>
      simp only [trCode, Option.map_eq_some_iff] at htr
      obtain ⟨ab, hb, rfl⟩ := htr
      simp only [exec, stepA] at hex
      refine wp_block ?_
      split at hex
      · rename_i j t1 H1 hex1
        refine wp_mono (ihc hb hex1 hr ht hd) ?_
        rintro e a' w' ⟨rfl, hp⟩
        split at hex
        · rename_i hj
          cases hex
          have := Nat.eq_of_beq_eq_true hj
          subst this
          show (if j = j then _ else _)
          rw [if_pos rfl]
          exact ⟨rfl, hp⟩
        · rename_i hj
          cases hex
          have hne : j ≠ id := fun e => by rw [e, Nat.beq_refl] at hj; cases hj
          show (if j = id then _ else _)
          rw [if_neg hne]
          exact ⟨rfl, hp⟩
      · rename_i hne
        refine wp_mono (ihc hb hex hr ht hd) ?_
        rintro e a' w' hp
        cases x with
        | norm => obtain ⟨rfl, hp⟩ := hp; exact ⟨rfl, hp⟩
        | exit j => exact absurd hex (hne _ _ _)
        | ret => obtain ⟨rfl, hp⟩ := hp; exact ⟨rfl, hp⟩
    | loop b =>
      simp only [trCode, Option.map_eq_some_iff] at htr
      obtain ⟨ab, hb, rfl⟩ := htr
      exact wp_loop_rounds (n + 1) (hloop hb hex hr ht hd)
    | exit id =>
      simp [trCode] at htr; subst htr
      simp only [exec, stepA, Option.some.injEq, Prod.mk.injEq] at hex
      obtain ⟨rfl, rfl, rfl⟩ := hex
      exact wp_exit ⟨rfl, m, Env.le_refl m, hr, ht, hd⟩
    | ret =>
      simp [trCode] at htr; subst htr
      simp only [exec, stepA, Option.some.injEq, Prod.mk.injEq] at hex
      obtain ⟨rfl, rfl, rfl⟩ := hex
      exact wp_ret ⟨rfl, m, Env.le_refl m, hr, ht, hd⟩
    | label l =>
      simp [trCode] at htr; subst htr
      simp only [exec, stepA, Option.some.injEq, Prod.mk.injEq] at hex
      obtain ⟨rfl, rfl, rfl⟩ := hex
      exact wp_label ⟨rfl, m, Env.le_refl m, hr, ht, hd⟩
    | scope b =>
      simp only [trCode, Option.map_eq_some_iff] at htr
      obtain ⟨ab, hb, rfl⟩ := htr
      have hex' : exec A n ab t H = some (x, t', H') := by
        cases n with
        | zero => simp [exec, stepA] at hex
        | succ k =>
          have e0 : exec A (k + 1) .skip t H = some (.norm, t, H) := rfl
          have e1 : exec A (k + 1 + 1) (.seq .skip ab) t H = exec A (k + 1) ab t H := by
            show stepA A (exec A (k + 1)) (.seq .skip ab) t H = _
            simp only [stepA, e0]
          rw [← e1]; exact hex
      refine wp_scope_straight (wp_mono (ihc hb hex' hr ht hd) ?_)
      rintro e a' w' ⟨rfl, hp⟩
      cases x <;> exact ⟨rfl, hp⟩
    | _ => simp [trCode] at htr; subst htr; simp [exec, stepA] at hex

/-- What the small machine says of a function holds of the program. -/
theorem sound {A : FuncId → Option ADef} (hA : TableOk P A) (hmix : P.follows .mixedOrders = true) (n : Nat) {f : FuncId} {args : List AV} {r : AV} {H' : AHeap} (h : callA A (exec A n) f args H = some (r, H')) {args' : Array Value}
    (hr : Rel P.globals.size W0 m H w) (hargs : toVs m args = some args'.toList) :
    Calls P f args' w fun e w' => ∃ m' v, m.le m' ∧ Rel P.globals.size W0 m' H' w' ∧ r.toV m' = some v ∧ e = .returned v :=
  ((callA_sound hA (code_sound hA hmix n).1) f args H (r, H') h).2 h hr hargs

end
end Go.AM
