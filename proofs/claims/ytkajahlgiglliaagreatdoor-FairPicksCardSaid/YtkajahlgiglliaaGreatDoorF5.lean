/- Fair picks: the row. -/
import Derived.Test.YtkajahlgiglliaaGreatDoorF4
import Derived.Test.YtkajahlgiglliaaGreatDoorAm20
import Derived.Test.YtkajahlgiglliaaGreatDoorRows
import Derived.Stop.Joined
set_option maxRecDepth 100000
namespace Go.Proofs.YtkajahlgiglliaaGreatDoor
open Go Go.AM R1
open Go.ChangeShapes Go.WideShapes Go.ChangeAt Go.RowKit

theorem own : ownKnob Tryz.prog.godebug = none := by kernel_rfl
theorem laidOut : laidOutB Tryz.prog = true := by kernel_rfl
theorem gTab : Tryz.prog.globalNamed "math/bits.deBruijn64tab" = some 0 := by kernel_rfl
theorem tTab : (Tryz.prog.globals[0]?).map (·.type) = some 328 := by kernel_rfl

def laidL : List (String × DataW Unit) := [("math/bits.deBruijn64tab", Rows.laid_math_bits_deBruijn64tab)]

theorem datum : (Rows.laid_math_bits_deBruijn64tab : DataW Unit) = .agg (deB.map fun n => .lit (.int .u8 n)) := rfl

/-- The door's own heap meets the condition. -/
theorem door_met (os : Os) (args : Array Value) : laidMetH Tryz.prog laidL ((World.doorLaid Tryz.prog 400 os).forCall (fun _ _ => 0) ⟨#[], args, []⟩).memory :=
  laidMetH_of_parts3 (fuel := 8) (laidMet_of_run' 8 (by kernel_rfl) (by kernel_rfl)) (by kernel_rfl) (by kernel_rfl)

theorem tab_cells {W : World} (h : laidMetH Tryz.prog laidL W) : ∃ cs ty fz, W.heap[0]? = some (.cells cs ty fz) ∧ cs.toList = deB.map fun n => Value.int .u8 n := by
  rw [MakeChecks.laidMetH_plain _ _ _ (by kernel_rfl)] at h
  obtain ⟨ps, ⟨g0, t0, cs0, f0, p0, q0, hg0, ht0, hv0, hd0, _, _⟩, _, _⟩ := h
  obtain rfl := Option.some.inj (gTab.symm.trans hg0)
  obtain rfl := Option.some.inj (tTab.symm.trans ht0)
  unfold World.var? at hv0
  rw [gTab, Option.bind_some] at hv0
  split at hv0
  · rename_i cs ty fz hh
    have ecs := Option.some.inj hv0
    subst ecs
    refine ⟨cs, ty, fz, hh, ?_⟩
    obtain ⟨xs, m1, rfl, hx1, hlen, hn, hel⟩ := DataW.trod_array Tryz.underlying328 hd0
    have c5 : Tryz.prog.cellsOf 5 = 1 := by kernel_rfl
    have c328 : Tryz.prog.cellsOf 328 = 64 := by kernel_rfl
    rw [c328] at hlen
    rw [datum, Prod.mk.injEq, DataW.agg.injEq] at hx1
    have hdl : deB.length = 64 := rfl
    apply List.ext_getElem?
    intro i
    by_cases hi : i < 64
    · have hxi : xs[i]? = some (xs[i]'(by omega)) := List.getElem?_eq_getElem (by omega)
      have h1 := hel i hi
      rw [c5, Nat.mul_one, hxi] at h1
      obtain ⟨n, e1, e2, _⟩ := DataW.trod_int Tryz.underlying5 h1
      have h2 : (deB.map fun n => (DataW.lit (.int .u8 n) : DataW Unit))[i]? = (xs.map (·.1))[i]? := by rw [hx1.1]
      rw [List.getElem?_map, List.getElem?_map, hxi, List.getElem?_eq_getElem (by omega : i < deB.length)] at h2
      simp only [Option.map_some, Option.some.injEq, e2, DataW.lit.injEq, Lit.int.injEq, true_and] at h2
      rw [List.getElem?_map, List.getElem?_eq_getElem (by omega : i < deB.length), Option.map_some, h2]
      have h3 : ((cs.toList.drop i).take 1)[0]? = some (.int .u8 n) := by rw [e1]; rfl
      rw [List.getElem?_take, if_pos (by omega), List.getElem?_drop, Nat.add_zero] at h3
      exact h3
    · rw [List.getElem?_eq_none (by omega), List.getElem?_eq_none (by simp; omega)]
  · cases hv0

theorem rowB : (((begin Tryz.prog (fun _ _ => 0) default).world.heap[2]?).bind Obj.row?).isSome = true := by kernel_rfl

theorem size_of {W : World} (h : W.ShapedOpen Tryz.prog) : 3 ≤ W.heap.size := by
  obtain ⟨⟨zero, t⟩, hz⟩ := Option.isSome_iff_exists.1 rowB
  obtain ⟨cs, h1, _⟩ := h.1 2 zero t (by rw [nglobals]; omega) hz
  have := (Array.getElem?_eq_some_iff.1 h1).1
  omega

theorem start {W : World} (h : laidMetH Tryz.prog laidL W) (hs : 3 ≤ W.heap.size) : Rel Tryz.prog.pg ⟨W, [], []⟩ (envG 3) H0 W := by
  have e : Tryz.prog.pg.n = 3 := nglobals
  have := rel_start (NG := Tryz.prog.pg) (W := W) (H0 := H0) (by rw [e]; exact consts0) (by rw [e]; exact hs) ?_
  · rwa [e] at this
  intro i k l hi
  obtain ⟨hlt, _⟩ := consts0.2 i _ hi
  have h0 : i = 0 := by
    unfold H0 AHeap.get getO at hi
    simp only at hi
    split at hi
    · rename_i e; exact (Nat.eq_of_beq_eq_true e).symm
    · simp [getO] at hi
  subst h0
  have e : H0.get 0 = some (.cells (deB.map fun n => .int .u8 n) false 0) := rfl
  rw [e] at hi
  simp only [Option.some.injEq, AObj.cells.injEq, and_true] at hi
  obtain ⟨cs, ty, fz, h1, h2⟩ := tab_cells h
  refine ⟨cs, ty, fz, h1, ?_⟩
  rw [h2]
  exact ints_inj _ _ hi

theorem u64_bv {n : Int} (h : (Lit.int .u64 n).wf = true) : ∃ m : BitVec 64, AV.int .u64 n = bv m := by
  have h' : 0 ≤ n ∧ n < 18446744073709551616 := by
    simp [Lit.wf, IntKind.min, IntKind.max, IntKind.signed, IntKind.bits] at h
    omega
  refine ⟨BitVec.ofNat 64 n.toNat, ?_⟩
  unfold bv
  congr 1
  rw [BitVec.toNat_ofNat, Nat.mod_eq_of_lt (by omega)]
  omega

/-- The call itself. -/
theorem picks_calls {W : World} (hl : laidMetH Tryz.prog laidL W) (hs : 3 ≤ W.heap.size) {v : Value} {n w : Int} (hn : (Lit.int .u64 n).wf = true)
    (hv : v = .slice none 0 0 ∨ ∃ (b o cap : Nat) (l : List Int) (cs : Array Value) (ty : TypeId) (fz : Nat × Nat), v = .slice (some ⟨b, o, none⟩) l.length cap ∧ l.length ≤ cap ∧ W.heap[b]? = some (.cells cs ty fz) ∧ ∀ (j : Nat) x, l[j]? = some x → W.cell? ⟨b, o + j, none⟩ = some (.int .i64 x)) :
    Calls Tryz.prog 4 #[v, .int .u64 n, .int .i64 w] W fun e W' => e = .returned (.bool true) ∧ Below W.heap.size W W' := by
  have h0 := start hl hs
  obtain ⟨o, ho⟩ := u64_bv hn
  obtain ⟨m, H, s, l, hr, hk, hsv, hints⟩ : ∃ m H s l, Rel Tryz.prog.pg ⟨W, [], []⟩ m H W ∧ Keeps H0 H ∧ s.toV m = some v ∧ IntsAt H s l := by
    rcases hv with rfl | ⟨b, o, cap, l, cs, ty, fz, rfl, hcap, hb, hc⟩
    · exact ⟨_, _, .slc none 0 0 false, [], h0, Keeps.refl _, rfl, .inl ⟨0, rfl, rfl⟩⟩
    · obtain ⟨m, H, s, hle, hr, hk, hv, hi⟩ := lend_ints h0 (by show Tryz.prog.globals.size ≤ 3; rw [nglobals]; exact Nat.le_refl _) hb hcap hc
      exact ⟨m, H, s, l, hr, hk, hv, hi⟩
  have hhas : Has0 H := Has0.keep (fun i o h => h) hk (Nat.le_refl _)
  obtain ⟨H', hcall⟩ := picks_spec hints hhas hk.next o w
  obtain ⟨k, hrun⟩ := call_of_lim hcall
  have hargs : toVs m [s, bv o, .int .i64 w] = some #[v, .int .u64 n, .int .i64 w].toList := by
    rw [← ho]
    simp [toVs, AV.toV, hsv]
  refine Calls.mono (sound tbl_ok Tryz.checked.mixed k hrun hr hargs) fun e W' hp => ?_
  obtain ⟨m', v', _, hr', hv', rfl⟩ := hp
  cases hv'
  exact ⟨rfl, hr'.os, hr'.tape, hr'.output, hr'.size, hr'.frame⟩

theorem f_lifted (os : Os) (started : os.Started) (H : Type) (enc : TypeId × Value → H) :
    ReturnsInHanded {} Tryz.checked os 4 .any (fun w args => (Rows.fairPicksSpec.pre enc Tryz.prog Tryz.f4 [] false w args ∧ laidMetH Tryz.prog laidL w) ∧ sizedMet enc Tryz.prog Tryz.f4 (OpenSpec.ofChange Rows.fairPicksSpec) false w args)
      (Rows.fairPicksSpec.post enc Tryz.prog Tryz.f4 false true false false) := by
  refine returnsInHanded_of_calls own started (by kernel_rfl)
    (ChangeSpec.witness_shaped (enc := enc) (C := Tryz.checked) (os := os) (X := fun w _ => laidMetH Tryz.prog laidL w) false (World.doorLaid Tryz.prog 400 os) #[.slice none 0 0, .int .u64 0, .int .i64 0] 8 rfl (World.shaped_of_RefB (by kernel_rfl) (by kernel_rfl)) (by kernel_rfl) (by kernel_rfl) (by kernel_rfl) (door_met os _)) ?_
  intro w tape i _ hshaped _ hok hpre _
  obtain ⟨_, _, _, fn', hfn', _, _, _, _, hval0⟩ := hok
  obtain rfl : fn' = Tryz.f4 := Option.some.inj (hfn'.symm.trans Tryz.func4)
  obtain ⟨⟨⟨ds, gs, before, hw, hc⟩, hx⟩, hz⟩ := hpre
  have hW := DataW.Whole.of_heap (w' := w.forCall tape i) (by rfl) hw
  have hL : laidMetH Tryz.prog laidL (w.forCall tape i) := hx.of_heap (by rfl)
  have hsize := size_of hshaped
  suffices h : ∀ (W : World) (args : Array Value), 3 ≤ W.heap.size → laidMetH Tryz.prog laidL W → (∀ (j : Nat) t v, Tryz.f4.params[j]? = some t → args[j]? = some v → ∃ base, Value.okWide Tryz.prog W .any base t v) →
      DataW.Whole enc Tryz.prog Tryz.f4.params.toList Rows.fairPicksSpec.vars false W args.toList ds gs before →
      Calls Tryz.prog 4 args W fun e W' => ∃ v, e = .returned v ∧ Rows.fairPicksSpec.post enc Tryz.prog Tryz.f4 false true false false W args v W' by
    refine (h (w.forCall tape i) i.args hsize hL (fun j t v h1 h2 => ⟨_, hval0 j t v h1 h2⟩) hW).mono fun e W' ⟨v, he, hp⟩ => ?_
    subst he
    exact ChangeSpec.post_blind hp
  clear hsize hL hW hz hx hc hw hval0 hfn' hshaped
  intro W args hsize hL hval hW
  have hW' := hW
  obtain ⟨p, q, hA0, hV, rfl, hfz, hnd⟩ := hW
  have hA : DataW.TrodAll enc Tryz.prog W 0 (fun _ => true) true Tryz.f4.params.toList args.toList ds p := hA0
  rw [Tryz.params4] at hA hval
  obtain ⟨v0, v1, v2, d0, d1, d2, p0, p1, p2, rfl, rfl, rfl, h0, h1, h2⟩ := trodAll_three hA
  obtain ⟨rfl, rfl⟩ := trodVars_none hV
  clear hA0
  have h0k := h0
  have h1k := h1
  have h2k := h2
  obtain ⟨b1, hb1⟩ := hval 1 22 v1 rfl rfl
  obtain ⟨b2, hb2⟩ := hval 2 3 v2 rfl rfl
  obtain ⟨b0, hb0⟩ := hval 0 65 v0 rfl rfl
  obtain ⟨n, rfl, rfl, rfl, wn⟩ := open_int Tryz.underlying22 hb1 h1
  obtain ⟨wd, rfl, rfl, rfl, ww⟩ := open_int Tryz.underlying3 hb2 h2
  simp only [List.append_nil] at hW'
  have hlt0 : ∀ x ∈ p0, x.block < W.heap.size := fun x hx => by simpa using hW'.lt x hx
  have fin : ∀ (e : Ending) (W' : World), (e = .returned (.bool true) ∧ Below W.heap.size W W') → ∃ v, e = .returned v ∧ Rows.fairPicksSpec.post enc Tryz.prog Tryz.f4 false true false false W #[v0, .int .u64 n, .int .i64 wd] v W' := by
    rintro e W' ⟨rfl, hbelow⟩
    refine ⟨_, rfl, _, _, _, [], p0 ++ ([] ++ []), [], hW', ?_, ?_, rfl, hbelow.frame _, fun h => by cases h⟩
    · exact trodAll_mk1 (shut_bool Tryz.underlying4 _)
    · exact trodAll_mk3 (Below.trod laidOut (by kernel_rfl) (of_decide_eq_true (by kernel_rfl)) h0k hbelow hlt0) (shut_int Tryz.underlying22 wn) (shut_int Tryz.underlying3 ww)
  refine (picks_calls hL hsize wn ?_).mono fin
  obtain ⟨a0, len, cap, rfl⟩ := okWide_slice Tryz.underlying65 hb0
  obtain ⟨fuel, hf⟩ := h0
  rcases open_ints Tryz.underlying65 Tryz.underlying3 (by kernel_rfl) hf with ⟨hcs, _⟩ | ⟨a, len', cap', zs, hcs, _, hle, hm, hz, _, hcell, _⟩
  · simp [Value.cells] at hcs
    obtain ⟨rfl, rfl, rfl⟩ := hcs
    exact .inl rfl
  · simp [Value.cells] at hcs
    obtain ⟨rfl, rfl, rfl⟩ := hcs
    right
    simp only [Value.okWide, Tryz.underlying65, Cell.okWide, Cell.ok] at hb0
    obtain ⟨_, _, hhas⟩ := hb0
    obtain ⟨_, hspot, row, cells, hshape, _⟩ := hhas
    obtain ⟨b, o, sp⟩ := a
    simp only at hspot hshape
    subst hspot
    simp only [if_true] at hz
    unfold World.shape? at hshape
    split at hshape
    · rename_i cs ty fz hh
      refine ⟨b, o, cap, zs.take len, cs, ty, fz, ?_, ?_, hh, ?_⟩
      · rw [List.length_take, Nat.min_eq_left (by omega)]
      · rw [List.length_take]; omega
      · intro j x hx
        rw [List.getElem?_take] at hx
        split at hx
        · have hj : j < zs.length := (List.getElem?_eq_some_iff.1 hx).1
          have := hcell j hj
          rw [add_plain, List.getD, hx] at this
          exact this
        · cases hx
    · cases hshape

end Go.Proofs.YtkajahlgiglliaaGreatDoor
