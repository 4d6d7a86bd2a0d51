/- Fair picks: the program's, the document's. -/
import Derived.Test.YtkajahlgiglliaaGreatDoorF1
import Derived.Test.YtkajahlgiglliaaGreatDoorAm18
set_option maxRecDepth 100000
namespace R1
open Go Go.AM

theorem oneB_bit (c : Int) {i : Nat} (hi : i < 64) : (oneB c).getLsbD i = decide (c = (i : Int)) := by
  unfold oneB
  split
  · rw [BitVec.getLsbD_twoPow, Bool.eq_iff_iff]
    simp
    omega
  · rw [Bool.eq_iff_iff]
    simp
    omega

theorem foldM_bit : ∀ (l : List Int) (m : BitVec 64) {i : Nat}, i < 64 → (foldM l m).getLsbD i = (m.getLsbD i || l.any fun c => decide (c = (i : Int)))
  | [], m, i, hi => by simp [foldM]
  | c :: l, m, i, hi => by
    have ih := foldM_bit l (m ||| oneB c) hi
    show (foldM l (m ||| oneB c)).getLsbD i = _
    rw [ih, BitVec.getLsbD_or, oneB_bit c hi, List.any_cons, Bool.or_assoc]

/-- Those of the first so many that are in one mask, not in another one. -/
def notL (m o : BitVec 64) (k : Nat) : List Int := ((List.range k).filter fun j : Nat => hasB m (j : Int) && !hasB o (j : Int)).map fun j : Nat => (j : Int)

theorem notL_succ (m o : BitVec 64) (k : Nat) : notL m o (k + 1) = if hasB m k && !hasB o k then notL m o k ++ [(k : Int)] else notL m o k := by
  unfold notL
  rw [List.range_succ, List.filter_append, List.map_append]
  cases h : hasB m k && !hasB o k <;> simp [h]

theorem notL_len (m o : BitVec 64) (k : Nat) : (notL m o k).length ≤ k := by
  unfold notL
  rw [List.length_map]
  exact Nat.le_trans (List.length_filter_le _ _) (by simp)

theorem notL_all (m o : BitVec 64) : foldM (notL m o 64) 0#64 = m &&& ~~~o := by
  apply BitVec.eq_of_getLsbD_eq
  intro i hi
  rw [foldM_bit _ _ hi, BitVec.getLsbD_and, BitVec.getLsbD_not, Bool.eq_iff_iff]
  simp only [notL, List.any_map, List.any_filter, BitVec.getLsbD_zero, Bool.false_or, hi, decide_true, Bool.true_and]
  simp only [List.any_eq_true, List.mem_range, Bool.and_eq_true, Bool.not_eq_true', Function.comp_apply, decide_eq_true_eq]
  constructor
  · rintro ⟨j, hj, ⟨h1, h2⟩, e⟩
    have : j = i := by omega
    subst this
    simp only [hasB, Int.toNat_natCast, Bool.and_eq_true, Bool.and_eq_false_iff, decide_eq_true_eq, decide_eq_false_iff_not] at h1 h2
    exact ⟨h1.2, h2.resolve_left (by omega)⟩
  · rintro ⟨h1, h2⟩
    refine ⟨i, hi, ⟨?_, ?_⟩, rfl⟩
    · simp [hasB, h1]; omega
    · simp [hasB, h2]

theorem rnot_spec (m o : BitVec 64) (H : AHeap) : ∃ H', fnA tbl 51 [bv m, bv o] H = some (bv (m &&& ~~~o), H') ∧ Keeps H H' := by
  have loop := loop_ind (A := tbl) (b := a51_l0)
    (I := fun n t H' => ∃ k x2 x3 x4 s rest, t = bv m :: bv o :: x2 :: x3 :: x4 :: s :: .int .i64 (k : Nat) :: rest ∧ rest.length = 19 ∧ k + n = 64 ∧ Keeps H H' ∧ RowNew H H' s 1 ((notL m o k).map fun v => AV.int .i64 v) (notL m o k).length)
    (Q := fun x t H' => ∃ x0 x1 x2 x3 x4 s x6 rest, t = x0 :: x1 :: x2 :: x3 :: x4 :: s :: x6 :: rest ∧ rest.length = 19 ∧ x = .exit 0 ∧ Keeps H H' ∧ IntsAt H' s (notL m o 64)) ?_
  · obtain ⟨x, t', H', h, x0, x1, x2, x3, x4, s, x6, rest, rfl, hr, rfl, hk, hs⟩ := loop 64 _ H ⟨0, .undef, .undef, .int .u64 0, .slc none 0 0 false, undefs 19, rfl, rfl, by omega, Keeps.refl H, RowNew.nil H H 1⟩
    repeat (obtain ⟨_, _, e, h2⟩ := len_succ hr; clear hr; subst e; have hr := h2; clear h2)
    obtain rfl := List.length_eq_zero_iff.1 hr
    have hof := rof_spec hs (Nat.le_trans (notL_len m o 64) (by omega))
    rw [notL_all] at hof
    refine ⟨H', ?_, hk⟩
    rw [fnA_eq (fn := a51) rfl]
    simp [undefs] at h
    simp [a51, h, hof]
  · rintro n t H' ⟨k, x2, x3, x4, s, rest, rfl, hr, hk, hkeep, hrow⟩
    repeat (obtain ⟨_, _, e, h2⟩ := len_succ hr; clear hr; subst e; have hr := h2; clear h2)
    obtain rfl := List.length_eq_zero_iff.1 hr
    cases n with
    | zero =>
      obtain rfl : k = 64 := by omega
      refine ⟨?q1, ?h, ?r⟩
      case h => simp [a51_l0]; rfl
      case r => exact .inr ⟨by simp, _, _, _, _, _, _, _, _, rfl, rfl, rfl, hkeep, hrow.ints⟩
    | succ n =>
      have hlt : k < 64 := by omega
      have hlt' : (k : Int) < 64 := by omega
      have hw := wrap_succ hlt (by omega)
      cases hm : hasB m k with
      | false =>
        have hc : ¬ ((hasB m k && !hasB o k) = true) := by simp [hm]
        refine ⟨?q2, ?h2, ?r2⟩
        case h2 => simp [a51_l0, hlt', has_spec, hm, hw]; rfl
        case r2 => exact .inl ⟨rfl, n, by omega, k + 1, _, _, _, _, _, rfl, rfl, by omega, hkeep, by rw [notL_succ, if_neg hc]; exact hrow⟩
      | true =>
        cases ho : hasB o k with
        | true =>
          have hc : ¬ ((hasB m k && !hasB o k) = true) := by simp [ho]
          refine ⟨?q4, ?h4, ?r4⟩
          case h4 => simp [a51_l0, hlt', has_spec, hm, ho, hw]; rfl
          case r4 => exact .inl ⟨rfl, n, by omega, k + 1, _, _, _, _, _, rfl, rfl, by omega, hkeep, by rw [notL_succ, if_neg hc]; exact hrow⟩
        | false =>
          have hc : (hasB m k && !hasB o k) = true := by simp [hm, ho]
          have hn := notL_len m o k
          obtain ⟨s', H2, ha, hrow', hkeep', _⟩ := row_push (bytes := 8) (d := [.int .i64 (k : Int)]) hrow hkeep rfl rfl (by omega) (by omega)
          refine ⟨?q3, ?h3, ?r3⟩
          case h3 =>
            simp [a51_l0, hlt', has_spec, hm, ho, hw, ha, putAt]; rfl
          case r3 => exact .inl ⟨rfl, n, by omega, k + 1, _, _, _, _, _, rfl, rfl, by omega, hkeep', by rw [notL_succ, if_pos hc, List.map_append, List.length_append]; exact hrow'⟩

end R1
