/- Fair picks: windows. -/
import Derived.Test.YtkajahlgiglliaaGreatDoorF2
set_option maxRecDepth 100000
namespace R1
open Go Go.AM

/-- A window of picks. -/
def win (l : List Int) (i w : Nat) : List Int := (l.drop i).take w

/-- Is each of some cores in each window, from one on? -/
def fairL (l : List Int) (o : BitVec 64) (w : Nat) : Nat → Nat → Bool
  | 0, _ => true
  | n + 1, i => if i + w ≤ l.length then (if o &&& ~~~(foldM (win l i w) 0#64) = 0#64 then fairL l o w n (i + 1) else false) else true

def fairB (l : List Int) (o : BitVec 64) (w : Int) : Bool := if w < 1 then false else fairL l o w.toNat l.length 0

theorem win_len {l : List Int} {i w : Nat} (h : i + w ≤ l.length) : (win l i w).length = w := by unfold win; rw [List.length_take, List.length_drop]; omega

theorem fair_spec {H : AHeap} {s : AV} {l : List Int} (hs : IntsAt H s l) (hl : l.length ≤ 300) (o : BitVec 64) (window : Int) :
    fnA tbl 28 [s, bv o, .int .i64 window] H = some (.bool (fairB l o window), H) := by
  have hlen := hs.len
  by_cases hw1 : window < 1
  · rw [fnA_eq (fn := a28) rfl]
    simp [a28, hw1, fairB]
  · obtain ⟨w, rfl⟩ := Int.eq_ofNat_of_zero_le (show 0 ≤ window by omega)
    have hw : 1 ≤ w := by omega
    have loop := loop_ind (A := tbl) (b := a28_l0)
      (I := fun n t H' => ∃ i x3 x4 x5 x6 rest, t = s :: bv o :: .int .i64 (w : Nat) :: x3 :: x4 :: x5 :: x6 :: .int .i64 (i : Nat) :: rest ∧ rest.length = 29 ∧ H' = H ∧ i + n = l.length ∧ fairL l o w n i = fairL l o w l.length 0)
      (Q := fun x t H' => ∃ x0 x1 x2 x3 x4 x5 b rest, t = x0 :: x1 :: x2 :: x3 :: x4 :: x5 :: b :: rest ∧ rest.length = 30 ∧ H' = H ∧ ((x = .exit 0 ∧ fairL l o w l.length 0 = true) ∨ (x = .ret ∧ b = .bool false ∧ fairL l o w l.length 0 = false))) ?_
    · obtain ⟨x, t', _, h, x0, x1, x2, x3, x4, x5, b, rest, rfl, hr, rfl, hx⟩ := loop l.length _ H ⟨0, .undef, .undef, .undef, .bool false, .int .i64 (w : Nat) :: .bool false :: undefs 27, rfl, rfl, rfl, by omega, rfl⟩
      rw [fnA_eq (fn := a28) rfl]
      simp [undefs] at h
      rcases hx with ⟨rfl, hf⟩ | ⟨rfl, rfl, hf⟩
      · simp [a28, hw1, hlen, h, fairB, hf]
      · simp [a28, hw1, hlen, h, fairB, hf]
    · rintro n t _ ⟨i, x3, x4, x5, x6, rest, rfl, hr, rfl, hi, hf⟩
      repeat (obtain ⟨_, _, e, h2⟩ := len_succ hr; clear hr; subst e; have hr := h2; clear h2)
      obtain rfl := List.length_eq_zero_iff.1 hr
      cases n with
      | zero =>
        obtain rfl : i = l.length := by omega
        refine ⟨?q1, ?h1, ?r1⟩
        case h1 => simp [a28_l0, hlen]; rfl
        case r1 => exact .inr ⟨by simp, _, _, _, _, _, _, _, _, rfl, rfl, rfl, .inl ⟨rfl, hf.symm⟩⟩
      | succ n =>
        have hlt : i < l.length := by omega
        have hsub : IntKind.i64.wrap ((l.length : Int) - (i : Int)) = (l.length : Int) - (i : Int) := wrap_i64 (by omega) (by omega)
        by_cases hc : i + w ≤ l.length
        · have hc' : (w : Int) ≤ (l.length : Int) - (i : Int) := by omega
          have hadd : IntKind.i64.wrap ((i : Int) + (w : Int)) = (i : Int) + (w : Int) := wrap_i64 (by omega) (by omega)
          have hsucc := wrap_succ hlt (by omega)
          obtain ⟨s', hs', hcut⟩ := hs.cut (a := i) (n := w) (by omega) hc
          have hof := of_spec hs' (by rw [show (List.take w (List.drop i l)).length = w from win_len hc]; omega)
          rw [show List.take w (List.drop i l) = win l i w from rfl] at hof
          by_cases hz : o &&& ~~~(foldM (win l i w) 0#64) = 0#64
          · refine ⟨?q2, ?h2, ?r2⟩
            case h2 => simp [a28_l0, hlen, hlt, hsub, hc', hadd, hcut, hof, within_spec, hz, hsucc]; rfl
            case r2 => exact .inl ⟨rfl, n, by omega, i + 1, _, _, _, _, _, rfl, rfl, rfl, by omega, by rw [← hf, fairL, if_pos hc, if_pos hz]⟩
          · refine ⟨?q3, ?h3, ?r3⟩
            case h3 => simp [a28_l0, hlen, hlt, hsub, hc', hadd, hcut, hof, within_spec, hz, hsucc]; rfl
            case r3 => exact .inr ⟨by simp, _, _, _, _, _, _, _, _, rfl, rfl, rfl, .inr ⟨rfl, rfl, by rw [← hf, fairL, if_pos hc, if_neg hz]⟩⟩
        · have hc' : ¬ ((w : Int) ≤ (l.length : Int) - (i : Int)) := by omega
          refine ⟨?q4, ?h4, ?r4⟩
          case h4 => simp [a28_l0, hlen, hlt, hsub, hc']; rfl
          case r4 => exact .inr ⟨by simp, _, _, _, _, _, _, _, _, rfl, rfl, rfl, .inl ⟨rfl, by rw [← hf, fairL, if_neg hc]⟩⟩

theorem seen_loop {H : AHeap} {s : AV} {l : List Int} (hs : IntsAt H s l) (hl : l.length ≤ 300) {i w : Nat} (hc : i + w ≤ l.length) (x1 x3 x4 x5 x6 : AV) (rest : List AV) (hr : rest.length = 34) :
    ∃ x9 rest', loA tbl a29_l1 (s :: x1 :: .int .i64 (w : Nat) :: x3 :: x4 :: x5 :: x6 :: .int .i64 (i : Nat) :: bv 0#64 :: .int .i64 (i : Nat) :: rest) H =
      some (.exit 2, s :: x1 :: .int .i64 (w : Nat) :: x3 :: x4 :: x5 :: x6 :: .int .i64 (i : Nat) :: bv (foldM (win l i w) 0#64) :: x9 :: rest', H) ∧ rest'.length = 34 := by
  have hadd : IntKind.i64.wrap ((i : Int) + (w : Int)) = (i : Int) + (w : Int) := wrap_i64 (by omega) (by omega)
  have loop := loop_ind (A := tbl) (b := a29_l1)
    (I := fun n t H' => ∃ m k rest, t = s :: x1 :: .int .i64 (w : Nat) :: x3 :: x4 :: x5 :: x6 :: .int .i64 (i : Nat) :: bv m :: .int .i64 (k : Nat) :: rest ∧ rest.length = 34 ∧ H' = H ∧ k + n = i + w ∧ foldM ((l.drop k).take n) m = foldM (win l i w) 0#64)
    (Q := fun x t H' => ∃ x9 rest, t = s :: x1 :: .int .i64 (w : Nat) :: x3 :: x4 :: x5 :: x6 :: .int .i64 (i : Nat) :: bv (foldM (win l i w) 0#64) :: x9 :: rest ∧ rest.length = 34 ∧ H' = H ∧ x = .exit 2) ?_
  · obtain ⟨x, t', _, h, x9, rest', rfl, hr', rfl, rfl⟩ := loop w _ H ⟨0#64, i, rest, rfl, hr, rfl, rfl, rfl⟩
    exact ⟨x9, rest', h, hr'⟩
  · rintro n t _ ⟨m, k, rest, rfl, hr, rfl, hk, hf⟩
    repeat (obtain ⟨_, _, e, h2⟩ := len_succ hr; clear hr; subst e; have hr := h2; clear h2)
    obtain rfl := List.length_eq_zero_iff.1 hr
    cases n with
    | zero =>
      obtain rfl : k = i + w := by omega
      obtain rfl : m = foldM (win l i w) 0#64 := by simpa [foldM] using hf
      refine ⟨?q1, ?h1, ?r1⟩
      case h1 => simp [a29_l1, hadd]; rfl
      case r1 => exact .inr ⟨by simp, _, _, rfl, rfl, rfl, rfl⟩
    | succ n =>
      have hlt : k < l.length := by omega
      have hlt' : (k : Int) < (i : Int) + (w : Int) := by omega
      have hsucc := wrap_succ hlt (by omega)
      obtain ⟨p, hp, hload⟩ := hs.idx hlt
      refine ⟨?q2, ?h2, ?r2⟩
      case h2 => simp [a29_l1, hadd, hlt', hp, hload, rwith_spec, hsucc]; rfl
      case r2 => exact .inl ⟨rfl, n, by omega, m ||| oneB l[k], k + 1, _, rfl, rfl, rfl, by omega, by rw [← hf, List.drop_eq_getElem_cons hlt]; rfl⟩

theorem rfair_spec {H : AHeap} {s : AV} {l : List Int} (hs : IntsAt H s l) (hl : l.length ≤ 300) (o : BitVec 64) (window : Int) :
    ∃ H', fnA tbl 29 [s, bv o, .int .i64 window] H = some (.bool (fairB l o window), H') ∧ Keeps H H' := by
  by_cases hw1 : window < 1
  · refine ⟨H, ?_, Keeps.refl H⟩
    rw [fnA_eq (fn := a29) rfl]
    simp [a29, hw1, fairB]
  · obtain ⟨w, rfl⟩ := Int.eq_ofNat_of_zero_le (show 0 ≤ window by omega)
    have hw : 1 ≤ w := by omega
    have loop := loop_ind (A := tbl) (b := a29_l0)
      (I := fun n t H' => ∃ i x3 x4 x5 x6 rest, t = s :: bv o :: .int .i64 (w : Nat) :: x3 :: x4 :: x5 :: x6 :: .int .i64 (i : Nat) :: rest ∧ rest.length = 36 ∧ Keeps H H' ∧ i + n = l.length ∧ fairL l o w n i = fairL l o w l.length 0)
      (Q := fun x t H' => ∃ x0 x1 x2 x3 x4 x5 b rest, t = x0 :: x1 :: x2 :: x3 :: x4 :: x5 :: b :: rest ∧ rest.length = 37 ∧ Keeps H H' ∧ ((x = .exit 0 ∧ fairL l o w l.length 0 = true) ∨ (x = .ret ∧ b = .bool false ∧ fairL l o w l.length 0 = false))) ?_
    · obtain ⟨x, t', H', h, x0, x1, x2, x3, x4, x5, b, rest, rfl, hr, hk, hx⟩ := loop l.length _ H ⟨0, .undef, .undef, .undef, .bool false, .undef :: .undef :: .int .i64 (w : Nat) :: .bool false :: undefs 32, rfl, rfl, Keeps.refl H, by omega, rfl⟩
      refine ⟨H', ?_, hk⟩
      rw [fnA_eq (fn := a29) rfl]
      simp [undefs] at h
      rcases hx with ⟨rfl, hf⟩ | ⟨rfl, rfl, hf⟩
      · simp [a29, hw1, h, fairB, hf]
      · simp [a29, hw1, h, fairB, hf]
    · rintro n t H1 ⟨i, x3, x4, x5, x6, rest, rfl, hr, hk, hi, hf⟩
      have hs1 := hs.keep hk
      have hlen := hs1.len
      repeat (obtain ⟨_, _, e, h2⟩ := len_succ hr; clear hr; subst e; have hr := h2; clear h2)
      obtain rfl := List.length_eq_zero_iff.1 hr
      cases n with
      | zero =>
        obtain rfl : i = l.length := by omega
        refine ⟨?q1, ?h1, ?r1⟩
        case h1 => simp [a29_l0, hlen]; rfl
        case r1 => exact .inr ⟨by simp, _, _, _, _, _, _, _, _, rfl, rfl, hk, .inl ⟨rfl, hf.symm⟩⟩
      | succ n =>
        have hlt : i < l.length := by omega
        have hsub : IntKind.i64.wrap ((l.length : Int) - (i : Int)) = (l.length : Int) - (i : Int) := wrap_i64 (by omega) (by omega)
        by_cases hc : i + w ≤ l.length
        · have hc' : (w : Int) ≤ (l.length : Int) - (i : Int) := by omega
          have hsucc := wrap_succ hlt (by omega)
          have e0 : bv 0#64 = .int .u64 0 := rfl
          obtain ⟨H2, hnot, hk2⟩ := rnot_spec o (foldM (win l i w) 0#64) H1
          rename_i g0 g1 g2 g3 g4 g5 g6 g7 g8 g9 g10 g11 g12 g13 g14 g15 g16 g17 g18 g19 g20 g21 g22 g23 g24 g25 g26 g27 g28 g29 g30 g31 g32 g33 g34 g35
          obtain ⟨x9, rest', hloop, hr'⟩ := seen_loop hs1 hl hc (bv o) x3 x4 x5 x6 [g2, g3, .int .i64 (i : Nat), s, .int .i64 l.length, .bool true, .bool true, s, .int .i64 l.length, .int .i64 (i : Nat), .int .i64 ((l.length : Int) - (i : Int)), .int .i64 (w : Nat), .bool true, .bool true, g16, g17, .int .i64 (i : Nat), g19, g20, g21, g22, g23, g24, g25, g26, g27, g28, g29, g30, g31, g32, g33, g34, g35] rfl
          rw [e0] at hloop
          repeat (obtain ⟨_, _, e, h2⟩ := len_succ hr'; clear hr'; subst e; have hr' := h2; clear h2)
          obtain rfl := List.length_eq_zero_iff.1 hr'
          by_cases hz : o &&& ~~~(foldM (win l i w) 0#64) = 0#64
          · refine ⟨?q2, ?h2, ?r2⟩
            case h2 => simp [a29_l0, hlen, hlt, hsub, hc', hloop, hnot, hz, hsucc]; rfl
            case r2 => exact .inl ⟨rfl, n, by omega, i + 1, _, _, _, _, _, rfl, rfl, hk.trans hk2, by omega, by rw [← hf, fairL, if_pos hc, if_pos hz]⟩
          · refine ⟨?q3, ?h3, ?r3⟩
            case h3 => simp [a29_l0, hlen, hlt, hsub, hc', hloop, hnot, hz, hsucc]; rfl
            case r3 => exact .inr ⟨by simp, _, _, _, _, _, _, _, _, rfl, rfl, hk.trans hk2, .inr ⟨rfl, rfl, by rw [← hf, fairL, if_pos hc, if_neg hz]⟩⟩
        · have hc' : ¬ ((w : Int) ≤ (l.length : Int) - (i : Int)) := by omega
          refine ⟨?q4, ?h4, ?r4⟩
          case h4 => simp [a29_l0, hlen, hlt, hsub, hc']; rfl
          case r4 => exact .inr ⟨by simp, _, _, _, _, _, _, _, _, rfl, rfl, hk, .inl ⟨rfl, by rw [← hf, fairL, if_neg hc]⟩⟩

end R1
