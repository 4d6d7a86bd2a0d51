/- Masks in the program and in the document: what their functions come to. -/
import Derived.Test.YtkajahlgiglliaaGreatDoorK
import Derived.Test.YtkajahlgiglliaaGreatDoorAm17
set_option maxRecDepth 100000
namespace R1
open Go Go.AM

theorem one_spec (c : Int) (H : AHeap) : fnA tbl 216 [.int .i64 c] H = some (bv (oneB c), H) := by
  rw [fnA_eq (fn := a216) rfl]
  by_cases h0 : c < 0
  · have e : oneB c = 0#64 := by unfold oneB; rw [if_neg (by omega)]
    simp [a216, h0, e, bv]
  · by_cases h1 : 64 ≤ c
    · have e : oneB c = 0#64 := by unfold oneB; rw [if_neg (by omega)]
      simp [a216, h0, h1, e, bv]
    · have hs := oneB_val (c := c) (by omega) (by omega)
      simp [a216, h0, h1, hs]

/-- Some cores more. -/
def foldM (l : List Int) (m : BitVec 64) : BitVec 64 := l.foldl (fun m c => m ||| oneB c) m

theorem foldM_drop {l : List Int} {k : Nat} (h : k < l.length) (m : BitVec 64) : foldM (l.drop k) m = foldM (l.drop (k + 1)) (m ||| oneB l[k]) := by
  unfold foldM; rw [List.drop_eq_getElem_cons h, List.foldl_cons]

theorem wrap_succ {k n : Nat} (h : k < n) (hn : n ≤ 1099511627776) : IntKind.i64.wrap ((k : Int) + 1) = ((k + 1 : Nat) : Int) := by rw [wrap_i64 (by omega) (by omega)]; omega

theorem with_spec {H : AHeap} {s : AV} {l : List Int} (hs : IntsAt H s l) (hl : l.length ≤ 1099511627776) (m : BitVec 64) : fnA tbl 143 [bv m, s] H = some (bv (foldM l m), H) := by
  have hlen := hs.len
  have loop := loop_ind (A := tbl) (b := a143_l0)
    (I := fun n t H' => ∃ m' k x1 x2 x3 x4 x5 x6 rest, t = bv m' :: x1 :: x2 :: x3 :: x4 :: x5 :: x6 :: s :: .int .i64 l.length :: .int .i64 (k : Nat) :: rest ∧ rest.length = 9 ∧ H' = H ∧ k + n = l.length ∧ foldM (l.drop k) m' = foldM l m)
    (Q := fun x t H' => ∃ x1 x2 x3 x4 x5 x6 x7 x8 x9 rest, t = bv (foldM l m) :: x1 :: x2 :: x3 :: x4 :: x5 :: x6 :: x7 :: x8 :: x9 :: rest ∧ rest.length = 9 ∧ x = .exit 0 ∧ H' = H) ?_
  · obtain ⟨x, t', _, h, x1, x2, x3, x4, x5, x6, x7, x8, x9, rest, rfl, hr, rfl, rfl⟩ := loop l.length _ H ⟨m, 0, s, .undef, .undef, .int .u64 0, .undef, .undef, undefs 9, rfl, rfl, rfl, by omega, rfl⟩
    repeat (obtain ⟨_, _, e, h2⟩ := len_succ hr; clear hr; subst e; have hr := h2; clear h2)
    obtain rfl := List.length_eq_zero_iff.1 hr
    rw [fnA_eq (fn := a143) rfl]
    simp [undefs] at h
    simp [a143, hlen, h]
  · rintro n t _ ⟨m', k, x1, x2, x3, x4, x5, x6, rest, rfl, hr, rfl, hk, hf⟩
    repeat (obtain ⟨_, _, e, h2⟩ := len_succ hr; clear hr; subst e; have hr := h2; clear h2)
    obtain rfl := List.length_eq_zero_iff.1 hr
    cases n with
    | zero =>
      have : k = l.length := by omega
      subst this
      rw [List.drop_length] at hf
      obtain rfl : m' = foldM l m := hf
      refine ⟨?q1, ?h, ?r⟩
      case h => simp [a143_l0]; rfl
      case r => exact .inr ⟨by simp, _, _, _, _, _, _, _, _, _, _, rfl, rfl, rfl, rfl⟩
    | succ n =>
      have hlt : k < l.length := by omega
      obtain ⟨p, hp, hload⟩ := hs.idx hlt
      refine ⟨?q2, ?h, ?r⟩
      case h =>
        simp [a143_l0, hlt, hp, hload, one_spec, wrap_succ hlt hl]; rfl
      case r => exact .inl ⟨rfl, n, by omega, m' ||| oneB l[k], k + 1, _, _, _, _, _, _, _, rfl, rfl, rfl, by omega, by rw [← hf, foldM_drop hlt]⟩

theorem within_spec (m o : BitVec 64) (H : AHeap) : fnA tbl 48 [bv m, bv o] H = some (.bool (decide (m &&& ~~~o = 0#64)), H) := by
  rw [fnA_eq (fn := a48) rfl]
  simp [a48]

theorem of_spec {H : AHeap} {s : AV} {l : List Int} (hs : IntsAt H s l) (hl : l.length ≤ 1099511627776) : fnA tbl 49 [s] H = some (bv (foldM l 0#64), H) := by
  rw [fnA_eq (fn := a49) rfl]
  have h := with_spec hs hl 0#64
  have e : bv 0#64 = .int .u64 0 := rfl
  rw [e] at h
  simp [a49, h]

theorem has_spec (m : BitVec 64) (c : Int) (H : AHeap) : fnA tbl 144 [bv m, .int .i64 c] H = some (.bool (hasB m c), H) := by
  rw [fnA_eq (fn := a144) rfl]
  by_cases h0 : c < 0
  · have e : hasB m c = false := by unfold hasB; rw [decide_eq_false (by omega)]; rfl
    simp [a144, h0, e]
  · by_cases h1 : 63 < c
    · have e : hasB m c = false := by unfold hasB; rw [decide_eq_false (by omega)]; rfl
      simp [a144, h0, h1, e]
    · have hw : IntKind.u64.wrap c = c := by rw [wrap_u64]; omega
      have h2 := shr_val m (c := c) (by omega) (by omega)
      have h3 := low_val _ m c (by omega) (by omega) rfl
      generalize m.toNat / 2 ^ c.toNat = x at h2 h3
      simp [a144, h0, h1, hw, h2, rem_val, h3, -bin_eql]

theorem rwith_spec (m : BitVec 64) (c : Int) (H : AHeap) : fnA tbl 50 [bv m, .int .i64 c] H = some (bv (m ||| oneB c), H) := by
  rw [fnA_eq (fn := a50) rfl]
  by_cases h0 : c < 0
  · have e : oneB c = 0#64 := by unfold oneB; rw [if_neg (by omega)]
    simp [a50, h0, e]
  · by_cases h1 : 63 < c
    · have e : oneB c = 0#64 := by unfold oneB; rw [if_neg (by omega)]
      simp [a50, h0, h1, e]
    · have hw : IntKind.u64.wrap c = c := by rw [wrap_u64]; omega
      have h2 := oneB_val (c := c) (by omega) (by omega)
      rw [shl_kind _ _ .u64] at h2
      rw [← with_val]
      cases hb : hasB m c <;> simp [a50, h0, h1, has_spec, hb, hw, h2]

theorem rof_spec {H : AHeap} {s : AV} {l : List Int} (hs : IntsAt H s l) (hl : l.length ≤ 1099511627776) : fnA tbl 145 [s] H = some (bv (foldM l 0#64), H) := by
  have hlen := hs.len
  have loop := loop_ind (A := tbl) (b := a145_l0)
    (I := fun n t H' => ∃ m' k x1 x2 rest, t = s :: x1 :: x2 :: bv m' :: .int .i64 (k : Nat) :: rest ∧ rest.length = 13 ∧ H' = H ∧ k + n = l.length ∧ foldM (l.drop k) m' = foldM l 0#64)
    (Q := fun x t H' => ∃ x0 x1 x2 x4 rest, t = x0 :: x1 :: x2 :: bv (foldM l 0#64) :: x4 :: rest ∧ rest.length = 13 ∧ x = .exit 0 ∧ H' = H) ?_
  · obtain ⟨x, t', _, h, x0, x1, x2, x4, rest, rfl, hr, rfl, rfl⟩ := loop l.length _ H ⟨0#64, 0, .undef, .int .u64 0, undefs 13, rfl, rfl, rfl, by omega, rfl⟩
    repeat (obtain ⟨_, _, e, h2⟩ := len_succ hr; clear hr; subst e; have hr := h2; clear h2)
    obtain rfl := List.length_eq_zero_iff.1 hr
    rw [fnA_eq (fn := a145) rfl]
    have e : bv 0#64 = .int .u64 0 := rfl
    simp [undefs, e] at h
    simp [a145, hlen, h]
  · rintro n t _ ⟨m', k, x1, x2, rest, rfl, hr, rfl, hk, hf⟩
    repeat (obtain ⟨_, _, e, h2⟩ := len_succ hr; clear hr; subst e; have hr := h2; clear h2)
    obtain rfl := List.length_eq_zero_iff.1 hr
    cases n with
    | zero =>
      have : k = l.length := by omega
      subst this
      rw [List.drop_length] at hf
      obtain rfl : m' = foldM l 0#64 := hf
      refine ⟨?q3, ?h, ?r⟩
      case h => simp [a145_l0, hlen]; rfl
      case r => exact .inr ⟨by simp, _, _, _, _, _, rfl, rfl, rfl, rfl⟩
    | succ n =>
      have hlt : k < l.length := by omega
      obtain ⟨p, hp, hload⟩ := hs.idx hlt
      refine ⟨?q4, ?h, ?r⟩
      case h =>
        simp [a145_l0, hlen, hlt, hp, hload, rwith_spec, wrap_succ hlt hl]; rfl
      case r => exact .inl ⟨rfl, n, by omega, m' ||| oneB l[k], k + 1, _, _, _, rfl, rfl, rfl, by omega, by rw [← hf, foldM_drop hlt]⟩

end R1
