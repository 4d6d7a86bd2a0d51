/- For proofs over the small machine's code: the rules by which a run is worked out. -/
import Derived.Test.YtkajahlgiglliaaGreatDoorAm15
namespace Go.AM

attribute [simp] den evalOs evalO evalV wantA evalE AOp.eff putT AOpd.ev evs undefs unA resA resOf eqA evParts fillA AV.cells partOf boundO runD stableD stableAt tmpsD heapAt sameAV sameAVs sliceLen cellsAt

section
variable (t : List AV) (H : AHeap)
@[simp] theorem evalP_mv (x : AOpd) : evalP (.mv x) t H = some (x.ev t) := rfl
@[simp] theorem evalP_pick (c a b : AOpd) : evalP (.pick c a b) t H = match c.ev t with
    | .bool true => some (a.ev t)
    | .bool false => some (b.ev t)
    | _ => none := rfl
@[simp] theorem evalP_build (zero : List AV) (parts : List (Nat × Nat × AOpd)) : evalP (.build zero parts) t H = (fillA zero (evParts t parts)).map .agg := rfl
@[simp] theorem evalP_load (x : AOpd) (g : Option Nat) : evalP (.load x g) t H = loadA H (x.ev t) g := rfl
@[simp] theorem evalP_nil (x : AOpd) : evalP (.nilCheck x) t H = match x.ev t with
    | .ptr (some p) => some (.ptr (some p))
    | .fn f a b => some (.fn f a b)
    | .map r => some (.map r)
    | _ => none := rfl
@[simp] theorem evalP_bin (op : BinOp) (x y : AOpd) : evalP (.bin op x y) t H = binA op (x.ev t) (y.ev t) := rfl
@[simp] theorem evalP_eqv (neg : Bool) (k : EqKind) (x y : AOpd) : evalP (.eqv neg k x y) t H = (eqA k (x.ev t) (y.ev t)).map fun b => .bool (if neg then !b else b) := rfl
@[simp] theorem evalP_un (op : UnOp) (x : AOpd) : evalP (.un op x) t H = unA op (x.ev t) := rfl
@[simp] theorem evalP_conv (k : IntKind) (x : AOpd) : evalP (.conv k x) t H = match x.ev t with
    | .int _ n => some (.int k (k.wrap n))
    | _ => none := rfl
@[simp] theorem evalP_fieldAddr (x : AOpd) (off : Nat) : evalP (.fieldAddr x off) t H = match x.ev t with
    | .ptr (some p) => some (.ptr (some (p.1, p.2 + off)))
    | _ => none := rfl
@[simp] theorem evalP_field (x : AOpd) (off : Nat) (g : Option Nat) : evalP (.field x off g) t H = match x.ev t with
    | .agg c => partOf c off g
    | _ => none := rfl
@[simp] theorem evalP_mkFn (f : FuncId) (a b : List AOpd) : evalP (.mkFn f a b) t H = some (.fn f (evs t a) (evs t b)) := rfl
@[simp] theorem evalP_mkIface (ty : TypeId) (x : AOpd) : evalP (.mkIface ty x) t H = some (.iface ty (x.ev t)) := rfl
@[simp] theorem evalP_extract (x : AOpd) (i : Nat) : evalP (.extract x i) t H = match x.ev t with
    | .tup l => l[i]?
    | _ => none := rfl
@[simp] theorem evalP_len (k : Nat) (x : AOpd) : evalP (.len k x) t H = match lenA H k (x.ev t) with
    | some n => some (.int .i64 (n : Int))
    | none => none := rfl
@[simp] theorem okV_int (k : IntKind) (n : Int) : okV (.int k n) = some (.int k n) := rfl
@[simp] theorem okV_bool (b : Bool) : okV (.bool b) = some (.bool b) := rfl
@[simp] theorem okV_ptr (a : Option (Nat × Nat)) : okV (.ptr a) = some (.ptr a) := rfl
@[simp] theorem okV_slc (a : Option (Nat × Nat)) (n c : Nat) (m : Bool) : okV (.slc a n c m) = some (.slc a n c m) := rfl
@[simp] theorem okV_str (x : ByteArray) : okV (.str x) = some (.str x) := rfl
@[simp] theorem okV_map (r : Option Nat) : okV (.map r) = some (.map r) := rfl
@[simp] theorem okV_bv (n : BitVec 64) : okV (.int .u64 n.toNat) = some (.int .u64 n.toNat) := rfl
@[simp] theorem lenA_slc (a : Option (Nat × Nat)) (n c : Nat) (m : Bool) : lenA H 0 (.slc a n c m) = some n := rfl
@[simp] theorem lenA_str (s : ByteArray) : lenA H 1 (.str s) = some s.size := rfl
end

section
variable (k : IntKind) (x y : Int)
@[simp] theorem bin_add : binA .add (.int k x) (.int k y) = some (.int k (k.wrap (x + y))) := by simp [binA, arithA]
@[simp] theorem bin_sub : binA .sub (.int k x) (.int k y) = some (.int k (k.wrap (x - y))) := by simp [binA, arithA]
@[simp] theorem bin_mul : binA .mul (.int k x) (.int k y) = some (.int k (k.wrap (x * y))) := by simp [binA, arithA]
@[simp] theorem bin_eql : binA .eql (.int k x) (.int k y) = some (.bool (x == y)) := by simp [binA, arithA]
@[simp] theorem bin_neq : binA .neq (.int k x) (.int k y) = some (.bool (x != y)) := by simp [binA, arithA]
@[simp] theorem bin_lss : binA .lss (.int k x) (.int k y) = some (.bool (decide (x < y))) := by simp [binA, arithA]
@[simp] theorem bin_leq : binA .leq (.int k x) (.int k y) = some (.bool (decide (x ≤ y))) := by simp [binA, arithA]
@[simp] theorem bin_gtr : binA .gtr (.int k x) (.int k y) = some (.bool (decide (y < x))) := by simp [binA, arithA]
@[simp] theorem bin_geq : binA .geq (.int k x) (.int k y) = some (.bool (decide (y ≤ x))) := by simp [binA, arithA]
theorem bin_rem (h : y ≠ 0) : binA .rem (.int k x) (.int k y) = some (.int k (x.tmod y)) := by simp [binA, arithA, h]
theorem bin_quo (h : y ≠ 0) : binA .quo (.int k x) (.int k y) = some (.int k (k.wrap (x.tdiv y))) := by simp [binA, arithA, h]
end

/-- The result of a call that keeps what was there: new blocks alone. -/
structure Keeps (H H' : AHeap) : Prop where
  next : H.next ≤ H'.next
  get : ∀ i, i < H.next → H'.get i = H.get i

theorem Keeps.refl (H : AHeap) : Keeps H H := ⟨Nat.le_refl _, fun _ _ => rfl⟩
theorem Keeps.trans {a b c : AHeap} (h : Keeps a b) (k : Keeps b c) : Keeps a c := ⟨Nat.le_trans h.next k.next, fun i hi => (k.get i (Nat.lt_of_lt_of_le hi h.next)).trans (h.get i hi)⟩
theorem Keeps.new (H : AHeap) (o : AObj) : Keeps H (H.new o) := ⟨Nat.le_succ _, fun _ hi => AHeap.get_new_other H o (Nat.ne_of_lt hi)⟩
theorem Keeps.setNew {H H' : AHeap} (h : Keeps H H') {i : Nat} (hi : H.next ≤ i) (o : AObj) : Keeps H (H'.set i o) :=
  ⟨h.next, fun j hj => (AHeap.get_set_other H' o (by omega)).trans (h.get j hj)⟩
theorem Keeps.delNew {H H' : AHeap} (h : Keeps H H') {i : Nat} (hi : H.next ≤ i) : Keeps H (H'.del i) :=
  ⟨h.next, fun j hj => (AHeap.get_del_other H' (by omega)).trans (h.get j hj)⟩

@[simp] theorem next_new (H : AHeap) (o : AObj) : (H.new o).next = H.next + 1 := rfl
@[simp] theorem next_set (H : AHeap) (i : Nat) (o : AObj) : (H.set i o).next = H.next := rfl
@[simp] theorem next_del (H : AHeap) (i : Nat) : (H.del i).next = H.next := rfl
@[simp] theorem get_new_simp (H : AHeap) (o : AObj) : (H.new o).get H.next = some o := AHeap.get_new H o

theorem wrap_i64 {n : Int} (h0 : -9223372036854775808 ≤ n) (h1 : n ≤ 9223372036854775807) : IntKind.i64.wrap n = n := IntWalk.i64_in n ⟨h0, h1⟩

/- Masks: numbers of 64 bits. -/

/-- A mask as a value. -/
def bv (m : BitVec 64) : AV := .int .u64 (m.toNat : Int)

theorem wrap_u64 (n : Int) : IntKind.u64.wrap n = n % 18446744073709551616 := by
  simp [IntKind.wrap, IntKind.bits, IntKind.signed]

theorem ofInt_toNat (m : BitVec 64) : BitVec.ofInt 64 (m.toNat : Int) = m := by
  apply BitVec.eq_of_toNat_eq
  simp

theorem wrap_nat {n : Nat} (h : n < 18446744073709551616) : IntKind.u64.wrap (n : Int) = n := by rw [wrap_u64]; omega

theorem back (r : BitVec 64) : IntKind.u64.wrap (r.toNat : Int) = r.toNat := wrap_nat r.isLt

@[simp] theorem bin_or (a b : BitVec 64) : binA .or (bv a) (bv b) = some (bv (a ||| b)) := by
  show some (AV.int .u64 (IntKind.u64.wrap ((BitVec.ofInt 64 (a.toNat : Int) ||| BitVec.ofInt 64 (b.toNat : Int)).toNat))) = _
  rw [ofInt_toNat, ofInt_toNat, back]; rfl
@[simp] theorem bin_and (a b : BitVec 64) : binA .and (bv a) (bv b) = some (bv (a &&& b)) := by
  show some (AV.int .u64 (IntKind.u64.wrap ((BitVec.ofInt 64 (a.toNat : Int) &&& BitVec.ofInt 64 (b.toNat : Int)).toNat))) = _
  rw [ofInt_toNat, ofInt_toNat, back]; rfl
@[simp] theorem bin_andNot (a b : BitVec 64) : binA .andNot (bv a) (bv b) = some (bv (a &&& ~~~ b)) := by
  show some (AV.int .u64 (IntKind.u64.wrap ((BitVec.ofInt 64 (a.toNat : Int) &&& ~~~ BitVec.ofInt 64 (b.toNat : Int)).toNat))) = _
  rw [ofInt_toNat, ofInt_toNat, back]; rfl
@[simp] theorem bin_eq0 (a : BitVec 64) : binA .eql (bv a) (.int .u64 0) = some (.bool (decide (a = 0#64))) := by
  show some (AV.bool ((a.toNat : Int) == 0)) = _
  congr 2
  by_cases h : a = 0#64
  · subst h; rfl
  · simp [h]; intro e; exact h (BitVec.eq_of_toNat_eq (by simpa using e))
@[simp] theorem bin_ne0 (a : BitVec 64) : binA .neq (bv a) (.int .u64 0) = some (.bool (!decide (a = 0#64))) := by
  show some (AV.bool ((a.toNat : Int) != 0)) = _
  congr 2
  by_cases h : a = 0#64
  · subst h; rfl
  · simp [h]; intro e; exact h (BitVec.eq_of_toNat_eq (by simpa using e))

/-- The mask of one core; none: empty. -/
def oneB (c : Int) : BitVec 64 := if 0 ≤ c ∧ c < 64 then BitVec.twoPow 64 c.toNat else 0#64

theorem shl_kind (v : AV) (k k' : IntKind) (c : Int) : binA .shl v (.int k c) = binA .shl v (.int k' c) := by cases v <;> rfl

theorem oneB_val {c : Int} (h0 : 0 ≤ c) (h1 : c < 64) : binA .shl (.int .u64 1) (.int .i64 c) = some (bv (oneB c)) := by
  obtain ⟨n, rfl⟩ := Int.eq_ofNat_of_zero_le h0
  have hn : n < 64 := by omega
  have hp : 2 ^ n < 2 ^ 64 := Nat.pow_lt_pow_right (by omega) hn
  have e : oneB (n : Int) = BitVec.twoPow 64 n := by unfold oneB; rw [if_pos ⟨h0, h1⟩]; rfl
  have hneg : ¬ ((n : Int) < 0) := by omega
  rw [e]
  simp only [binA, if_neg hneg, bv, Int.toNat_natCast, show min n IntKind.u64.bits = n from Nat.min_eq_left (by show n ≤ 64; omega)]
  congr 2
  rw [BitVec.toNat_twoPow, Nat.mod_eq_of_lt hp, show (1 : Int) * 2 ^ n = ((2 ^ n : Nat) : Int) by push_cast; omega, wrap_nat (by simpa using hp)]

@[simp] theorem bin_addB (a b : BitVec 64) : binA .add (bv a) (bv b) = some (bv (a + b)) := by
  show some (AV.int .u64 (IntKind.u64.wrap ((a.toNat : Int) + (b.toNat : Int)))) = _
  rw [wrap_u64, bv, BitVec.toNat_add]
  congr 2

/-- Is a core in a mask? -/
def hasB (m : BitVec 64) (c : Int) : Bool := decide (0 ≤ c ∧ c < 64) && m.getLsbD c.toNat

theorem shr_val (m : BitVec 64) {c : Int} (h0 : 0 ≤ c) (h1 : c < 64) : binA .shr (bv m) (.int .u64 c) = some (.int .u64 ((m.toNat / 2 ^ c.toNat : Nat) : Int)) := by
  have hneg : ¬ (c < 0) := by omega
  simp only [binA, bv, if_neg hneg]
  have hb : IntKind.u64.bits = 64 := rfl
  rw [hb, Nat.min_eq_left (by omega)]
  congr 2
  rw [Int.fdiv_eq_ediv_of_nonneg _ (by exact_mod_cast Nat.zero_le _)]
  norm_cast

theorem rem_val (x : Nat) : binA .rem (.int .u64 (x : Int)) (.int .u64 2) = some (.int .u64 ((x : Int) % 2)) := by
  rw [bin_rem _ _ _ (by omega)]
  congr 2

theorem low_val (x : Nat) (m : BitVec 64) (c : Int) (h0 : 0 ≤ c) (h1 : c < 64) (hx : x = m.toNat / 2 ^ c.toNat) : binA .eql (.int .u64 ((x : Int) % 2)) (.int .u64 1) = some (.bool (hasB m c)) := by
  rw [bin_eql]
  congr 2
  unfold hasB
  rw [decide_eq_true ⟨h0, h1⟩, Bool.true_and, BitVec.getLsbD, Nat.testBit_eq_decide_div_mod_eq, ← hx, Bool.eq_iff_iff]
  simp
  omega

theorem with_val (m : BitVec 64) (c : Int) : (if hasB m c then m else m + oneB c) = m ||| oneB c := by
  unfold oneB hasB
  by_cases h : 0 ≤ c ∧ c < 64
  · rw [if_pos h, decide_eq_true h, Bool.true_and]
    split
    · rename_i hb
      apply BitVec.eq_of_getLsbD_eq
      intro i hi
      rw [BitVec.getLsbD_or, BitVec.getLsbD_twoPow]
      by_cases e : c.toNat = i
      · subst e; simp [hb]
      · simp [e]
    · rename_i hb
      rw [BitVec.add_eq_or_of_and_eq_zero]
      apply BitVec.eq_of_getLsbD_eq
      intro i hi
      rw [BitVec.getLsbD_and, BitVec.getLsbD_twoPow]
      by_cases e : c.toNat = i
      · subst e; simp [hb]
      · simp [e]
  · rw [if_neg h, decide_eq_false h]
    simp

/-- A slice of whole numbers. -/
def IntsAt (H : AHeap) (s : AV) (l : List Int) : Prop :=
  (∃ c, s = .slc none 0 c false ∧ l = []) ∨
  ∃ i o cap more c wr sp, s = .slc (some (i, o)) l.length cap more ∧ i < H.next ∧ l.length ≤ cap ∧ H.get i = some (.cells c wr sp) ∧ ∀ (k : Nat) v, l[k]? = some v → c[o + k]? = some (.int .i64 v)

theorem IntsAt.keep {H H' : AHeap} {s : AV} {l : List Int} (h : IntsAt H s l) (hk : Keeps H H') : IntsAt H' s l := by
  rcases h with h | ⟨i, o, cap, more, c, wr, sp, h1, h2, h5, h3, h4⟩
  · exact .inl h
  · exact .inr ⟨i, o, cap, more, c, wr, sp, h1, Nat.lt_of_lt_of_le h2 hk.next, h5, (hk.get i h2).trans h3, h4⟩

theorem IntsAt.len {H : AHeap} {s : AV} {l : List Int} (h : IntsAt H s l) : lenA H 0 s = some l.length := by
  rcases h with ⟨c, rfl, rfl⟩ | ⟨i, o, cap, more, c, wr, sp, rfl, _⟩ <;> rfl

theorem IntsAt.idx {H : AHeap} {s : AV} {l : List Int} (h : IntsAt H s l) {k : Nat} (hk : k < l.length) : ∃ p, (∀ (t : List AV) x i, x.ev t = s → i.ev t = .int .i64 (k : Int) → evalP (.idxS x i 1) t H = some (.ptr (some p))) ∧ loadA H (.ptr (some p)) none = some (.int .i64 l[k]) := by
  rcases h with ⟨c, rfl, rfl⟩ | ⟨i, o, cap, more, c, wr, sp, rfl, h2, h5, h3, h4⟩
  · simp at hk
  · refine ⟨(i, o + k), ?_, ?_⟩
    · intro t x j hx hj
      simp only [evalP, hx, hj]
      rw [if_pos ⟨by omega, by omega⟩]
      simp
    · simp [loadA, h3, h4 k _ (List.getElem?_eq_getElem hk), partOf]

theorem IntsAt.cut {H : AHeap} {s : AV} {l : List Int} (h : IntsAt H s l) {a n : Nat} (hn : 0 < n) (hk : a + n ≤ l.length) : ∃ s', IntsAt H s' ((l.drop a).take n) ∧
    ∀ (t : List AV) x i j k, x.ev t = s → i.ev t = .int .i64 (a : Int) → j.ev t = .int .i64 ((a + n : Nat) : Int) → k.ev t = .int .i64 ((a + n : Nat) : Int) → evalP (.slice x (some i) (some j) (some k) 1) t H = some s' := by
  rcases h with ⟨c, rfl, rfl⟩ | ⟨i, o, cap, more, c, wr, sp, rfl, h2, h5, h3, h4⟩
  · simp at hk; omega
  · refine ⟨.slc (some (i, o + a)) n n false, .inr ⟨i, o + a, n, false, c, wr, sp, ?_, h2, ?_, h3, ?_⟩, ?_⟩
    · rw [List.length_take, List.length_drop, Nat.min_eq_left (by omega)]
    · rw [List.length_take]; exact Nat.min_le_left _ _
    · intro k v hv
      rw [List.getElem?_take] at hv
      split at hv
      · rw [List.getElem?_drop] at hv
        rw [Nat.add_assoc]; exact h4 _ _ hv
      · cases hv
    · intro t x i' j k hx hi hj hk'
      simp only [evalP, hx]
      unfold sliceA boundO
      simp only [hi, hj, hk', boundA]
      rw [if_pos ⟨by omega, by omega⟩]
      simp only [Int.toNat_natCast]
      rw [if_pos ⟨by omega, by omega⟩]
      simp only [Int.toNat_natCast]
      rw [if_pos ⟨by omega, by omega⟩]
      simp only [Int.toNat_natCast, Option.isNone_some, Bool.and_false]
      rw [if_neg (by omega)]
      simp

theorem len_succ {l : List AV} {n : Nat} (h : l.length = n + 1) : ∃ a l', l = a :: l' ∧ l'.length = n := by
  cases l with
  | nil => simp at h
  | cons a l' => exact ⟨a, l', rfl, by simpa using h⟩

/-- A loop, by what holds at each round's begin. -/
theorem loop_ind {A : FuncId → Option ADef} {b : ACode} {I : Nat → List AV → AHeap → Prop} {Q : AExit → List AV → AHeap → Prop}
    (h : ∀ n t H, I n t H → ∃ r, den (fnA A) (roA A) (loA A) b t H = some r ∧ ((r.1 = .norm ∧ ∃ k, k < n ∧ I k r.2.1 r.2.2) ∨ (r.1 ≠ .norm ∧ Q r.1 r.2.1 r.2.2))) :
    ∀ n t H, I n t H → ∃ x t' H', loA A b t H = some (x, t', H') ∧ Q x t' H' := by
  intro n
  induction n using Nat.strongRecOn with
  | _ n ih =>
    intro t H hI
    obtain ⟨⟨x, t', H'⟩, hd, hx | hx⟩ := h n t H hI
    · obtain ⟨rfl, k, hk, hI'⟩ := hx
      obtain ⟨x2, t2, H2, h2, hQ⟩ := ih k hk t' H' hI'
      exact ⟨x2, t2, H2, by rw [loA_eq, hd]; exact h2, hQ⟩
    · refine ⟨x, t', H', ?_, hx.2⟩
      rw [loA_eq, hd]
      cases x with
      | norm => exact absurd rfl hx.1
      | exit i => rfl
      | ret => rfl

end Go.AM
