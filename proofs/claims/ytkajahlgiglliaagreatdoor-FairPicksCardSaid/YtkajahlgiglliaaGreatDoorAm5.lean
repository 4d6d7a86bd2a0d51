/- What the small machine computes without changing its heap the program computes too, in memory as it is. -/
import Derived.Test.YtkajahlgiglliaaGreatDoorAm4
namespace Go.AM

section inv
variable {m : Env} {v : Value}
theorem inv_bool {b : Bool} (h : (AV.bool b).toV m = some v) : v = .bool b := by simp [AV.toV] at h; exact h.symm
theorem inv_int {k : IntKind} {n : Int} (h : (AV.int k n).toV m = some v) : v = .int k n := by simp [AV.toV] at h; exact h.symm
theorem inv_str {s : ByteArray} (h : (AV.str s).toV m = some v) : v = .string s := by simp [AV.toV] at h; exact h.symm
theorem inv_ptr {p : Nat × Nat} (h : (AV.ptr (some p)).toV m = some v) : ∃ q, m p.1 = some q ∧ v = .pointer (some ⟨q.1, p.2, none⟩) := by
  simp only [AV.toV, Option.map_eq_some_iff] at h; obtain ⟨q, hq, rfl⟩ := h; exact ⟨q, hq, rfl⟩
theorem inv_nilptr (h : (AV.ptr none).toV m = some v) : v = .pointer none := by simp [AV.toV] at h; exact h.symm
theorem inv_slc {p : Nat × Nat} {l c : Nat} {more : Bool} (h : (AV.slc (some p) l c more).toV m = some v) :
    ∃ q, m p.1 = some q ∧ v = .slice (some ⟨q.1, p.2, none⟩) l (if more then c + q.2 else c) := by
  simp only [AV.toV, Option.map_eq_some_iff] at h; obtain ⟨q, hq, rfl⟩ := h; exact ⟨q, hq, rfl⟩
theorem inv_nilslc {l c : Nat} {more : Bool} (h : (AV.slc none l c more).toV m = some v) : more = false ∧ v = .slice none l c := by
  simp only [AV.toV] at h; cases more <;> simp at h; exact ⟨rfl, h.symm⟩
theorem inv_map {r : Nat} (h : (AV.map (some r)).toV m = some v) : ∃ q, m r = some q ∧ v = .map (some q.1) := by
  simp only [AV.toV, Option.map_eq_some_iff] at h; obtain ⟨q, hq, rfl⟩ := h; exact ⟨q, hq, rfl⟩
theorem inv_nilmap (h : (AV.map none).toV m = some v) : v = .map none := by simp [AV.toV] at h; exact h.symm
theorem inv_fn {f : FuncId} {x y : List AV} (h : (AV.fn f x y).toV m = some v) : ∃ x' y', toVs m x = some x' ∧ toVs m y = some y' ∧ v = .func (.func f) x'.toArray y'.toArray := by
  simp only [AV.toV] at h
  cases hx : toVs m x <;> cases hy : toVs m y <;> simp [hx, hy] at h
  exact ⟨_, _, rfl, rfl, h.symm⟩
theorem inv_nilfn (h : (AV.nilFn).toV m = some v) : v = .nilFunc := by simp [AV.toV] at h; exact h.symm
theorem inv_iface {t : TypeId} {x : AV} (h : (AV.iface t x).toV m = some v) : ∃ u, x.toV m = some u ∧ v = .iface t u := by
  simp only [AV.toV, Option.map_eq_some_iff] at h; obtain ⟨q, hq, rfl⟩ := h; exact ⟨q, hq, rfl⟩
theorem inv_niliface (h : (AV.nilIface).toV m = some v) : v = .nilIface := by simp [AV.toV] at h; exact h.symm
theorem inv_agg {l : List AV} (h : (AV.agg l).toV m = some v) : ∃ l', toVs m l = some l' ∧ v = .agg l'.toArray := by
  simp only [AV.toV, Option.map_eq_some_iff] at h; obtain ⟨q, hq, rfl⟩ := h; exact ⟨q, hq, rfl⟩
theorem inv_tup {l : List AV} (h : (AV.tup l).toV m = some v) : ∃ l', toVs m l = some l' ∧ v = .tuple l'.toArray := by
  simp only [AV.toV, Option.map_eq_some_iff] at h; obtain ⟨q, hq, rfl⟩ := h; exact ⟨q, hq, rfl⟩
end inv

theorem run_v {P : Program} {w w' : World} {s : Sem Value} {x : Value} (h : s.run P w = .ok x w') : (do let y ← s; pure (Next.value y) : Sem Next).run P w = .ok (.value x) w' := by
  simp [h]

section
variable {P : Program} {NG : PG} {W0 : Base} {m : Env} {H : AHeap} {w : World}

/-- One cell or an aggregate: what the program's type says. -/
theorem aggOf_none {t : TypeId} (h : aggOf P t = some none) : (isAgg t).run P w = .ok false w := by
  unfold aggOf at h
  cases hu : P.underlying t with
  | none => simp [hu] at h
  | some d =>
    cases hi : P.info? t with
    | none => cases d <;> simp [hu, hi] at h
    | some i => cases d <;> simp [hu, hi] at h <;> simp [isAgg, underlying, hu]

theorem aggOf_some {t : TypeId} {n : Nat} (h : aggOf P t = some (some n)) : (isAgg t).run P w = .ok true w ∧ (sizeOf t).run P w = .ok n w := by
  unfold aggOf at h
  cases hu : P.underlying t with
  | none => simp [hu] at h
  | some d =>
    cases hi : P.info? t with
    | none => cases d <;> simp [hu, hi] at h
    | some i => cases d <;> simp [hu, hi] at h <;> subst h <;> simp [isAgg, underlying, hu, sizeOf, typeInfo, hi]

/-- A part of an aggregate. -/
theorem partOf_sound {t : TypeId} {g : Option Nat} (hg : aggOf P t = some g) {c : List AV} {cs : Array Value} (hc : toVs m c = some cs.toList) {off : Nat} {v : AV}
    (h : partOf c off g = some v) : ∃ v', v.toV m = some v' ∧ (part t cs off).run P w = .ok v' w := by
  cases g with
  | none =>
    simp only [partOf] at h
    obtain ⟨v', hv, e⟩ := toVs_get hc off v h
    refine ⟨v', hv, ?_⟩
    have e' : cs[off]? = some v' := by simpa using e
    simp [part, aggOf_none hg, e']
  | some n =>
    simp only [partOf] at h
    split at h
    · rename_i hle
      cases h
      obtain ⟨us, h1, h2, h3⟩ := (toVs_get hc).piece off n (Nat.le_of_ble_eq_true hle)
      obtain ⟨ha, hs⟩ := aggOf_some (w := w) hg
      refine ⟨.agg us.toArray, by simp [AV.toV, h1], ?_⟩
      have : cs.extract off (off + n) = us.toArray := by
        apply Array.ext'
        rw [Array.toList_extract]
        apply List.ext_getElem?
        intro j
        have hlen := toVs_length hc
        simp only [List.extract_eq_take_drop]
        rcases Nat.lt_or_ge j n with hj | hj
        · have hlt : j < us.length := by omega
          rw [List.getElem?_take, if_pos (by omega), List.getElem?_drop, h3 j us[j] (List.getElem?_eq_getElem hlt)]
          exact (List.getElem?_eq_getElem hlt).symm
        · rw [List.getElem?_eq_none (by simp only [List.length_take, List.length_drop]; omega), List.getElem?_eq_none (by omega)]
      simp [part, ha, hs, this]
    · cases h

/-- A variable that is read. -/
theorem loadA_sound (hr : Rel NG W0 m H w) {t : TypeId} {g : Option Nat} (hg : aggOf P t = some g) {p : Nat × Nat} {v : AV} (h : loadA H (.ptr (some p)) g = some v) {q : Nat × Nat} (hq : m p.1 = some q) :
    ∃ v', v.toV m = some v' ∧ (loadVar t ⟨q.1, p.2, none⟩).run P w = .ok v' w := by
  simp only [loadA] at h
  split at h
  · rename_i c wr sp hget
    obtain ⟨b, x, cs, ty, fz, h1, h2, h3, h4, _⟩ := hr.cells hget
    rw [hq] at h1; cases h1
    rw [Option.bind_eq_some_iff] at h
    obtain ⟨v0, h0, h⟩ := h
    obtain ⟨rfl, hkn⟩ := okV_some h
    replace h := h0
    cases g with
    | none =>
      simp only [partOf] at h
      obtain ⟨v', hv, e⟩ : ∃ v', v0.toV m = some v' ∧ cs.toList[p.2]? = some v' := by
        rcases h4.2 p.2 v0 h with ⟨_, hh⟩ | hh
        · cases v0 <;> simp [AV.hole, AV.known] at hh hkn
        · exact hh
      refine ⟨v', hv, ?_⟩
      have e' : cs[p.2]? = some v' := by simpa using e
      simp [loadVar, aggOf_none hg, cell_of h2, e']
    | some n =>
      simp only [partOf] at h
      split at h
      · rename_i hle
        cases h
        obtain ⟨us, e1, e2, e3⟩ := h4.piece p.2 n (Nat.le_of_ble_eq_true hle) (by simpa [AV.known] using hkn)
        obtain ⟨ha, hs⟩ := aggOf_some (w := w) hg
        refine ⟨.agg us.toArray, by simp [AV.toV, e1], ?_⟩
        have hl := run_loadCells_list (P := P) w ⟨b, p.2, none⟩ us (fun j u hu => by
          rw [Addr.add_lit, cell_of h2]
          simpa using e3 j u hu)
        rw [e2] at hl
        simp [loadVar, ha, hs, hl]
      · cases h
  · cases h

end
end Go.AM
