/- Rows that grow at their end. -/
import Derived.Test.YtkajahlgiglliaaGreatDoorAm17
namespace Go.AM

/-- A row that grows: none yet, or in a block of its own, newer than an old heap. -/
def RowNew (H0 H : AHeap) (s : AV) (esz : Nat) (c : List AV) (n : Nat) : Prop :=
  (s = .slc none 0 0 false ∧ c = [] ∧ n = 0) ∨
  ∃ b, s = .slc (some (b, 0)) n n true ∧ H0.next ≤ b ∧ b < H.next ∧ c.length = n * esz ∧ 0 < n ∧ H.get b = some (.cells c true esz)

theorem ble_self (n : Nat) : Nat.ble n n = true := Nat.ble_eq_true_of_le (Nat.le_refl n)

theorem allOne_okL : ∀ {l : List AV}, allOne l = true → okL l = some l := by
  intro l h
  have : noHoles l = true := by
    induction l with
    | nil => rfl
    | cons x l ih =>
      simp only [allOne] at h
      split at h
      · rename_i hx
        have e : x.hole = false := by cases x <;> first | rfl | simp [AV.one] at hx
        simp only [noHoles, e, cond_false]
        exact ih h
      · cases h
  simp [okL, this]

theorem row_push {H0 H : AHeap} {s : AV} {esz n bytes : Nat} {c d : List AV} (hr : RowNew H0 H s esz c n) (hk : Keeps H0 H) (hd : d.length = esz) (ho : allOne d = true) (h1 : (n + 1) * bytes ≤ 1099511627776) (h2 : n + 1 ≤ 1099511627776) :
    ∃ s' H', appendA (H.new (.cells d true 0)) s (.slc (some (H.next, 0)) 1 1 false) esz bytes = some (s', H') ∧ RowNew H0 H' s' esz (c ++ d) (n + 1) ∧ Keeps H0 H' ∧ H.next ≤ H'.next ∧
      ∀ i, i < H.next → (∀ p l k m, s = .slc (some p) l k m → p.1 ≠ i) → H'.get i = H.get i := by
  have hsrc : srcCells (H.new (.cells d true 0)) esz 1 (.slc (some (H.next, 0)) 1 1 false) = some d := by
    simp [srcCells, cellsAt, hd, List.take_of_length_le, ble_self, allOne_okL ho]
  have hK1 : Keeps H0 (H.new (.cells d true 0)) := hk.trans (Keeps.new H _)
  rcases hr with ⟨rfl, rfl, rfl⟩ | ⟨b, rfl, hb0, hb, hc, hn, hget⟩
  · refine ⟨.slc (some (H.next + 1, 0)) 1 1 true, (H.new (.cells d true 0)).new (.cells d true esz), ?_, .inr ⟨H.next + 1, rfl, Nat.le_trans hk.next (by omega), ?_, ?_, by omega, ?_⟩, ?_, ?_, ?_⟩
    · have hb : Nat.ble bytes 1099511627776 = true := Nat.ble_eq_true_of_le (by omega)
      simp [appendA, hsrc, hd, ho, hb]
    · simp
    · simp [hd]
    · exact AHeap.get_new _ _
    · exact hK1.trans (Keeps.new _ _)
    · simp; omega
    · intro i hi _
      rw [AHeap.get_new_other _ _ (by simp; omega), AHeap.get_new_other _ _ (by omega)]
  · have hne : b ≠ H.next := by omega
    refine ⟨.slc (some (H.next + 1, 0)) (n + 1) (n + 1) true, ((H.new (.cells d true 0)).del b).new (.cells (c ++ d) true esz), ?_, .inr ⟨H.next + 1, rfl, Nat.le_trans hk.next (by omega), ?_, ?_, by omega, ?_⟩, ?_, ?_, ?_⟩
    · have hg : (H.new (.cells d true 0)).get b = some (.cells c true esz) := by rw [AHeap.get_new_other _ _ (by omega)]; exact hget
      have hble : Nat.ble (n + 1) n = false := by cases h : Nat.ble (n + 1) n with
        | false => rfl
        | true => exact absurd (Nat.le_of_ble_eq_true h) (by omega)
      simp [appendA, hsrc, hd, ho, hg, hc, h1, h2, hble, Nat.ble_eq_true_of_le h1, Nat.ble_eq_true_of_le h2, List.take_of_length_le, ble_self]
    · simp
    · simp [hc, hd, Nat.add_mul]
    · exact AHeap.get_new _ _
    · exact (hK1.delNew hb0).trans (Keeps.new _ _)
    · simp; omega
    · intro i hi hs
      have hib : i ≠ b := fun e => hs _ _ _ _ rfl e.symm
      rw [AHeap.get_new_other _ _ (by simp; omega), AHeap.get_del_other _ hib, AHeap.get_new_other _ _ (by omega)]

theorem RowNew.nil (H0 H : AHeap) (esz : Nat) : RowNew H0 H (.slc none 0 0 false) esz [] 0 := .inl ⟨rfl, rfl, rfl⟩

theorem allOne_ints (k : IntKind) (l : List Int) : allOne (l.map fun v => AV.int k v) = true := by
  induction l with
  | nil => rfl
  | cons a l ih => simp [allOne, AV.one, ih]

theorem RowNew.ints {H0 H : AHeap} {s : AV} {l : List Int} (h : RowNew H0 H s 1 (l.map fun v => AV.int .i64 v) l.length) : IntsAt H s l := by
  rcases h with ⟨rfl, hc, hn⟩ | ⟨b, rfl, h0, hb, hc, hn, hget⟩
  · exact .inl ⟨0, rfl, List.length_eq_zero_iff.1 hn⟩
  · refine .inr ⟨b, 0, l.length, true, _, _, _, rfl, hb, Nat.le_refl _, hget, ?_⟩
    intro k v hv
    simp [hv]

end Go.AM
