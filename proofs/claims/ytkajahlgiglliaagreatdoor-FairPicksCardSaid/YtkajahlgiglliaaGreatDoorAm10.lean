/- Append, copy, made slices; then all operations that change the heap and call nothing. -/
import Derived.Test.YtkajahlgiglliaaGreatDoorAm9
namespace Go.AM

section
variable {P : Program} {NG : PG} {W0 : Base} {m : Env} {H : AHeap} {w : World} {t : List AV} {a : Act}

theorem sliceLen_sound {x : AV} {n : Nat} (h : sliceLen x = some n) {vx : Value} (hx : x.toV m = some vx) : (Builtin.lenOf vx).run P w = .ok n w := by
  cases x <;> simp [sliceLen] at h
  · subst h; cases inv_str hx; simp [Builtin.lenOf]
  · rename_i b l c more
    subst h
    cases b with
    | none => obtain ⟨_, rfl⟩ := inv_nilslc hx; simp [Builtin.lenOf]
    | some p => obtain ⟨_, _, rfl⟩ := inv_slc hx; simp [Builtin.lenOf]

theorem srcCells_sound (hr : Rel NG W0 m H w) {esz n : Nat} {x : AV} {c : List AV} (h : srcCells H esz n x = some c) {vx : Value} (hx : x.toV m = some vx) :
    ∃ us, toVs m c = some us ∧ (Builtin.firstCells esz n vx).run P w = .ok us.toArray w := by
  unfold srcCells at h
  split at h
  · rename_i p l cp more
    obtain ⟨q, hq, rfl⟩ := inv_slc hx
    obtain ⟨us, e1, e2, e3⟩ := cellsAt_sound hr h hq
    refine ⟨us, e1, ?_⟩
    have hl := run_loadCells_list (P := P) w ⟨q.1, p.2, none⟩ us e3
    rw [e2] at hl
    simp [Builtin.firstCells, hl]
  · obtain ⟨_, rfl⟩ := inv_nilslc hx
    cases h
    exact ⟨[], rfl, by simp [Builtin.firstCells]⟩
  · rename_i s
    split at h
    · cases h
      cases inv_str hx
      refine ⟨(s.extract 0 n).data.toList.map fun b => .int .u8 b.toNat, ?_, ?_⟩
      · apply toVs_of (by simp)
        intro k y hy
        simp only [List.getElem?_map, Option.map_eq_some_iff] at hy
        obtain ⟨b, hb, rfl⟩ := hy
        exact ⟨_, rfl, by simp only [List.getElem?_map, hb]; rfl⟩
      · simp only [Builtin.firstCells, Sem.run_pure]
        congr 1
        apply Array.ext'
        simp
    · cases h
  · cases h

theorem cellsAt_length {i o n : Nat} {c : List AV} (h : cellsAt H i o n = some c) : c.length = n := by
  unfold cellsAt at h
  split at h
  · split at h
    · rename_i hle
      obtain ⟨rfl, _⟩ := okL_some h
      have := Nat.le_of_ble_eq_true hle
      simp; omega
    · cases h
  · cases h

/-- What append does where there is no room. -/
theorem run_append_grown {ts : Array TypeId} {ty t0 e : TypeId} {i : TypeInfo} {z : Value} (ht0 : ts[0]? = some t0) (ht : P.underlying t0 = some (.slice e)) (hi : P.info? e = some i) (hz : i.zero = some z)
    (hx : ∃ t1, ts[1]? = some t1 ∧ ((∃ e', P.underlying t1 = some (.slice e')) ∨ P.underlying t1 = some .string)) {base : Option Addr} {sLen sCap n : Nat} {vx : Value} {olds news : Array Value}
    (hl : (Builtin.lenOf vx).run P w = .ok n w) (ho : (Builtin.firstCells i.size sLen (.slice base sLen sCap)).run P w.drew = .ok olds w.drew) (hnew : (Builtin.firstCells i.size n vx).run P w.drew = .ok news w.drew)
    (hroom : sCap < sLen + n) (hmax : sLen + n ≤ 1099511627776) (hby : (sLen + n) * i.bytes ≤ 1099511627776) :
    (Builtin.append_ ts ty #[.slice base sLen sCap, vx]).run P w =
      .ok (.slice (some ⟨w.heap.size, 0, none⟩) (sLen + n) (grownCap w (sLen + n) sCap e)) (w.drew.alloc (.cells (olds ++ news ++ Builtin.zeroCells z.cells (grownCap w (sLen + n) sCap e - (sLen + n))) e)) := by
  obtain ⟨t1, ht1, hd⟩ := hx
  have hfit := growslice_fits (need := sLen + n) (old := sCap) (bytes := i.bytes) hroom (by omega)
  have h1 : ¬ (sLen + n ≤ sCap) := by omega
  have h2 : ¬ (9223372036854775807 < ((sLen : Int) + (n : Int))) := by omega
  have h3 : ¬ (281474976710656 < Builtin.nextslicecap (sLen + n) sCap * i.bytes) := by omega
  rcases hd with ⟨e', hd⟩ | hd
  · simp [Builtin.append_, ht0, ht1, run_underlying ht, run_underlying hd, sizeOf, typeInfo, zeroValue, hi, hz, hl, h1, h2, h3, Question.forced, ho, hnew, newRow, grownCap]
  · simp [Builtin.append_, ht0, ht1, run_underlying ht, run_underlying hd, sizeOf, typeInfo, zeroValue, hi, hz, hl, h1, h2, h3, Question.forced, ho, hnew, newRow, grownCap]

theorem run_append_fits {ts : Array TypeId} {ty t0 e : TypeId} {i : TypeInfo} (ht0 : ts[0]? = some t0) (ht : P.underlying t0 = some (.slice e)) (hi : P.info? e = some i)
    (hx : ∃ t1, ts[1]? = some t1 ∧ ((∃ e', P.underlying t1 = some (.slice e')) ∨ P.underlying t1 = some .string)) {base : Option Addr} {sLen sCap n : Nat} {vx : Value} {news : Array Value}
    (hl : (Builtin.lenOf vx).run P w = .ok n w) (hnew : (Builtin.firstCells i.size n vx).run P w = .ok news w) (hroom : sLen + n ≤ sCap) {w' : World}
    (hst : ∀ b, base = some b → (storeCells (b.add (sLen * i.size)) news.toList).run P w = .ok () w') (hnb : base = none → w' = w) :
    (Builtin.append_ ts ty #[.slice base sLen sCap, vx]).run P w = .ok (.slice base (sLen + n) sCap) w' := by
  obtain ⟨t1, ht1, hd⟩ := hx
  cases base with
  | none =>
    cases hnb rfl
    rcases hd with ⟨e', hd⟩ | hd <;>
      simp [Builtin.append_, ht0, ht1, run_underlying ht, run_underlying hd, sizeOf, typeInfo, hi, hl, hroom, hnew]
  | some b =>
    have := hst b rfl
    rcases hd with ⟨e', hd⟩ | hd <;>
      simp [Builtin.append_, ht0, ht1, run_underlying ht, run_underlying hd, sizeOf, typeInfo, hi, hl, hroom, hnew, this]

theorem append_sound (hr : Rel NG W0 m H w) {ts : Array TypeId} {ty t0 e : TypeId} {i : TypeInfo} {z : AV} (ht0 : ts[0]? = some t0) (ht : P.underlying t0 = some (.slice e)) (hi : P.info? e = some i) (hz : zeroP P e = some z)
    (hzl : z.cells.length = i.size) (hx : ∃ t1, ts[1]? = some t1 ∧ ((∃ e', P.underlying t1 = some (.slice e')) ∨ P.underlying t1 = some .string))
    {s x : AV} {vs vx : Value} (hs : s.toV m = some vs) (hvx : x.toV m = some vx) {v : AV} {H' : AHeap} (h : appendA H s x i.size i.bytes = some (v, H')) :
    ∃ m' w' v', m.le m' ∧ Rel NG W0 m' H' w' ∧ v.toV m' = some v' ∧ (Builtin.append_ ts ty #[vs, vx]).run P w = .ok v' w' := by
  unfold appendA at h
  split at h
  · rename_i base len cap more n hsl
    have hlen := sliceLen_sound (P := P) (w := w) hsl hvx
    split at h
    · cases h
    · rename_i new hnew
      obtain ⟨us, hus, hfc⟩ := srcCells_sound (P := P) hr hnew hvx
      split at h
      · cases h
      rename_i hnl0
      have hnewlen := Nat.eq_of_beq_eq_true hnl0
      split at h
      · rename_i hroom
        have hroom' := Nat.le_of_ble_eq_true hroom
        split at h
        · split at h
          · rename_i hn0
            cases h
            have hn0' := Nat.eq_of_beq_eq_true hn0
            obtain ⟨hmore, rfl⟩ := inv_nilslc hs
            subst hmore
            exact ⟨m, w, _, Env.le_refl m, hr, rfl, run_append_fits ht0 ht hi hx hlen hfc hroom' (fun b hb => by cases hb) (fun _ => rfl)⟩
          · cases h
        · rename_i p
          split at h
          · rename_i H1 hw
            cases h
            obtain ⟨q, hq, rfl⟩ := inv_slc hs
            obtain ⟨w', h1, h2⟩ := writeAt_sound (P := P) hr hw hus hq
            refine ⟨m, w', _, Env.le_refl m, h2, ?_, run_append_fits (news := us.toArray) ht0 ht hi hx hlen hfc ?_ (fun b hb => ?_) (fun hb => by cases hb)⟩
            · simp only [AV.toV, hq, Option.map_some]
            · cases more <;> simp <;> omega
            · cases hb; rw [Addr.add_lit]; exact h1
          · cases h
      · rename_i hroom
        have hroom' : cap < len + n := by
          rcases Nat.lt_or_ge cap (len + n) with h1 | h1
          · exact h1
          · rw [Nat.ble_eq_true_of_le h1] at hroom; cases hroom
        split at h
        · rename_i hb1 hb2
          have hby := Nat.le_of_ble_eq_true hb1
          have hmx := Nat.le_of_ble_eq_true hb2
          have hrd := hr.drew
          split at h
          · cases h
          · rename_i hone
            obtain ⟨zv, hz1, hz2⟩ := zeroP_run (P := P) (w := w) (m := m) hz
            have hzi : i.zero = some zv := by
              unfold zeroP at hz
              rw [hi] at hz
              simp only [zeroValue, typeInfo, Sem.run_bind, run_program, Result.andThen_ok, hi, Sem.run_pure] at hz1
              cases hzz : i.zero with
              | none => simp [hzz] at hz
              | some z2 => simp [hzz] at hz1; rw [hz1]
            have hzs : zv.cells.size = i.size := by
              have := toVs_length (toV_cells hz2)
              simp only [Array.length_toList] at this
              omega
            have hlend := sliceLen_sound (P := P) (w := w.drew) hsl hvx
            obtain ⟨us2, hus2, hfcd⟩ := srcCells_sound (P := P) hrd hnew hvx
            have hgrow : ∀ (old : List AV) (olds : List Value) (capR : Nat), toVs m old = some olds → old.length = len * i.size → new.length = n * i.size → capR < len + n → ∀ base',
                (Builtin.firstCells i.size len (.slice base' len capR)).run P w.drew = .ok olds.toArray w.drew →
                ∃ m' w' v', m.le m' ∧ Rel NG W0 m' (H.new (.cells (old ++ new) true i.size)) w' ∧ (AV.slc (some (H.next, 0)) (len + n) (len + n) true).toV m' = some v' ∧
                  (Builtin.append_ ts ty #[.slice base' len capR, vx]).run P w = .ok v' w' := by
              intro old olds capR hold hol hnl hcr base' hfo
              have hrun := run_append_grown (P := P) (w := w) (ty := ty) ht0 ht hi hzi hx hlen hfo hfcd hcr hmx hby
              have hge := grownCap_ge w (len + n) capR e
              have hcells : toVs m (old ++ new) = some (olds ++ us2) := toVs_append hold hus2
              have l1 := toVs_length hold
              have l2 := toVs_length hus2
              obtain ⟨hle, hrel⟩ := new_cells hrd (c := old ++ new) (cs := olds.toArray ++ us2.toArray ++ Builtin.zeroCells zv.cells (grownCap w (len + n) capR e - (len + n))) i.size (grownCap w (len + n) capR e - (len + n)) (by
                simp only [Array.size_append, List.size_toArray, size_zeroCells, hzs, List.length_append]; omega) (by
                intro k y hy
                obtain ⟨v, hv, e1⟩ := toVs_get hcells k y hy
                refine ⟨v, hv, ?_⟩
                simp only [Array.toList_append]
                rw [List.getElem?_append_left (by have := (List.getElem?_eq_some_iff.1 e1).1; simpa using this)]
                exact e1) e
              refine ⟨_, _, _, hle, hrel, ?_, hrun⟩
              simp only [AV.toV, Env.put_same, Option.map_some, if_true]
              congr 2
              omega
            split at h
            · split at h
              · rename_i hl0
                cases h
                obtain ⟨_, rfl⟩ := inv_nilslc hs
                have hl0' := Nat.eq_of_beq_eq_true hl0
                subst hl0'
                have := hgrow [] [] cap rfl (by simp) hnewlen hroom' none (by simp [Builtin.firstCells])
                simpa using this
              · cases h
            · rename_i p
              split at h
              · split at h
                · rename_i old hold
                  cases h
                  obtain ⟨q, hq, rfl⟩ := inv_slc hs
                  obtain ⟨os, e1, e2, e3⟩ := cellsAt_sound hrd hold hq
                  have hl := run_loadCells_list (P := P) w.drew ⟨q.1, p.2, none⟩ os e3
                  rw [e2] at hl
                  refine hgrow old os _ e1 (cellsAt_length hold) hnewlen (by simpa using hroom') _ (by simp [Builtin.firstCells, hl])
                · cases h
              · split at h
                · rename_i c sp hget
                  split at h
                  · rename_i b1 b2 b3 b4
                    cases h
                    have e1 := Nat.eq_of_beq_eq_true b1
                    have e2 := Nat.eq_of_beq_eq_true b2
                    have e3 := Nat.eq_of_beq_eq_true b3
                    have e4 := Nat.le_of_ble_eq_true b4
                    subst e2
                    obtain ⟨q, hq, rfl⟩ := inv_slc hs
                    obtain ⟨b, y, cs, tyc, fz, h1, h2, h3, h4, h5⟩ := hr.cells hget
                    rw [hq] at h1; cases h1
                    obtain ⟨rfl, _⟩ := h5 rfl
                    rw [e1]
                    simp only [if_true]
                    -- the cells that stay, and the new ones
                    have hkeep : toVs m (c.take (len * i.size)) = some (cs.toList.take (len * i.size)) := by
                      apply toVs_of
                      · have := Nat.mul_le_mul_right i.size e4
                        simp only [List.length_take, Array.length_toList]; omega
                      · intro k u hu
                        rw [List.getElem?_take] at hu
                        split at hu
                        · rename_i hk
                          obtain ⟨v, hv, ev⟩ := h4.strong k u hu
                          exact ⟨v, hv, by rw [List.getElem?_take, if_pos hk]; exact ev⟩
                        · cases hu
                    have hkl : (c.take (len * i.size)).length = len * i.size := by
                      have := Nat.mul_le_mul_right i.size e4
                      simp only [List.length_take]; omega
                    by_cases hfit : len + n ≤ cap + y
                    · -- in place
                      have hul := toVs_length hus
                      have hmul : (len + n) * i.size ≤ (cap + y) * i.size := Nat.mul_le_mul_right _ hfit
                      rw [Nat.add_mul, Nat.add_mul] at hmul
                      have h1 : ∀ v ∈ us, v.oneCell' = true := by
                        have key : ∀ (l : List AV) (l' : List Value), allOne l = true → toVs m l = some l' → ∀ v ∈ l', v.oneCell' = true := by
                          intro l
                          induction l with
                          | nil => intro l' _ hl; simp [toVs] at hl; subst hl; simp
                          | cons x l ih =>
                            intro l' ho hl
                            obtain ⟨u, us', hx, hl', rfl⟩ := toVs_cons hl
                            simp only [allOne] at ho
                            split at ho
                            · rename_i hone
                              intro v hv
                              rcases List.mem_cons.1 hv with rfl | hm
                              · exact toV_one hx hone
                              · exact ih us' ho hl' v hm
                            · cases ho
                        exact key new us hone hus
                      have hst := run_storeCells_at P b (len * i.size) tyc us 0 cs w h2 (by omega) h1
                      simp only [Nat.add_zero] at hst
                      have hrun := run_append_fits (P := P) (w := w) (ty := ty) (base := some ⟨b, 0, none⟩) (sLen := len) (sCap := cap + y) (news := us.toArray) ht0 ht hi hx hlen hfc hfit (fun b' hb => by
                        cases hb; rw [Addr.add_lit, Nat.zero_add]; exact hst) (fun hb => by cases hb)
                      obtain ⟨hle, hrel⟩ := hr.move hget hq (c' := c.take (len * i.size) ++ new) (cs := (cs.toList.take (len * i.size) ++ us ++ cs.toList.drop (len * i.size + us.length)).toArray) (cap + y - (len + n)) (by
                        simp only [List.size_toArray, List.length_append, List.length_drop, Array.length_toList, hkl, hnewlen, toVs_length hkeep, hul]
                        rw [Nat.sub_mul, Nat.add_mul, Nat.add_mul]; omega) (by
                        intro k u hu
                        have hc2 : toVs m (c.take (len * i.size) ++ new) = some (cs.toList.take (len * i.size) ++ us) := toVs_append hkeep hus
                        obtain ⟨v, hv, ev⟩ := toVs_get hc2 k u hu
                        refine ⟨v, hv, ?_⟩
                        rw [List.getElem?_append_left (by exact (List.getElem?_eq_some_iff.1 ev).1)]
                        exact ev)
                      refine ⟨_, _, _, hle, hrel, ?_, hrun⟩
                      simp only [AV.toV, Env.put_same, Option.map_some, if_true]
                      congr 2
                      omega
                    · -- a new block
                      have hcut : (Builtin.firstCells i.size len (.slice (some ⟨b, 0, none⟩) len (cap + y))).run P w.drew = .ok (cs.toList.take (len * i.size)).toArray w.drew := by
                        have hl := run_loadCells_list (P := P) w.drew ⟨b, 0, none⟩ (cs.toList.take (len * i.size)) (fun j u hu => by
                          rw [Addr.add_lit, Nat.zero_add]
                          have : w.drew.heap[b]? = some (.cells cs tyc (0, 0)) := h2
                          rw [cell_of this]
                          rw [List.getElem?_take] at hu
                          split at hu
                          · simpa using hu
                          · cases hu)
                        rw [toVs_length hkeep, hkl] at hl
                        simp [Builtin.firstCells, hl]
                      obtain ⟨m', w', v', r1, r2, r3, r4⟩ := hgrow _ _ (cap + y) hkeep hkl hnewlen (by omega) _ hcut
                      have hlt : p.1 < H.next := hr.lt hq
                      have hb : Nat.beq H.next p.1 = false := by
                        cases hbb : Nat.beq H.next p.1 with
                        | false => rfl
                        | true => have := Nat.eq_of_beq_eq_true hbb; omega
                      have hd := r2.del p.1
                      have heq : (H.new (.cells (c.take (len * i.size) ++ new) true i.size)).del p.1 = (H.del p.1).new (.cells (c.take (len * i.size) ++ new) true i.size) := by
                        simp [AHeap.new, AHeap.del, delO, hb]
                      rw [heq] at hd
                      exact ⟨m', w', v', r1, hd, r3, r4⟩
                  · cases h
                · cases h
        · cases h
  · cases h

end
end Go.AM
