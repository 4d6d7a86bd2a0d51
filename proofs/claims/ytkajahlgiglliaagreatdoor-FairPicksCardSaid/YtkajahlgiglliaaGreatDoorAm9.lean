/- What the small machine does to its heap the program does to memory: new blocks, stores, maps. -/
import Derived.Test.YtkajahlgiglliaaGreatDoorAm8
namespace Go.AM

section
variable {P : Program} {NG : PG} {W0 : Base} {m : Env} {H : AHeap} {w : World} {t : List AV} {a : Act}

theorem new_cells (hr : Rel NG W0 m H w) {c : List AV} {cs : Array Value} (sp x : Nat) (hsz : cs.size = c.length + x * sp) (hc : Cellwise m c cs.toList) (ty : TypeId) :
    m.le (m.put H.next w.heap.size x) ∧ Rel NG W0 (m.put H.next w.heap.size x) (H.new (.cells c true sp)) (w.alloc (.cells cs ty)) := by
  have hn := hr.fresh H.next (Nat.le_refl _)
  refine hr.new x ⟨w.heap.size, x, cs, ty, (0, 0), Env.put_same _ _ _ _, ?_, hsz, (hc.mono (Env.le_put hn)).holey true, ?_⟩
  · show (w.heap.push _)[w.heap.size]? = _
    simp
  · rw [if_pos rfl]; exact ⟨rfl, hr.size⟩

theorem new_toV (m : Env) (i b x : Nat) : (AV.ptr (some (i, 0))).toV (m.put i b x) = some (.pointer (some ⟨b, 0, none⟩)) := by
  simp [AV.toV, Env.put_same]

theorem cellwise_of {c : List AV} {vs : List Value} (h : toVs m c = some vs) : Cellwise m c vs := toVs_get h

theorem repeated_sound {zc : List AV} {zs : Array Value} (hz : toVs m zc = some zs.toList) (n : Nat) (h : 0 < zc.length) :
    toVs m (repeated zc n) = some ((Array.range n).map fun k => zs[k % zs.size]!).toList := by
  have hl := toVs_length hz
  simp only [Array.length_toList] at hl
  refine toVs_of (by simp [repeated]) ?_
  intro k x hx
  simp only [repeated, List.getElem?_map, Option.map_eq_some_iff] at hx
  obtain ⟨k', hk', rfl⟩ := hx
  have hkn : k < n := by have := (List.getElem?_eq_some_iff.1 hk').1; simpa using this
  rw [List.getElem?_range hkn] at hk'
  · cases hk'
    have hlt : k % zc.length < zc.length := Nat.mod_lt _ h
    obtain ⟨v, hv, e⟩ := toVs_get hz (k % zc.length) zc[k % zc.length] (List.getElem?_eq_getElem hlt)
    refine ⟨v, by rw [List.getD_eq_getElem?_getD, List.getElem?_eq_getElem hlt]; exact hv, ?_⟩
    have hlt2 : k % zs.size < zs.size := by rw [hl]; exact hlt
    have e2 : zs[k % zs.size]! = v := by
      rw [hl]
      rw [getElem!_pos zs (k % zc.length) (by omega)]
      simpa [hl, hlt] using e
    simp [hkn, e2]

/-- Cells that are stored. -/
theorem writeAt_sound (hr : Rel NG W0 m H w) {i o : Nat} {vs : List AV} {H' : AHeap} (h : writeAt H i o vs = some H') {us : List Value} (hv : toVs m vs = some us) {q : Nat × Nat} (hq : m i = some q) :
    ∃ w', (storeCells ⟨q.1, o, none⟩ us).run P w = .ok () w' ∧ Rel NG W0 m H' w' := by
  unfold writeAt at h
  split at h
  · cases h
    simp [toVs] at hv; subst hv
    exact ⟨w, by simp [storeCells], hr⟩
  · split at h
    · rename_i c sp hget
      obtain ⟨b, x, cs, ty, fz, h1, h2, h3, h4, h5⟩ := hr.cells hget
      rw [hq] at h1; cases h1
      obtain ⟨rfl, _⟩ := h5 rfl
      split at h
      · rename_i hle hone
        cases h
        have hle' := Nat.le_of_ble_eq_true hle
        have hul := toVs_length hv
        have h1 : ∀ v ∈ us, v.oneCell' = true := by
          have key : ∀ (l : List AV) (l' : List Value), allOne l = true → toVs m l = some l' → ∀ v ∈ l', v.oneCell' = true := by
            intro l
            induction l with
            | nil => intro l' _ hl; simp [toVs] at hl; subst hl; simp
            | cons x l ih =>
              intro l' ho hl
              obtain ⟨u, us', hx, hl', rfl⟩ := toVs_cons hl
              simp only [allOne] at ho
              split at ho
              · rename_i hone
                intro v hv
                rcases List.mem_cons.1 hv with rfl | hm
                · exact toV_one hx hone
                · exact ih us' ho hl' v hm
              · cases ho
          exact key vs us hone hv
        have hfit : o + 0 + us.length ≤ cs.size := by omega
        refine ⟨_, run_storeCells_at P b o ty us 0 cs w h2 hfit h1, ?_⟩
        refine hr.setCells hget hq ?_ ?_
        · simp only [List.size_toArray, List.length_append, List.length_take, List.length_drop, Array.length_toList, putAt_length]
          omega
        · intro k y hy
          rw [putAt_get o vs c hle' k] at hy
          simp only [Nat.add_zero]
          by_cases hk : o ≤ k ∧ k < o + vs.length
          · rw [if_pos hk] at hy
            obtain ⟨v, hv', e⟩ := toVs_get hv _ _ hy
            refine ⟨v, hv', ?_⟩
            rw [List.getElem?_append_left (by simp; omega), List.getElem?_append_right (by simp; omega)]
            simp only [List.length_take, Array.length_toList]
            rw [show k - min o cs.size = k - o by omega]
            exact e
          · rw [if_neg hk] at hy
            obtain ⟨v, hv', e⟩ := h4.strong k y hy
            refine ⟨v, hv', ?_⟩
            rcases Nat.lt_or_ge k o with hlt | hge
            · rw [List.getElem?_append_left (by simp; omega), List.getElem?_append_left (by simp; omega), List.getElem?_take, if_pos hlt]
              exact e
            · rw [List.getElem?_append_right (by simp; omega), List.getElem?_drop]
              simp only [List.length_append, List.length_take, Array.length_toList]
              rw [show o + us.length + (k - (min o cs.size + us.length)) = k by omega]
              exact e
      · cases h
    · cases h

theorem store_sound (hr : Rel NG W0 m H w) {ty : TypeId} {n : Nat} (hn : sizeP P ty = some n) {p : Nat × Nat} {x : AV} {vx : Value} (hx : x.toV m = some vx) (hlen : x.cells.length = n) {H' : AHeap}
    (h : writeAt H p.1 p.2 x.cells = some H') {q : Nat × Nat} (hq : m p.1 = some q) : ∃ w', (storeVar ty ⟨q.1, p.2, none⟩ vx).run P w = .ok () w' ∧ Rel NG W0 m H' w' := by
  have hc := toV_cells hx
  have hl := toVs_length hc
  simp only [Array.length_toList] at hl
  obtain ⟨w', h1, h2⟩ := writeAt_sound (P := P) hr h hc hq
  refine ⟨w', ?_, h2⟩
  simp [storeVar, sizeP_run (w := w) hn, hl, hlen, h1]

/- Maps. -/

/-- Where an entry is, and the entries with another value there. -/
theorem updA_sound {str : Bool} {d : TypeDesc} (hd : (str = false ∧ ∃ k, d = .int k) ∨ (str = true ∧ d = .string)) {k v : AV} {vk vv : Value} (hk : k.toV m = some vk) (hv : v.toV m = some vv) :
    ∀ {es es' : List (AV × AV)} {ms : List MapEntry} (i : Nat), Entries m es ms → updA str k v es = some es' →
      (Instr.findNow d vk ms i = some none ∧ ∀ c, Entries m es' (ms ++ [{ key := vk, val := vv, born := c }])) ∨
      ∃ j e, Instr.findNow d vk ms i = some (some (i + j, e.val)) ∧ ms[j]? = some e ∧ Instr.sameNow d vk e.key = some true ∧ Entries m es' (ms.modify j fun e => { e with key := e.key, val := vv })
  | [], es', [], i, _, h => by
    simp [updA] at h; subst h
    exact .inl ⟨rfl, fun c => ⟨hk, hv, trivial⟩⟩
  | [], _, _ :: _, _, he, _ => he.elim
  | _ :: _, _, [], _, he, _ => he.elim
  | e :: es, es', e' :: ms, i, he, h => by
    simp only [updA] at h
    split at h
    · rename_i hs
      cases h
      have hsn := sameKey_sound hd hs hk he.1
      refine .inr ⟨0, e', ?_, rfl, hsn, ?_⟩
      · simp [Instr.findNow, hsn]
      · exact ⟨he.1, hv, he.2.2⟩
    · rename_i hs
      simp only [Option.map_eq_some_iff] at h
      obtain ⟨es1, hes, rfl⟩ := h
      have hsn := sameKey_sound hd hs hk he.1
      rcases updA_sound hd hk hv (i + 1) he.2.2 hes with ⟨h1, h2⟩ | ⟨j, e1, h1, h2, h3, h4⟩
      · exact .inl ⟨by simp [Instr.findNow, hsn, h1], fun c => ⟨he.1, he.2.1, h2 c⟩⟩
      · refine .inr ⟨j + 1, e1, ?_, by simpa using h2, h3, ?_⟩
        · simp only [Instr.findNow, hsn, h1]; congr 3; omega
        · exact ⟨he.1, he.2.1, h4⟩
    · cases h

theorem bytes_eq {a b : ByteArray} (h : (a == b) = true) : a = b := by
  rw [beq_toListBytes, ByteArray.toList_eq, ByteArray.toList_eq] at h
  have e := eq_of_beq h
  obtain ⟨⟨x⟩⟩ := a
  obtain ⟨⟨y⟩⟩ := b
  simp at e
  rw [e]

theorem sameBits_of {str : Bool} {d : TypeDesc} (hd : (str = false ∧ ∃ k, d = .int k) ∨ (str = true ∧ d = .string)) {x y : Value} (h : Instr.sameNow d x y = some true) (n : Nat) : Instr.sameBits (n + 1) y x = true ∧ y = x := by
  unfold Instr.sameNow at h
  split at h
  · rename_i k a k' b
    split at h
    · rename_i hk; subst hk
      simp at h; subst h
      simp [Instr.sameBits]
    · cases h
  · simp only [Option.some.injEq] at h
    cases bytes_eq h
    exact ⟨by simp only [Instr.sameBits]; exact h, rfl⟩
  · simp only [Option.some.injEq, beq_iff_eq] at h; subst h
    simp [Instr.sameBits]
  · cases h

theorem mapUpd_sound (hr : Rel NG W0 m H w) {mt kt e : TypeId} (hmt : P.underlying mt = some (.map kt e)) {str : Bool} (hks : keyStr P kt = some str) {r : Nat} {k v : AV} {vm vk vv : Value}
    (hm : (AV.map (some r)).toV m = some vm) (hk : k.toV m = some vk) (hv : v.toV m = some vv) {es es' : List (AV × AV)} (hes : H.get r = some (.dict es)) (hu : updA str k v es = some es') :
    ∃ w', (Instr.mapUpdate mt vm vk vv).run P w = .ok () w' ∧ Rel NG W0 m (H.set r (.dict es')) w' := by
  obtain ⟨d, hud, hd⟩ := keyStr_inv hks
  have hd' : (∃ k, d = .int k) ∨ d = .string := by rcases hd with ⟨_, k, rfl⟩ | ⟨_, rfl⟩; exact .inl ⟨k, rfl⟩; exact .inr rfl
  obtain ⟨q, hq, rfl⟩ := inv_map hm
  obtain ⟨b, y, ms, clock, h1, h2, _, h4⟩ := hr.obj r _ hes
  rw [hq] at h1; cases h1
  have hgo : (getObj b).run P w = .ok (.map ms clock) w := by simp [getObj, Sem.run, h2]
  have hso : ∀ ms' k', (setObj b (.map ms' k')).run P w = .ok () { w with heap := w.heap.setIfInBounds b (.map ms' k') } := by intro ms' k'; simp [setObj, Sem.run, h2]
  have hck : ∀ b, (Instr.checkKey b 10000 kt vk).run P w = .ok () w := fun b => checkKey_run (w := w) hud hd' b vk 9999
  rcases updA_sound hd hk hv 0 h4 hu with ⟨e1, e2⟩ | ⟨j, en, e1, e2, e3, e4⟩
  · refine ⟨_, ?_, hr.setDict hes hq (ms := ms.push { key := vk, val := vv, born := clock }) (k := clock + 1) (by simpa using e2 clock)⟩
    simp [Instr.mapUpdate, run_underlying hmt, hgo, hck, findKey_run hud e1, hso]
  · have hsb := sameBits_of hd e3 9999
    have hms : (ms.modify j fun e => { e with key := vk, val := vv }).toList = ms.toList.modify j fun e => { e with key := e.key, val := vv } := by
      rw [Array.toList_modify]
      have hkk := hsb.2
      apply List.ext_getElem?
      intro i
      rw [List.getElem?_modify, List.getElem?_modify]
      by_cases hij : j = i
      · subst hij
        rw [e2]; simp [hkk]
      · simp [hij]
    refine ⟨_, ?_, hr.setDict hes hq (ms := ms.modify j fun e => { e with key := vk, val := vv }) (k := clock) (by rw [hms]; exact e4)⟩
    have hj : ms[j]? = some en := by simpa using e2
    have hks : (Instr.keyThatStays en.key vk).run P w = .ok vk w := by
      have : Instr.sameBits 10000 en.key vk = true := hsb.1
      simp [Instr.keyThatStays, this]
    have e1' : Instr.findNow d vk ms.toList 0 = some (some (j, en.val)) := by simpa using e1
    simp [Instr.mapUpdate, run_underlying hmt, hgo, hck, findKey_run hud e1', hj, hks, hso]

theorem ersA_sound {str : Bool} {d : TypeDesc} (hd : (str = false ∧ ∃ k, d = .int k) ∨ (str = true ∧ d = .string)) {k : AV} {vk : Value} (hk : k.toV m = some vk) :
    ∀ {es es' : List (AV × AV)} {ms : List MapEntry} (i : Nat), Entries m es ms → ersA str k es = some es' →
      (Instr.findNow d vk ms i = some none ∧ Entries m es' ms) ∨ ∃ j x, Instr.findNow d vk ms i = some (some (i + j, x)) ∧ j < ms.length ∧ Entries m es' (ms.eraseIdx j)
  | [], es', [], i, _, h => by simp [ersA] at h; subst h; exact .inl ⟨rfl, trivial⟩
  | [], _, _ :: _, _, he, _ => he.elim
  | _ :: _, _, [], _, he, _ => he.elim
  | e :: es, es', e' :: ms, i, he, h => by
    simp only [ersA] at h
    split at h
    · rename_i hs
      cases h
      have hsn := sameKey_sound hd hs hk he.1
      exact .inr ⟨0, e'.val, by simp [Instr.findNow, hsn], by simp, he.2.2⟩
    · rename_i hs
      simp only [Option.map_eq_some_iff] at h
      obtain ⟨es1, hes, rfl⟩ := h
      have hsn := sameKey_sound hd hs hk he.1
      rcases ersA_sound hd hk (i + 1) he.2.2 hes with ⟨h1, h2⟩ | ⟨j, x, h1, h2, h3⟩
      · exact .inl ⟨by simp [Instr.findNow, hsn, h1], he.1, he.2.1, h2⟩
      · refine .inr ⟨j + 1, x, ?_, by simp; omega, he.1, he.2.1, h3⟩
        simp only [Instr.findNow, hsn, h1]; congr 3; omega
    · cases h

theorem delete_sound (hr : Rel NG W0 m H w) {ts : Array TypeId} {ty mt kt e : TypeId} (ht0 : ts[0]? = some mt) (hmt : P.underlying mt = some (.map kt e)) {str : Bool} (hks : keyStr P kt = some str) {r : Nat} {k : AV} {vm vk : Value}
    (hm : (AV.map (some r)).toV m = some vm) (hk : k.toV m = some vk) {es es' : List (AV × AV)} (hes : H.get r = some (.dict es)) (hu : ersA str k es = some es') :
    ∃ w', (Builtin.delete_ ts ty #[vm, vk]).run P w = .ok (.tuple #[]) w' ∧ Rel NG W0 m (H.set r (.dict es')) w' := by
  obtain ⟨d, hud, hd⟩ := keyStr_inv hks
  have hd' : (∃ k, d = .int k) ∨ d = .string := by rcases hd with ⟨_, k, rfl⟩ | ⟨_, rfl⟩; exact .inl ⟨k, rfl⟩; exact .inr rfl
  obtain ⟨q, hq, rfl⟩ := inv_map hm
  obtain ⟨b, y, ms, clock, h1, h2, _, h4⟩ := hr.obj r _ hes
  rw [hq] at h1; cases h1
  have hgo : (getObj b).run P w = .ok (.map ms clock) w := by simp [getObj, Sem.run, h2]
  have hso : ∀ ms' k', (setObj b (.map ms' k')).run P w = .ok () { w with heap := w.heap.setIfInBounds b (.map ms' k') } := by intro ms' k'; simp [setObj, Sem.run, h2]
  have hck : ∀ b, (Instr.checkKey b 10000 kt vk).run P w = .ok () w := fun b => checkKey_run (w := w) hud hd' b vk 9999
  rcases ersA_sound hd hk 0 h4 hu with ⟨e1, e2⟩ | ⟨j, x, e1, e2, e3⟩
  · refine ⟨_, ?_, hr.setDict hes hq (ms := ms) (k := clock) e2⟩
    simp [Builtin.delete_, ht0, run_underlying hmt, hgo, hck, findKey_run hud e1, hso]
  · have e1' : Instr.findNow d vk ms.toList 0 = some (some (j, x)) := by simpa using e1
    have hlt : j < ms.size := by simpa using e2
    refine ⟨_, ?_, hr.setDict hes hq (ms := ms.eraseIdxIfInBounds j) (k := clock) ?_⟩
    · simp [Builtin.delete_, ht0, run_underlying hmt, hgo, hck, findKey_run hud e1', hso]
    · simpa [Array.eraseIdxIfInBounds, hlt] using e3

end
end Go.AM
