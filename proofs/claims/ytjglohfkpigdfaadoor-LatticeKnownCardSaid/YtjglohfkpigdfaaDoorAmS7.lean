/- The operations are sound: part 7: copy, clear, texts gone through, maps. -/
import Derived.Test.YtjglohfkpigdfaaDoorAmS6
set_option linter.unusedSimpArgs false
set_option linter.unusedVariables false
set_option linter.unusedSectionVars false
set_option linter.unnecessarySimpa false
namespace Am
open Go Go.RowKit
section
variable {P : Program} {R : Ro} {base : World} {ρ : Ren} {H H' : AH} {w : World} {e : Env} {ev : Operand → Value}

theorem bytes_ren (s : List UInt8) (ρ : Ren) : renL ρ (s.map fun b => AV.int .u8 b.toNat) = some (s.map fun b => Value.int .u8 b.toNat) := by
  induction s with
  | nil => rfl
  | cons b s ih => exact renL_cons_mk rfl ih

theorem s_copy (hR : ROk R base) (hrel : Rel base ρ H w) (he : EvOk ρ e ev) {t el : TypeId} {sz : Nat} {a b : Operand} {a' b' : X} (ha : cx a = some a') (hb : cx b = some b') (hu : P.underlying t = some (.slice el)) (hs : sizeC P el = some sz) {v : AV}
    (h : (AOp.copy sz a' b').eval P R e H = some (v, H')) {o : Oper} {c : Call} (ho : o.op = .call c) (hc : c.callee = .builtin .copy) (h0 : c.argTypes[0]? = some t) (hl : c.args.toList = [a, b]) : Yields base ρ ((execOp ev o).run P w) v H' := by
  have h1 := cx_ok he ha
  have h2 := cx_ok he hb
  simp only [AOp.eval] at h
  have hmin : ∀ a b, Nat.min a b = min a b := fun _ _ => rfl
  split at h
  · rename_i hx
    rw [hx] at h1
    simp only [ren, Option.some.injEq] at h1
    have key : ∃ n, (Builtin.lenOf (ev b)).run P w = .ok n w ∧ (Builtin.firstCells sz 0 (ev b)).run P w = .ok #[] w ∧ v = .int .i64 0 ∧ H = H' := by
      split at h
      · rename_i hy
        cases h
        rw [hy] at h2
        simp only [ren, Option.some.injEq] at h2
        rw [← h2]; exact ⟨0, rfl, rfl, rfl, rfl⟩
      · rename_i hy
        cases h
        rw [hy] at h2
        obtain ⟨A, m, _, _, h2⟩ := ren_slice h2
        rw [h2]; exact ⟨_, rfl, by simp [Builtin.firstCells, loadCells, loadCellsFrom], rfl, rfl⟩
      · rename_i hy
        cases h
        rw [hy] at h2
        have h2 := ren_str h2
        rw [h2]; exact ⟨_, rfl, by simp [Builtin.firstCells, ByteArray.extract, ByteArray.copySlice], rfl, rfl⟩
      · cases h
    obtain ⟨n, k1, k2, rfl, rfl⟩ := key
    refine y_builtin (x := .int .i64 0) ho hc (fun cs => rfl) ?_ (Ext.refl _) hrel rfl
    rw [args2 hl, ← h1]
    unfold Builtin.copy_
    simp [h0, und_ok hu, sizeC_ok hs, k1, k2, goInt]
  · rename_i l off dn cp hx
    rw [hx] at h1
    obtain ⟨A, m, hA, _, g1⟩ := ren_slice h1
    split at h
    · rename_i hy
      cases h
      rw [hy] at h2
      simp only [ren, Option.some.injEq] at h2
      refine y_builtin (x := .int .i64 0) ho hc (fun cs => rfl) ?_ (Ext.refl _) hrel rfl
      rw [args2 hl, g1, ← h2]
      unfold Builtin.copy_
      simp [h0, und_ok hu, sizeC_ok hs, Builtin.lenOf, hmin, Builtin.firstCells, storeCells, goInt]
    · rename_i l' off' sn cp' hy
      rw [hy] at h2
      obtain ⟨B, m', hB, _, h2⟩ := ren_slice h2
      split at h
      · rename_i cs hcs
        obtain ⟨V, hV, hVl, hrun⟩ := readN_sound hR hrel hcs hB
        have hfc : (Builtin.firstCells sz (min sn dn) (Value.slice (some B) sn m')).run P w = .ok V.toArray w := by
          simp only [Builtin.firstCells, loadCells, hrun, Array.empty_append]
        split at h
        · rename_i i
          simp only [Option.map_eq_some_iff] at h
          obtain ⟨H1, hH, h⟩ := h
          cases h
          simp only [Loc.addr, Option.map_eq_some_iff] at hA
          obtain ⟨p, hp, rfl⟩ := hA
          obtain ⟨w', hrun', hrel'⟩ := writeN_sound hrel hH hV hp
          refine y_builtin (x := .int .i64 (min sn dn)) ho hc (fun cs => rfl) (w' := w') ?_ (Ext.refl _) hrel' rfl
          rw [args2 hl, g1, h2]
          unfold Builtin.copy_
          simp [h0, und_ok hu, sizeC_ok hs, Builtin.lenOf, hmin, hfc, hrun', goInt]
          omega
        · split at h
          · rename_i hcs0
            cases h
            subst hcs0
            obtain rfl := renL_nil hV
            refine y_builtin (x := .int .i64 (min sn dn)) ho hc (fun cs => rfl) ?_ (Ext.refl _) hrel rfl
            rw [args2 hl, g1, h2]
            unfold Builtin.copy_
            simp [h0, und_ok hu, sizeC_ok hs, Builtin.lenOf, hmin, hfc, storeCells, goInt]
            omega
          · cases h
      · cases h
    · rename_i s hy
      rw [hy] at h2
      have h2 := ren_str h2
      split at h
      · rename_i hsz
        subst hsz
        split at h
        · rename_i i
          simp only [Option.map_eq_some_iff] at h
          obtain ⟨H1, hH, h⟩ := h
          cases h
          simp only [Loc.addr, Option.map_eq_some_iff] at hA
          obtain ⟨p, hp, rfl⟩ := hA
          obtain ⟨w', hrun', hrel'⟩ := writeN_sound hrel hH (bytes_ren _ ρ) hp
          have hfc : (Builtin.firstCells 1 (min s.length dn) (Value.string ⟨⟨s⟩⟩)).run P w = .ok ((s.take (min s.length dn)).map fun b => Value.int .u8 b.toNat).toArray w := by
            have := ByteArray.extract_mk s 0 (min s.length dn)
            simp only [Builtin.firstCells]
            rw [show (ByteArray.mk ⟨s⟩).extract 0 (min s.length dn) = ByteArray.mk ((s.take (min s.length dn))).toArray from by simpa using this]
            simp
          have hsz : (ByteArray.mk ⟨s⟩).size = s.length := rfl
          refine y_builtin (x := .int .i64 (min s.length dn)) ho hc (fun cs => rfl) (w' := w') ?_ (Ext.refl _) hrel' rfl
          rw [args2 hl, g1, h2]
          unfold Builtin.copy_
          simp only [h0, List.getElem?_toArray, List.getElem?_cons_zero, List.getElem?_cons_succ, Sem.run_bind, und_ok hu, Result.andThen_ok, Builtin.lenOf, Sem.run_pure, hsz, hmin, sizeC_ok hs, hfc]
          rw [hrun']
          simp [goInt]
          omega
        · cases h
      · cases h
    · cases h
  · cases h

theorem s_clearS (hrel : Rel base ρ H w) (he : EvOk ρ e ev) {t el : TypeId} {sz : Nat} {z : AV} {a : Operand} {a' : X} (ha : cx a = some a') (hu : P.underlying t = some (.slice el)) (hz : zeroC P el = some z) {v : AV}
    (h : (AOp.clearS sz z.cells a').eval P R e H = some (v, H')) {o : Oper} {c : Call} (ho : o.op = .call c) (hc : c.callee = .builtin .clear) (h0 : c.argTypes[0]? = some t) (hl : c.args.toList = [a]) : Yields base ρ ((execOp ev o).run P w) v H' := by
  have h1 := cx_ok he ha
  simp only [AOp.eval] at h
  split at h
  · rename_i hx
    cases h
    rw [hx] at h1
    simp only [ren, Option.some.injEq] at h1
    refine y_builtin (x := Go.undef) ho hc (fun cs => rfl) ?_ (Ext.refl _) hrel rfl
    rw [args1 hl, ← h1]
    unfold Builtin.clear_
    simp [h0, und_ok hu, Go.undef]
  · rename_i i off n cp hx
    split at h
    · rename_i hzl
      simp only [Option.map_eq_some_iff] at h
      obtain ⟨H1, hH, h⟩ := h
      cases h
      rw [hx] at h1
      obtain ⟨A, m, hA, _, h1⟩ := ren_slice h1
      obtain ⟨Z, hZ, hZrun⟩ := zeroC_ok hz ρ w
      simp only [Loc.addr, Option.map_eq_some_iff] at hA
      obtain ⟨p, hp, rfl⟩ := hA
      obtain ⟨w', hrun', hrel'⟩ := writeN_sound hrel hH (renL_zeros (cells_ren hZ) n) hp
      cases n with
      | zero =>
        simp only [zerosEv, writeN] at hH
        have hrun0 := hrun' P
        simp only [zerosV, storeCells, Sem.run_pure] at hrun0
        cases hrun0
        refine y_builtin (x := Go.undef) ho hc (fun cs => rfl) ?_ (Ext.refl _) hrel' rfl
        rw [args1 hl, h1]
        unfold Builtin.clear_
        simp [h0, und_ok hu, Go.undef]
      | succ n =>
        refine y_builtin (x := Go.undef) ho hc (fun cs => rfl) (w' := w') ?_ (Ext.refl _) hrel' rfl
        rw [args1 hl, h1]
        unfold Builtin.clear_
        have hzc := zeroCells_eq Z.cells.toList (n + 1)
        simp only [Array.toArray_toList] at hzc
        simp [h0, und_ok hu, hZrun, hzc, hrun', Go.undef]
    · cases h
  · cases h

theorem s_rangeS (hrel : Rel base ρ H w) (he : EvOk ρ e ev) {t : TypeId} {a : Operand} {a' : X} (ha : cx a = some a') (hu : P.underlying t = some .string) {v : AV}
    (h : (AOp.rangeS a').eval P R e H = some (v, H')) {o : Oper} (ho : o.op = .range t a) : Yields base ρ ((execOp ev o).run P w) v H' := by
  have h1 := cx_ok he ha
  simp only [AOp.eval] at h
  split at h
  · rename_i s hx
    cases h
    rw [hx] at h1
    have h1 := ren_str h1
    refine ⟨ρ ++ [⟨w.heap.size, 0, 0⟩], _, .pointer (some ⟨w.heap.size, 0, none⟩), .inl ?_, Ext.mk _ _, hrel.new (.stringIter ⟨⟨s⟩⟩ 0) (.siter s 0) 0 0 w.drawn ?_, ?_⟩
    · simp [execOp, ho, h1, Instr.range, und_ok hu]
    · exact ⟨push_at _ _, rfl⟩
    · simp [ren, addr_new ρ ⟨w.heap.size, 0, 0⟩ 0 H hrel.len]
  · cases h

theorem setObj_touch {b : Nat} {ob : Obj} (hb : w.heap[b]? = some ob) (hnc : ∀ c t f, ob ≠ .cells c t f) (o' : Obj) :
    (setObj b o').run P w = .ok () { w with heap := w.heap.setIfInBounds b o' } ∧ Touch w { w with heap := w.heap.setIfInBounds b o' } b ∧ (w.heap.setIfInBounds b o')[b]? = some o' := by
  refine ⟨?_, ⟨rfl, rfl, rfl, by simp, fun k hk => ?_⟩, ?_⟩
  · simp only [setObj, Sem.run, hb]
  · show (w.heap.setIfInBounds b o')[k]? = _
    rw [Array.getElem?_setIfInBounds, if_neg (Ne.symm hk)]
  · rw [Array.getElem?_setIfInBounds, if_pos rfl, if_pos (Array.getElem?_eq_some_iff.1 hb).1]

theorem getObj_at {b : Nat} {ob : Obj} (hb : w.heap[b]? = some ob) (hnc : ∀ c t f, ob ≠ .cells c t f) : (getObj b).run P w = .ok ob w := by
  simp only [getObj, Sem.run, hb]

theorem s_nextS (hrel : Rel base ρ H w) (he : EvOk ρ e ev) {a : Operand} {a' : X} (ha : cx a = some a') {v : AV}
    (h : (AOp.nextS a').eval P R e H = some (v, H')) {o : Oper} (ho : o.op = .next a true) : Yields base ρ ((execOp ev o).run P w) v H' := by
  have h1 := cx_ok he ha
  simp only [AOp.eval] at h
  split at h
  · rename_i i hx
    split at h
    · rename_i s pos hi
      rw [hx] at h1
      obtain ⟨A, hA, h1⟩ := ren_ptr h1
      simp only [Loc.addr, Option.map_eq_some_iff] at hA
      obtain ⟨p, hp, rfl⟩ := hA
      obtain ⟨hobj, hs0⟩ : w.heap[p.blk]? = some (.stringIter ⟨⟨s⟩⟩ pos) ∧ p.sh = 0 := hrel.obj i _ p hi hp
      have hsz : (ByteArray.mk ⟨s⟩).size = s.length := rfl
      have hget := getObj_at (P := P) hobj (by intro c t f hcc; cases hcc)
      rw [hs0] at h1
      split at h
      · rename_i hpos
        cases h
        obtain ⟨q1, q2, q3⟩ := setObj_touch (P := P) hobj (by intro c t f hcc; cases hcc) (.stringIter ⟨⟨s⟩⟩ (pos + (Utf8.decode ⟨⟨s⟩⟩ pos).2))
        refine ⟨ρ, _, .tuple #[.bool true, goInt pos, .int .i32 (Utf8.decode ⟨⟨s⟩⟩ pos).1], .inl ?_, Ext.refl _, hrel.put hi hp rfl q2.os q2.tape q2.output q2.size q2.other ⟨q3, hs0⟩, rfl⟩
        simp only [execOp, ho, h1, Instr.next]
        simp [hget, hsz, hpos, q1]
      · rename_i hpos
        cases h
        refine ⟨ρ, w, .tuple #[.bool false], .inl ?_, Ext.refl _, hrel, rfl⟩
        simp only [execOp, ho, h1, Instr.next]
        simp [hget, hsz, hpos]
    · cases h
  · cases h

/-! ### Maps -/
theorem renE_getElem? : ∀ {es : List AEntry} {X : List MapEntry}, renE ρ es = some X → ∀ (i : Nat) en, es[i]? = some en → ∃ k v, ren ρ en.key = some k ∧ ren ρ en.val = some v ∧ X[i]? = some ⟨k, v, en.born⟩
  | [], _, _, i, en, h => by simp at h
  | a :: es, X, hX, i, en, h => by
    obtain ⟨k, v, l, h1, h2, h3, rfl⟩ := renE_cons hX
    cases i with
    | zero => simp at h; subst h; exact ⟨k, v, h1, h2, rfl⟩
    | succ i => simp only [List.getElem?_cons_succ] at h ⊢; exact renE_getElem? h3 i en h

theorem renE_length : ∀ {es : List AEntry} {X : List MapEntry}, renE ρ es = some X → X.length = es.length
  | [], X, h => by simp only [renE] at h; cases h; rfl
  | a :: es, X, h => by
    obtain ⟨k, v, l, h1, h2, h3, rfl⟩ := renE_cons h
    simp [renE_length h3]

theorem renE_append : ∀ {a b : List AEntry} {X Y : List MapEntry}, renE ρ a = some X → renE ρ b = some Y → renE ρ (a ++ b) = some (X ++ Y)
  | [], b, X, Y, h, k => by simp only [renE] at h; cases h; simpa using k
  | e :: es, b, X, Y, h, k => by
    obtain ⟨x, v, l, h1, h2, h3, rfl⟩ := renE_cons h
    exact renE_cons_mk h1 h2 (renE_append h3 k)

theorem renE_set : ∀ {a : List AEntry} {X : List MapEntry}, renE ρ a = some X → ∀ (i : Nat) {en : AEntry} {k v : Value}, ren ρ en.key = some k → ren ρ en.val = some v → renE ρ (a.set i en) = some (X.set i ⟨k, v, en.born⟩)
  | [], X, h, i, en, k, v, hk, hv => by simp only [renE] at h; cases h; rfl
  | e :: es, X, h, i, en, k, v, hk, hv => by
    obtain ⟨x, u, l, h1, h2, h3, rfl⟩ := renE_cons h
    cases i with
    | zero => exact renE_cons_mk hk hv h3
    | succ i => exact renE_cons_mk h1 h2 (renE_set h3 i hk hv)

theorem renE_erase : ∀ {a : List AEntry} {X : List MapEntry}, renE ρ a = some X → ∀ (i : Nat), renE ρ (a.eraseIdx i) = some (X.eraseIdx i)
  | [], X, h, i => by simp only [renE] at h; cases h; rfl
  | e :: es, X, h, i => by
    obtain ⟨x, u, l, h1, h2, h3, rfl⟩ := renE_cons h
    cases i with
    | zero => exact h3
    | succ i => exact renE_cons_mk h1 h2 (renE_erase h3 i)

theorem findNow_keys (kind : TypeDesc) (K : Value) : ∀ (es es' : List MapEntry) (i : Nat), es.map (·.key) = es'.map (·.key) →
    ∀ r, Instr.findNow kind K es i = some r → ∃ r', Instr.findNow kind K es' i = some r' ∧ r.map (·.1) = r'.map (·.1) ∧ ∀ j u, r' = some (j, u) → i ≤ j ∧ (es'[j - i]?).map (·.val) = some u
  | [], es', i, h, r, hr => by
    simp at h; subst h
    simp only [Instr.findNow] at hr ⊢
    cases hr; exact ⟨none, rfl, rfl, fun _ _ h => by cases h⟩
  | e :: es, [], i, h, r, hr => by simp at h
  | e :: es, e' :: es', i, h, r, hr => by
    simp at h
    obtain ⟨h1, h2⟩ := h
    simp only [Instr.findNow] at hr ⊢
    rw [← h1]
    split at hr
    · cases hr; exact ⟨some (i, e'.val), rfl, rfl, fun j u h => by cases h; simp⟩
    · obtain ⟨r', g1, g2, g3⟩ := findNow_keys kind K es es' (i + 1) h2 r hr
      exact ⟨r', g1, g2, fun j u h => by
        obtain ⟨a, b⟩ := g3 j u h
        refine ⟨by omega, ?_⟩
        rw [show j - i = (j - (i + 1)) + 1 from by omega]; simpa using b⟩
    · cases hr

theorem findNow_none (kind : TypeDesc) (K : Value) : ∀ (es es' : List MapEntry) (i : Nat), es.map (·.key) = es'.map (·.key) → Instr.findNow kind K es i = none → Instr.findNow kind K es' i = none
  | [], es', i, h, hr => by simp [Instr.findNow] at hr
  | e :: es, [], i, h, hr => by simp at h
  | e :: es, e' :: es', i, h, hr => by
    simp at h
    obtain ⟨h1, h2⟩ := h
    simp only [Instr.findNow] at hr ⊢
    rw [← h1]
    split at hr
    · cases hr
    · exact findNow_none kind K es es' (i + 1) h2 hr
    · rfl

theorem pureRun_bind {α β : Type} : ∀ {s : Sem α} {f : α → Sem β} {r : β}, pureRun P (s >>= f) = some r → ∃ q, pureRun P s = some q ∧ pureRun P (f q) = some r := by
  intro s
  induction s with
  | pure a => intro f r h; exact ⟨a, rfl, h⟩
  | program k ih => intro f r h; exact ih P h
  | mark m k ih => intro f r h; exact ih h
  | _ => intro f r h; simp [Bind.bind, Sem.bind, pureRun] at h

theorem pureRun_bind_mk {α β : Type} : ∀ {s : Sem α} {f : α → Sem β} {q : α} {r : β}, pureRun P s = some q → pureRun P (f q) = some r → pureRun P (s >>= f) = some r := by
  intro s
  induction s with
  | pure a => intro f q r h k; simp only [pureRun] at h; cases h; exact k
  | program k ih => intro f q r h k'; exact ih P h k'
  | mark m k ih => intro f q r h k'; exact ih h k'
  | _ => intro f q r h k; simp [pureRun] at h

theorem findAsking_keys (key : TypeId) (K : Value) : ∀ (es es' : List MapEntry) (i : Nat), es.map (·.key) = es'.map (·.key) →
    ∀ r, pureRun P (Instr.findAsking key K es i) = some r → ∃ r', pureRun P (Instr.findAsking key K es' i) = some r' ∧ r.map (·.1) = r'.map (·.1) ∧ ∀ j u, r' = some (j, u) → i ≤ j ∧ (es'[j - i]?).map (·.val) = some u
  | [], es', i, h, r, hr => by
    simp at h; subst h
    simp only [Instr.findAsking] at hr ⊢
    cases hr; exact ⟨none, rfl, rfl, fun _ _ h => by cases h⟩
  | e :: es, [], i, h, r, hr => by simp at h
  | e :: es, e' :: es', i, h, r, hr => by
    simp at h
    obtain ⟨h1, h2⟩ := h
    simp only [Instr.findAsking] at hr ⊢
    rw [← h1]
    obtain ⟨q, hq, hr⟩ := pureRun_bind hr
    cases q with
    | true => simp only [if_true] at hr; cases hr; exact ⟨some (i, e'.val), pureRun_bind_mk hq rfl, rfl, fun j u h => by cases h; simp⟩
    | false =>
      simp only [Bool.false_eq_true, if_false] at hr
      obtain ⟨r', g1, g2, g3⟩ := findAsking_keys key K es es' (i + 1) h2 r hr
      exact ⟨r', pureRun_bind_mk hq g1, g2, fun j u h => by
        obtain ⟨a, b⟩ := g3 j u h
        refine ⟨by omega, ?_⟩
        rw [show j - i = (j - (i + 1)) + 1 from by omega]; simpa using b⟩

theorem concs_keys : ∀ {es : List AEntry} {Ks : List Value} {X : List MapEntry}, es.mapM (fun e => conc e.key) = some Ks → renE ρ es = some X → X.map (·.key) = Ks
  | [], Ks, X, h, hX => by
    simp at h; subst h
    simp only [renE] at hX; cases hX; rfl
  | e :: es, Ks, X, h, hX => by
    obtain ⟨k, v, l, h1, h2, h3, rfl⟩ := renE_cons hX
    simp only [List.mapM_cons] at h
    cases hk : conc e.key with
    | none => simp [hk] at h
    | some k' =>
      cases hl : es.mapM (fun e => conc e.key) with
      | none => simp [hk, hl] at h
      | some Ks' =>
        simp [hk, hl] at h
        subst h
        have := conc_ok hk ρ
        rw [h1] at this; cases this
        simp [concs_keys hl h3]

/-- What the model's search finds. -/
theorem find_ok {key : TypeId} {k : AV} {es : List AEntry} {r : Option Nat} (h : findEv P key k es = some r) {X : List MapEntry} (hX : renE ρ es = some X) {K : Value} (hK : ren ρ k = some K) (w : World) :
    (∀ b, (Instr.checkKey b 10000 key K).run P w = .ok () w) ∧ ∃ r', (Instr.findKey key K X).run P w = .ok r' w ∧ r'.map (·.1) = r ∧ ∀ j u, r' = some (j, u) → (X[j]?).map (·.val) = some u := by
  unfold findEv at h
  split at h
  · rename_i K' Ks hk hks
    have e1 := conc_ok hk ρ
    rw [hK] at e1; cases e1
    split at h
    · rename_i q q' hq hq'
      simp only [Option.map_eq_some_iff] at h
      obtain ⟨r0, hr0, rfl⟩ := h
      have hkeys := concs_keys hks hX
      refine ⟨fun b => ?_, ?_⟩
      · cases b
        · exact pureRun_run hq' w
        · exact pureRun_run hq w
      · have hmm : (Ks.map fun x => (⟨x, .nilFunc, 0⟩ : MapEntry)).map (·.key) = X.map (·.key) := by rw [hkeys, List.map_map]; exact List.map_id _
        unfold Instr.findKey at hr0
        obtain ⟨d, hd, hr0⟩ := pureRun_bind hr0
        have hdr := pureRun_run hd w
        unfold Instr.findKey
        simp only [Sem.run_bind, hdr, Result.andThen_ok]
        cases hn : Instr.findNow d K (Ks.map fun x => ⟨x, .nilFunc, 0⟩) 0 with
        | some r1 =>
          rw [hn] at hr0
          have hr0 : r1 = r0 := by cases hr0; rfl
          subst hr0
          obtain ⟨r', g1, g2, g3⟩ := findNow_keys d K _ X 0 hmm r1 hn
          rw [g1]
          exact ⟨r', rfl, g2.symm, fun j u h => by simpa using (g3 j u h).2⟩
        | none =>
          rw [hn] at hr0
          have hn2 := findNow_none d K _ X 0 hmm hn
          rw [hn2]
          obtain ⟨r', g1, g2, g3⟩ := findAsking_keys key K _ X 0 hmm r0 hr0
          exact ⟨r', pureRun_run g1 w, g2.symm, fun j u h => by simpa using (g3 j u h).2⟩
    · cases h
  · cases h
end
end Am
