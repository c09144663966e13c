/- The operations are sound: part 8: maps. -/
import Derived.Test.YtjglohfkpigdfaaDoorAmS7
set_option linter.unusedSimpArgs false
set_option linter.unusedVariables false
set_option linter.unusedSectionVars false
set_option linter.unnecessarySimpa false
namespace Am
open Go Go.RowKit
section
variable {P : Program} {R : Ro} {base : World} {ρ : Ren} {H H' : AH} {w : World} {e : Env} {ev : Operand → Value}

/-- A map's object, and what is found in it. -/
theorem map_at (hrel : Rel base ρ H w) {r : Nat} {es : List AEntry} {clock : Nat} (hr : H[r]? = some (.map es clock)) {p : Slot} (hp : ρ[r]? = some p) :
    ∃ E, w.heap[p.blk]? = some (.map E clock) ∧ renE ρ es = some E.toList ∧ (getObj p.blk).run P w = .ok (.map E clock) w := by
  obtain ⟨E, h1, h2⟩ := hrel.obj r _ p hr hp
  exact ⟨E, h1, h2, getObj_at h1 (by intro c t f hcc; cases hcc)⟩

theorem map_put (hrel : Rel base ρ H w) {r : Nat} {es es' : List AEntry} {clock clock' : Nat} (hr : H[r]? = some (.map es clock)) {p : Slot} (hp : ρ[r]? = some p) {E' : Array MapEntry} (hE : renE ρ es' = some E'.toList) :
    ∃ w', (setObj p.blk (.map E' clock')).run P w = .ok () w' ∧ Rel base ρ (H.set r (.map es' clock')) w' := by
  obtain ⟨E, h1, h2⟩ := hrel.obj r _ p hr hp
  obtain ⟨q1, q2, q3⟩ := setObj_touch (P := P) h1 (by intro c t f hcc; cases hcc) (.map E' clock')
  exact ⟨_, q1, hrel.put hr hp rfl q2.os q2.tape q2.output q2.size q2.other ⟨E', q3, hE⟩⟩

theorem s_mkmap (hrel : Rel base ρ H w) {t : TypeId} {v : AV}
    (h : AOp.mkmap.eval P R e H = some (v, H')) {o : Oper} (ho : o.op = .makeMap t none) : Yields base ρ ((execOp ev o).run P w) v H' := by
  simp only [AOp.eval] at h
  cases h
  refine ⟨ρ ++ [⟨w.heap.size, 0, 0⟩], _, .map (some w.heap.size), .inl ?_, Ext.mk _ _, hrel.new (.map #[] 0) (.map [] 0) 0 0 w.drawn ?_, ?_⟩
  · simp [execOp, ho, Instr.makeMap]
  · exact ⟨#[], push_at _ _, rfl⟩
  · simp [ren, ← hrel.len]

theorem s_lookup (hrel : Rel base ρ H w) (he : EvOk ρ e ev) {t key el : TypeId} {a b : Operand} {a' b' : X} {ok : Bool} {z : AV} (ha : cx a = some a') (hb : cx b = some b') (hu : P.underlying t = some (.map key el)) (hz : zeroC P el = some z) {v : AV}
    (h : (AOp.lookup key z a' b' ok).eval P R e H = some (v, H')) {o : Oper} (ho : o.op = .lookup t a b ok) : YieldsS ρ w H ((execOp ev o).run P w) v H' := by
  have h1 := cx_ok he ha
  have h2 := cx_ok he hb
  obtain ⟨Z, hZ, hZrun⟩ := zeroC_ok hz ρ w
  simp only [AOp.eval] at h
  have hfin : ∀ (u : AV) (U : Value) (bb : Bool), ren ρ u = some U → ren ρ (if ok then AV.tuple [u, .bool bb] else u) = some (if ok then .tuple #[U, .bool bb] else U) := by
    intro u U bb hU
    cases ok
    · exact hU
    · simp [ren, renL, hU]
  split at h
  · rename_i hx
    rw [hx] at h1
    simp only [ren, Option.some.injEq] at h1
    split at h
    · rename_i q hq
      cases h
      obtain ⟨c1, r', c2, c3, _⟩ := find_ok (P := P) hq (ρ := ρ) (X := []) rfl h2 w
      have hck : (Instr.checkKey true 10000 key (ev b)).run P w = .ok () w := c1 true
      have hr' : r' = none := by
        simp only [Instr.findKey, Instr.findNow, Sem.run_bind] at c2
        cases hu2 : (underlying key).run P w with
        | halt x w' => rw [hu2] at c2; simp at c2
        | ok x w' => rw [hu2] at c2; simp at c2; exact c2.1.symm
      subst hr'
      simp only [execOp, ho, ← h1, Instr.lookup]
      simp only [Sem.run_bind, und_ok hu, Result.andThen_ok, Sem.run_pure, Array.isEmpty_empty, hck, c2, hZrun]
      exact YieldsS.same hrel (hfin _ _ _ hZ)
    · cases h
  · rename_i r hx
    rw [hx] at h1
    obtain ⟨p, hp, h1⟩ := ren_map h1
    split at h
    · rename_i es clock hr
      obtain ⟨E, g1, g2, g3⟩ := map_at (P := P) hrel hr hp
      split at h
      · rename_i j hf
        split at h
        · rename_i en hen
          cases h
          obtain ⟨c1, r', c2, c3, c4⟩ := find_ok (P := P) hf g2 h2 w
          have hck : (Instr.checkKey E.isEmpty 10000 key (ev b)).run P w = .ok () w := c1 _
          cases r' with
          | none => simp at c3
          | some q =>
            obtain ⟨j', u⟩ := q
            simp at c3
            subst c3
            obtain ⟨k, x, k1, k2, k3⟩ := renE_getElem? g2 j' en hen
            have hu4 := c4 j' u rfl
            rw [k3] at hu4
            simp at hu4
            subst hu4
            simp only [execOp, ho, h1, Instr.lookup]
            simp only [Sem.run_bind, und_ok hu, Result.andThen_ok, Sem.run_pure, g3, hck, c2]
            exact YieldsS.same hrel (hfin _ _ _ k2)
        · cases h
      · rename_i hf
        cases h
        obtain ⟨c1, r', c2, c3, c4⟩ := find_ok (P := P) hf g2 h2 w
        have hck : (Instr.checkKey E.isEmpty 10000 key (ev b)).run P w = .ok () w := c1 _
        cases r' with
        | some q => simp at c3
        | none =>
          simp only [execOp, ho, h1, Instr.lookup]
          simp only [Sem.run_bind, und_ok hu, Result.andThen_ok, Sem.run_pure, g3, hck, c2, hZrun]
          exact YieldsS.same hrel (hfin _ _ _ hZ)
      · cases h
    · cases h
  · cases h

theorem stays_ok {old new : AV} {O N : Value} (h : staysEv old new = true) (hO : ren ρ old = some O) (hN : ren ρ new = some N) : Instr.sameBits 10000 O N = true := by
  unfold staysEv at h
  split at h
  · rename_i a b h1 h2
    have e1 := conc_ok h1 ρ
    have e2 := conc_ok h2 ρ
    rw [hO] at e1; rw [hN] at e2
    cases e1; cases e2
    exact h
  · cases h

theorem modify_set {E : Array MapEntry} {i : Nat} {en : MapEntry} (h : E.toList[i]? = some en) (f : MapEntry → MapEntry) : (E.modify i f).toList = E.toList.set i (f en) := by
  apply List.ext_getElem?
  intro j
  have hE : E[i]? = some en := by simpa using h
  rw [List.getElem?_set, Array.getElem?_toList, Array.getElem?_modify, Array.getElem?_toList]
  split
  · rename_i hij
    subst hij
    obtain ⟨h1, h2⟩ := Array.getElem?_eq_some_iff.1 hE
    simp [h1, h2]
  · rfl

theorem s_mapUpd (hrel : Rel base ρ H w) (he : EvOk ρ e ev) {t key el : TypeId} {a b c : Operand} {a' b' c' : X} (ha : cx a = some a') (hb : cx b = some b') (hc : cx c = some c') (hu : P.underlying t = some (.map key el)) {v : AV}
    (h : (AOp.mapUpd key a' b' c').eval P R e H = some (v, H')) {o : Oper} (ho : o.op = .mapUpdate t a b c ∨ o.op = .insert t a b c) : Yields base ρ ((execOp ev o).run P w) v H' := by
  have h1 := cx_ok he ha
  have h2 := cx_ok he hb
  have h3 := cx_ok he hc
  simp only [AOp.eval] at h
  have hrunE : (execOp ev o).run P w = ((Instr.mapUpdate t (ev a) (ev b) (ev c)).run P w).andThen fun _ w' => .ok .skip w' := by
    rcases ho with ho | ho <;> (simp only [execOp, ho]; simp)
  rw [hrunE]
  split at h
  · rename_i r hx
    rw [hx] at h1
    obtain ⟨p, hp, h1⟩ := ren_map h1
    split at h
    · rename_i es clock hr
      obtain ⟨E, g1, g2, g3⟩ := map_at (P := P) hrel hr hp
      split at h
      · rename_i j hf
        split at h
        · rename_i en hen
          split at h
          · rename_i hst
            cases h
            obtain ⟨c1, r', c2, c3, c4⟩ := find_ok (P := P) hf g2 h2 w
            have hck : (Instr.checkKey false 10000 key (ev b)).run P w = .ok () w := c1 false
            cases r' with
            | none => simp at c3
            | some q =>
              obtain ⟨j', u⟩ := q
              simp at c3
              subst c3
              obtain ⟨k, x, k1, k2, k3⟩ := renE_getElem? g2 j' en hen
              have hsb := stays_ok hst k1 h2
              have hEj : E[j']? = some ⟨k, x, en.born⟩ := by simpa using k3
              have hset := renE_set g2 j' (en := ⟨X.ev e b', X.ev e c', en.born⟩) h2 h3
              have hmod : (E.modify j' fun e => { e with key := ev b, val := ev c }).toList = E.toList.set j' ⟨ev b, ev c, en.born⟩ := modify_set k3 _
              obtain ⟨w', q1, q2⟩ := map_put (P := P) hrel hr hp (E' := E.modify j' fun e => { e with key := ev b, val := ev c }) (clock' := clock) (by rw [hmod]; exact hset)
              refine ⟨ρ, w', Go.undef, .inr ⟨?_, rfl⟩, Ext.refl _, q2, rfl⟩
              simp only [h1, Instr.mapUpdate]
              simp only [Sem.run_bind, und_ok hu, Result.andThen_ok, g3, hck, c2, hEj, Option.map_some, Option.getD_some, Instr.keyThatStays, hsb, if_true, Sem.run_pure, q1]
          · cases h
        · cases h
      · rename_i hf
        cases h
        obtain ⟨c1, r', c2, c3, c4⟩ := find_ok (P := P) hf g2 h2 w
        have hck : (Instr.checkKey false 10000 key (ev b)).run P w = .ok () w := c1 false
        cases r' with
        | some q => simp at c3
        | none =>
          obtain ⟨w', q1, q2⟩ := map_put (P := P) hrel hr hp (E' := E.push ⟨ev b, ev c, clock⟩) (clock' := clock + 1) (es' := es ++ [⟨X.ev e b', X.ev e c', clock⟩]) (by
            rw [Array.toList_push]; exact renE_append g2 (renE_cons_mk h2 h3 rfl))
          refine ⟨ρ, w', Go.undef, .inr ⟨?_, rfl⟩, Ext.refl _, q2, rfl⟩
          simp only [h1, Instr.mapUpdate]
          simp only [Sem.run_bind, und_ok hu, Result.andThen_ok, g3, hck, c2, q1]
      · cases h
    · cases h
  · cases h

theorem s_mapEntry (hrel : Rel base ρ H w) (he : EvOk ρ e ev) {t key el : TypeId} {a b : Operand} {a' b' : X} {z : AV} (ha : cx a = some a') (hb : cx b = some b') (hu : P.underlying t = some (.map key el)) (hz : zeroC P el = some z) {v : AV}
    (h : (AOp.mapEntry key z a' b').eval P R e H = some (v, H')) {o : Oper} (ho : o.op = .mapEntry t a b) : Yields base ρ ((execOp ev o).run P w) v H' := by
  have h1 := cx_ok he ha
  have h2 := cx_ok he hb
  obtain ⟨Z, hZ, hZrun⟩ := zeroC_ok hz ρ w
  simp only [AOp.eval] at h
  have hrunE : (execOp ev o).run P w = ((Instr.mapEntry t (ev a) (ev b)).run P w).andThen fun x w' => .ok (.value x) w' := by
    simp only [execOp, ho]; simp
  rw [hrunE]
  split at h
  · rename_i r hx
    rw [hx] at h1
    obtain ⟨p, hp, h1⟩ := ren_map h1
    split at h
    · rename_i es clock hr
      obtain ⟨E, g1, g2, g3⟩ := map_at (P := P) hrel hr hp
      split at h
      · rename_i j hf
        split at h
        · rename_i en hen
          split at h
          · rename_i hst
            cases h
            obtain ⟨c1, r', c2, c3, c4⟩ := find_ok (P := P) hf g2 h2 w
            have hck : (Instr.checkKey false 10000 key (ev b)).run P w = .ok () w := c1 false
            cases r' with
            | none => simp at c3
            | some q =>
              obtain ⟨j', u⟩ := q
              simp at c3
              subst c3
              obtain ⟨k, x, k1, k2, k3⟩ := renE_getElem? g2 j' en hen
              have hsb := stays_ok hst k1 h2
              have hEj : E[j']? = some ⟨k, x, en.born⟩ := by simpa using k3
              have hu4 := c4 j' u rfl
              rw [k3] at hu4
              simp at hu4
              subst hu4
              have hset := renE_set g2 j' (en := ⟨X.ev e b', en.val, en.born⟩) h2 k2
              have hmod : (E.modify j' fun e => { e with key := ev b }).toList = E.toList.set j' ⟨ev b, x, en.born⟩ := modify_set k3 _
              obtain ⟨w', q1, q2⟩ := map_put (P := P) hrel hr hp (E' := E.modify j' fun e => { e with key := ev b }) (clock' := clock) (by rw [hmod]; exact hset)
              refine ⟨ρ, w', .tuple #[x, goInt en.born], .inl ?_, Ext.refl _, q2, by simp [ren, renL, k2, goInt]⟩
              simp only [h1, Instr.mapEntry]
              simp only [Sem.run_bind, und_ok hu, Result.andThen_ok, g3, hck, c2, hEj, Option.map_some, Option.getD_some, Instr.keyThatStays, hsb, if_true, Sem.run_pure, q1]
          · cases h
        · cases h
      · rename_i hf
        cases h
        obtain ⟨c1, r', c2, c3, c4⟩ := find_ok (P := P) hf g2 h2 w
        have hck : (Instr.checkKey false 10000 key (ev b)).run P w = .ok () w := c1 false
        cases r' with
        | some q => simp at c3
        | none =>
          obtain ⟨w', q1, q2⟩ := map_put (P := P) hrel hr hp (E' := E.push ⟨ev b, Z, clock⟩) (clock' := clock + 1) (es' := es ++ [⟨X.ev e b', z, clock⟩]) (by
            rw [Array.toList_push]; exact renE_append g2 (renE_cons_mk h2 hZ rfl))
          refine ⟨ρ, w', .tuple #[Z, goInt clock], .inl ?_, Ext.refl _, q2, by simp [ren, renL, hZ, goInt]⟩
          simp only [h1, Instr.mapEntry]
          simp only [Sem.run_bind, und_ok hu, Result.andThen_ok, g3, hck, c2, hZrun, q1, Sem.run_pure]
      · cases h
    · cases h
  · cases h

theorem findIdx_keys (born : Int) : ∀ {es : List AEntry} {X : List MapEntry}, renE ρ es = some X → X.findIdx? (fun e => (e.born : Int) == born) = es.findIdx? (fun e => (e.born : Int) == born)
  | [], X, h => by simp only [renE] at h; cases h; rfl
  | a :: es, X, h => by
    obtain ⟨k, v, l, h1, h2, h3, rfl⟩ := renE_cons h
    simp [List.findIdx?_cons, findIdx_keys born h3]

theorem s_entryStore (hrel : Rel base ρ H w) (he : EvOk ρ e ev) {t : TypeId} {a b c : Operand} {a' b' c' : X} (ha : cx a = some a') (hb : cx b = some b') (hc : cx c = some c') {v : AV}
    (h : (AOp.entryStore a' b' c').eval P R e H = some (v, H')) {o : Oper} (ho : o.op = .entryStore t a b c) : Yields base ρ ((execOp ev o).run P w) v H' := by
  have h1 := cx_ok he ha
  have h2 := cx_ok he hb
  have h3 := cx_ok he hc
  simp only [AOp.eval] at h
  split at h
  · rename_i r kk born hx hy
    rw [hx] at h1
    rw [hy] at h2
    obtain ⟨p, hp, h1⟩ := ren_map h1
    have h2 := ren_int h2
    split at h
    · rename_i es clock hr
      obtain ⟨E, g1, g2, g3⟩ := map_at (P := P) hrel hr hp
      split at h
      · rename_i j hf
        split at h
        · rename_i en hen
          cases h
          obtain ⟨k, x, k1, k2, k3⟩ := renE_getElem? g2 j en hen
          have hset := renE_set g2 j (en := ⟨en.key, X.ev e c', en.born⟩) k1 h3
          have hmod : (E.modify j fun e => { e with val := ev c }).toList = E.toList.set j ⟨k, ev c, en.born⟩ := modify_set k3 _
          obtain ⟨w', q1, q2⟩ := map_put (P := P) hrel hr hp (E' := E.modify j fun e => { e with val := ev c }) (clock' := clock) (by rw [hmod]; exact hset)
          have hfi : E.findIdx? (fun e => (e.born : Int) == born) = some j := by
            rw [← hf, ← findIdx_keys born g2]
            cases E
            simp
          refine ⟨ρ, w', Go.undef, .inr ⟨?_, rfl⟩, Ext.refl _, q2, rfl⟩
          simp only [execOp, ho, h1, h2, Instr.entryStore]
          simp only [Sem.run_bind, Result.andThen_ok, g3, asInt, asIntOf, Sem.run_pure, hfi, q1]
        · cases h
      · cases h
    · cases h
  · cases h

theorem s_mapDel (hrel : Rel base ρ H w) (he : EvOk ρ e ev) {t key el : TypeId} {a b : Operand} {a' b' : X} (ha : cx a = some a') (hb : cx b = some b') (hu : P.underlying t = some (.map key el)) {v : AV}
    (h : (AOp.mapDel key a' b').eval P R e H = some (v, H')) {o : Oper} {c : Call} (ho : o.op = .call c) (hc : c.callee = .builtin .delete) (h0 : c.argTypes[0]? = some t) (hl : c.args.toList = [a, b]) : Yields base ρ ((execOp ev o).run P w) v H' := by
  have h1 := cx_ok he ha
  have h2 := cx_ok he hb
  simp only [AOp.eval] at h
  split at h
  · rename_i hx
    rw [hx] at h1
    simp only [ren, Option.some.injEq] at h1
    split at h
    · rename_i q hq
      cases h
      obtain ⟨c1, _⟩ := find_ok (P := P) hq (ρ := ρ) (X := []) rfl h2 w
      refine y_builtin (x := Go.undef) ho hc (fun cs => rfl) ?_ (Ext.refl _) hrel rfl
      rw [args2 hl, ← h1]
      unfold Builtin.delete_
      simp [h0, und_ok hu, c1 true, Go.undef]
    · cases h
  · rename_i r hx
    rw [hx] at h1
    obtain ⟨p, hp, h1⟩ := ren_map h1
    split at h
    · rename_i es clock hr
      obtain ⟨E, g1, g2, g3⟩ := map_at (P := P) hrel hr hp
      split at h
      · rename_i j hf
        cases h
        obtain ⟨c1, r', c2, c3, c4⟩ := find_ok (P := P) hf g2 h2 w
        cases r' with
        | none => simp at c3
        | some q =>
          obtain ⟨j', u⟩ := q
          simp at c3
          subst c3
          have her := renE_erase g2 j'
          have hel : (E.eraseIdxIfInBounds j').toList = E.toList.eraseIdx j' := by
            unfold Array.eraseIdxIfInBounds
            split
            · simp
            · rw [List.eraseIdx_of_length_le (by simp; omega)]
          obtain ⟨w', q1, q2⟩ := map_put (P := P) hrel hr hp (E' := E.eraseIdxIfInBounds j') (clock' := clock) (by rw [hel]; exact her)
          refine y_builtin (x := Go.undef) ho hc (fun cs => rfl) (w' := w') ?_ (Ext.refl _) q2 rfl
          rw [args2 hl, h1]
          unfold Builtin.delete_
          simp [h0, und_ok hu, g3, c1, c2, q1, Go.undef]
      · rename_i hf
        cases h
        obtain ⟨c1, r', c2, c3, c4⟩ := find_ok (P := P) hf g2 h2 w
        cases r' with
        | some q => simp at c3
        | none =>
          obtain ⟨w', q1, q2⟩ := map_put (P := P) hrel hr hp (E' := E) (clock' := clock) g2
          have hset : H.set r (.map es clock) = H := by
            apply List.ext_getElem?
            intro k
            rw [List.getElem?_set]
            split
            · subst_vars; split
              · exact hr.symm
              · rename_i hn; rw [List.getElem?_eq_none (by omega)]
            · rfl
          rw [hset] at q2
          refine y_builtin (x := Go.undef) ho hc (fun cs => rfl) (w' := w') ?_ (Ext.refl _) q2 rfl
          rw [args2 hl, h1]
          unfold Builtin.delete_
          simp [h0, und_ok hu, g3, c1, c2, q1, Go.undef]
      · cases h
    · cases h
  · cases h

theorem s_mapClear (hrel : Rel base ρ H w) (he : EvOk ρ e ev) {t key el : TypeId} {a : Operand} {a' : X} (ha : cx a = some a') (hu : P.underlying t = some (.map key el)) {v : AV}
    (h : (AOp.mapClear a').eval P R e H = some (v, H')) {o : Oper} {c : Call} (ho : o.op = .call c) (hc : c.callee = .builtin .clear) (h0 : c.argTypes[0]? = some t) (hl : c.args.toList = [a]) : Yields base ρ ((execOp ev o).run P w) v H' := by
  have h1 := cx_ok he ha
  simp only [AOp.eval] at h
  split at h
  · rename_i hx
    rw [hx] at h1
    simp only [ren, Option.some.injEq] at h1
    cases h
    refine y_builtin (x := Go.undef) ho hc (fun cs => rfl) ?_ (Ext.refl _) hrel rfl
    rw [args1 hl, ← h1]
    unfold Builtin.clear_
    simp [h0, und_ok hu, Go.undef]
  · rename_i r hx
    rw [hx] at h1
    obtain ⟨p, hp, h1⟩ := ren_map h1
    split at h
    · rename_i es clock hr
      cases h
      obtain ⟨E, g1, g2, g3⟩ := map_at (P := P) hrel hr hp
      obtain ⟨w', q1, q2⟩ := map_put (P := P) hrel hr hp (E' := #[]) (es' := []) (clock' := clock) rfl
      refine y_builtin (x := Go.undef) ho hc (fun cs => rfl) (w' := w') ?_ (Ext.refl _) q2 rfl
      rw [args1 hl, h1]
      unfold Builtin.clear_
      simp [h0, und_ok hu, g3, q1, Go.undef]
    · cases h
  · cases h

theorem s_lenM (hrel : Rel base ρ H w) (he : EvOk ρ e ev) {t key el : TypeId} {a : Operand} {a' : X} (ha : cx a = some a') (hu : P.underlying t = some (.map key el)) {v : AV}
    (h : (AOp.lenM a').eval P R e H = some (v, H')) {o : Oper} {c : Call} (ho : o.op = .call c) (hc : c.callee = .builtin .len) (h0 : c.argTypes[0]? = some t) (hl : c.args.toList = [a]) : YieldsS ρ w H ((execOp ev o).run P w) v H' := by
  have h1 := cx_ok he ha
  simp only [AOp.eval] at h
  split at h
  · rename_i hx
    rw [hx] at h1
    simp only [ren, Option.some.injEq] at h1
    cases h
    refine y_builtinS (x := .int .i64 0) ho hc (fun cs => rfl) ?_ (Ext.refl _) hrel rfl
    rw [args1 hl, ← h1]
    unfold Builtin.len_
    simp [h0, und_ok hu, goInt]
  · rename_i r hx
    rw [hx] at h1
    obtain ⟨p, hp, h1⟩ := ren_map h1
    split at h
    · rename_i es clock hr
      cases h
      obtain ⟨E, g1, g2, g3⟩ := map_at (P := P) hrel hr hp
      have hle := renE_length g2
      refine y_builtinS (x := .int .i64 es.length) ho hc (fun cs => rfl) ?_ (Ext.refl _) hrel rfl
      rw [args1 hl, h1]
      unfold Builtin.len_
      simp at hle
      simp [h0, und_ok hu, g3, goInt, hle]
    · cases h
  · cases h
end
end Am
