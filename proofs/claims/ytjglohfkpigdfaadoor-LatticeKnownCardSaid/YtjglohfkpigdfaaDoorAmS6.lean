/- The operations are sound: part 6: append and its like. -/
import Derived.Test.YtjglohfkpigdfaaDoorAmS5
set_option linter.unusedSimpArgs false
set_option linter.unusedVariables false
set_option linter.unusedSectionVars false
set_option linter.unnecessarySimpa false
namespace Am
open Go Go.RowKit
section
variable {P : Program} {R : Ro} {base : World} {ρ : Ren} {H H' : AH} {w : World} {e : Env} {ev : Operand → Value}

theorem src_ok (hR : ROk R base) (hrel : Rel base ρ H w) {sz n : Nat} {x : AV} {X : Value} {new : List AV} (hx : ren ρ x = some X) (h : srcEv R H sz x = some (new, n)) :
    (Builtin.lenOf X).run P w = .ok n w ∧ ∃ N, renL ρ new = some N ∧ N.length = n * sz ∧ (Builtin.firstCells sz n X).run P w = .ok N.toArray w := by
  unfold srcEv at h
  split at h
  · cases h
    simp only [ren, Option.some.injEq] at hx
    subst hx
    exact ⟨rfl, [], rfl, by simp, rfl⟩
  · simp only [Option.map_eq_some_iff] at h
    obtain ⟨c, hc, h⟩ := h
    cases h
    obtain ⟨A, m, hA, _, rfl⟩ := ren_slice hx
    obtain ⟨V, hV, hl, hrun⟩ := readN_sound hR hrel hc hA
    exact ⟨rfl, V, hV, hl, by simp [Builtin.firstCells, loadCells, hrun]⟩
  · split at h
    · rename_i s hs
      cases h
      subst hs
      obtain rfl := ren_str hx
      refine ⟨rfl, s.map fun b => .int .u8 b.toNat, ?_, by simp, ?_⟩
      · clear hx
        induction s with
        | nil => rfl
        | cons b s ih => exact renL_cons_mk rfl ih
      · have he : (ByteArray.mk ⟨s⟩).extract 0 s.length = ByteArray.mk ⟨s⟩ := by
          have := ByteArray.extract_mk s 0 s.length
          simp at this
          simpa using this
        simp only [Builtin.firstCells, he]
        simp
    · cases h
  · cases h

theorem cap_bound (need sCap by' : Nat) (h : need * by' ≤ 140737488355328) (hc : sCap < need) : Builtin.nextslicecap need sCap * by' ≤ 281474976710656 := by
  have key : Builtin.nextslicecap need sCap ≤ 2 * need := by
    unfold Builtin.nextslicecap
    split
    · omega
    · split
      · omega
      · have hg : ∀ (n c : Nat), c < need → 256 ≤ c → Builtin.growBy need n c ≤ 2 * need := by
          intro n
          induction n with
          | zero => intro c h1 _; simp only [Builtin.growBy]; omega
          | succ n ih =>
            intro c h1 h2
            simp only [Builtin.growBy]
            rw [if_neg (by omega)]
            by_cases h3 : c + (c + 768) / 4 < need
            · exact ih _ h3 (by omega)
            · cases n with
              | zero => simp only [Builtin.growBy]; omega
              | succ n => simp only [Builtin.growBy]; rw [if_pos (by omega)]; omega
        exact hg 4 sCap hc (by omega)
  calc Builtin.nextslicecap need sCap * by' ≤ (2 * need) * by' := Nat.mul_le_mul_right _ key
    _ = 2 * (need * by') := by rw [Nat.mul_assoc]
    _ ≤ 281474976710656 := by omega

theorem take_pre (a b : List Value) (r : Array Value) : ((a.toArray ++ b.toArray ++ r).toList.drop 0).take (a ++ b).length = a ++ b := by
  have : (a.toArray ++ b.toArray ++ r).toList = (a ++ b) ++ r.toList := by simp
  rw [List.drop_zero, this, List.take_left]

theorem push_at (a : Array Obj) (x : Obj) : (a.push x)[a.size]? = some x := by simp

/-- The shape of an append's run. -/
theorem run_append {t u el : TypeId} {d : TypeDesc} {sz by' n len cap : Nat} (hu : P.underlying t = some (.slice el)) (hd : P.underlying u = some d) (hnd : d = .string ∨ ∃ e', d = .slice e') (hs : sizeC P el = some sz) (hby : bytesC P el = some by') {b : Option Addr} {X : Value} {N : List Value}
    (hlen : (Builtin.lenOf X).run P w = .ok n w) (hnew : (Builtin.firstCells sz n X).run P w = .ok N.toArray w) (ty : TypeId) (hsmall : (len + n) * by' ≤ 140737488355328) (hb0 : by' ≠ 0) {ats : Array TypeId} (ha0 : ats[0]? = some t) (ha1 : ats[1]? = some u) :
    (len + n ≤ cap → ∀ w', (b = none → N = [] ∧ w' = w) → (∀ a, b = some a → (storeCells (a.add (len * sz)) N 0).run P w = .ok () w') → (Builtin.append_ ats ty #[.slice b len cap, X]).run P w = .ok (.slice b (len + n) cap) w') ∧
    (cap < len + n → ∀ O Z, (Builtin.firstCells sz len (.slice b len cap)).run P { w with drawn := w.drawn + 1 } = .ok O { w with drawn := w.drawn + 1 } → (zeroValue el).run P { w with drawn := w.drawn + 1 } = .ok Z { w with drawn := w.drawn + 1 } →
      (Builtin.firstCells sz n X).run P { w with drawn := w.drawn + 1 } = .ok N.toArray { w with drawn := w.drawn + 1 } → ∃ newCap, len + n ≤ newCap ∧
      (Builtin.append_ ats ty #[.slice b len cap, X]).run P w = .ok (.slice (some ⟨w.heap.size, 0, none⟩) (len + n) newCap) { w with heap := w.heap.push (.cells (O ++ N.toArray ++ Builtin.zeroCells Z.cells (newCap - (len + n))) el (0, 0)), drawn := w.drawn + 1 }) := by
  constructor
  · intro hle w' hnone hsome
    unfold Builtin.append_
    simp only [ha0, ha1, List.getElem?_toArray, List.getElem?_cons_zero, List.getElem?_cons_succ]
    rcases hnd with rfl | ⟨e', rfl⟩
    all_goals simp only [Sem.run_bind, und_ok hu, und_ok hd, sizeC_ok hs, Result.andThen_ok, Sem.run_pure, Bool.false_eq_true, if_false, hlen, Sem.run_ite, hle, if_true, Bool.not_false, hnew]
    all_goals cases b with
    | none => obtain ⟨rfl, rfl⟩ := hnone rfl; simp
    | some a => simp [hsome a rfl]
  · intro hlt O Z hO hZ hN
    have hcap := cap_bound (len + n) cap by' hsmall hlt
    simp only [bytesC, Option.map_eq_some_iff] at hby
    obtain ⟨ti, hti, rfl⟩ := hby
    refine ⟨(Question.appendCap (len + n) cap el).cut (w.tape w.drawn (.appendCap (len + n) cap el)), Nat.le_add_right _ _, ?_⟩
    unfold Builtin.append_
    simp only [ha0, ha1, List.getElem?_toArray, List.getElem?_cons_zero, List.getElem?_cons_succ]
    rcases hnd with rfl | ⟨e', rfl⟩
    all_goals
      simp only [Sem.run_bind, und_ok hu, und_ok hd, sizeC_ok hs, Result.andThen_ok, Sem.run_pure, Bool.false_eq_true, if_false, hlen, Sem.run_ite, Bool.not_false, if_true]
      rw [if_neg (by omega)]
      simp only [typeInfo, Sem.run_bind, run_program, Result.andThen_ok, hti, Sem.run_pure]
      rw [if_neg (by simp [hb0])]
      rw [if_neg (by omega)]
      simp only [run_choose]
      rw [if_neg (by simp [Question.forced])]
      simp only [Result.andThen_ok, run_askRoom, hO, hN, hZ, newRow, Sem.run_bind, run_newObj, Sem.run_pure]

theorem renL_all {ρ : Ren} {a : List AV} {X : List Value} (_ : renL ρ a = some X) : True := trivial

theorem run_zero_drawn {el : TypeId} {z : AV} (hz : zeroC P el = some z) (ρ : Ren) (w : World) : ∃ Z, ren ρ z = some Z ∧ (zeroValue el).run P w = .ok Z w := zeroC_ok hz ρ w

theorem s_append (hR : ROk R base) (hrel : Rel base ρ H w) (he : EvOk ρ e ev) {t u el ty : TypeId} {d : TypeDesc} {sz by' : Nat} {a b : Operand} {a' b' : X} {z : AV} (ha : cx a = some a') (hb : cx b = some b') (hu : P.underlying t = some (.slice el)) (hd : P.underlying u = some d) (hnd : d = .string ∨ ∃ e', d = .slice e')
    (hs : sizeC P el = some sz) (hby : bytesC P el = some by') (hz : zeroC P el = some z) (hzs : z.cells.length = sz) {ats : Array TypeId} (ha0 : ats[0]? = some t) (ha1 : ats[1]? = some u) {v : AV}
    (h : appendEv R H el sz by' (a'.ev e) (b'.ev e) = some (v, H')) : ∃ ρ' w' x, (Builtin.append_ ats ty #[ev a, ev b]).run P w = .ok x w' ∧ Ext ρ ρ' ∧ Rel base ρ' H' w' ∧ ren ρ' v = some x := by
  have h1 := cx_ok he ha
  have h2 := cx_ok he hb
  generalize X.ev e a' = A at *
  generalize X.ev e b' = B at *
  generalize ev a = VA at *
  generalize ev b = VB at *
  unfold appendEv at h
  split at h
  · cases h
  · rename_i new n hsrc
    obtain ⟨hlen, N, hN, hNl, hnew⟩ := src_ok (P := P) hR hrel h2 hsrc
    have hrelD : Rel base ρ H { w with drawn := w.drawn + 1 } := hrel.draw _
    obtain ⟨_, N', hN', hNl', hnewD⟩ := src_ok (P := P) hR hrelD h2 hsrc
    rw [hN] at hN'; cases hN'
    obtain ⟨Z, hZ, hZrun⟩ := zeroC_ok hz ρ { w with drawn := w.drawn + 1 }
    have hZl := renL_length (cells_ren hZ)
    have hlN := renL_length hN
    split at h
    · -- the nil slice
      simp only [ren, Option.some.injEq] at h1
      subst h1
      split at h
      · rename_i hn0
        cases h
        subst hn0
        have hN0 : N = [] := List.eq_nil_of_length_eq_zero (by rw [hNl]; simp)
        subst hN0
        have hb0 : by' ≠ 0 ∨ by' = 0 := by omega
        refine ⟨ρ, w, .slice none 0 0, ?_, Ext.refl _, hrel, rfl⟩
        unfold Builtin.append_
        simp only [ha0, ha1, List.getElem?_toArray, List.getElem?_cons_zero, List.getElem?_cons_succ]
        rcases hnd with rfl | ⟨e', rfl⟩
        all_goals
          simp only [Sem.run_bind, und_ok hu, und_ok hd, sizeC_ok hs, Result.andThen_ok, Sem.run_pure, Bool.false_eq_true, if_false, hlen, Sem.run_ite, Bool.not_false, if_true, hnew]
          simp
      · rename_i hn0
        split at h
        · rename_i hc
          obtain ⟨hsmall, hsz, hb0, hone⟩ := hc
          cases h
          obtain ⟨newCap, hge, hrun⟩ := (run_append (len := 0) (cap := 0) (b := none) hu hd hnd hs hby hlen hnew ty (by simpa using hsmall) hb0 ha0 ha1).2 (by omega) #[] Z rfl hZrun hnewD
          refine ⟨ρ ++ [⟨w.heap.size, 0, newCap⟩], _, _, hrun, Ext.mk _ _, ?_, ?_⟩
          · refine hrel.new _ _ 0 newCap _ ?_
            refine ⟨(#[] ++ N.toArray ++ Builtin.zeroCells Z.cells (newCap - (0 + n))), N, push_at _ _, renL_ext (Ext.mk _ _) hN, by simp, ?_, ?_⟩
            · rw [show Z.cells = Z.cells.toList.toArray from by simp, zeroCells_eq]
              simp [zerosV_length, hNl]
              simp at hZl
              rw [hZl, hzs, ← Nat.add_mul]
              exact Nat.mul_le_mul_right _ (by simp at hge; omega)
            · rw [← hlN, hNl]; exact Nat.mul_le_mul_right _ (by simpa using hge)
          · rw [open_new _ _ hrel.len]; simp
        · cases h
    · rename_i l off len cp
      obtain ⟨A, m, hA, hm, rfl⟩ := ren_slice h1
      dsimp only at h
      split at h
      · rename_i hc
        obtain ⟨hsmall, hsz, hb0, hone⟩ := hc
        obtain ⟨rin, rout⟩ := run_append (P := P) (w := w) (len := len) (cap := m) (b := some A) hu hd hnd hs hby hlen hnew ty hsmall hb0 ha0 ha1
        split at h
        · -- a known capacity
          rename_i c
          have hmc : m = c := by cases l <;> simpa [Cap.num] using hm.symm
          subst hmc
          split at h
          · rename_i hle
            split at h
            · rename_i hn0
              subst hn0
              cases h
              have hN0 : N = [] := List.eq_nil_of_length_eq_zero (by rw [hNl]; simp)
              subst hN0
              refine ⟨ρ, w, _, rin hle w (fun h => by cases h) (fun a h => by simp [storeCells]), Ext.refl _, hrel, ?_⟩
              simp only [ren, hA, hm]
            · rename_i hn0
              split at h
              · rename_i i
                simp only [Option.map_eq_some_iff] at h
                obtain ⟨H1, hH, h⟩ := h
                cases h
                simp only [Loc.addr, Option.map_eq_some_iff] at hA
                obtain ⟨p, hp, rfl⟩ := hA
                obtain ⟨w', hrun, hrel'⟩ := writeN_sound hrel hH hN hp
                refine ⟨ρ, w', _, rin hle w' (fun h => by cases h) (fun a h => by cases h; rw [addr_add, Nat.add_assoc]; exact hrun P), Ext.refl _, hrel', ?_⟩
                simp only [ren, Loc.addr, hp, hm, Option.map_some]
              · cases h
          · rename_i hgt
            split at h
            · rename_i old hold
              cases h
              obtain ⟨O, hO, hOl, hOrun⟩ := readN_sound hR hrelD hold hA
              obtain ⟨newCap, hge, hrun⟩ := rout (by omega) O.toArray Z (by simp only [Builtin.firstCells, loadCells, hOrun, Array.empty_append]) hZrun hnewD
              refine ⟨ρ ++ [⟨w.heap.size, 0, newCap⟩], _, _, hrun, Ext.mk _ _, ?_, ?_⟩
              · refine hrel.new _ _ 0 newCap _ ?_
                refine ⟨(O.toArray ++ N.toArray ++ Builtin.zeroCells Z.cells (newCap - (len + n))), O ++ N, push_at _ _, renL_ext (Ext.mk _ _) (renL_append hO hN), take_pre _ _ _, ?_, ?_⟩
                · rw [show Z.cells = Z.cells.toList.toArray from by simp, zeroCells_eq]
                  simp [zerosV_length, hNl, hOl]
                  simp at hZl
                  rw [hZl, hzs, ← Nat.add_assoc, ← Nat.add_mul, ← Nat.add_mul]
                  exact Nat.mul_le_mul_right _ (by omega)
                · have := renL_length hO
                  rw [List.length_append, ← hlN, hNl, ← this, hOl, ← Nat.add_mul]; exact Nat.mul_le_mul_right _ hge
              · rw [open_new _ _ hrel.len]
            · cases h
        · -- an open one
          rename_i eo
          split at h
          · rename_i i
            split at h
            · rename_i c t' sz' hi
              split at h
              · rename_i hcond
                obtain ⟨rfl, rfl, hoff, hfit⟩ := hcond
                simp only [Loc.addr, Option.map_eq_some_iff] at hA
                obtain ⟨p, hp, rfl⟩ := hA
                simp only [Cap.num, Option.map_eq_some_iff] at hm
                obtain ⟨p', hp', rfl⟩ := hm
                rw [hp] at hp'; cases hp'
                obtain ⟨C, cs, d1, d2, d3, d4, d5⟩ := hrel.obj i _ p hi hp
                have hlc := renL_length d2
                split at h
                · rename_i hin
                  simp only [Option.map_eq_some_iff] at h
                  obtain ⟨H1, hH, h⟩ := h
                  cases h
                  obtain ⟨w', hrun, hrel'⟩ := writeN_sound hrel hH hN hp
                  have hle : len + n ≤ p.ecap - eo := by
                    have h9 : (eo + (len + n)) * sz' ≤ p.ecap * sz' := by rw [Nat.add_mul]; omega
                    have := Nat.le_of_mul_le_mul_right h9 (Nat.pos_of_ne_zero hsz)
                    omega
                  refine ⟨ρ, w', _, rin hle w' (fun h => by cases h) (fun a h => by cases h; rw [addr_add, Nat.add_assoc]; exact hrun P), Ext.refl _, hrel', ?_⟩
                  simp only [ren, Loc.addr, hp, Cap.num, Option.map_some]
                · rename_i hout
                  cases h
                  have hlen2 : ((cs.drop off).take (len * sz')).length = len * sz' := by rw [List.length_take, List.length_drop, hlc]; omega
                  have hOren := renL_take (renL_drop d2 off) (len * sz')
                  by_cases hroom : len + n ≤ p.ecap - eo
                  · -- there is room
                    have hneed : 0 < len + n := by
                      rcases Nat.eq_zero_or_pos (len + n) with h0 | h0
                      · exfalso; apply hout; rw [h0, Nat.zero_mul]
                        have : len = 0 := by omega
                        rw [this, Nat.zero_mul] at hfit; exact hfit
                      · exact h0
                    have heo : eo + (len + n) ≤ p.ecap := by omega
                    have hNC : p.sh + off + len * sz' + 0 + N.length ≤ C.size := by
                      have h9 : off + (len + n) * sz' ≤ p.ecap * sz' := by
                        rw [hoff, ← Nat.add_mul]; exact Nat.mul_le_mul_right _ heo
                      rw [hNl]; rw [Nat.add_mul] at h9; omega
                    obtain ⟨w', C', r1, r2, r3, r4, r5⟩ := run_storeCells P p.blk (p.sh + off + len * sz') N 0 w C d1 (oneCell_renL hN hone) hNC
                    have hCs : C'.toList.length = C.size := by
                      rw [r3, splice_length _ _ _ (by simpa using hNC)]; simp
                    refine ⟨ρ ++ [⟨p.blk, p.sh + off, p.ecap - eo⟩], w', _, rin hroom w' (fun h => by cases h) (fun a h => by cases h; rw [addr_add]; exact r1), Ext.mk _ _, ?_, ?_⟩
                    · refine hrel.again hi hp rfl r4.os r4.tape r4.output r4.size r4.other _ _ ?_
                      refine ⟨C', _, r2, renL_ext (Ext.mk _ _) (renL_append hOren hN), ?_, ?_, ?_⟩
                      · -- the content
                        rw [r3, Nat.add_zero]
                        dsimp only
                        have hget : ∀ j, j < cs.length → C.toList[p.sh + j]? = cs[j]? := fun j hj => by
                          rw [← d3, List.getElem?_take_of_lt hj, List.getElem?_drop]
                        apply List.ext_getElem?
                        intro j
                        have hll : ((cs.drop off).take (len * sz') ++ N).length = len * sz' + N.length := by rw [List.length_append, hlen2]
                        by_cases hj : j < len * sz' + N.length
                        · rw [List.getElem?_take_of_lt (by omega), List.getElem?_drop]
                          by_cases hj2 : j < len * sz'
                          · rw [List.getElem?_append_left (by omega), List.getElem?_take_of_lt hj2, List.getElem?_drop]
                            unfold splice
                            rw [List.append_assoc, List.getElem?_append_left (by simp; omega), List.getElem?_take_of_lt (by omega), Nat.add_assoc]
                            exact hget _ (by omega)
                          · rw [List.getElem?_append_right (by omega), hlen2]
                            unfold splice
                            rw [List.append_assoc, List.getElem?_append_right (by simp; omega), List.getElem?_append_left (by simp; omega)]
                            congr 1
                            simp; omega
                        · rw [List.getElem?_eq_none (Nat.le_trans (List.length_take_le _ _) (by omega)), List.getElem?_eq_none (by omega)]
                      · have : p.sh + off + (p.ecap - eo) * sz' = p.sh + p.ecap * sz' := by
                          rw [hoff, Nat.add_assoc, ← Nat.add_mul]; congr 2; omega
                        have hC2 : C'.size = C.size := by simpa using hCs
                        simp only
                        omega
                      · rw [List.length_append, List.length_take, List.length_drop, ← hlN, hNl]
                        have : (len + n) * sz' ≤ (p.ecap - eo) * sz' := Nat.mul_le_mul_right _ hroom
                        rw [Nat.add_mul] at this
                        simp only
                        omega
                    · have := open_new (ρ := ρ) (H := H) ⟨p.blk, p.sh + off, p.ecap - eo⟩ (len + n) hrel.len
                      rw [this]
                  · -- a new row
                    have hO : (Builtin.firstCells sz' len (.slice (some ⟨p.blk, p.sh + off, none⟩) len (p.ecap - eo))).run P { w with drawn := w.drawn + 1 } = .ok ((cs.drop off).take (len * sz')).toArray { w with drawn := w.drawn + 1 } := by
                      have := run_loadCells_of P { w with drawn := w.drawn + 1 } ⟨p.blk, p.sh + off, none⟩ ((cs.drop off).take (len * sz')) 0 #[] (fun j x hj => by
                        rw [addr_add, Nat.zero_add]
                        have hcell : ({ w with drawn := w.drawn + 1 } : World).cell? ⟨p.blk, p.sh + off + j, none⟩ = C[p.sh + off + j]? := cell_at (w := { w with drawn := w.drawn + 1 }) d1 _
                        rw [hcell, ← Array.getElem?_toList]
                        have hjn : j < len * sz' := by have := (List.getElem?_eq_some_iff.1 hj).1; omega
                        rw [List.getElem?_take_of_lt hjn, List.getElem?_drop] at hj
                        rw [Nat.add_assoc]
                        exact take_drop_get d3 hj)
                      rw [hlen2] at this
                      simpa [Builtin.firstCells, loadCells] using this
                    obtain ⟨newCap, hge, hrun⟩ := rout (by omega) _ Z hO hZrun hnewD
                    refine ⟨ρ ++ [⟨w.heap.size, 0, newCap⟩], _, _, hrun, Ext.mk _ _, ?_, ?_⟩
                    · have hk := hrel.kill i
                      refine hk.new _ _ 0 newCap _ ?_
                      refine ⟨(((cs.drop off).take (len * sz')).toArray ++ N.toArray ++ Builtin.zeroCells Z.cells (newCap - (len + n))), _, push_at _ _, renL_ext (Ext.mk _ _) (renL_append hOren hN), take_pre _ _ _, ?_, ?_⟩
                      · rw [show Z.cells = Z.cells.toList.toArray from by simp, zeroCells_eq]
                        simp only [List.append_toArray, List.size_toArray, List.length_append, hlen2, zerosV_length, hNl]
                        simp at hZl
                        simp only [Array.length_toList, hZl, hzs, ← Nat.add_mul]
                        simp only [Nat.zero_add]
                        exact Nat.mul_le_mul_right _ (by omega)
                      · have hl3 : ((c.drop off).take (len * sz')).length = len * sz' := by rw [List.length_take, List.length_drop]; omega
                        rw [List.length_append, hl3, ← hlN, hNl, ← Nat.add_mul]; exact Nat.mul_le_mul_right _ hge
                    · rw [open_new _ _ hrel.len]
              · cases h
            · cases h
          · cases h
      · cases h
    · cases h

theorem execOp_builtin {o : Oper} {c : Call} (ho : o.op = .call c) {b : Builtin} (hc : c.callee = .builtin b) :
    ∃ cs, (execOp ev o).run P w = (builtin b c.argTypes o.type cs (c.args.map ev)).run P w := by
  refine ⟨c.args.map fun | .const _ => true | _ => false, ?_⟩
  simp only [execOp, ho, resolve, hc]
  simp [invoke]
  rfl

theorem args1 {c : Call} {a : Operand} (h : c.args.toList = [a]) : c.args.map ev = #[ev a] := by
  have : c.args = #[a] := by rw [← h]
  rw [this]; simp
theorem args2 {c : Call} {a b : Operand} (h : c.args.toList = [a, b]) : c.args.map ev = #[ev a, ev b] := by
  have : c.args = #[a, b] := by rw [← h]
  rw [this]; simp

/-- A builtin whose value is known. -/
theorem y_builtin {o : Oper} {c : Call} (ho : o.op = .call c) {b : Builtin} (hc : c.callee = .builtin b) {s : Sem Value} {x : Value} {w' : World} {ρ' : Ren} {v : AV}
    (hb : ∀ cs, builtin b c.argTypes o.type cs (c.args.map ev) = (do pure (.value (← s)) : Sem Next)) (hrun : s.run P w = .ok x w') (hext : Ext ρ ρ') (hrel : Rel base ρ' H' w') (hx : ren ρ' v = some x) :
    Yields base ρ ((execOp ev o).run P w) v H' := by
  obtain ⟨cs, h⟩ := execOp_builtin (P := P) (ev := ev) (w := w) ho hc
  rw [h, hb cs]
  refine ⟨ρ', w', x, .inl ?_, hext, hrel, hx⟩
  simp [hrun]

theorem y_builtinS {o : Oper} {c : Call} (ho : o.op = .call c) {b : Builtin} (hc : c.callee = .builtin b) {s : Sem Value} {x : Value} {v : AV}
    (hb : ∀ cs, builtin b c.argTypes o.type cs (c.args.map ev) = (do pure (.value (← s)) : Sem Next)) (hrun : s.run P w = .ok x w) (_ : Ext ρ ρ) (_ : Rel base ρ H w) (hx : ren ρ v = some x) :
    YieldsS ρ w H ((execOp ev o).run P w) v H := by
  obtain ⟨cs, h⟩ := execOp_builtin (P := P) (ev := ev) (w := w) ho hc
  rw [h, hb cs]
  refine ⟨rfl, x, ?_, hx⟩
  simp [hrun]

theorem s_lenS (hrel : Rel base ρ H w) (he : EvOk ρ e ev) {t : TypeId} {a : Operand} {a' : X} (ha : cx a = some a') (hu : P.underlying t = some .string) {v : AV}
    (h : (AOp.lenS a').eval P R e H = some (v, H')) {o : Oper} {c : Call} (ho : o.op = .call c) (hc : c.callee = .builtin .len) (h0 : c.argTypes[0]? = some t) (hl : c.args.toList = [a]) : YieldsS ρ w H ((execOp ev o).run P w) v H' := by
  have h1 := cx_ok he ha
  simp only [AOp.eval] at h
  split at h
  · rename_i s hs
    cases h
    rw [hs] at h1
    have h1 := ren_str h1
    refine y_builtinS (x := .int .i64 s.length) ho hc (fun cs => rfl) ?_ (Ext.refl _) hrel rfl
    rw [args1 hl, h1]
    unfold Builtin.len_
    simp [h0, und_ok hu, goInt]
    rfl
  · cases h

theorem s_lenL (hrel : Rel base ρ H w) (he : EvOk ρ e ev) {t el : TypeId} {a : Operand} {a' : X} (ha : cx a = some a') (hu : P.underlying t = some (.slice el)) {v : AV}
    (h : (AOp.lenL a').eval P R e H = some (v, H')) {o : Oper} {c : Call} (ho : o.op = .call c) (hc : c.callee = .builtin .len) (h0 : c.argTypes[0]? = some t) (hl : c.args.toList = [a]) : YieldsS ρ w H ((execOp ev o).run P w) v H' := by
  have h1 := cx_ok he ha
  simp only [AOp.eval] at h
  split at h
  · rename_i hs
    cases h
    rw [hs] at h1
    simp only [ren, Option.some.injEq] at h1
    refine y_builtinS (x := .int .i64 0) ho hc (fun cs => rfl) ?_ (Ext.refl _) hrel rfl
    rw [args1 hl, ← h1]
    unfold Builtin.len_
    simp [h0, und_ok hu, goInt]
  · rename_i l off n cp hs
    cases h
    rw [hs] at h1
    obtain ⟨A, m, _, _, h1⟩ := ren_slice h1
    refine y_builtinS (x := .int .i64 n) ho hc (fun cs => rfl) ?_ (Ext.refl _) hrel rfl
    rw [args1 hl, h1]
    unfold Builtin.len_
    simp [h0, und_ok hu, goInt]
  · cases h

theorem s_cap (hrel : Rel base ρ H w) (he : EvOk ρ e ev) {t el : TypeId} {a : Operand} {a' : X} (ha : cx a = some a') (hu : P.underlying t = some (.slice el)) {v : AV}
    (h : (AOp.cap a').eval P R e H = some (v, H')) {o : Oper} {c : Call} (ho : o.op = .call c) (hc : c.callee = .builtin .cap) (h0 : c.argTypes[0]? = some t) (hl : c.args.toList = [a]) : YieldsS ρ w H ((execOp ev o).run P w) v H' := by
  have h1 := cx_ok he ha
  simp only [AOp.eval] at h
  split at h
  · rename_i hs
    cases h
    rw [hs] at h1
    simp only [ren, Option.some.injEq] at h1
    refine y_builtinS (x := .int .i64 0) ho hc (fun cs => rfl) ?_ (Ext.refl _) hrel rfl
    rw [args1 hl, ← h1]
    unfold Builtin.cap_
    simp [h0, und_ok hu, goInt]
  · rename_i l off n cp hs
    cases h
    rw [hs] at h1
    obtain ⟨A, m, _, hm, h3⟩ := ren_slice h1
    have : m = cp := by cases l <;> simpa [Cap.num] using hm.symm
    subst this
    refine y_builtinS (x := .int .i64 m) ho hc (fun cs => rfl) ?_ (Ext.refl _) hrel rfl
    rw [args1 hl, h3]
    unfold Builtin.cap_
    simp [h0, und_ok hu, goInt]
  · cases h

theorem fold_ok (f : Int → Int → Int) (g : Value → Value → Sem Value) (hg : ∀ k a k' b, g (.int k a) (.int k' b) = pure (.int k (f a b))) (k : IntKind) :
    ∀ {vs : List AV} {a : Int} {v : AV} {X : List Value}, foldI f k a vs = some v → renL ρ vs = some X → ∃ x, ren ρ v = some x ∧ (X.foldlM g (.int k a)).run P w = .ok x w
  | [], a, v, X, h, hX => by
    simp only [foldI] at h; cases h
    rw [renL_nil hX]
    exact ⟨_, rfl, rfl⟩
  | u :: vs, a, v, X, h, hX => by
    obtain ⟨x, xs, h1, h2, rfl⟩ := renL_cons hX
    cases u with
    | int k' b =>
      simp only [foldI] at h
      split at h
      · rename_i hk
        subst hk
        obtain rfl := ren_int h1
        obtain ⟨y, hy, hr⟩ := fold_ok f g hg k' h h2
        refine ⟨y, hy, ?_⟩
        simp only [List.foldlM_cons, hg, Sem.run_bind, Sem.run_pure, Result.andThen_ok]
        exact hr
      · cases h
    | _ => simp [foldI] at h

theorem s_minI (hrel : Rel base ρ H w) (he : EvOk ρ e ev) {a' : X} {as' : List X} {v : AV}
    (h : (AOp.minI a' as').eval P R e H = some (v, H')) {o : Oper} {c : Call} (ho : o.op = .call c) (hc : c.callee = .builtin .min) (hl : cxs c.args.toList = some (a' :: as')) : YieldsS ρ w H ((execOp ev o).run P w) v H' := by
  have h1 := cxs_ok he hl
  simp only [AOp.eval] at h
  split at h
  · rename_i k a hx
    simp only [Option.map_eq_some_iff] at h
    obtain ⟨u, hu, h⟩ := h
    cases h
    obtain ⟨x, xs, e1, e2, e3⟩ := renL_cons h1
    rw [hx] at e1
    obtain rfl := ren_int e1
    obtain ⟨y, hy, hr⟩ := fold_ok (P := P) (w := w) _ Builtin.min2 (fun k a k' b => rfl) k hu e2
    refine y_builtinS (x := y) ho hc (fun cs => rfl) ?_ (Ext.refl _) hrel hy
    unfold Builtin.min_
    simp only [Array.toList_map, e3]
    exact hr
  · cases h

theorem s_maxI (hrel : Rel base ρ H w) (he : EvOk ρ e ev) {a' : X} {as' : List X} {v : AV}
    (h : (AOp.maxI a' as').eval P R e H = some (v, H')) {o : Oper} {c : Call} (ho : o.op = .call c) (hc : c.callee = .builtin .max) (hl : cxs c.args.toList = some (a' :: as')) : YieldsS ρ w H ((execOp ev o).run P w) v H' := by
  have h1 := cxs_ok he hl
  simp only [AOp.eval] at h
  split at h
  · rename_i k a hx
    simp only [Option.map_eq_some_iff] at h
    obtain ⟨u, hu, h⟩ := h
    cases h
    obtain ⟨x, xs, e1, e2, e3⟩ := renL_cons h1
    rw [hx] at e1
    obtain rfl := ren_int e1
    obtain ⟨y, hy, hr⟩ := fold_ok (P := P) (w := w) _ Builtin.max2 (fun k a k' b => rfl) k hu e2
    refine y_builtinS (x := y) ho hc (fun cs => rfl) ?_ (Ext.refl _) hrel hy
    unfold Builtin.max_
    simp only [Array.toList_map, e3]
    exact hr
  · cases h

theorem s_ext (hrel : Rel base ρ H w) (he : EvOk ρ e ev) {a : Operand} {a' : X} {i : Nat} (ha : cx a = some a') {v : AV}
    (h : (AOp.ext a' i).eval P R e H = some (v, H')) {o : Oper} (ho : o.op = .extract a i) : YieldsS ρ w H ((execOp ev o).run P w) v H' := by
  have h1 := cx_ok he ha
  simp only [AOp.eval] at h
  split at h
  · rename_i vs hx
    simp only [Option.map_eq_some_iff] at h
    obtain ⟨u, hu, h⟩ := h
    cases h
    rw [hx] at h1
    obtain ⟨l, hl, h1⟩ := ren_tuple h1
    obtain ⟨x, hx, hr⟩ := renL_getElem? hl i _ hu
    simp only [execOp, ho, h1]
    simp [Instr.extract, hx]
    exact YieldsS.same hrel hr
  · cases h

theorem s_fn (hrel : Rel base ρ H w) (he : EvOk ρ e ev) {f : Fn} {a b : Array Operand} {a' b' : List X} (ha : cxs a.toList = some a') (hb : cxs b.toList = some b') {v : AV}
    (h : (AOp.fn f a' b').eval P R e H = some (v, H')) {o : Oper} (ho : o.op = .makeFunc f a b) : YieldsS ρ w H ((execOp ev o).run P w) v H' := by
  simp only [AOp.eval] at h
  cases h
  have h1 := cxs_ok he ha
  have h2 := cxs_ok he hb
  simp only [execOp, ho]
  simp [Instr.makeFunc]
  refine YieldsS.same hrel ?_
  simp only [ren, h1, h2]
  congr 2
  · apply Array.ext'; simp
  · apply Array.ext'; simp
end
end Am
