/- The operations are sound: part 4: slices. -/
import Derived.Test.YtjglohfkpigdfaaDoorAmS3
set_option linter.unusedSimpArgs false
set_option linter.unusedVariables false
set_option linter.unusedSectionVars false
set_option linter.unnecessarySimpa false
namespace Am
open Go Go.RowKit
section
variable {P : Program} {R : Ro} {base : World} {ρ : Ren} {H H' : AH} {w : World} {e : Env} {ev : Operand → Value}

theorem drawn_same (w : World) : ({ w with drawn := w.drawn } : World) = w := rfl

theorem rangeMap_fill : ∀ (pl : List (Nat × Nat)) (sz n : Nat), pl = (List.range n).map (fun i => (i * sz, sz)) → ∀ i q, pl[i]? = some q → (fun i => some (i * sz, sz)) i = some q := by
  intro pl sz n h i q hq
  subst h
  simp only [List.getElem?_map, Option.map_eq_some_iff] at hq
  obtain ⟨j, hj, hq⟩ := hq
  have hj2 := List.getElem?_eq_some_iff.1 hj
  obtain ⟨h1, h2⟩ := hj2
  simp at h2
  subst h2
  simpa using hq

theorem zerosEv_length (z : List AV) (n : Nat) : (zerosEv z n).length = n * z.length := by
  induction n with
  | zero => simp [zerosEv]
  | succ n ih => simp [zerosEv, ih, Nat.succ_mul, Nat.add_comm]

def zerosV (z : List Value) : Nat → List Value
  | 0 => []
  | n + 1 => z ++ zerosV z n

theorem zerosV_length (z : List Value) (n : Nat) : (zerosV z n).length = n * z.length := by
  induction n with
  | zero => simp [zerosV]
  | succ n ih => simp [zerosV, ih, Nat.succ_mul, Nat.add_comm]

theorem renL_zeros {z : List AV} {Z : List Value} (h : renL ρ z = some Z) (n : Nat) : renL ρ (zerosEv z n) = some (zerosV Z n) := by
  induction n with
  | zero => rfl
  | succ n ih => exact renL_append h ih

theorem zerosV_get {z : List Value} (hz : z ≠ []) : ∀ (n i : Nat), i < n * z.length → (zerosV z n)[i]? = z[i % z.length]? := by
  have hp : 0 < z.length := List.length_pos_iff.2 hz
  intro n
  induction n with
  | zero => intro i h; simp at h
  | succ n ih =>
    intro i h
    simp only [zerosV]
    by_cases hi : i < z.length
    · rw [List.getElem?_append_left hi, Nat.mod_eq_of_lt hi]
    · rw [List.getElem?_append_right (by omega), ih _ (by rw [Nat.add_mul, Nat.one_mul] at h; omega)]
      rw [← Nat.mod_eq_sub_mod (by omega)]

theorem zeros_range {z : List Value} (n : Nat) : ((Array.range (n * z.length)).map fun i => z.toArray[i % z.toArray.size]!) = (zerosV z n).toArray := by
  by_cases hz : z = []
  · subst hz
    have e : zerosV ([] : List Value) n = [] := List.eq_nil_of_length_eq_zero (by rw [zerosV_length]; rfl)
    have hr0 : Array.range 0 = #[] := rfl
    rw [e, List.length_nil, Nat.mul_zero, hr0]; simp
  · have hp : 0 < z.length := List.length_pos_iff.2 hz
    apply Array.ext
    · simp [zerosV_length]
    · intro i h1 h2
      simp at h1
      have h3 := zerosV_get hz n i h1
      have h4 : i % z.length < z.length := Nat.mod_lt _ hp
      simp at h2
      rw [List.getElem?_eq_getElem h2, List.getElem?_eq_getElem h4] at h3
      simp at h3
      simp [h3, h4]

theorem zeroCells_eq (z : List Value) (n : Nat) : Builtin.zeroCells z.toArray n = (zerosV z n).toArray := by
  unfold Builtin.zeroCells
  have := zeros_range (z := z) n
  simpa using this

theorem s_bslice (hrel : Rel base ρ H w) (he : EvOk ρ e ev) {t el : TypeId} {n sz : Nat} {ps : Array (Nat × Operand)} {z : AV} {l : List (Nat × X)}
    (hu : P.underlying t = some (.slice el)) (hs : sizeC P el = some sz) (hz : zeroC P el = some z) (hl : cxp ps.toList = some l) (hbig : n * sz ≤ 2 ^ 24) {v : AV}
    (h : (AOp.bslice el sz n z.cells l).eval P R e H = some (v, H')) {o : Oper} (ho : o.op = .buildSlice t n ps) : Yields base ρ ((execOp ev o).run P w) v H' := by
  simp only [AOp.eval] at h
  split at h
  · rename_i c hc
    split at h
    · rename_i hcond
      obtain ⟨hzl, hone⟩ := hcond
      cases h
      obtain ⟨x, hx, hrun⟩ := zeroC_ok hz ρ w
      have hxz := cells_ren hx
      have hxl := renL_length hxz
      simp at hxl
      have hxs : x.cells.size = sz := by omega
      obtain ⟨h1, h2⟩ := cxp_fill he hl
      obtain ⟨D, hD, hd⟩ := fill_ok (place := fun i => some (i * sz, sz)) (rangeMap_fill _ sz n rfl) hc h1 h2 (renL_zeros hxz n)
      refine ⟨_, _, .slice (some ⟨w.heap.size, 0, none⟩) n n, .inl ?_, Ext.mk ρ [⟨w.heap.size, 0, 0⟩], hrel.newCells hd el 0 0 w.drawn rfl, ?_⟩
      · simp only [execOp, ho, Instr.buildSlice]
        simp only [Array.toList_map] at hD
        by_cases h0 : n * sz = 0
        · have hz0 : zerosV x.cells.toList n = [] := List.eq_nil_of_length_eq_zero (by rw [zerosV_length]; simp [hxs, h0])
          have hr0 : Array.range 0 = #[] := rfl
          rw [hz0] at hD
          simp only [Sem.run_bind, und_ok hu, sizeC_ok hs, Result.andThen_ok, h0, if_true, Sem.run_ite, hr0]
          simp [hD, newRow]
        · have := zeros_range (z := x.cells.toList) n
          simp only [Array.length_toList, hxs, Array.toArray_toList] at this
          rw [← this] at hD
          simp only [Sem.run_bind, und_ok hu, sizeC_ok hs, Result.andThen_ok, h0, if_false, Sem.run_ite, hrun]
          rw [if_neg (by omega)]
          simp [hD, hxs, newRow]
      · simp [ren, addr_new ρ ⟨w.heap.size, 0, 0⟩ 0 H hrel.len, Cap.num]
    · cases h
  · cases h

theorem s_mksl (hrel : Rel base ρ H w) (he : EvOk ρ e ev) {t el : TypeId} {sz by' : Nat} {a b : Operand} {a' b' : X} {z : AV} (ha : cx a = some a') (hb : cx b = some b')
    (hu : P.underlying t = some (.slice el)) (hs : sizeC P el = some sz) (hby : bytesC P el = some by') (hz : zeroC P el = some z) {v : AV}
    (h : (AOp.mksl el sz by' z.cells a' b').eval P R e H = some (v, H')) {o : Oper} (ho : o.op = .makeSlice t a b) : Yields base ρ ((execOp ev o).run P w) v H' := by
  have h1 := cx_ok he ha
  have h2 := cx_ok he hb
  simp only [AOp.eval] at h
  split at h
  · rename_i k1 l k2 c hl hc
    split at h
    · rename_i hcond
      obtain ⟨c1, c2, c3, c3b, c4, c5⟩ := hcond
      cases h
      rw [hl] at h1; rw [hc] at h2
      have h1 := ren_int h1
      have h2 := ren_int h2
      obtain ⟨x, hx, hrun⟩ := zeroC_ok hz ρ w
      have hxz := cells_ren hx
      have hxl := renL_length hxz
      simp at hxl
      have hxs : x.cells.size = sz := by omega
      simp only [bytesC, Option.map_eq_some_iff] at hby
      obtain ⟨ti, hti, rfl⟩ := hby
      have hw1 : IntKind.i64.wrap l = l := by simp only [IntKind.wrap, IntKind.bits, IntKind.signed]; simp; omega
      have hw2 : IntKind.i64.wrap c = c := by simp only [IntKind.wrap, IntKind.bits, IntKind.signed]; simp; omega
      refine ⟨_, _, .slice (some ⟨w.heap.size, 0, none⟩) l.toNat c.toNat, .inl ?_, Ext.mk ρ [⟨w.heap.size, 0, 0⟩], hrel.newCells (renL_zeros hxz c.toNat) el 0 0 w.drawn rfl, ?_⟩
      · have hlt : (decide (c < 0) || decide ((ti.bytes : Int) * c > 2 ^ 48)) = false := by simp; omega
        simp only [execOp, ho, h1, h2, Instr.makeSlice]
        simp only [Sem.run_bind, und_ok hu, Result.andThen_ok, asInt, asIntOf, Sem.run_pure, typeInfo, run_program, hti, hw1, hw2, hlt, sizeC_ok hs, run_askRoom, Sem.run_ite]
        rw [if_neg (by simp; omega)]
        by_cases h0 : c.toNat * sz = 0
        · have hz0 : zerosV x.cells.toList c.toNat = [] := List.eq_nil_of_length_eq_zero (by rw [zerosV_length]; simp [hxs, h0])
          have hr0 : Array.range 0 = #[] := rfl
          simp only [h0, if_true, hr0, hz0]
          simp [newRow]
        · have := zeros_range (z := x.cells.toList) c.toNat
          simp only [Array.length_toList, hxs, Array.toArray_toList] at this
          simp only [Result.andThen_ok, h0, if_false, hrun, hxs, this]
          simp [newRow]
      · simp [ren, addr_new ρ ⟨w.heap.size, 0, 0⟩ 0 H hrel.len, Cap.num]
    · cases h
  · cases h
end
end Am
