/- The operations are sound: part 3. -/
import Derived.Test.YtjglohfkpigdfaaDoorAmS2
import Derived.Laws.Strings2
set_option linter.unusedSimpArgs false
set_option linter.unusedVariables false
set_option linter.unusedSectionVars false
set_option linter.unnecessarySimpa false
namespace Am
open Go Go.RowKit
section
variable {P : Program} {R : Ro} {base : World} {ρ : Ren} {H H' : AH} {w : World} {e : Env} {ev : Operand → Value}

/-- What 'Instr.fill' does to the cells of a part. -/
theorem foldl_set (cs : List Value) : ∀ (i off : Nat) (C : Array Value), (cs.zipIdx i).foldl (fun cs (c, j) => cs.setIfInBounds (off + j) c) C = (cs.zipIdx 0).foldl (fun cs (c, j) => cs.setIfInBounds (off + i + j) c) C := by
  induction cs with
  | nil => intro i off C; rfl
  | cons c cs ih =>
    intro i off C
    simp only [List.zipIdx_cons, List.foldl_cons, Nat.add_zero]
    rw [ih (i + 1) off, ih (0 + 1) (off + i)]
    rfl

theorem foldl_splice : ∀ (cs : List Value) (off : Nat) (C : Array Value), off + cs.length ≤ C.size → ((cs.zipIdx 0).foldl (fun cs (c, j) => cs.setIfInBounds (off + j) c) C).toList = splice C.toList off cs := by
  intro cs
  induction cs with
  | nil => intro off C _; simp [splice_nil]
  | cons c cs ih =>
    intro off C h
    simp at h
    simp only [List.zipIdx_cons, List.foldl_cons, Nat.add_zero]
    rw [foldl_set cs (0 + 1) off]
    have := ih (off + (0 + 1)) (C.setIfInBounds off c) (by simp; omega)
    rw [this, splice_cons _ _ _ _ (by simp; omega)]
    simp

theorem fill_ok {place : Nat → Option (Nat × Nat)} {pl : List (Nat × Nat)} (hp : ∀ i q, pl[i]? = some q → place i = some q) :
    ∀ {ps : List (Nat × AV)} {qs : List (Nat × Value)} {c d : List AV} {C : List Value}, fillA pl c ps = some d → ps.map (·.1) = qs.map (·.1) → renL ρ (ps.map (·.2)) = some (qs.map (·.2)) → renL ρ c = some C →
    ∃ D, Instr.fill place C.toArray qs = some D ∧ renL ρ d = some D.toList
  | [], qs, c, d, C, h, h1, _, hC => by
    simp only [fillA] at h; cases h
    cases qs with
    | nil => exact ⟨C.toArray, rfl, by simpa using hC⟩
    | cons _ _ => simp at h1
  | (i, v) :: ps, qs, c, d, C, h, h1, h2, hC => by
    cases qs with
    | nil => simp at h1
    | cons q qs =>
      obtain ⟨j, x⟩ := q
      simp at h1
      obtain ⟨rfl, h1⟩ := h1
      obtain ⟨y, ys, hy, hys, hcons⟩ := renL_cons h2
      simp at hcons
      obtain ⟨rfl, rfl⟩ := hcons
      simp only [fillA] at h
      split at h
      · cases h
      · rename_i off size hpl
        split at h
        · rename_i hfit
          have hx := cells_ren hy
          have hlx := renL_length hx
          have hlc := renL_length hC
          simp at hlx
          obtain ⟨D, hD, hd⟩ := fill_ok hp h h1 hys (renL_splice hC hx off)
          refine ⟨D, ?_, hd⟩
          simp only [Instr.fill, hp _ _ hpl]
          rw [if_neg (by simp; omega)]
          rw [← hD]
          congr 1
          apply Array.ext'
          have := foldl_splice x.cells.toList off C.toArray (by simp; omega)
          rw [← Array.foldl_toList, Array.toList_zipIdx]
          simpa using this
        · cases h

theorem cxp_fill (he : EvOk ρ e ev) {os : Array (Nat × Operand)} {xs : List (Nat × X)} (h : cxp os.toList = some xs) :
    (xs.map fun p => (p.1, p.2.ev e)).map (·.1) = ((os.map fun (i, x) => (i, ev x)).toList).map (·.1) ∧ renL ρ ((xs.map fun p => (p.1, p.2.ev e)).map (·.2)) = some (((os.map fun (i, x) => (i, ev x)).toList).map (·.2)) := by
  obtain ⟨h1, h2⟩ := cxp_ok he h
  simp only [Array.toList_map, List.map_map]
  exact ⟨h1, h2⟩

theorem placesC_ok : ∀ {fs : List Field} {pl : List (Nat × Nat)}, placesC P fs = some pl → ∀ w, (fs.mapM fun f => (do pure (f.offset, ← Go.sizeOf f.type) : Sem (Nat × Nat))).run P w = .ok pl w
  | [], pl, h, w => by simp only [placesC] at h; cases h; simp
  | f :: fs, pl, h, w => by
    simp only [placesC] at h
    split at h
    · rename_i n l hn hl
      cases h
      have := placesC_ok (fs := fs) hl w
      simp only [List.mapM_cons, Sem.run_bind, sizeC_ok hn, Result.andThen_ok, Sem.run_pure]
      rw [this]
      rfl
    · cases h

theorem s_buildS (hrel : Rel base ρ H w) (he : EvOk ρ e ev) {t : TypeId} {ps : Array (Nat × Operand)} {fs : Array Field} {z : AV} {l : List (Nat × X)} {pl : List (Nat × Nat)}
    (hu : P.underlying t = some (.struct fs)) (hz : zeroC P t = some z) (hl : cxp ps.toList = some l) (hpl : placesC P fs.toList = some pl) {v : AV}
    (h : (AOp.build z.cells pl l).eval P R e H = some (v, H')) {o : Oper} (ho : o.op = .build t ps) : YieldsS ρ w H ((execOp ev o).run P w) v H' := by
  simp only [AOp.eval, Option.map_eq_some_iff] at h
  obtain ⟨c, hc, h⟩ := h
  cases h
  obtain ⟨x, hx, hrun⟩ := zeroC_ok hz ρ w
  obtain ⟨h1, h2⟩ := cxp_fill he hl
  obtain ⟨D, hD, hd⟩ := fill_ok (place := (pl.toArray[·]?)) (fun i q hi => by simpa using hi) hc h1 h2 (cells_ren hx)
  simp only [execOp, ho]
  have hm : (fs.mapM fun f => (do pure (f.offset, ← Go.sizeOf f.type) : Sem (Nat × Nat))).run P w = .ok pl.toArray w := by
    rw [← Array.toArray_toList (xs := fs)]
    rw [List.mapM_toArray, Sem.run_map, placesC_ok hpl w]
    rfl
  simp only [Instr.build]
  simp only [Sem.run_bind, hrun, Result.andThen_ok, und_ok hu, hm]
  simp only [Array.toArray_toList] at hD
  rw [hD]
  simp
  exact YieldsS.same hrel (by simp [ren, hd])

theorem s_un (hrel : Rel base ρ H w) (he : EvOk ρ e ev) {op : UnOp} {t : TypeId} {a : Operand} {a' : X} (ha : cx a = some a') {v : AV}
    (h : (AOp.un op a').eval P R e H = some (v, H')) {o : Oper} (ho : o.op = .unOp op t a) : YieldsS ρ w H ((execOp ev o).run P w) v H' := by
  have h1 := cx_ok he ha
  simp only [AOp.eval] at h
  split at h
  · rename_i b hb
    cases h
    rw [hb] at h1
    have h1 := ren_bool h1
    simp only [execOp, ho, h1]
    simp [Op.unary]
    exact YieldsS.same hrel rfl
  · rename_i k n hb
    cases h
    rw [hb] at h1
    have h1 := ren_int h1
    simp only [execOp, ho, h1]
    simp only [Op.unary, Op.intArith]
    simp
    exact YieldsS.same hrel (by simp [ren])
  · cases h

theorem s_convI (hrel : Rel base ρ H w) (he : EvOk ρ e ev) {s d : TypeId} {k k' : IntKind} {a : Operand} {a' : X} (ha : cx a = some a') (hs : P.underlying s = some (.int k')) (hd : P.underlying d = some (.int k)) {v : AV}
    (h : (AOp.convI k a').eval P R e H = some (v, H')) {o : Oper} (ho : o.op = .convert s d a) : YieldsS ρ w H ((execOp ev o).run P w) v H' := by
  have h1 := cx_ok he ha
  simp only [AOp.eval] at h
  split at h
  · rename_i k2 n hb
    cases h
    rw [hb] at h1
    have h1 := ren_int h1
    simp only [execOp, ho, h1]
    simp [convert, und_ok hs, und_ok hd, Conv.intToInt]
    exact YieldsS.same hrel rfl
  · cases h

theorem bytes_loop (f : Value → ByteArray → Sem (ForInStep ByteArray)) (hf : ∀ n r, f (.int .u8 n) r = pure (.yield (r.push (UInt8.ofNat n.toNat)))) :
    ∀ {c : List AV} {s : List UInt8} {C : List Value}, bytesOf c = some s → renL ρ c = some C → ∀ (acc : List UInt8) (w : World), (forIn C (⟨⟨acc⟩⟩ : ByteArray) f).run P w = .ok ⟨⟨acc ++ s⟩⟩ w
  | [], s, C, h, hC, acc, w => by
    simp only [bytesOf] at h; cases h
    rw [renL_nil hC]; simp
  | a :: c, s, C, h, hC, acc, w => by
    obtain ⟨x, xs, h1, h2, rfl⟩ := renL_cons hC
    unfold bytesOf at h
    split at h
    · rename_i h0; cases h0
    · rename_i n l heq
      cases heq
      split at h
      · simp only [Option.map_eq_some_iff] at h
        obtain ⟨r, hr, rfl⟩ := h
        have h1 := ren_int h1
        subst h1
        have := bytes_loop f hf hr h2 (acc ++ [UInt8.ofNat n.toNat]) w
        simp only [List.append_assoc, List.singleton_append] at this
        simp only [List.forIn_cons, hf, Sem.run_bind, Sem.run_pure, Result.andThen_ok]
        rw [← this]
        congr 1
        congr 1
        simp [ByteArray.push]
      · cases h
    · cases h

theorem s_strOf (hR : ROk R base) (hrel : Rel base ρ H w) (he : EvOk ρ e ev) {s d : TypeId} {el : TypeId} {a : Operand} {a' : X} (ha : cx a = some a') (hs : P.underlying s = some (.slice el)) (hd : P.underlying d = some .string)
    (hel : P.underlying el = some (.int .u8)) {v : AV}
    (h : (AOp.strOf a').eval P R e H = some (v, H')) {o : Oper} (ho : o.op = .convert s d a) : YieldsS ρ w H ((execOp ev o).run P w) v H' := by
  have h1 := cx_ok he ha
  simp only [AOp.eval] at h
  split at h
  · rename_i hb
    cases h
    rw [hb] at h1
    simp only [ren, Option.some.injEq] at h1
    simp only [execOp, ho, ← h1]
    simp [convert, und_ok hs, und_ok hd, und_ok hel, Conv.bytesToString]
    exact YieldsS.same hrel rfl
  · rename_i l off n c hb
    split at h
    · rename_i cs hcs
      simp only [Option.map_eq_some_iff] at h
      obtain ⟨st, hst, h⟩ := h
      cases h
      rw [hb] at h1
      obtain ⟨A, m, hA, _, h1⟩ := ren_slice h1
      obtain ⟨V, hV, hlen, hrun⟩ := readN_sound hR hrel hcs hA
      simp only [execOp, ho, h1]
      simp [convert, und_ok hs, und_ok hd, und_ok hel, Conv.bytesToString, loadCells, hrun]
      have e0 : (ByteArray.empty : ByteArray) = ⟨⟨[]⟩⟩ := rfl
      rw [e0, bytes_loop _ (fun n r => rfl) hst hV [] w]
      simp
      exact YieldsS.same hrel rfl
    · cases h
  · cases h


theorem bound_ok {y d n : Nat} {x : AV} {X : Value} (h : boundEv d y (some x) = some n) (hx : ren ρ x = some X) (code : BoundsCode) (w : World) : (Instr.sliceBound X y code).run P w = .ok n w ∧ n ≤ y := by
  unfold boundEv at h
  split at h
  · rename_i hn; cases hn
  · rename_i k i hn
    cases hn
    split at h
    · rename_i hc
      cases h
      have := ren_int hx
      subst this
      refine ⟨?_, by omega⟩
      simp [Instr.sliceBound, asIntOf, hc]
    · cases h
  · cases h

theorem cxo_ok (he : EvOk ρ e ev) {o : Option Operand} {x : Option X} (h : cxo o = some x) : (o = none ∧ x = none) ∨ ∃ a b, o = some a ∧ x = some b ∧ ren ρ (b.ev e) = some (ev a) := by
  cases o with
  | none => simp only [cxo] at h; cases h; exact .inl ⟨rfl, rfl⟩
  | some a =>
    simp only [cxo, Option.map_eq_some_iff] at h
    obtain ⟨b, hb, rfl⟩ := h
    exact .inr ⟨a, b, rfl, rfl, cx_ok he hb⟩

/-- The three bounds of a slicing, each told or not. -/
theorem bounds_ok (isS : Bool) {len cap m h l : Nat} {lo hi mx : Option AV} {LO HI MX : Option Value}
    (h1 : (mx = none ∧ MX = none) ∨ ∃ a b, mx = some a ∧ MX = some b ∧ ren ρ a = some b)
    (h2 : (hi = none ∧ HI = none) ∨ ∃ a b, hi = some a ∧ HI = some b ∧ ren ρ a = some b)
    (h3 : (lo = none ∧ LO = none) ∨ ∃ a b, lo = some a ∧ LO = some b ∧ ren ρ a = some b)
    (e1 : boundEv cap cap mx = some m) (e2 : boundEv len m hi = some h) (e3 : boundEv 0 h lo = some l) (hno : hi = none → mx = none) (w : World) :
    (Instr.sliceBounds isS len cap LO HI MX).run P w = .ok (l, h, m) w := by
  unfold Instr.sliceBounds
  rcases h1 with ⟨rfl, rfl⟩ | ⟨a, b, rfl, rfl, hm⟩
  · simp only [boundEv] at e1; cases e1
    rcases h2 with ⟨rfl, rfl⟩ | ⟨a, b, rfl, rfl, hh⟩
    · simp only [boundEv] at e2; cases e2
      rcases h3 with ⟨rfl, rfl⟩ | ⟨a, b, rfl, rfl, hl⟩
      · simp only [boundEv] at e3; cases e3; simp
      · obtain ⟨r, _⟩ := bound_ok (P := P) e3 hl .sliceB w
        simp [r]
    · have r2 := fun c => (bound_ok (P := P) e2 hh c w).1
      rcases h3 with ⟨rfl, rfl⟩ | ⟨a, b, rfl, rfl, hl⟩
      · simp only [boundEv] at e3; cases e3; simp [r2]
      · obtain ⟨r, _⟩ := bound_ok (P := P) e3 hl .sliceB w
        simp [r, r2]
  · have r1 := fun c => (bound_ok (P := P) e1 hm c w).1
    rcases h2 with ⟨rfl, rfl⟩ | ⟨a, b, rfl, rfl, hh⟩
    · cases hno rfl
    · have r2 := fun c => (bound_ok (P := P) e2 hh c w).1
      rcases h3 with ⟨rfl, rfl⟩ | ⟨a, b, rfl, rfl, hl⟩
      · simp only [boundEv] at e3; cases e3; simp [r1, r2]
      · have r3 := fun c => (bound_ok (P := P) e3 hl c w).1
        simp [r1, r2, r3]

theorem opt_map (he : EvOk ρ e ev) {o : Option Operand} {x : Option X} (h : cxo o = some x) : (x.map (X.ev e) = none ∧ o.map ev = none) ∨ ∃ a b, x.map (X.ev e) = some a ∧ o.map ev = some b ∧ ren ρ a = some b := by
  rcases cxo_ok he h with ⟨rfl, rfl⟩ | ⟨a, b, rfl, rfl, hr⟩
  · exact .inl ⟨rfl, rfl⟩
  · exact .inr ⟨_, _, rfl, rfl, hr⟩

theorem s_sliceS (hrel : Rel base ρ H w) (he : EvOk ρ e ev) {t : TypeId} {a : Operand} {a' : X} {lo hi : Option Operand} {lo' hi' : Option X} (ha : cx a = some a') (hl : cxo lo = some lo') (hh : cxo hi = some hi') (hu : P.underlying t = some .string) {v : AV}
    (h : (AOp.sliceS a' lo' hi').eval P R e H = some (v, H')) {o : Oper} (ho : o.op = .slice t a lo hi none) : YieldsS ρ w H ((execOp ev o).run P w) v H' := by
  have h1 := cx_ok he ha
  simp only [AOp.eval] at h
  split at h
  · rename_i s hs
    rw [hs] at h1
    have h1 := ren_str h1
    split at h
    · rename_i hn e2
      split at h
      · rename_i ln e3
        cases h
        have hb := bounds_ok (P := P) (ρ := ρ) false (len := s.length) (cap := s.length) (.inl ⟨rfl, rfl⟩) (opt_map he hh) (opt_map he hl) rfl e2 e3 (fun _ => rfl) w
        have hsz : (ByteArray.mk ⟨s⟩).size = s.length := rfl
        simp only [execOp, ho, h1]
        simp [Instr.sliceAt, Instr.slice, und_ok hu, hsz, hb]
        refine YieldsS.same hrel ?_
        have := ByteArray.extract_mk s ln hn
        simp only [ren]
        rw [List.drop_take]
        exact congrArg (fun x => some (Value.string x)) this.symm
      · cases h
    · cases h
  · cases h

theorem s_addr (hrel : Rel base ρ H w) (he : EvOk ρ e ev) {t : TypeId} {a : Operand} {a' : X} {f : Nat} {fs : Array Field} {fl : Field} {n : Nat} (ha : cx a = some a') (hu : P.underlying t = some (.struct fs)) (hf : fs[f]? = some fl) (hn : sizeC P fl.type = some (n + 1)) {v : AV}
    (h : (AOp.addr fl.offset a').eval P R e H = some (v, H')) {o : Oper} (ho : o.op = .fieldAddr t a f) : YieldsS ρ w H ((execOp ev o).run P w) v H' := by
  have h1 := cx_ok he ha
  simp only [AOp.eval] at h
  split at h
  · rename_i l off hx
    cases h
    rw [hx] at h1
    obtain ⟨A, hA, h1⟩ := ren_ptr h1
    simp only [execOp, ho, h1]
    simp [Instr.fieldAt, und_ok hu, hf, Instr.sureAddr, fieldPlace, sizeC_ok hn]
    refine YieldsS.same hrel ?_
    simp only [ren, Option.map_eq_some_iff]
    cases l with
    | ro b => simp only [Loc.addr] at hA ⊢; cases hA; exact ⟨_, rfl, by rw [addr_add]⟩
    | mu i =>
      simp only [Loc.addr, Option.map_eq_some_iff] at hA ⊢
      obtain ⟨p, hp, rfl⟩ := hA
      exact ⟨_, ⟨p, hp, rfl⟩, by rw [addr_add, Nat.add_assoc]⟩
  · cases h

theorem addr_off {l : Loc} {off d : Nat} {A : Addr} (hA : l.addr ρ off = some A) : l.addr ρ (off + d) = some (A.add d) := by
  cases l with
  | ro b => simp only [Loc.addr] at hA ⊢; cases hA; rw [addr_add]
  | mu i =>
    simp only [Loc.addr, Option.map_eq_some_iff] at hA ⊢
    obtain ⟨p, hp, rfl⟩ := hA
    exact ⟨p, hp, by rw [addr_add, Nat.add_assoc]⟩

def partEv (cs : List AV) (off : Nat) : Option Nat → Option AV
  | some n => some (.agg ((cs.drop off).take n))
  | none => cs[off]?

theorem part_ok {t : TypeId} {b : Bool} (hb : aggC P t = some b) {n : Option Nat} (hn : (b = true ∧ ∃ m, n = some m ∧ sizeC P t = some m) ∨ (b = false ∧ n = none)) {cs : List AV} {C : List Value} (hC : renL ρ cs = some C) {off : Nat} {v : AV}
    (h : partEv cs off n = some v) (w : World) : ∃ x, ren ρ v = some x ∧ (part t C.toArray off).run P w = .ok x w := by
  rcases hn with ⟨rfl, m, rfl, hm⟩ | ⟨rfl, rfl⟩
  · simp only [partEv, Option.some.injEq] at h
    subst h
    refine ⟨.agg ((C.drop off).take m).toArray, by simp [ren, renL_take (renL_drop hC off) m], ?_⟩
    simp [part, aggC_ok hb, sizeC_ok hm, List.extract_eq_take_drop]
  · simp only [partEv] at h
    obtain ⟨x, hx, hr⟩ := renL_getElem? hC off v h
    refine ⟨x, hr, ?_⟩
    simp [part, aggC_ok hb, hx]

theorem s_fld (hrel : Rel base ρ H w) (he : EvOk ρ e ev) {t : TypeId} {a : Operand} {a' : X} {f : Nat} {fs : Array Field} {fl : Field} {n : Option Nat} {b : Bool} (ha : cx a = some a') (hu : P.underlying t = some (.struct fs)) (hf : fs[f]? = some fl)
    (hb : aggC P fl.type = some b) (hn : (b = true ∧ ∃ m, n = some m ∧ sizeC P fl.type = some m) ∨ (b = false ∧ n = none)) {v : AV}
    (h : (AOp.fld fl.offset n a').eval P R e H = some (v, H')) {o : Oper} (ho : o.op = .field t a f) : YieldsS ρ w H ((execOp ev o).run P w) v H' := by
  have h1 := cx_ok he ha
  simp only [AOp.eval] at h
  split at h
  · rename_i cs hx
    rw [hx] at h1
    obtain ⟨C, hC, h1⟩ := ren_agg h1
    have key : partEv cs fl.offset n = some v ∧ H = H' := by
      cases n with
      | some n => simpa [partEv] using h
      | none =>
        simp only [Option.map_eq_some_iff] at h
        obtain ⟨u, hu, h⟩ := h
        cases h; exact ⟨hu, rfl⟩
    obtain ⟨h2, rfl⟩ := key
    obtain ⟨x, hx, hrun⟩ := part_ok hb hn hC h2 w
    simp only [execOp, ho, h1]
    simp [Instr.field, und_ok hu, hf, asAgg, hrun]
    exact YieldsS.same hrel hx
  · cases h

theorem s_iaddrS (hrel : Rel base ρ H w) (he : EvOk ρ e ev) {t el : TypeId} {a i : Operand} {a' i' : X} {sz : Nat} (ha : cx a = some a') (hi : cx i = some i') (hu : P.underlying t = some (.slice el)) (hs : sizeC P el = some sz) {v : AV}
    (h : (AOp.iaddrS sz a' i').eval P R e H = some (v, H')) {o : Oper} (ho : o.op = .indexAddr t a i) : YieldsS ρ w H ((execOp ev o).run P w) v H' := by
  have h1 := cx_ok he ha
  have h2 := cx_ok he hi
  simp only [AOp.eval] at h
  split at h
  · rename_i l off ln c k j hx hj
    split at h
    · rename_i hb
      cases h
      rw [hx] at h1
      rw [hj] at h2
      obtain ⟨A, m, hA, _, h1⟩ := ren_slice h1
      have h2 := ren_int h2
      simp only [execOp, ho, h1, h2]
      simp [Instr.indexAt, asIntOf, und_ok hu, hb, sizeC_ok hs]
      exact YieldsS.same hrel (by simp [ren, addr_off hA])
    · cases h
  · cases h

theorem s_iaddrA (hrel : Rel base ρ H w) (he : EvOk ρ e ev) {t el : TypeId} {a i : Operand} {a' i' : X} {sz n : Nat} (ha : cx a = some a') (hi : cx i = some i') (hu : P.underlying t = some (.array n el)) (hs : sizeC P el = some sz) {v : AV}
    (h : (AOp.iaddrA n sz a' i').eval P R e H = some (v, H')) {o : Oper} (ho : o.op = .indexAddr t a i) : YieldsS ρ w H ((execOp ev o).run P w) v H' := by
  have h1 := cx_ok he ha
  have h2 := cx_ok he hi
  simp only [AOp.eval] at h
  split at h
  · rename_i l off k j hx hj
    split at h
    · rename_i hb
      cases h
      rw [hx] at h1
      rw [hj] at h2
      obtain ⟨A, hA, h1⟩ := ren_ptr h1
      have h2 := ren_int h2
      simp only [execOp, ho, h1, h2]
      simp [Instr.indexAt, asIntOf, und_ok hu, hb, sizeC_ok hs, Instr.sureAddr]
      exact YieldsS.same hrel (by simp [ren, addr_off hA])
    · cases h
  · cases h

theorem s_idxS (hrel : Rel base ρ H w) (he : EvOk ρ e ev) {t : TypeId} {a i : Operand} {a' i' : X} (ha : cx a = some a') (hi : cx i = some i') (hu : P.underlying t = some .string) {v : AV}
    (h : (AOp.idxS a' i').eval P R e H = some (v, H')) {o : Oper} (ho : o.op = .index t a i) : YieldsS ρ w H ((execOp ev o).run P w) v H' := by
  have h1 := cx_ok he ha
  have h2 := cx_ok he hi
  simp only [AOp.eval] at h
  split at h
  · rename_i s k j hx hj
    split at h
    · rename_i hb
      simp only [Option.map_eq_some_iff] at h
      obtain ⟨c, hc, h⟩ := h
      cases h
      rw [hx] at h1
      rw [hj] at h2
      have h1 := ren_str h1
      have h2 := ren_int h2
      have hlt := (List.getElem?_eq_some_iff.1 hc).1
      have hg : (ByteArray.mk ⟨s⟩)[j.toNat]? = some c := by
        rw [ByteArray.getElem?_lt' _ _ hlt]
        congr 1
        exact (List.getElem?_eq_some_iff.1 hc).2
      simp only [execOp, ho, h1, h2]
      simp [Instr.index, asIntOf, und_ok hu, hb, hg]
      exact YieldsS.same hrel rfl
    · cases h
  · cases h

theorem s_idxA (hrel : Rel base ρ H w) (he : EvOk ρ e ev) {t el : TypeId} {a i : Operand} {a' i' : X} {sz n : Nat} {b : Bool} (ha : cx a = some a') (hi : cx i = some i') (hu : P.underlying t = some (.array n el)) (hs : sizeC P el = some sz) (hb : aggC P el = some b) {v : AV}
    (h : (AOp.idxA n sz b a' i').eval P R e H = some (v, H')) {o : Oper} (ho : o.op = .index t a i) : YieldsS ρ w H ((execOp ev o).run P w) v H' := by
  have h1 := cx_ok he ha
  have h2 := cx_ok he hi
  simp only [AOp.eval] at h
  split at h
  · rename_i cs k j hx hj
    split at h
    · rename_i hc
      rw [hx] at h1
      rw [hj] at h2
      obtain ⟨C, hC, h1⟩ := ren_agg h1
      have h2 := ren_int h2
      have key : ∃ n', ((b = true ∧ ∃ m, n' = some m ∧ sizeC P el = some m) ∨ (b = false ∧ n' = none)) ∧ partEv cs (j.toNat * sz) n' = some v ∧ H = H' := by
        cases b with
        | true => simp at h; exact ⟨some sz, .inl ⟨rfl, sz, rfl, hs⟩, by simp [partEv, h.1], h.2⟩
        | false =>
          simp only [Bool.false_eq_true, if_false, Option.map_eq_some_iff] at h
          obtain ⟨u, hu, h⟩ := h
          cases h; exact ⟨none, .inr ⟨rfl, rfl⟩, hu, rfl⟩
      obtain ⟨n', hn', h3, rfl⟩ := key
      obtain ⟨x, hx, hrun⟩ := part_ok hb hn' hC h3 w
      simp only [execOp, ho, h1, h2]
      simp [Instr.index, asIntOf, und_ok hu, hc, sizeC_ok hs, hrun]
      exact YieldsS.same hrel hx
    · cases h
  · cases h
end
end Am
