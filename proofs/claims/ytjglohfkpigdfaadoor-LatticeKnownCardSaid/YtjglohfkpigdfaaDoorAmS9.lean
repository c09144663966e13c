/- The operations are sound: all of them. -/
import Derived.Test.YtjglohfkpigdfaaDoorAmS8
import Derived.Laws.LoneSync
set_option linter.unusedSimpArgs false
set_option linter.unusedVariables false
set_option linter.unusedSectionVars false
set_option linter.unnecessarySimpa false
namespace Am
open Go Go.RowKit
section
variable {P : Program} {R : Ro} {base : World} {ρ : Ren} {H H' : AH} {w : World} {e : Env} {ev : Operand → Value}

theorem s_buildA (hrel : Rel base ρ H w) (he : EvOk ρ e ev) {t el : TypeId} {ps : Array (Nat × Operand)} {n m sz : Nat} {z : AV} {l : List (Nat × X)}
    (hu : P.underlying t = some (.array n el)) (hz : zeroC P t = some z) (hl : cxp ps.toList = some l) (hs : sizeC P el = some sz) {v : AV}
    (h : (AOp.build z.cells ((List.range m).map fun i => (i * sz, sz)) l).eval P R e H = some (v, H')) {o : Oper} (ho : o.op = .build t ps) : YieldsS ρ w H ((execOp ev o).run P w) v H' := by
  simp only [AOp.eval, Option.map_eq_some_iff] at h
  obtain ⟨c, hc, h⟩ := h
  cases h
  obtain ⟨x, hx, hrun⟩ := zeroC_ok hz ρ w
  obtain ⟨h1, h2⟩ := cxp_fill he hl
  obtain ⟨D, hD, hd⟩ := fill_ok (place := fun i => some (i * sz, sz)) (rangeMap_fill _ sz m rfl) hc h1 h2 (cells_ren hx)
  simp only [execOp, ho]
  simp only [Instr.build]
  simp only [Sem.run_bind, hrun, Result.andThen_ok, und_ok hu, sizeC_ok hs]
  simp only [Array.toArray_toList] at hD
  rw [hD]
  simp
  exact YieldsS.same hrel (by simp [ren, hd])

theorem sz_fact {t : TypeId} {n : Nat} (h : sizeC P t = some (n + 1)) : (P.info? t).map (fun i => decide (i.size = 0)) = some false := by
  simp only [sizeC, Option.map_eq_some_iff] at h
  obtain ⟨ti, hti, hsz⟩ := h
  rw [hti]; simp [hsz]

theorem find_of (fn : Func) (n : String) (h : fn.name = n) (ho : fn.origin = "") (e : Array Value → Sem Value) (he : Extern.find { (default : Func) with name := n, origin := "", targs := fn.targs, params := fn.params, resultTypes := fn.resultTypes } = some e)
    (hn : Extern.findNext { (default : Func) with name := n, origin := "", targs := fn.targs, params := fn.params, resultTypes := fn.resultTypes } = none) : Extern.findNext fn = none ∧ Extern.find fn = some e := by
  subst h
  constructor
  · rw [← hn]; unfold Extern.findNext; simp only [ho]
  · rw [← he]; unfold Extern.find; simp only [ho]

theorem lookup_cons_inv {n m : String} {k k' : XK} {l : List (String × XK)} (h : List.lookup n ((m, k) :: l) = some k') : (n = m ∧ k' = k) ∨ List.lookup n l = some k' := by
  rw [List.lookup_cons] at h
  split at h
  · rename_i he; cases h; exact .inl ⟨by simpa using he, rfl⟩
  · exact .inr h

theorem xk_find {fn : Func} {k : XK} (ho : fn.origin = "") (h : xkTable.lookup fn.name = some k) : Extern.findNext fn = none ∧ Extern.find fn = some k.sem := by
  unfold xkTable at h
  rcases lookup_cons_inv h with ⟨h1, rfl⟩ | h
  · exact find_of fn _ h1 ho _ (by kernel_rfl) (by kernel_rfl)
  rcases lookup_cons_inv h with ⟨h1, rfl⟩ | h
  · exact find_of fn _ h1 ho _ (by kernel_rfl) (by kernel_rfl)
  rcases lookup_cons_inv h with ⟨h1, rfl⟩ | h
  · exact find_of fn _ h1 ho _ (by kernel_rfl) (by kernel_rfl)
  rcases lookup_cons_inv h with ⟨h1, rfl⟩ | h
  · exact find_of fn _ h1 ho _ (by kernel_rfl) (by kernel_rfl)
  rcases lookup_cons_inv h with ⟨h1, rfl⟩ | h
  · exact find_of fn _ h1 ho _ (by kernel_rfl) (by kernel_rfl)
  rcases lookup_cons_inv h with ⟨h1, rfl⟩ | h
  · exact find_of fn _ h1 ho _ (by kernel_rfl) (by kernel_rfl)
  rcases lookup_cons_inv h with ⟨h1, rfl⟩ | h
  · exact find_of fn _ h1 ho _ (by kernel_rfl) (by kernel_rfl)
  rcases lookup_cons_inv h with ⟨h1, rfl⟩ | h
  · exact find_of fn _ h1 ho _ (by kernel_rfl) (by kernel_rfl)
  rcases lookup_cons_inv h with ⟨h1, rfl⟩ | h
  · exact find_of fn _ h1 ho _ (by kernel_rfl) (by kernel_rfl)
  rcases lookup_cons_inv h with ⟨h1, rfl⟩ | h
  · exact find_of fn _ h1 ho _ (by kernel_rfl) (by kernel_rfl)
  rcases lookup_cons_inv h with ⟨h1, rfl⟩ | h
  · exact find_of fn _ h1 ho _ (by kernel_rfl) (by kernel_rfl)
  simp at h

/-- A cell of the call's own: what it holds, and that it may be written. -/
theorem cell_facts (hrel : Rel base ρ H w) {i off : Nat} {v : AV} (hv : read1 R H (.mu i) off = some v) {a : Addr} (ha : (Loc.mu i).addr ρ off = some a) : ∃ x, ren ρ v = some x ∧ w.cell? a = some x ∧ w.frozen? a = false := by
  simp only [read1] at hv
  split at hv
  · rename_i c hc
    simp only [Option.bind_eq_some_iff] at hc
    obtain ⟨o, ho, hc⟩ := hc
    simp only [Loc.addr, Option.map_eq_some_iff] at ha
    obtain ⟨p, hp, rfl⟩ := ha
    obtain ⟨C, t, cs, h1, h2, h3⟩ := content_ok (hrel.obj i o p ho hp) hc
    obtain ⟨x, hx, hr⟩ := renL_getElem? h2 off v hv
    refine ⟨x, hr, ?_, frozen_at h1 _⟩
    rw [cell_at h1, ← Array.getElem?_toList]
    exact take_drop_get h3 hx
  · cases hv

theorem write1_sound (hrel : Rel base ρ H w) {i off : Nat} {u v : AV} (hu : read1 R H (.mu i) off = some u) (hw : writeN H i off [v] = some H') {x : Value} (hx : ren ρ v = some x) (hone : x.oneCell' = true) {a : Addr} (ha : (Loc.mu i).addr ρ off = some a) :
    Rel base ρ H' (w.setCell a x) := by
  obtain ⟨y, _, hc, hf⟩ := cell_facts hrel hu ha
  simp only [Loc.addr, Option.map_eq_some_iff] at ha
  obtain ⟨p, hp, rfl⟩ := ha
  obtain ⟨w', hrun, hr⟩ := writeN_sound hrel hw (renL_cons_mk hx rfl) hp
  have h1 := hrun default
  simp only [storeCells, Sem.run_bind, addr_add, Nat.add_zero] at h1
  rw [run_store default w _ x .plain hone, hc, hf] at h1
  simp at h1
  rw [h1]; exact hr

theorem s_atom (hR : ROk R base) (hrel : Rel base ρ H w) (he : EvOk ρ e ev) {c : Call} {f : FuncId} {k : XK} {xs : List X} (hcal : c.callee = .value (.func f)) (hx : cxs c.args.toList = some xs) (hk : externC P f = some k) {v : AV}
    (h : (AOp.atom k xs).eval P R e H = some (v, H')) {o : Oper} (ho : o.op = .call c) : Yields base ρ ((execOp ev o).run P w) v H' := by
  unfold externC at hk
  split at hk
  · rename_i fn hfn
    split at hk
    · rename_i hcond
      simp only [Bool.and_eq_true, beq_iff_eq, bne_iff_ne, ne_eq] at hcond
      obtain ⟨hn, hf⟩ := xk_find hcond.1.2 hk
      have hnn : (fn.name == "runtime.NumGoroutine") = false := by simpa using hcond.2
      have hargs : renL ρ (xs.map (X.ev e)) = some (c.args.map ev).toList := by rw [Array.toList_map]; exact cxs_ok he hx
      have hrunE : ∀ (args : Array Value), args.toList = (c.args.map ev).toList → (execOp ev o).run P w = (callFunc f args).run P w := by
        intro args hargs
        simp only [execOp, ho, resolve, hcal, he.func, Deferred.ofValue]
        simp only [Sem.run_bind, Sem.run_pure, Result.andThen_ok, invoke]
        congr 2
        apply Array.ext'
        simp [hargs]
      simp only [AOp.eval] at h
      generalize hA : xs.map (X.ev e) = A at *
      split at h
      · -- load
        rename_i k l off
        obtain ⟨x, r, e1, e2, e3⟩ := renL_cons hargs
        obtain rfl := renL_nil e2
        obtain ⟨a, ha, rfl⟩ := ren_ptr e1
        split at h
        · rename_i k' n hrd
          split at h
          · rename_i hkk
            subst hkk
            cases h
            obtain ⟨y, hy, hc⟩ := read1_sound hR hrel hrd ha
            obtain rfl := ren_int hy
            rw [hrunE #[.pointer (some a)] (by rw [e3]), run_call_load hfn hnn hcond.1.1 hn k' hf hc]
            exact Yields.same hrel rfl
          · cases h
        · cases h
      · -- store
        rename_i i off k y
        obtain ⟨x, r, e1, e2, e3⟩ := renL_cons hargs
        obtain ⟨x2, r2, e4, e5, rfl⟩ := renL_cons e2
        obtain rfl := renL_nil e5
        obtain ⟨a, ha, rfl⟩ := ren_ptr e1
        obtain rfl := ren_int e4
        split at h
        · rename_i u hrd
          simp only [Option.map_eq_some_iff] at h
          obtain ⟨H1, hH, h⟩ := h
          cases h
          obtain ⟨y', _, hc, hz⟩ := cell_facts hrel hrd ha
          have hr := write1_sound hrel hrd hH (x := .int k y) rfl rfl ha
          rw [hrunE #[.pointer (some a), .int k y] (by rw [e3]), run_call_store hfn hnn hcond.1.1 hn hf hc hz]
          exact ⟨ρ, _, _, .inl rfl, Ext.refl _, hr, rfl⟩
        · cases h
      · -- add
        rename_i k i off k2 y
        obtain ⟨x, r, e1, e2, e3⟩ := renL_cons hargs
        obtain ⟨x2, r2, e4, e5, rfl⟩ := renL_cons e2
        obtain rfl := renL_nil e5
        obtain ⟨a, ha, rfl⟩ := ren_ptr e1
        obtain rfl := ren_int e4
        split at h
        · rename_i k' x hrd
          split at h
          · rename_i hkk
            obtain ⟨rfl, rfl⟩ := hkk
            simp only [Option.map_eq_some_iff] at h
            obtain ⟨H1, hH, h⟩ := h
            cases h
            obtain ⟨y', hy, hc, hz⟩ := cell_facts hrel hrd ha
            obtain rfl := ren_int hy
            have hr := write1_sound hrel hrd hH rfl rfl ha
            rw [hrunE #[.pointer (some a), .int _ y] (by rw [e3]), run_call_add hfn hnn hcond.1.1 hn _ hf hc hz rfl]
            exact ⟨ρ, _, _, .inl rfl, Ext.refl _, hr, rfl⟩
          · cases h
        · cases h
      · -- compare and swap
        rename_i k i off k1 oo k2 y
        obtain ⟨x, r, e1, e2, e3⟩ := renL_cons hargs
        obtain ⟨x2, r2, e4, e5, rfl⟩ := renL_cons e2
        obtain ⟨x3, r3, e6, e7, rfl⟩ := renL_cons e5
        obtain rfl := renL_nil e7
        obtain ⟨a, ha, rfl⟩ := ren_ptr e1
        obtain rfl := ren_int e4
        obtain rfl := ren_int e6
        split at h
        · rename_i k' x hrd
          split at h
          · rename_i hkk
            obtain ⟨rfl, rfl, rfl⟩ := hkk
            obtain ⟨y', hy, hc, hz⟩ := cell_facts hrel hrd ha
            obtain rfl := ren_int hy
            split at h
            · rename_i hxo
              subst hxo
              simp only [Option.map_eq_some_iff] at h
              obtain ⟨H1, hH, h⟩ := h
              cases h
              have hr := write1_sound hrel hrd hH rfl rfl ha
              rw [hrunE #[.pointer (some a), .int _ x, .int _ y] (by rw [e3]), run_call_cas_hit hfn hnn hcond.1.1 hn _ hf hc hz]
              exact ⟨ρ, _, _, .inl rfl, Ext.refl _, hr, rfl⟩
            · rename_i hxo
              cases h
              rw [hrunE #[.pointer (some a), .int _ oo, .int _ y] (by rw [e3]), run_call_cas_miss hfn hnn hcond.1.1 hn _ hf hc hz hxo]
              exact Yields.same hrel rfl
          · cases h
        · cases h
      · cases h
        have e3 := renL_nil hargs
        rw [hrunE #[] (by rw [e3]), run_call_mark0 hfn hnn hcond.1.1 hn _ hf]
        exact Yields.same hrel rfl
      · cases h
        have e3 := renL_nil hargs
        rw [hrunE #[] (by rw [e3]), run_call_mark0 hfn hnn hcond.1.1 hn _ hf]
        exact Yields.same hrel rfl
      · cases h
        obtain ⟨x, r, e1, e2, e3⟩ := renL_cons hargs
        obtain rfl := renL_nil e2
        obtain ⟨a, ha, rfl⟩ := ren_ptr e1
        rw [hrunE #[.pointer (some a)] (by rw [e3]), run_call_marked hfn hnn hcond.1.1 hn _ hf]
        exact Yields.same hrel rfl
      · cases h
        obtain ⟨x, r, e1, e2, e3⟩ := renL_cons hargs
        obtain rfl := renL_nil e2
        obtain ⟨a, ha, rfl⟩ := ren_ptr e1
        rw [hrunE #[.pointer (some a)] (by rw [e3]), run_call_marked hfn hnn hcond.1.1 hn _ hf]
        exact Yields.same hrel rfl
      · cases h
    · cases hk
  · cases hk

theorem op_sound (hR : ROk R base) (hrel : Rel base ρ H w) (he : EvOk ρ e ev) {o : Oper} {ao : AOp} (hc : compOp P o.op = some ao) {v : AV} (h : ao.eval P R e H = some (v, H')) :
    Yields base ρ ((execOp ev o).run P w) v H' ∧ (ao.quiet = true → YieldsS ρ w H ((execOp ev o).run P w) v H') := by
  have both : ∀ {ao : AOp} {v : AV} {H' : AH}, YieldsS ρ w H ((execOp ev o).run P w) v H' → Yields base ρ ((execOp ev o).run P w) v H' ∧ (ao.quiet = true → YieldsS ρ w H ((execOp ev o).run P w) v H') := fun h => ⟨h.toY hrel, fun _ => h⟩
  cases hop : o.op with
  | move x =>
    rw [hop] at hc; simp only [compOp, Option.map_eq_some_iff] at hc
    obtain ⟨x', hx, rfl⟩ := hc
    simp only [AOp.eval] at h; cases h
    have := s_mv hrel he hx
    exact both (by simpa [execOp, hop] using this)
  | assign x =>
    rw [hop] at hc; simp only [compOp, Option.map_eq_some_iff] at hc
    obtain ⟨x', hx, rfl⟩ := hc
    simp only [AOp.eval] at h; cases h
    have := s_mv hrel he hx
    exact both (by simpa [execOp, hop] using this)
  | pick c a b =>
    rw [hop] at hc; simp only [compOp] at hc
    split at hc
    · cases hc; exact both (s_pick hrel he ‹_› ‹_› ‹_› h hop)
    · cases hc
  | alloc t =>
    rw [hop] at hc; simp only [compOp, Option.map_eq_some_iff] at hc
    obtain ⟨z, hz, rfl⟩ := hc
    exact ⟨s_alloc hrel hz h hop, by simp [AOp.quiet]⟩
  | box t x =>
    rw [hop] at hc; simp only [compOp, Option.map_eq_some_iff] at hc
    obtain ⟨x', hx, rfl⟩ := hc
    exact ⟨s_box hrel he hx h hop, by simp [AOp.quiet]⟩
  | build t ps =>
    rw [hop] at hc; simp only [compOp] at hc
    split at hc
    · simp only [Option.map_eq_some_iff] at hc
      obtain ⟨pl, hpl, rfl⟩ := hc
      exact both (s_buildS hrel he ‹_› ‹_› ‹_› hpl h hop)
    · simp only [Option.map_eq_some_iff] at hc
      obtain ⟨s, hs, rfl⟩ := hc
      exact both (s_buildA hrel he ‹_› ‹_› ‹_› hs h hop)
    · cases hc
  | buildSlice t n ps =>
    rw [hop] at hc; simp only [compOp] at hc
    split at hc
    · split at hc
      · split at hc
        · rename_i hcond
          cases hc
          exact ⟨s_bslice hrel he ‹_› ‹_› ‹_› ‹_› hcond.1 h hop, by simp [AOp.quiet]⟩
        · cases hc
      · cases hc
    · cases hc
  | insert t m k x =>
    rw [hop] at hc; simp only [compOp] at hc
    split at hc
    · cases hc; exact ⟨s_mapUpd hrel he ‹_› ‹_› ‹_› ‹_› h (.inr hop), by simp [AOp.quiet]⟩
    · cases hc
  | load t a =>
    rw [hop] at hc; simp only [compOp] at hc
    split at hc
    · rename_i hb hx
      simp only [Option.map_eq_some_iff] at hc
      obtain ⟨n, hn, rfl⟩ := hc
      exact both (s_load hR hrel he hx hb (.inl ⟨rfl, n, rfl, hn⟩) h hop)
    · rename_i hb hx
      cases hc
      exact both (s_load hR hrel he hx hb (.inr ⟨rfl, rfl⟩) h hop)
    · cases hc
  | store t a x =>
    rw [hop] at hc; simp only [compOp] at hc
    split at hc
    · cases hc; exact ⟨s_store hrel he ‹_› ‹_› ‹_› h hop, by simp [AOp.quiet]⟩
    · cases hc
  | ready g => rw [hop] at hc; simp [compOp] at hc
  | waits g => rw [hop] at hc; simp [compOp] at hc
  | nilCheck x =>
    rw [hop] at hc; simp only [compOp, Option.map_eq_some_iff] at hc
    obtain ⟨x', hx, rfl⟩ := hc
    exact both (s_nilck hrel he hx h hop)
  | binOp op t x y yt =>
    rw [hop] at hc; simp only [compOp] at hc
    split at hc
    · split at hc <;> first
        | (cases hc; exact both (s_bin hrel he ‹_› ‹_› h hop))
        | (cases hc; exact both (s_eq hrel he ‹_› ‹_› (.inl ⟨rfl, rfl⟩) ‹_› h hop))
        | (cases hc; exact both (s_eq hrel he ‹_› ‹_› (.inr ⟨rfl, rfl⟩) ‹_› h hop))
    · cases hc
  | unOp op t x =>
    rw [hop] at hc; simp only [compOp, Option.map_eq_some_iff] at hc
    obtain ⟨x', hx, rfl⟩ := hc
    exact both (s_un hrel he hx h hop)
  | convert s d x =>
    rw [hop] at hc; simp only [compOp] at hc
    split at hc
    · cases hc; exact both (s_convI hrel he ‹_› ‹_› ‹_› h hop)
    · split at hc
      · cases hc; exact both (s_strOf hR hrel he ‹_› ‹_› ‹_› ‹_› h hop)
      · cases hc
    · split at hc
      · rename_i h4
        have h1 : P.underlying s = some (.pointer _) := ‹_›
        have h2 : P.underlying d = some .unsafePointer := ‹_›
        have h3 : cx x = some _ := ‹_›
        cases hc
        simp only [AOp.eval] at h
        split at h
        · rename_i l off hx
          split at h
          · rename_i u hrd
            cases h
            have g1 := cx_ok he h3
            rw [hx] at g1
            obtain ⟨A, hA, g1⟩ := ren_ptr g1
            obtain ⟨y, _, hcell⟩ := read1_sound hR hrel hrd hA
            refine ⟨?_, by simp [AOp.quiet]⟩
            have hsz := sz_fact h4
            simp only [execOp, hop, g1]
            simp only [Sem.run_bind, run_convert_to_unsafe h1 h2 hsz hcell, Result.andThen_ok, Sem.run_pure]
            exact Yields.same hrel (by simp [ren, hA])
          · cases h
        · cases h
      · cases hc
    · cases hc
  | sliceToArrayPointer d x => rw [hop] at hc; simp [compOp] at hc
  | makeInterface t x => rw [hop] at hc; simp [compOp] at hc
  | makeFunc f a b =>
    rw [hop] at hc; simp only [compOp] at hc
    split at hc
    · cases hc; exact both (s_fn hrel he ‹_› ‹_› h hop)
    · cases hc
  | makeMap t r =>
    cases r with
    | none => rw [hop] at hc; simp only [compOp] at hc; cases hc; exact ⟨s_mkmap hrel h hop, by simp [AOp.quiet]⟩
    | some r => rw [hop] at hc; simp [compOp] at hc
  | makeChan t x => rw [hop] at hc; simp [compOp] at hc
  | makeSlice t l c =>
    rw [hop] at hc; simp only [compOp] at hc
    split at hc
    · split at hc
      · cases hc; exact ⟨s_mksl hrel he ‹_› ‹_› ‹_› ‹_› ‹_› ‹_› h hop, by simp [AOp.quiet]⟩
      · cases hc
    · cases hc
  | slice t x lo hi mx =>
    rw [hop] at hc; simp only [compOp] at hc
    split at hc
    · rename_i h1 h2 h3 h4 h5
      cases hc
      have : mx = none := by cases mx with
        | none => rfl
        | some m => simp only [cxo, Option.map_eq_some_iff] at h5; obtain ⟨_, _, h5⟩ := h5; cases h5
      subst this
      exact both (s_sliceS hrel he h2 h3 h4 h1 h hop)
    · rename_i h1 h2 h3 h4 h5
      split at hc
      · cases hc
      · rename_i hno
        simp only [Option.map_eq_some_iff] at hc
        obtain ⟨s, hs, rfl⟩ := hc
        refine ⟨s_slice hrel he h2 h3 h4 h5 (fun hh => ?_) h1 hs h hop, by simp [AOp.quiet]⟩
        subst hh
        cases mx with
        | none => rfl
        | some m => simp at hno
    · rename_i h1 h2 h3 h4 h5
      simp only [Option.map_eq_some_iff] at hc
      obtain ⟨s, hs, rfl⟩ := hc
      have : mx = none := by cases mx with
        | none => rfl
        | some m => simp only [cxo, Option.map_eq_some_iff] at h5; obtain ⟨_, _, h5⟩ := h5; cases h5
      subst this
      exact both (s_sliceA hrel he h2 h3 h4 h1 hs h hop)
    · cases hc
  | fieldAddr t x f =>
    rw [hop] at hc; simp only [compOp] at hc
    split at hc
    · split at hc
      · split at hc
        · cases hc; exact both (s_addr hrel he ‹_› ‹_› ‹_› ‹_› h hop)
        · cases hc
      · cases hc
    · cases hc
  | field t x f =>
    rw [hop] at hc; simp only [compOp] at hc
    split at hc
    · split at hc
      · split at hc
        · simp only [Option.map_eq_some_iff] at hc
          obtain ⟨n, hn, rfl⟩ := hc
          exact both (s_fld hrel he ‹_› ‹_› ‹_› ‹_› (.inl ⟨rfl, n, rfl, hn⟩) h hop)
        · cases hc
          exact both (s_fld hrel he ‹_› ‹_› ‹_› ‹_› (.inr ⟨rfl, rfl⟩) h hop)
        · cases hc
      · cases hc
    · cases hc
  | indexAddr t x i =>
    rw [hop] at hc; simp only [compOp] at hc
    split at hc
    · simp only [Option.map_eq_some_iff] at hc
      obtain ⟨s, hs, rfl⟩ := hc
      exact both (s_iaddrS hrel he ‹_› ‹_› ‹_› hs h hop)
    · simp only [Option.map_eq_some_iff] at hc
      obtain ⟨s, hs, rfl⟩ := hc
      exact both (s_iaddrA hrel he ‹_› ‹_› ‹_› hs h hop)
    · cases hc
  | index t x i =>
    rw [hop] at hc; simp only [compOp] at hc
    split at hc
    · cases hc; exact both (s_idxS hrel he ‹_› ‹_› ‹_› h hop)
    · split at hc
      · cases hc; exact both (s_idxA hrel he ‹_› ‹_› ‹_› ‹_› ‹_› h hop)
      · cases hc
    · cases hc
  | lookup t x i ok =>
    rw [hop] at hc; simp only [compOp] at hc
    split at hc
    · simp only [Option.map_eq_some_iff] at hc
      obtain ⟨z, hz, rfl⟩ := hc
      exact both (s_lookup hrel he ‹_› ‹_› ‹_› hz h hop)
    · cases hc
  | mapUpdate t m k x =>
    rw [hop] at hc; simp only [compOp] at hc
    split at hc
    · cases hc; exact ⟨s_mapUpd hrel he ‹_› ‹_› ‹_› ‹_› h (.inl hop), by simp [AOp.quiet]⟩
    · cases hc
  | mapEntry t m k =>
    rw [hop] at hc; simp only [compOp] at hc
    split at hc
    · simp only [Option.map_eq_some_iff] at hc
      obtain ⟨z, hz, rfl⟩ := hc
      exact ⟨s_mapEntry hrel he ‹_› ‹_› ‹_› hz h hop, by simp [AOp.quiet]⟩
    · cases hc
  | entryStore t m s x =>
    rw [hop] at hc; simp only [compOp] at hc
    split at hc
    · cases hc; exact ⟨s_entryStore hrel he ‹_› ‹_› ‹_› h hop, by simp [AOp.quiet]⟩
    · cases hc
  | range t x =>
    rw [hop] at hc; simp only [compOp] at hc
    split at hc
    · cases hc; exact ⟨s_rangeS hrel he ‹_› ‹_› h hop, by simp [AOp.quiet]⟩
    · cases hc
  | next it b =>
    cases b with
    | true =>
      rw [hop] at hc; simp only [compOp, Option.map_eq_some_iff] at hc
      obtain ⟨x', hx, rfl⟩ := hc
      exact ⟨s_nextS hrel he hx h hop, by simp [AOp.quiet]⟩
    | false => rw [hop] at hc; simp [compOp] at hc
  | entry it => rw [hop] at hc; simp [compOp] at hc
  | typeAssert x t a ok => rw [hop] at hc; simp [compOp] at hc
  | extract t i =>
    rw [hop] at hc; simp only [compOp, Option.map_eq_some_iff] at hc
    obtain ⟨x', hx, rfl⟩ := hc
    exact both (s_ext hrel he hx h hop)
  | call c =>
    rw [hop] at hc; simp only [compOp] at hc
    unfold compCall at hc
    split at hc
    · split at hc
      · split at hc
        · cases hc; simp [AOp.eval] at h
        · simp only [Option.map_eq_some_iff] at hc
          obtain ⟨k, hk, rfl⟩ := hc
          exact ⟨s_atom hR hrel he ‹_› ‹_› hk h hop, by simp [AOp.quiet]⟩
      · cases hc
    · split at hc
      · cases hc; simp [AOp.eval] at h
      · cases hc
    · rename_i hcal
      split at hc
      · rename_i t a h0 hl
        split at hc
        · cases hc; exact both (s_lenS hrel he ‹_› ‹_› h hop hcal h0 hl)
        · cases hc; exact both (s_lenL hrel he ‹_› ‹_› h hop hcal h0 hl)
        · cases hc; exact both (s_lenM hrel he ‹_› ‹_› h hop hcal h0 hl)
        · rename_i n el x hu hx
          cases hc
          simp only [AOp.eval] at h
          cases h
          refine both (y_builtinS (x := .int .i64 n) hop hcal (fun cs => rfl) ?_ (Ext.refl _) hrel rfl)
          rw [args1 hl]
          unfold Builtin.len_
          simp [h0, und_ok hu, goInt]
        · cases hc
      · cases hc
    · rename_i hcal
      split at hc
      · rename_i t a h0 hl
        split at hc
        · cases hc; exact both (s_cap hrel he ‹_› ‹_› h hop hcal h0 hl)
        · cases hc
      · cases hc
    · rename_i hcal
      split at hc
      · rename_i t u a b h0 h1 hl
        split at hc
        · split at hc
          · split at hc
            · rename_i hzs
              cases hc
              simp only [AOp.eval] at h
              obtain ⟨ρ', w', x, q1, q2, q3, q4⟩ := s_append (ty := o.type) hR hrel he ‹_› ‹_› ‹_› ‹_› (.inr ⟨_, rfl⟩) ‹_› ‹_› ‹_› hzs h0 h1 h
              exact ⟨y_builtin hop hcal (fun cs => rfl) (by rw [args2 hl]; exact q1) q2 q3 q4, by simp [AOp.quiet]⟩
            · cases hc
          · cases hc
        · split at hc
          · split at hc
            · rename_i hzs
              cases hc
              simp only [AOp.eval] at h
              obtain ⟨ρ', w', x, q1, q2, q3, q4⟩ := s_append (ty := o.type) hR hrel he ‹_› ‹_› ‹_› ‹_› (.inl rfl) ‹_› ‹_› ‹_› hzs h0 h1 h
              exact ⟨y_builtin hop hcal (fun cs => rfl) (by rw [args2 hl]; exact q1) q2 q3 q4, by simp [AOp.quiet]⟩
            · cases hc
          · cases hc
        · cases hc
      · cases hc
    · rename_i hcal
      split at hc
      · rename_i t a b h0 hl
        split at hc
        · simp only [Option.map_eq_some_iff] at hc
          obtain ⟨s, hs, rfl⟩ := hc
          exact ⟨s_copy hR hrel he ‹_› ‹_› ‹_› hs h hop hcal h0 hl, by simp [AOp.quiet]⟩
        · cases hc
      · cases hc
    · rename_i hcal
      split at hc
      · rename_i t a h0 hl
        split at hc
        · split at hc
          · cases hc; exact ⟨s_clearS hrel he ‹_› ‹_› ‹_› h hop hcal h0 hl, by simp [AOp.quiet]⟩
          · cases hc
        · cases hc; exact ⟨s_mapClear hrel he ‹_› ‹_› h hop hcal h0 hl, by simp [AOp.quiet]⟩
        · cases hc
      · cases hc
    · rename_i hcal
      split at hc
      · rename_i t a b h0 hl
        split at hc
        · cases hc; exact ⟨s_mapDel hrel he ‹_› ‹_› ‹_› h hop hcal h0 hl, by simp [AOp.quiet]⟩
        · cases hc
      · cases hc
    · rename_i hcal
      split at hc
      · rename_i hl
        cases hc; exact both (s_minI hrel he h hop hcal hl)
      · cases hc
    · rename_i hcal
      split at hc
      · rename_i hl
        cases hc; exact both (s_maxI hrel he h hop hcal hl)
      · cases hc
    · cases hc
  | go c => rw [hop] at hc; simp [compOp] at hc
  | defer c => rw [hop] at hc; simp [compOp] at hc
  | panic x => rw [hop] at hc; simp [compOp] at hc
  | send c x => rw [hop] at hc; simp [compOp] at hc
  | recv t c b => rw [hop] at hc; simp [compOp] at hc
  | select c b => rw [hop] at hc; simp [compOp] at hc


theorem callFunc_run {f : FuncId} (hb : bodied P f = true) (args : Array Value) : (callFunc f args).run P w = .ok (.enter f args) w := by
  unfold bodied at hb
  split at hb
  · rename_i fn hfn
    simp only [Bool.and_eq_true, bne_iff_ne, ne_eq] at hb
    have h3 : fn.body.isNone = false := by cases h : fn.body with
      | none => rw [h] at hb; simp at hb
      | some c => rfl
    unfold callFunc
    simp only [Sem.run_bind, run_program, Result.andThen_ok, hfn, beq_iff_eq, Sem.run_ite]
    rw [if_neg hb.2, h3]
    rfl
  · cases hb

/-- A call of a Go function is entered. -/
theorem call_sound (he : EvOk ρ e ev) {o : Oper} {f : FuncId} {xs : List X} (hc : compOp P o.op = some (.call f xs)) :
    ∃ args, renL ρ (xs.map (X.ev e)) = some args ∧ (execOp ev o).run P w = .ok (.enter f args.toArray) w := by
  cases hop : o.op <;> rw [hop] at hc <;> simp only [compOp] at hc
  case call c =>
    unfold compCall at hc
    split at hc
    · rename_i g hcal
      split at hc
      · rename_i ys hys
        split at hc
        · rename_i hbod
          cases hc
          refine ⟨(c.args.map ev).toList, by rw [Array.toList_map]; exact cxs_ok he hys, ?_⟩
          simp only [execOp, hop, resolve, hcal, he.func, Deferred.ofValue]
          simp only [Sem.run_bind, Sem.run_pure, Result.andThen_ok, invoke, Array.toArray_toList]
          rw [callFunc_run hbod]
          simp
        · simp only [Option.map_eq_some_iff] at hc
          obtain ⟨_, _, hc⟩ := hc
          cases hc
      · cases hc
    all_goals
      repeat' split at hc
      all_goals first
        | (cases hc; done)
        | (simp only [Option.map_eq_some_iff] at hc; obtain ⟨_, _, hc⟩ := hc; cases hc; done)
        | (rename_i heq; cases heq; done)
  all_goals
    repeat' split at hc
    all_goals first
      | (cases hc; done)
      | (simp only [Option.map_eq_some_iff] at hc; obtain ⟨_, _, hc⟩ := hc; cases hc; done)
      | (rename_i heq; cases heq; done)

/-- A call of a function value: which function, with which arguments. -/
def fnArgs (v : AV) (args : List AV) : Option (FuncId × List AV) :=
  match v with
  | .fn (.func f) first captured => some (f, first ++ args ++ captured)
  | _ => none

theorem callv_sound (he : EvOk ρ e ev) {o : Oper} {f : FuncId} {x : X} {xs : List X} {as : List AV} (hc : compOp P o.op = some (.callv x xs)) (hf : fnArgs (x.ev e) (xs.map (X.ev e)) = some (f, as)) (hb : bodied P f = true) :
    ∃ args, renL ρ as = some args ∧ (execOp ev o).run P w = .ok (.enter f args.toArray) w := by
  cases hop : o.op <;> rw [hop] at hc <;> simp only [compOp] at hc
  case call c =>
    unfold compCall at hc
    split at hc
    · repeat' split at hc
      all_goals first
        | (cases hc; done)
        | (simp only [Option.map_eq_some_iff] at hc; obtain ⟨_, _, hc⟩ := hc; cases hc; done)
    · rename_i t hcal
      split at hc
      · rename_i ys hys
        cases hc
        unfold fnArgs at hf
        split at hf
        · rename_i g first captured hx
          cases hf
          have h1 := he.tmp t
          simp only [X.ev] at hx
          rw [hx] at h1
          simp only [ren] at h1
          split at h1
          · rename_i A C hA hC
            simp only [Option.some.injEq] at h1
            have h2 := cxs_ok he hys
            refine ⟨A ++ (c.args.map ev).toList ++ C, renL_append (renL_append hA (by rw [Array.toList_map]; exact h2)) hC, ?_⟩
            simp only [execOp, hop, resolve, hcal, ← h1, Deferred.ofValue]
            simp only [Sem.run_bind, Sem.run_pure, Result.andThen_ok, invoke]
            rw [callFunc_run hb]
            congr 2
            apply Array.ext'
            simp
          · cases h1
        · cases hf
      · cases hc
    all_goals
      repeat' split at hc
      all_goals first
        | (cases hc; done)
        | (simp only [Option.map_eq_some_iff] at hc; obtain ⟨_, _, hc⟩ := hc; cases hc; done)
        | (rename_i heq; cases heq; done)
  all_goals
    repeat' split at hc
    all_goals first
      | (cases hc; done)
      | (simp only [Option.map_eq_some_iff] at hc; obtain ⟨_, _, hc⟩ := hc; cases hc; done)
      | (rename_i heq; cases heq; done)
end
end Am
