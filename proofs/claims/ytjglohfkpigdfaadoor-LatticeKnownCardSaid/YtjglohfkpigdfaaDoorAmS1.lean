/- The operations are sound: part 1. -/
import Derived.Test.YtjglohfkpigdfaaDoorAmOps
import Derived.Laws.Small
set_option linter.unusedSimpArgs false
set_option linter.unusedVariables false
set_option linter.unusedSectionVars false
set_option linter.unnecessarySimpa false
namespace Am
open Go Go.RowKit

structure EvOk (ρ : Ren) (e : Env) (ev : Operand → Value) : Prop where
  tmp : ∀ t, ren ρ (e t) = some (ev (.tmp t))
  const : ∀ v, ev (.const v) = v
  func : ∀ f, ev (.func f) = .func (.func f) #[] #[]
  glob : ∀ g, ev (.global g) = .pointer (some ⟨g, 0, none⟩)

def Yields (base : World) (ρ : Ren) (r : Result Next) (v : AV) (H' : AH) : Prop :=
  ∃ ρ' w' x, (r = .ok (.value x) w' ∨ (r = .ok .skip w' ∧ x = Go.undef)) ∧ Ext ρ ρ' ∧ Rel base ρ' H' w' ∧ ren ρ' v = some x

theorem Yields.same {base : World} {ρ : Ren} {H : AH} {w : World} (h : Rel base ρ H w) {v : AV} {x : Value} (hx : ren ρ v = some x) : Yields base ρ (.ok (.value x) w) v H :=
  ⟨ρ, w, x, .inl rfl, Ext.refl _, h, hx⟩

/-- What an operation yields that only looks. -/
def YieldsS (ρ : Ren) (w : World) (H : AH) (r : Result Next) (v : AV) (H' : AH) : Prop :=
  H' = H ∧ ∃ x, r = .ok (.value x) w ∧ ren ρ v = some x

theorem YieldsS.same {base : World} {ρ : Ren} {H : AH} {w : World} (_ : Rel base ρ H w) {v : AV} {x : Value} (hx : ren ρ v = some x) : YieldsS ρ w H (.ok (.value x) w) v H :=
  ⟨rfl, x, rfl, hx⟩

theorem YieldsS.toY {base : World} {ρ : Ren} {H H' : AH} {w : World} {r : Result Next} {v : AV} (hrel : Rel base ρ H w) (h : YieldsS ρ w H r v H') : Yields base ρ r v H' := by
  obtain ⟨rfl, x, rfl, hx⟩ := h
  exact Yields.same hrel hx

theorem absC0_ok {v : Value} {a : AV} (h : absC0 v = some a) (ρ : Ren) : ren ρ a = some v := by
  unfold absC0 at h
  split at h <;> cases h <;> first | rfl | simp [ren]

theorem absC0L_ok : ∀ {vs : List Value} {as : List AV}, absC0L vs = some as → ∀ ρ, renL ρ as = some vs
  | [], as, h, ρ => by simp only [absC0L] at h; cases h; rfl
  | v :: vs, as, h, ρ => by
    simp only [absC0L] at h
    split at h
    · cases h; exact renL_cons_mk (absC0_ok ‹_› ρ) (absC0L_ok ‹_› ρ)
    · cases h

theorem absC_ok {v : Value} {a : AV} (h : absC v = some a) (ρ : Ren) : ren ρ a = some v := by
  unfold absC at h
  split at h
  · simp only [Option.map_eq_some_iff] at h
    obtain ⟨l, hl, rfl⟩ := h
    simp [ren, absC0L_ok hl ρ]
  · simp only [Option.map_eq_some_iff] at h
    obtain ⟨l, hl, rfl⟩ := h
    simp [ren, absC0L_ok hl ρ]
  · exact absC0_ok h ρ

section
variable {P : Program} {R : Ro} {base : World} {ρ : Ren} {H H' : AH} {w : World} {e : Env} {ev : Operand → Value}

theorem cx_ok (he : EvOk ρ e ev) {o : Operand} {x : X} (h : cx o = some x) : ren ρ (x.ev e) = some (ev o) := by
  cases o with
  | tmp t => simp only [cx] at h; cases h; exact he.tmp t
  | const v =>
    simp only [cx, Option.map_eq_some_iff] at h
    obtain ⟨a, ha, rfl⟩ := h
    rw [he.const]; exact absC_ok ha ρ
  | global g => simp only [cx] at h; cases h; rw [he.glob]; simp [X.ev, ren, Loc.addr]
  | func f => simp only [cx] at h; cases h; rw [he.func]; simp [X.ev, ren, renL]

theorem cxs_ok (he : EvOk ρ e ev) : ∀ {os : List Operand} {xs : List X}, cxs os = some xs → renL ρ (xs.map (X.ev e)) = some (os.map ev)
  | [], xs, h => by simp only [cxs] at h; cases h; rfl
  | o :: os, xs, h => by
    simp only [cxs] at h
    split at h
    · cases h; exact renL_cons_mk (cx_ok he ‹_›) (cxs_ok he ‹_›)
    · cases h

theorem cxp_ok (he : EvOk ρ e ev) : ∀ {os : List (Nat × Operand)} {xs : List (Nat × X)}, cxp os = some xs → xs.map (·.1) = os.map (·.1) ∧ renL ρ (xs.map fun p => p.2.ev e) = some (os.map fun p => ev p.2)
  | [], xs, h => by simp only [cxp] at h; cases h; exact ⟨rfl, rfl⟩
  | (i, o) :: os, xs, h => by
    simp only [cxp] at h
    split at h
    · cases h
      obtain ⟨h1, h2⟩ := cxp_ok he (os := os) ‹_›
      exact ⟨by simp [h1], renL_cons_mk (cx_ok he ‹_›) h2⟩
    · cases h

/-! ### Taking values apart -/
theorem ren_bool {b : Bool} {x : Value} (h : ren ρ (.bool b) = some x) : x = .bool b := by simpa [ren] using h.symm
theorem ren_int {k : IntKind} {n : Int} {x : Value} (h : ren ρ (.int k n) = some x) : x = .int k n := by simpa [ren] using h.symm
theorem ren_str {s : List UInt8} {x : Value} (h : ren ρ (.str s) = some x) : x = .string ⟨⟨s⟩⟩ := by simpa [ren] using h.symm
theorem ren_ptr {l : Loc} {off : Nat} {x : Value} (h : ren ρ (.ptr l off) = some x) : ∃ a, l.addr ρ off = some a ∧ x = .pointer (some a) := by
  simp only [ren, Option.map_eq_some_iff] at h
  obtain ⟨a, ha, rfl⟩ := h; exact ⟨a, ha, rfl⟩
theorem ren_slice {l : Loc} {off len : Nat} {c : Cap} {x : Value} (h : ren ρ (.slice l off len c) = some x) : ∃ a n, l.addr ρ off = some a ∧ c.num ρ l = some n ∧ x = .slice (some a) len n := by
  simp only [ren] at h
  split at h
  · cases h; exact ⟨_, _, ‹_›, ‹_›, rfl⟩
  · cases h
theorem ren_agg {cs : List AV} {x : Value} (h : ren ρ (.agg cs) = some x) : ∃ l, renL ρ cs = some l ∧ x = .agg l.toArray := by
  simp only [ren, Option.map_eq_some_iff] at h
  obtain ⟨a, ha, rfl⟩ := h; exact ⟨a, ha, rfl⟩
theorem ren_tuple {cs : List AV} {x : Value} (h : ren ρ (.tuple cs) = some x) : ∃ l, renL ρ cs = some l ∧ x = .tuple l.toArray := by
  simp only [ren, Option.map_eq_some_iff] at h
  obtain ⟨a, ha, rfl⟩ := h; exact ⟨a, ha, rfl⟩
theorem ren_map {i : Nat} {x : Value} (h : ren ρ (.map i) = some x) : ∃ p, ρ[i]? = some p ∧ x = .map (some p.blk) := by
  simp only [ren, Option.map_eq_some_iff] at h
  obtain ⟨a, ha, rfl⟩ := h; exact ⟨a, ha, rfl⟩

theorem cells_ren {v : AV} {x : Value} (h : ren ρ v = some x) : renL ρ v.cells = some x.cells.toList := by
  cases v with
  | agg cs => obtain ⟨l, hl, rfl⟩ := ren_agg h; simpa [AV.cells, Value.cells] using hl
  | bool b => obtain rfl := ren_bool h; simp [AV.cells, Value.cells, renL, ren]
  | int k n => obtain rfl := ren_int h; simp [AV.cells, Value.cells, renL, ren]
  | str s => obtain rfl := ren_str h; simp [AV.cells, Value.cells, renL, ren]
  | ptr l off => obtain ⟨a, _, rfl⟩ := ren_ptr h; exact renL_cons_mk h rfl
  | nilptr => simp only [ren] at h; cases h; exact renL_cons_mk rfl rfl
  | slice l off n c => obtain ⟨a, m, _, _, rfl⟩ := ren_slice h; exact renL_cons_mk h rfl
  | nilslice => simp only [ren] at h; cases h; exact renL_cons_mk rfl rfl
  | map i => obtain ⟨a, _, rfl⟩ := ren_map h; exact renL_cons_mk h rfl
  | nilmap => simp only [ren] at h; cases h; exact renL_cons_mk rfl rfl
  | fn f a c =>
    have h' := h
    simp only [ren] at h'
    split at h'
    · cases h'; exact renL_cons_mk h rfl
    · cases h'
  | nilfn => simp only [ren] at h; cases h; exact renL_cons_mk rfl rfl
  | iface t v =>
    have h' := h
    simp only [ren, Option.map_eq_some_iff] at h'
    obtain ⟨p, _, rfl⟩ := h'
    exact renL_cons_mk h rfl
  | niface => simp only [ren] at h; cases h; exact renL_cons_mk rfl rfl
  | tuple vs => obtain ⟨l, hl, rfl⟩ := ren_tuple h; exact renL_cons_mk h rfl

/-- A new block of cells. -/
theorem Rel.newCells (h : Rel base ρ H w) {c : List AV} {C : List Value} (hC : renL ρ c = some C) (t : TypeId) (sh ecap n : Nat) (hsh : sh = 0) :
    Rel base (ρ ++ [⟨w.heap.size, sh, ecap⟩]) (H ++ [.cells c t]) { w with heap := w.heap.push (.cells C.toArray t (0, 0)), drawn := n } := by
  subst hsh
  refine h.new _ _ _ _ n ⟨C.toArray, C, by simp, renL_ext (Ext.mk _ _) hC, by simp⟩

theorem addr_new (ρ : Ren) (p : Slot) (off : Nat) (H : AH) (hl : ρ.length = H.length) : (Loc.mu H.length).addr (ρ ++ [p]) off = some ⟨p.blk, p.sh + off, none⟩ := by
  simp [Loc.addr, ← hl]

theorem s_mv (hrel : Rel base ρ H w) (he : EvOk ρ e ev) {o : Operand} {x : X} (hc : cx o = some x) : YieldsS ρ w H (.ok (.value (ev o)) w) (x.ev e) H :=
  YieldsS.same hrel (cx_ok he hc)

theorem s_pick (hrel : Rel base ρ H w) (he : EvOk ρ e ev) {c a b : Operand} {c' a' b' : X} (hc : cx c = some c') (ha : cx a = some a') (hb : cx b = some b') {v : AV}
    (h : (AOp.pick c' a' b').eval P R e H = some (v, H')) {o : Oper} (ho : o.op = .pick c a b) : YieldsS ρ w H ((execOp ev o).run P w) v H' := by
  simp only [AOp.eval] at h
  split at h
  · rename_i t ht
    cases h
    have h1 := cx_ok he hc
    rw [ht] at h1
    have h1 := ren_bool h1
    simp only [execOp, ho, h1, asBool]
    simp
    cases t
    · exact YieldsS.same hrel (cx_ok he hb)
    · exact YieldsS.same hrel (cx_ok he ha)
  · cases h

theorem s_box (hrel : Rel base ρ H w) (he : EvOk ρ e ev) {t : TypeId} {a : Operand} {a' : X} (ha : cx a = some a') {v : AV}
    (h : (AOp.box t a').eval P R e H = some (v, H')) {o : Oper} (ho : o.op = .box t a) : Yields base ρ ((execOp ev o).run P w) v H' := by
  simp only [AOp.eval] at h
  split at h
  · cases h
    have h1 := cells_ren (cx_ok he ha)
    refine ⟨_, _, .pointer (some ⟨w.heap.size, 0, none⟩), .inl ?_, Ext.mk ρ [⟨w.heap.size, 0, 0⟩], hrel.newCells h1 t 0 0 w.drawn rfl, ?_⟩
    · simp [execOp, ho, Instr.box, newVar, newRow]
    · simp [ren, addr_new ρ ⟨w.heap.size, 0, 0⟩ 0 H hrel.len]
  · cases h

theorem zeroC_ok {t : TypeId} {z : AV} (h : zeroC P t = some z) (ρ : Ren) (w : World) : ∃ x, ren ρ z = some x ∧ (zeroValue t).run P w = .ok x w := by
  unfold zeroC at h
  split at h
  · rename_i i hi
    simp only [Option.bind_eq_some_iff] at h
    obtain ⟨x, hx, ha⟩ := h
    exact ⟨x, absC_ok ha ρ, by simp [zeroValue, typeInfo, hi, hx]⟩
  · cases h

theorem sizeC_ok {t : TypeId} {n : Nat} (h : sizeC P t = some n) (w : World) : (Go.sizeOf t).run P w = .ok n w := by
  simp only [sizeC, Option.map_eq_some_iff] at h
  obtain ⟨i, hi, rfl⟩ := h
  simp [Go.sizeOf, typeInfo, hi]

theorem und_ok {t : TypeId} {d : TypeDesc} (h : P.underlying t = some d) (w : World) : (underlying t).run P w = .ok d w := by
  simp [underlying, h]

theorem aggC_ok {t : TypeId} {b : Bool} (h : aggC P t = some b) (w : World) : (isAgg t).run P w = .ok b w := by
  unfold aggC at h
  split at h <;> cases h <;> simp [isAgg, underlying, *]

theorem s_alloc (hrel : Rel base ρ H w) {t : TypeId} {z : AV} (hz : zeroC P t = some z) {v : AV}
    (h : (AOp.alloc t z.cells).eval P R e H = some (v, H')) {o : Oper} (ho : o.op = .alloc t) : Yields base ρ ((execOp ev o).run P w) v H' := by
  simp only [AOp.eval] at h
  split at h
  · cases h
    obtain ⟨x, hx, hrun⟩ := zeroC_ok hz ρ w
    refine ⟨_, _, .pointer (some ⟨w.heap.size, 0, none⟩), .inl ?_, Ext.mk ρ [⟨w.heap.size, 0, 0⟩], hrel.newCells (cells_ren hx) t 0 0 w.drawn rfl, ?_⟩
    · simp [execOp, ho, Instr.alloc, newVar, newRow, hrun]
    · simp [ren, addr_new ρ ⟨w.heap.size, 0, 0⟩ 0 H hrel.len]
  · cases h

theorem s_load (hR : ROk R base) (hrel : Rel base ρ H w) (he : EvOk ρ e ev) {t : TypeId} {a : Operand} {a' : X} (ha : cx a = some a') {n : Option Nat} {b : Bool} (hb : aggC P t = some b)
    (hn : (b = true ∧ ∃ m, n = some m ∧ sizeC P t = some m) ∨ (b = false ∧ n = none)) {v : AV}
    (h : (AOp.load n a').eval P R e H = some (v, H')) {o : Oper} (ho : o.op = .load t a) : YieldsS ρ w H ((execOp ev o).run P w) v H' := by
  simp only [AOp.eval] at h
  split at h
  · rename_i l off hx
    have h1 := cx_ok he ha
    rw [hx] at h1
    obtain ⟨A, hA, h1⟩ := ren_ptr h1
    rcases hn with ⟨rfl, m, rfl, hm⟩ | ⟨rfl, rfl⟩
    · simp only [Option.map_eq_some_iff] at h
      obtain ⟨vs, hvs, h⟩ := h
      cases h
      obtain ⟨V, hV, hlen, hrun⟩ := readN_sound hR hrel hvs hA
      simp only [execOp, ho, Instr.loadAt, h1, Instr.sureAddr]
      simp [loadVar, aggC_ok hb, sizeC_ok hm, loadCells, hrun]
      exact YieldsS.same hrel (by simp [ren, hV])
    · simp only [Option.map_eq_some_iff] at h
      obtain ⟨u, hu, h⟩ := h
      cases h
      obtain ⟨x, hx, hcell⟩ := read1_sound hR hrel hu hA
      simp only [execOp, ho, Instr.loadAt, h1, Instr.sureAddr]
      simp [loadVar, aggC_ok hb, hcell]
      exact YieldsS.same hrel hx
  · cases h

theorem s_store (hrel : Rel base ρ H w) (he : EvOk ρ e ev) {t : TypeId} {a b : Operand} {a' b' : X} (ha : cx a = some a') (hb : cx b = some b') {n : Nat} (hn : sizeC P t = some n) {v : AV}
    (h : (AOp.store n a' b').eval P R e H = some (v, H')) {o : Oper} (ho : o.op = .store t a b) : Yields base ρ ((execOp ev o).run P w) v H' := by
  simp only [AOp.eval] at h
  split at h
  · rename_i i off hx
    split at h
    · rename_i hsz
      simp only [Option.map_eq_some_iff] at h
      obtain ⟨H1, hH, h⟩ := h
      cases h
      have h1 := cx_ok he ha
      rw [hx] at h1
      obtain ⟨A, hA, h1⟩ := ren_ptr h1
      simp only [Loc.addr, Option.map_eq_some_iff] at hA
      obtain ⟨p, hp, rfl⟩ := hA
      have h2 := cells_ren (cx_ok he hb)
      obtain ⟨w', hrun, hrel'⟩ := writeN_sound hrel hH h2 hp
      have hl := renL_length h2
      have hsz2 : (ev b).cells.size = n := by simp at hl; omega
      refine ⟨ρ, w', Go.undef, .inr ⟨?_, rfl⟩, Ext.refl _, hrel', rfl⟩
      simp only [execOp, ho, Instr.storeAt, h1, Instr.sureAddr]
      simp [storeVar, sizeC_ok hn, hsz2, hrun]
    · cases h
  · cases h

theorem s_nilck (hrel : Rel base ρ H w) (he : EvOk ρ e ev) {a : Operand} {a' : X} (ha : cx a = some a') {v : AV}
    (h : (AOp.nilck a').eval P R e H = some (v, H')) {o : Oper} (ho : o.op = .nilCheck a) : YieldsS ρ w H ((execOp ev o).run P w) v H' := by
  have h1 := cx_ok he ha
  simp only [AOp.eval] at h
  split at h
  · rename_i l off hx
    cases h
    rw [hx] at h1
    obtain ⟨A, hA, h2⟩ := ren_ptr h1
    rw [h2] at h1
    simp only [execOp, ho, h2]
    exact YieldsS.same hrel h1
  · rename_i f b c hx
    cases h
    rw [hx] at h1
    have h2 := h1
    simp only [ren] at h2
    split at h2
    · simp only [Option.some.injEq] at h2
      simp only [execOp, ho, ← h2]
      rw [← h2] at h1
      exact YieldsS.same hrel h1
    · cases h2
  · cases h

end
end Am
