/- The operations are sound: part 1. -/
import Derived.Test.YtbcfhiohdamcjaaAmOps
import Derived.Laws.Small
import Derived.Laws.Strings
import Derived.Laws.Strings2
import Derived.Lib.AppendZerosOnto
import Derived.Laws.LoneSync
import Derived.Lib.Overlaps
set_option linter.unusedSimpArgs false
set_option linter.unusedVariables false
set_option linter.unusedSectionVars false
set_option linter.unnecessarySimpa false
namespace Am
open Go Go.RowKit

structure EvOk (ρ : Ren) (e : Env) (ev : Operand → Value) : Prop where
  tmp : ∀ t, ren ρ (e t) = some (ev (.tmp t))
  const : ∀ v, ev (.const v) = v
  func : ∀ f, ev (.func f) = .func (.func f) #[] #[]
  glob : ∀ g, ev (.global g) = .pointer (some ⟨g, 0, none⟩)

def Yields (base : World) (ρ : Ren) (r : Result Next) (v : AV) (H' : AH) : Prop :=
  ∃ ρ' w' x, (r = .ok (.value x) w' ∨ (r = .ok .skip w' ∧ x = Go.undef)) ∧ Ext ρ ρ' ∧ Rel base ρ' H' w' ∧ ren ρ' v = some x

theorem Yields.same {base : World} {ρ : Ren} {H : AH} {w : World} (h : Rel base ρ H w) {v : AV} {x : Value} (hx : ren ρ v = some x) : Yields base ρ (.ok (.value x) w) v H :=
  ⟨ρ, w, x, .inl rfl, Ext.refl _, h, hx⟩

/-- What an operation yields that only looks. -/
def YieldsS (ρ : Ren) (w : World) (H : AH) (r : Result Next) (v : AV) (H' : AH) : Prop :=
  H' = H ∧ ∃ x, r = .ok (.value x) w ∧ ren ρ v = some x

theorem YieldsS.same {base : World} {ρ : Ren} {H : AH} {w : World} (_ : Rel base ρ H w) {v : AV} {x : Value} (hx : ren ρ v = some x) : YieldsS ρ w H (.ok (.value x) w) v H :=
  ⟨rfl, x, rfl, hx⟩

theorem YieldsS.toY {base : World} {ρ : Ren} {H H' : AH} {w : World} {r : Result Next} {v : AV} (hrel : Rel base ρ H w) (h : YieldsS ρ w H r v H') : Yields base ρ r v H' := by
  obtain ⟨rfl, x, rfl, hx⟩ := h
  exact Yields.same hrel hx

theorem absC0_ok {v : Value} {a : AV} (h : absC0 v = some a) (ρ : Ren) : ren ρ a = some v := by
  unfold absC0 at h
  split at h <;> cases h <;> first | rfl | simp [ren]

theorem absC0L_ok : ∀ {vs : List Value} {as : List AV}, absC0L vs = some as → ∀ ρ, renL ρ as = some vs
  | [], as, h, ρ => by simp only [absC0L] at h; cases h; rfl
  | v :: vs, as, h, ρ => by
    simp only [absC0L] at h
    split at h
    · cases h; exact renL_cons_mk (absC0_ok ‹_› ρ) (absC0L_ok ‹_› ρ)
    · cases h

theorem absC_ok {v : Value} {a : AV} (h : absC v = some a) (ρ : Ren) : ren ρ a = some v := by
  unfold absC at h
  split at h
  · simp only [Option.map_eq_some_iff] at h
    obtain ⟨l, hl, rfl⟩ := h
    simp [ren, absC0L_ok hl ρ]
  · simp only [Option.map_eq_some_iff] at h
    obtain ⟨l, hl, rfl⟩ := h
    simp [ren, absC0L_ok hl ρ]
  · exact absC0_ok h ρ

section
variable {P : Program} {R : Ro} {base : World} {ρ : Ren} {H H' : AH} {w : World} {e : Env} {ev : Operand → Value}

theorem cx_ok (he : EvOk ρ e ev) {o : Operand} {x : X} (h : cx o = some x) : ren ρ (x.ev e) = some (ev o) := by
  cases o with
  | tmp t => simp only [cx] at h; cases h; exact he.tmp t
  | const v =>
    simp only [cx, Option.map_eq_some_iff] at h
    obtain ⟨a, ha, rfl⟩ := h
    rw [he.const]; exact absC_ok ha ρ
  | global g => simp only [cx] at h; cases h; rw [he.glob]; simp [X.ev, ren, Loc.addr]
  | func f => simp only [cx] at h; cases h; rw [he.func]; simp [X.ev, ren, renL]

theorem cxs_ok (he : EvOk ρ e ev) : ∀ {os : List Operand} {xs : List X}, cxs os = some xs → renL ρ (xs.map (X.ev e)) = some (os.map ev)
  | [], xs, h => by simp only [cxs] at h; cases h; rfl
  | o :: os, xs, h => by
    simp only [cxs] at h
    split at h
    · cases h; exact renL_cons_mk (cx_ok he ‹_›) (cxs_ok he ‹_›)
    · cases h

theorem cxp_ok (he : EvOk ρ e ev) : ∀ {os : List (Nat × Operand)} {xs : List (Nat × X)}, cxp os = some xs → xs.map (·.1) = os.map (·.1) ∧ renL ρ (xs.map fun p => p.2.ev e) = some (os.map fun p => ev p.2)
  | [], xs, h => by simp only [cxp] at h; cases h; exact ⟨rfl, rfl⟩
  | (i, o) :: os, xs, h => by
    simp only [cxp] at h
    split at h
    · cases h
      obtain ⟨h1, h2⟩ := cxp_ok he (os := os) ‹_›
      exact ⟨by simp [h1], renL_cons_mk (cx_ok he ‹_›) h2⟩
    · cases h

/-! ### Taking values apart -/
theorem ren_bool {b : Bool} {x : Value} (h : ren ρ (.bool b) = some x) : x = .bool b := by simpa [ren] using h.symm
theorem ren_int {k : IntKind} {n : Int} {x : Value} (h : ren ρ (.int k n) = some x) : x = .int k n := by simpa [ren] using h.symm
theorem ren_str {s : List UInt8} {x : Value} (h : ren ρ (.str s) = some x) : x = .string ⟨⟨s⟩⟩ := by simpa [ren] using h.symm
theorem ren_ptr {l : Loc} {off : Nat} {x : Value} (h : ren ρ (.ptr l off) = some x) : ∃ a, l.addr ρ off = some a ∧ x = .pointer (some a) := by
  simp only [ren, Option.map_eq_some_iff] at h
  obtain ⟨a, ha, rfl⟩ := h; exact ⟨a, ha, rfl⟩
theorem ren_slice {l : Loc} {off len : Nat} {c : Cap} {x : Value} (h : ren ρ (.slice l off len c) = some x) : ∃ a n, l.addr ρ off = some a ∧ c.num ρ l = some n ∧ x = .slice (some a) len n := by
  simp only [ren] at h
  split at h
  · cases h; exact ⟨_, _, ‹_›, ‹_›, rfl⟩
  · cases h
theorem ren_agg {cs : List AV} {x : Value} (h : ren ρ (.agg cs) = some x) : ∃ l, renL ρ cs = some l ∧ x = .agg l.toArray := by
  simp only [ren, Option.map_eq_some_iff] at h
  obtain ⟨a, ha, rfl⟩ := h; exact ⟨a, ha, rfl⟩
theorem ren_tuple {cs : List AV} {x : Value} (h : ren ρ (.tuple cs) = some x) : ∃ l, renL ρ cs = some l ∧ x = .tuple l.toArray := by
  simp only [ren, Option.map_eq_some_iff] at h
  obtain ⟨a, ha, rfl⟩ := h; exact ⟨a, ha, rfl⟩
theorem ren_map {i : Nat} {x : Value} (h : ren ρ (.map i) = some x) : ∃ p, ρ[i]? = some p ∧ x = .map (some p.blk) := by
  simp only [ren, Option.map_eq_some_iff] at h
  obtain ⟨a, ha, rfl⟩ := h; exact ⟨a, ha, rfl⟩

theorem ren_raw {v x : Value} (h : ren ρ (.raw v) = some x) : x = v ∧ v.oneCell' = true := by
  simp only [ren] at h
  split at h
  · cases h; exact ⟨rfl, ‹_›⟩
  · cases h
theorem cells_ren {v : AV} {x : Value} (h : ren ρ v = some x) : renL ρ v.cells = some x.cells.toList := by
  cases v with
  | agg cs => obtain ⟨l, hl, rfl⟩ := ren_agg h; simpa [AV.cells, Value.cells] using hl
  | bool b => obtain rfl := ren_bool h; simp [AV.cells, Value.cells, renL, ren]
  | int k n => obtain rfl := ren_int h; simp [AV.cells, Value.cells, renL, ren]
  | str s => obtain rfl := ren_str h; simp [AV.cells, Value.cells, renL, ren]
  | ptr l off => obtain ⟨a, _, rfl⟩ := ren_ptr h; exact renL_cons_mk h rfl
  | nilptr => simp only [ren] at h; cases h; exact renL_cons_mk rfl rfl
  | slice l off n c => obtain ⟨a, m, _, _, rfl⟩ := ren_slice h; exact renL_cons_mk h rfl
  | nilslice => simp only [ren] at h; cases h; exact renL_cons_mk rfl rfl
  | map i => obtain ⟨a, _, rfl⟩ := ren_map h; exact renL_cons_mk h rfl
  | nilmap => simp only [ren] at h; cases h; exact renL_cons_mk rfl rfl
  | fn f a c =>
    have h' := h
    simp only [ren] at h'
    split at h'
    · cases h'; exact renL_cons_mk h rfl
    · cases h'
  | nilfn => simp only [ren] at h; cases h; exact renL_cons_mk rfl rfl
  | iface t v =>
    have h' := h
    simp only [ren, Option.map_eq_some_iff] at h'
    obtain ⟨p, _, rfl⟩ := h'
    exact renL_cons_mk h rfl
  | niface => simp only [ren] at h; cases h; exact renL_cons_mk rfl rfl
  | raw u =>
    obtain ⟨rfl, hu⟩ := ren_raw h
    have : x.cells.toList = [x] := by cases x <;> first | rfl | cases hu
    rw [this]
    exact renL_cons_mk h rfl
  | tuple vs => obtain ⟨l, hl, rfl⟩ := ren_tuple h; exact renL_cons_mk h rfl

/-- A new block of cells. -/
theorem Rel.newCells (h : Rel base ρ H w) {c : List AV} {C : List Value} (hC : renL ρ c = some C) (t : TypeId) (sh ecap n : Nat) (hsh : sh = 0) :
    Rel base (ρ ++ [⟨w.heap.size, sh, ecap⟩]) (H ++ [.cells c t]) { w with heap := w.heap.push (.cells C.toArray t (0, 0)), drawn := n } := by
  subst hsh
  refine h.new _ _ _ _ n ⟨C.toArray, C, by simp, renL_ext (Ext.mk _ _) hC, by simp⟩

theorem addr_new (ρ : Ren) (p : Slot) (off : Nat) (H : AH) (hl : ρ.length = H.length) : (Loc.mu H.length).addr (ρ ++ [p]) off = some ⟨p.blk, p.sh + off, none⟩ := by
  simp [Loc.addr, ← hl]

theorem s_mv (hrel : Rel base ρ H w) (he : EvOk ρ e ev) {o : Operand} {x : X} (hc : cx o = some x) : YieldsS ρ w H (.ok (.value (ev o)) w) (x.ev e) H :=
  YieldsS.same hrel (cx_ok he hc)

theorem s_pick (hrel : Rel base ρ H w) (he : EvOk ρ e ev) {c a b : Operand} {c' a' b' : X} (hc : cx c = some c') (ha : cx a = some a') (hb : cx b = some b') {v : AV}
    (h : (AOp.pick c' a' b').eval P R e H = some (v, H')) {o : Oper} (ho : o.op = .pick c a b) : YieldsS ρ w H ((execOp ev o).run P w) v H' := by
  simp only [AOp.eval] at h
  split at h
  · rename_i t ht
    cases h
    have h1 := cx_ok he hc
    rw [ht] at h1
    have h1 := ren_bool h1
    simp only [execOp, ho, h1, asBool]
    simp
    cases t
    · exact YieldsS.same hrel (cx_ok he hb)
    · exact YieldsS.same hrel (cx_ok he ha)
  · cases h

theorem s_box (hrel : Rel base ρ H w) (he : EvOk ρ e ev) {t : TypeId} {a : Operand} {a' : X} (ha : cx a = some a') {v : AV}
    (h : (AOp.box t a').eval P R e H = some (v, H')) {o : Oper} (ho : o.op = .box t a) : Yields base ρ ((execOp ev o).run P w) v H' := by
  simp only [AOp.eval] at h
  split at h
  · cases h
    have h1 := cells_ren (cx_ok he ha)
    refine ⟨_, _, .pointer (some ⟨w.heap.size, 0, none⟩), .inl ?_, Ext.mk ρ [⟨w.heap.size, 0, 0⟩], hrel.newCells h1 t 0 0 w.drawn rfl, ?_⟩
    · simp [execOp, ho, Instr.box, newVar, newRow]
    · simp [ren, addr_new ρ ⟨w.heap.size, 0, 0⟩ 0 H hrel.len]
  · cases h

theorem zeroC_ok {t : TypeId} {z : AV} (h : zeroC P t = some z) (ρ : Ren) (w : World) : ∃ x, ren ρ z = some x ∧ (zeroValue t).run P w = .ok x w := by
  unfold zeroC at h
  split at h
  · rename_i i hi
    simp only [Option.bind_eq_some_iff] at h
    obtain ⟨x, hx, ha⟩ := h
    exact ⟨x, absC_ok ha ρ, by simp [zeroValue, typeInfo, hi, hx]⟩
  · cases h

theorem sizeC_ok {t : TypeId} {n : Nat} (h : sizeC P t = some n) (w : World) : (Go.sizeOf t).run P w = .ok n w := by
  simp only [sizeC, Option.map_eq_some_iff] at h
  obtain ⟨i, hi, rfl⟩ := h
  simp [Go.sizeOf, typeInfo, hi]

theorem und_ok {t : TypeId} {d : TypeDesc} (h : P.underlying t = some d) (w : World) : (underlying t).run P w = .ok d w := by
  simp [underlying, h]

theorem aggC_ok {t : TypeId} {b : Bool} (h : aggC P t = some b) (w : World) : (isAgg t).run P w = .ok b w := by
  unfold aggC at h
  split at h <;> cases h <;> simp [isAgg, underlying, *]

theorem s_alloc (hrel : Rel base ρ H w) {t : TypeId} {z : AV} (hz : zeroC P t = some z) {v : AV}
    (h : (AOp.alloc t z.cells).eval P R e H = some (v, H')) {o : Oper} (ho : o.op = .alloc t) : Yields base ρ ((execOp ev o).run P w) v H' := by
  simp only [AOp.eval] at h
  split at h
  · cases h
    obtain ⟨x, hx, hrun⟩ := zeroC_ok hz ρ w
    refine ⟨_, _, .pointer (some ⟨w.heap.size, 0, none⟩), .inl ?_, Ext.mk ρ [⟨w.heap.size, 0, 0⟩], hrel.newCells (cells_ren hx) t 0 0 w.drawn rfl, ?_⟩
    · simp [execOp, ho, Instr.alloc, newVar, newRow, hrun]
    · simp [ren, addr_new ρ ⟨w.heap.size, 0, 0⟩ 0 H hrel.len]
  · cases h

theorem s_load (hR : ROk R base) (hrel : Rel base ρ H w) (he : EvOk ρ e ev) {t : TypeId} {a : Operand} {a' : X} (ha : cx a = some a') {n : Option Nat} {b : Bool} (hb : aggC P t = some b)
    (hn : (b = true ∧ ∃ m, n = some m ∧ sizeC P t = some m) ∨ (b = false ∧ n = none)) {v : AV}
    (h : (AOp.load n a').eval P R e H = some (v, H')) {o : Oper} (ho : o.op = .load t a) : YieldsS ρ w H ((execOp ev o).run P w) v H' := by
  simp only [AOp.eval] at h
  split at h
  · rename_i l off hx
    have h1 := cx_ok he ha
    rw [hx] at h1
    obtain ⟨A, hA, h1⟩ := ren_ptr h1
    rcases hn with ⟨rfl, m, rfl, hm⟩ | ⟨rfl, rfl⟩
    · simp only [Option.map_eq_some_iff] at h
      obtain ⟨vs, hvs, h⟩ := h
      cases h
      obtain ⟨V, hV, hlen, hrun⟩ := readN_sound hR hrel hvs hA
      simp only [execOp, ho, Instr.loadAt, h1, Instr.sureAddr]
      simp [loadVar, aggC_ok hb, sizeC_ok hm, loadCells, hrun]
      exact YieldsS.same hrel (by simp [ren, hV])
    · simp only [Option.map_eq_some_iff] at h
      obtain ⟨u, hu, h⟩ := h
      cases h
      obtain ⟨x, hx, hcell⟩ := read1_sound hR hrel hu hA
      simp only [execOp, ho, Instr.loadAt, h1, Instr.sureAddr]
      simp [loadVar, aggC_ok hb, hcell]
      exact YieldsS.same hrel hx
  · cases h

theorem s_store (hrel : Rel base ρ H w) (he : EvOk ρ e ev) {t : TypeId} {a b : Operand} {a' b' : X} (ha : cx a = some a') (hb : cx b = some b') {n : Nat} (hn : sizeC P t = some n) {v : AV}
    (h : (AOp.store n a' b').eval P R e H = some (v, H')) {o : Oper} (ho : o.op = .store t a b) : Yields base ρ ((execOp ev o).run P w) v H' := by
  simp only [AOp.eval] at h
  split at h
  · rename_i i off hx
    split at h
    · rename_i hsz
      simp only [Option.map_eq_some_iff] at h
      obtain ⟨H1, hH, h⟩ := h
      cases h
      have h1 := cx_ok he ha
      rw [hx] at h1
      obtain ⟨A, hA, h1⟩ := ren_ptr h1
      simp only [Loc.addr, Option.map_eq_some_iff] at hA
      obtain ⟨p, hp, rfl⟩ := hA
      have h2 := cells_ren (cx_ok he hb)
      obtain ⟨w', hrun, hrel'⟩ := writeN_sound hrel hH h2 hp
      have hl := renL_length h2
      have hsz2 : (ev b).cells.size = n := by simp at hl; omega
      refine ⟨ρ, w', Go.undef, .inr ⟨?_, rfl⟩, Ext.refl _, hrel', rfl⟩
      simp only [execOp, ho, Instr.storeAt, h1, Instr.sureAddr]
      simp [storeVar, sizeC_ok hn, hsz2, hrun]
    · cases h
  · cases h

theorem s_nilck (hrel : Rel base ρ H w) (he : EvOk ρ e ev) {a : Operand} {a' : X} (ha : cx a = some a') {v : AV}
    (h : (AOp.nilck a').eval P R e H = some (v, H')) {o : Oper} (ho : o.op = .nilCheck a) : YieldsS ρ w H ((execOp ev o).run P w) v H' := by
  have h1 := cx_ok he ha
  simp only [AOp.eval] at h
  split at h
  · rename_i l off hx
    cases h
    rw [hx] at h1
    obtain ⟨A, hA, h2⟩ := ren_ptr h1
    rw [h2] at h1
    simp only [execOp, ho, h2]
    exact YieldsS.same hrel h1
  · rename_i f b c hx
    cases h
    rw [hx] at h1
    have h2 := h1
    simp only [ren] at h2
    split at h2
    · simp only [Option.some.injEq] at h2
      simp only [execOp, ho, ← h2]
      rw [← h2] at h1
      exact YieldsS.same hrel h1
    · cases h2
  · cases h

end
end Am
namespace Am
open Go Go.RowKit
section
variable {P : Program} {R : Ro} {base : World} {ρ : Ren} {H H' : AH} {w : World} {e : Env} {ev : Operand → Value}

theorem pureRun_run {α : Type} : ∀ {s : Sem α} {a : α}, pureRun P s = some a → ∀ w, s.run P w = .ok a w
  | .pure b, a, h, w => by simp only [pureRun] at h; cases h; rfl
  | .program k, a, h, w => by simp only [pureRun] at h; exact pureRun_run (s := k P) h w
  | .mark _ k, a, h, w => by simp only [pureRun] at h; exact pureRun_run (s := k) h w
  | .load _ _ _, _, h, _ => by simp [pureRun] at h
  | .store _ _ _ _, _, h, _ => by simp [pureRun] at h
  | .new _ _, _, h, _ => by simp [pureRun] at h
  | .shape _ _, _, h, _ => by simp [pureRun] at h
  | .freeze _ _ _, _, h, _ => by simp [pureRun] at h
  | .frozen _ _, _, h, _ => by simp [pureRun] at h
  | .getObj _ _, _, h, _ => by simp [pureRun] at h
  | .setObj _ _ _, _, h, _ => by simp [pureRun] at h
  | .choose _ _, _, h, _ => by simp [pureRun] at h
  | .sys _ _, _, h, _ => by simp [pureRun] at h
  | .halt _, _, h, _ => by simp [pureRun] at h

theorem conc0_ok {v : AV} {x : Value} (h : conc0 v = some x) (ρ : Ren) : ren ρ v = some x := by
  unfold conc0 at h
  split at h <;> cases h <;> rfl
theorem conc0L_ok : ∀ {vs : List AV} {xs : List Value}, conc0L vs = some xs → ∀ ρ, renL ρ vs = some xs
  | [], xs, h, ρ => by simp only [conc0L] at h; cases h; rfl
  | v :: vs, xs, h, ρ => by
    simp only [conc0L] at h
    split at h
    · cases h; exact renL_cons_mk (conc0_ok ‹_› ρ) (conc0L_ok ‹_› ρ)
    · cases h
theorem conc_ok {v : AV} {x : Value} (h : conc v = some x) (ρ : Ren) : ren ρ v = some x := by
  unfold conc at h
  split at h
  · simp only [Option.map_eq_some_iff] at h
    obtain ⟨l, hl, rfl⟩ := h
    simp [ren, conc0L_ok hl ρ]
  · exact conc0_ok h ρ


theorem s_bin (hrel : Rel base ρ H w) (he : EvOk ρ e ev) {op : BinOp} {t yt : TypeId} {a b : Operand} {a' b' : X} (ha : cx a = some a') (hb : cx b = some b') {v : AV}
    (h : (AOp.bin op a' b').eval P R e H = some (v, H')) {o : Oper} (ho : o.op = .binOp op t a b yt) : YieldsS ρ w H ((execOp ev o).run P w) v H' := by
  simp only [AOp.eval, Option.map_eq_some_iff] at h
  obtain ⟨u, hu, h⟩ := h
  cases h
  have h1 := cx_ok he ha
  have h2 := cx_ok he hb
  generalize X.ev e a' = A at *
  generalize X.ev e b' = B at *
  unfold binEv at hu
  split at hu
  · rename_i k x yk y
    have h1 := ren_int h1
    have h2 := ren_int h2
    have hg : (eqGuard op t a b (ev a) (ev b)).run P w = .ok () w := by
      rw [h1, h2]; unfold eqGuard; cases op <;> simp
    have key : ∃ z, ren ρ v = some z ∧ (binOp op t (ev a) (ev b)).run P w = .ok z w := by
      rw [h1, h2]
      split at hu
      · split at hu
        · cases hu
        · cases hu; rename_i hn; exact ⟨_, rfl, by simp [binOp, Op.shift, hn]⟩
      · split at hu
        · cases hu
        · cases hu; rename_i hn; exact ⟨_, rfl, by simp [binOp, Op.shift, hn]⟩
      · split at hu
        · rename_i n1 n2 hk
          subst hk
          unfold intBin at hu
          split at hu <;> first
            | (cases hu; exact ⟨_, rfl, by simp [binOp, Op.intArith, Op.intBits, Op.intCmp]⟩)
            | (split at hu
               · cases hu
               · cases hu; rename_i hz; exact ⟨_, rfl, by simp [binOp, Op.intDiv, hz]⟩)
            | cases hu
        · cases hu
    obtain ⟨z, hz, hrun⟩ := key
    simp only [execOp, ho]
    simp [hg, hrun]
    exact YieldsS.same hrel hz
  · rename_i x y
    have h1 := ren_str h1
    have h2 := ren_str h2
    have hg : (eqGuard op t a b (ev a) (ev b)).run P w = .ok () w := by
      rw [h1, h2]; unfold eqGuard; cases op <;> simp
    have key : ∃ z, ren ρ v = some z ∧ (binOp op t (ev a) (ev b)).run P w = .ok z w := by
      rw [h1, h2]
      have e1 : (ByteArray.mk ⟨x⟩).toList = x := ByteArray.toList_mk x
      have e2 : (ByteArray.mk ⟨y⟩).toList = y := ByteArray.toList_mk y
      unfold strBin at hu
      split at hu <;> first
        | (split at hu
           · rename_i hl
             cases hu
             refine ⟨_, rfl, ?_⟩
             have hs : (ByteArray.mk ⟨x⟩).size = x.length := rfl
             have hs' : (ByteArray.mk ⟨y⟩).size = y.length := rfl
             have hap : ByteArray.mk ⟨x⟩ ++ ByteArray.mk ⟨y⟩ = ByteArray.mk ⟨x ++ y⟩ := by
               apply ByteArray.ext
               rw [ByteArray.data_append]
               simp
             simp only [binOp, Op.stringOp, hap]
             rw [hs, hs', if_neg (by simp only [IntKind.max, IntKind.signed, IntKind.bits]; simp; omega)]
             rfl
           · cases hu)
        | (cases hu; exact ⟨_, rfl, by simp [binOp, Op.stringOp, e1, e2]⟩)
        | cases hu
    obtain ⟨z, hz, hrun⟩ := key
    simp only [execOp, ho]
    simp [hg, hrun]
    exact YieldsS.same hrel hz
  · cases hu

theorem eqGuard_agg (t : TypeId) (x y x' y' : Operand) (A B : Array Value) (op : BinOp) (hop : op = .eql ∨ op = .neq) (w : World) :
    (eqGuard op t x y (.agg A) (.agg B)).run P w = (eqGuard .eql t x' y' (.agg A) (.agg B)).run P w := by
  rcases hop with rfl | rfl <;> rfl


theorem eq_finish (hrel : Rel base ρ H w) {op : BinOp} {t yt : TypeId} {a b : Operand} {neg : Bool}
    (hop : (op = .eql ∧ neg = false) ∨ (op = .neq ∧ neg = true)) {u : Bool} {x y : Value} (hx : ev a = x) (hy : ev b = y)
    (hg : (eqGuard op t a b x y).run P w = .ok () w) (hq : (Op.equal t x y).run P w = .ok u w)
    (hb1 : binOp .eql t x y = Op.equal t x y >>= fun r => pure (.bool r)) (hb2 : binOp .neq t x y = Op.equal t x y >>= fun r => pure (.bool !r))
    {o : Oper} (ho : o.op = .binOp op t a b yt) : YieldsS ρ w H ((execOp ev o).run P w) (.bool (if neg then !u else u)) H := by
  simp only [execOp, ho, hx, hy]
  rcases hop with ⟨rfl, rfl⟩ | ⟨rfl, rfl⟩
  · simp [hg, hb1, hq]; exact YieldsS.same hrel rfl
  · simp [hg, hb2, hq]; exact YieldsS.same hrel rfl

theorem equal_of {t : TypeId} {x y : Value} {u : Bool} (h : ∀ d, (Op.equalIn (d + 1) t x y).run P w = .ok u w) : (Op.equal t x y).run P w = .ok u w := h 9999

set_option maxRecDepth 20000 in
theorem s_eq (hrel : Rel base ρ H w) (he : EvOk ρ e ev) {op : BinOp} {t yt : TypeId} {k : TypeDesc} {a b : Operand} {a' b' : X} (ha : cx a = some a') (hb : cx b = some b') {neg : Bool}
    (hop : (op = .eql ∧ neg = false) ∨ (op = .neq ∧ neg = true)) (hk : P.underlying t = some k) {v : AV}
    (h : (AOp.eq neg t k a' b').eval P R e H = some (v, H')) {o : Oper} (ho : o.op = .binOp op t a b yt) : YieldsS ρ w H ((execOp ev o).run P w) v H' := by
  simp only [AOp.eval, Option.map_eq_some_iff] at h
  obtain ⟨u, hu, h⟩ := h
  cases h
  have h1 := cx_ok he ha
  have h2 := cx_ok he hb
  have hop' : op = .eql ∨ op = .neq := by rcases hop with ⟨h, _⟩ | ⟨h, _⟩ <;> simp [h]
  have hu2 : ∀ w, (underlying t).run P w = .ok k w := und_ok hk
  have hconst : b' = .c .niface → ∃ q, b = .const q := by
    intro h0
    subst h0
    cases b with
    | const q => exact ⟨q, rfl⟩
    | tmp q => simp [cx] at hb
    | func q => simp [cx] at hb
    | global q => simp [cx] at hb
  have key : (∃ ms, k = .interface ms ∧ b' = .c .niface ∧ ((X.ev e a' = .niface ∧ u = true) ∨ ∃ t v, X.ev e a' = .iface t v ∧ u = false)) ∨ eqEv P t k (X.ev e a') (X.ev e b') = some u := by
    unfold eqX at hu
    split at hu
    · rename_i hA
      cases hu
      exact .inl ⟨_, rfl, rfl, .inl ⟨hA, rfl⟩⟩
    · rename_i hA
      cases hu
      exact .inl ⟨_, rfl, rfl, .inr ⟨_, _, hA, rfl⟩⟩
    · exact .inr hu
  rcases key with ⟨ms, rfl, rfl, ⟨hA, rfl⟩ | ⟨t', v', hA, rfl⟩⟩ | hu
  · obtain ⟨q, rfl⟩ := hconst rfl
    rw [hA] at h1
    simp only [ren, X.ev, Option.some.injEq] at h1 h2
    exact eq_finish hrel hop h1.symm h2.symm (by unfold eqGuard; rcases hop' with rfl | rfl <;> simp) (equal_of fun d => by simp [Op.equalIn, hu2]) rfl rfl ho
  · rw [hA] at h1
    simp only [ren, X.ev, Option.some.injEq, Option.map_eq_some_iff] at h1 h2
    obtain ⟨y, _, h1⟩ := h1
    exact eq_finish hrel hop h1.symm h2.symm (by unfold eqGuard; rcases hop' with rfl | rfl <;> simp) (equal_of fun d => by simp [Op.equalIn, hu2]) rfl rfl ho
  clear hconst
  generalize X.ev e a' = A at *
  generalize X.ev e b' = B at *
  unfold eqEv at hu
  split at hu
  case h_1 p q =>
    cases hu
    exact eq_finish hrel hop (ren_bool h1) (ren_bool h2) (by unfold eqGuard; rcases hop' with rfl | rfl <;> simp) (equal_of fun d => by simp [Op.equalIn, hu2]) rfl rfl ho
  case h_2 el =>
    cases hu
    simp only [ren, Option.some.injEq] at h1 h2
    exact eq_finish hrel hop h1.symm h2.symm (by unfold eqGuard; rcases hop' with rfl | rfl <;> simp) (equal_of fun d => by simp [Op.equalIn, hu2]) rfl rfl ho
  case h_3 el l off =>
    cases hu
    simp only [ren, Option.some.injEq] at h1
    obtain ⟨y, _, h2⟩ := ren_ptr h2
    exact eq_finish hrel hop h1.symm h2 (by unfold eqGuard; rcases hop' with rfl | rfl <;> simp) (equal_of fun d => by simp [Op.equalIn, hu2]) rfl rfl ho
  case h_4 el l off =>
    cases hu
    simp only [ren, Option.some.injEq] at h2
    obtain ⟨y, _, h1⟩ := ren_ptr h1
    exact eq_finish hrel hop h1 h2.symm (by unfold eqGuard; rcases hop' with rfl | rfl <;> simp) (equal_of fun d => by simp [Op.equalIn, hu2]) rfl rfl ho
  case h_5 el =>
    cases hu
    simp only [ren, Option.some.injEq] at h1 h2
    exact eq_finish hrel hop h1.symm h2.symm (by unfold eqGuard; rcases hop' with rfl | rfl <;> simp) (equal_of fun d => by simp [Op.equalIn, hu2]) rfl rfl ho
  case h_6 el l off n c =>
    cases hu
    simp only [ren, Option.some.injEq] at h1
    obtain ⟨y, _, _, _, h2⟩ := ren_slice h2
    exact eq_finish hrel hop h1.symm h2 (by unfold eqGuard; rcases hop' with rfl | rfl <;> simp) (equal_of fun d => by simp [Op.equalIn, hu2]) rfl rfl ho
  case h_7 el l off n c =>
    cases hu
    simp only [ren, Option.some.injEq] at h2
    obtain ⟨y, _, _, _, h1⟩ := ren_slice h1
    exact eq_finish hrel hop h1 h2.symm (by unfold eqGuard; rcases hop' with rfl | rfl <;> simp) (equal_of fun d => by simp [Op.equalIn, hu2]) rfl rfl ho
  case h_8 =>
    cases hu
    simp only [ren, Option.some.injEq] at h1 h2
    exact eq_finish hrel hop h1.symm h2.symm (by unfold eqGuard; rcases hop' with rfl | rfl <;> simp) (equal_of fun d => by simp [Op.equalIn, hu2]) rfl rfl ho
  case h_9 =>
    cases hu
    simp only [ren, Option.some.injEq] at h1
    obtain ⟨y, _, h2⟩ := ren_map h2
    exact eq_finish hrel hop h1.symm h2 (by unfold eqGuard; rcases hop' with rfl | rfl <;> simp) (equal_of fun d => by simp [Op.equalIn, hu2]) rfl rfl ho
  case h_10 =>
    cases hu
    simp only [ren, Option.some.injEq] at h2
    obtain ⟨y, _, h1⟩ := ren_map h1
    exact eq_finish hrel hop h1 h2.symm (by unfold eqGuard; rcases hop' with rfl | rfl <;> simp) (equal_of fun d => by simp [Op.equalIn, hu2]) rfl rfl ho
  case h_11 =>
    cases hu
    simp only [ren, Option.some.injEq] at h1 h2
    exact eq_finish hrel hop h1.symm h2.symm (by unfold eqGuard; rcases hop' with rfl | rfl <;> simp) (equal_of fun d => by simp [Op.equalIn, hu2]) rfl rfl ho
  case h_12 =>
    cases hu
    simp only [ren, Option.some.injEq] at h1
    have h2' := h2
    simp only [ren] at h2'
    split at h2'
    · simp only [Option.some.injEq] at h2'
      exact eq_finish hrel hop h1.symm h2'.symm (by unfold eqGuard; rcases hop' with rfl | rfl <;> simp) (equal_of fun d => by simp [Op.equalIn, hu2]) rfl rfl ho
    · cases h2'
  case h_13 =>
    cases hu
    simp only [ren, Option.some.injEq] at h2
    have h1' := h1
    simp only [ren] at h1'
    split at h1'
    · simp only [Option.some.injEq] at h1'
      exact eq_finish hrel hop h1'.symm h2.symm (by unfold eqGuard; rcases hop' with rfl | rfl <;> simp) (equal_of fun d => by simp [Op.equalIn, hu2]) rfl rfl ho
    · cases h1'
  case h_14 p q =>
    split at hu
    · rename_i X Y hX hY
      have e1 := conc_ok hX ρ
      have e2 := conc_ok hY ρ
      rw [e1] at h1; rw [e2] at h2
      simp only [Option.some.injEq] at h1 h2
      obtain ⟨lx, _, rfl⟩ := ren_agg e1
      obtain ⟨ly, _, rfl⟩ := ren_agg e2
      have hrun := pureRun_run hu w
      have hrun2 := pureRun_run hu w
      simp only [Sem.run_bind] at hrun
      cases hg : (eqGuard .eql t (.tmp 0) (.tmp 0) (.agg lx.toArray) (.agg ly.toArray)).run P w with
      | halt x w' => rw [hg] at hrun; simp at hrun
      | ok x w' =>
        rw [hg] at hrun
        simp only [Result.andThen_ok] at hrun
        have hww : w' = w := by
          have : ∀ {α β : Type} {s : Sem α} {f : α → Sem β} {r : β}, pureRun P (s >>= f) = some r → ∃ q, pureRun P s = some q := by
            intro α β s
            induction s with
            | pure a => intro f r _; exact ⟨a, rfl⟩
            | program k ih => intro f r h; exact ih P h
            | mark m k ih => intro f r h; exact ih h
            | _ => intro f r h; simp [Bind.bind, Sem.bind, pureRun] at h
          obtain ⟨q, hq⟩ := this hu
          rw [pureRun_run hq w] at hg
          cases hg; rfl
        subst hww
        exact eq_finish hrel hop h1.symm h2.symm (by rw [eqGuard_agg t a b (.tmp 0) (.tmp 0) _ _ op hop']; exact hg) hrun rfl rfl ho
    · cases hu
  case h_15 => cases hu
end
end Am
namespace Am
open Go Go.RowKit
section
variable {P : Program} {R : Ro} {base : World} {ρ : Ren} {H H' : AH} {w : World} {e : Env} {ev : Operand → Value}

/-- What 'Instr.fill' does to the cells of a part. -/
theorem foldl_set (cs : List Value) : ∀ (i off : Nat) (C : Array Value), (cs.zipIdx i).foldl (fun cs (c, j) => cs.setIfInBounds (off + j) c) C = (cs.zipIdx 0).foldl (fun cs (c, j) => cs.setIfInBounds (off + i + j) c) C := by
  induction cs with
  | nil => intro i off C; rfl
  | cons c cs ih =>
    intro i off C
    simp only [List.zipIdx_cons, List.foldl_cons, Nat.add_zero]
    rw [ih (i + 1) off, ih (0 + 1) (off + i)]
    rfl

theorem foldl_splice : ∀ (cs : List Value) (off : Nat) (C : Array Value), off + cs.length ≤ C.size → ((cs.zipIdx 0).foldl (fun cs (c, j) => cs.setIfInBounds (off + j) c) C).toList = splice C.toList off cs := by
  intro cs
  induction cs with
  | nil => intro off C _; simp [splice_nil]
  | cons c cs ih =>
    intro off C h
    simp at h
    simp only [List.zipIdx_cons, List.foldl_cons, Nat.add_zero]
    rw [foldl_set cs (0 + 1) off]
    have := ih (off + (0 + 1)) (C.setIfInBounds off c) (by simp; omega)
    rw [this, splice_cons _ _ _ _ (by simp; omega)]
    simp

theorem fill_ok {place : Nat → Option (Nat × Nat)} {pl : List (Nat × Nat)} (hp : ∀ i q, pl[i]? = some q → place i = some q) :
    ∀ {ps : List (Nat × AV)} {qs : List (Nat × Value)} {c d : List AV} {C : List Value}, fillA pl c ps = some d → ps.map (·.1) = qs.map (·.1) → renL ρ (ps.map (·.2)) = some (qs.map (·.2)) → renL ρ c = some C →
    ∃ D, Instr.fill place C.toArray qs = some D ∧ renL ρ d = some D.toList
  | [], qs, c, d, C, h, h1, _, hC => by
    simp only [fillA] at h; cases h
    cases qs with
    | nil => exact ⟨C.toArray, rfl, by simpa using hC⟩
    | cons _ _ => simp at h1
  | (i, v) :: ps, qs, c, d, C, h, h1, h2, hC => by
    cases qs with
    | nil => simp at h1
    | cons q qs =>
      obtain ⟨j, x⟩ := q
      simp at h1
      obtain ⟨rfl, h1⟩ := h1
      obtain ⟨y, ys, hy, hys, hcons⟩ := renL_cons h2
      simp at hcons
      obtain ⟨rfl, rfl⟩ := hcons
      simp only [fillA] at h
      split at h
      · cases h
      · rename_i off size hpl
        split at h
        · rename_i hfit
          have hx := cells_ren hy
          have hlx := renL_length hx
          have hlc := renL_length hC
          simp at hlx
          obtain ⟨D, hD, hd⟩ := fill_ok hp h h1 hys (renL_splice hC hx off)
          refine ⟨D, ?_, hd⟩
          simp only [Instr.fill, hp _ _ hpl]
          rw [if_neg (by simp; omega)]
          rw [← hD]
          congr 1
          apply Array.ext'
          have := foldl_splice x.cells.toList off C.toArray (by simp; omega)
          rw [← Array.foldl_toList, Array.toList_zipIdx]
          simpa using this
        · cases h

theorem cxp_fill (he : EvOk ρ e ev) {os : Array (Nat × Operand)} {xs : List (Nat × X)} (h : cxp os.toList = some xs) :
    (xs.map fun p => (p.1, p.2.ev e)).map (·.1) = ((os.map fun (i, x) => (i, ev x)).toList).map (·.1) ∧ renL ρ ((xs.map fun p => (p.1, p.2.ev e)).map (·.2)) = some (((os.map fun (i, x) => (i, ev x)).toList).map (·.2)) := by
  obtain ⟨h1, h2⟩ := cxp_ok he h
  simp only [Array.toList_map, List.map_map]
  exact ⟨h1, h2⟩

theorem placesC_ok : ∀ {fs : List Field} {pl : List (Nat × Nat)}, placesC P fs = some pl → ∀ w, (fs.mapM fun f => (do pure (f.offset, ← Go.sizeOf f.type) : Sem (Nat × Nat))).run P w = .ok pl w
  | [], pl, h, w => by simp only [placesC] at h; cases h; simp
  | f :: fs, pl, h, w => by
    simp only [placesC] at h
    split at h
    · rename_i n l hn hl
      cases h
      have := placesC_ok (fs := fs) hl w
      simp only [List.mapM_cons, Sem.run_bind, sizeC_ok hn, Result.andThen_ok, Sem.run_pure]
      rw [this]
      rfl
    · cases h

theorem s_buildS (hrel : Rel base ρ H w) (he : EvOk ρ e ev) {t : TypeId} {ps : Array (Nat × Operand)} {fs : Array Field} {z : AV} {l : List (Nat × X)} {pl : List (Nat × Nat)}
    (hu : P.underlying t = some (.struct fs)) (hz : zeroC P t = some z) (hl : cxp ps.toList = some l) (hpl : placesC P fs.toList = some pl) {v : AV}
    (h : (AOp.build z.cells pl l).eval P R e H = some (v, H')) {o : Oper} (ho : o.op = .build t ps) : YieldsS ρ w H ((execOp ev o).run P w) v H' := by
  simp only [AOp.eval, Option.map_eq_some_iff] at h
  obtain ⟨c, hc, h⟩ := h
  cases h
  obtain ⟨x, hx, hrun⟩ := zeroC_ok hz ρ w
  obtain ⟨h1, h2⟩ := cxp_fill he hl
  obtain ⟨D, hD, hd⟩ := fill_ok (place := (pl.toArray[·]?)) (fun i q hi => by simpa using hi) hc h1 h2 (cells_ren hx)
  simp only [execOp, ho]
  have hm : (fs.mapM fun f => (do pure (f.offset, ← Go.sizeOf f.type) : Sem (Nat × Nat))).run P w = .ok pl.toArray w := by
    rw [← Array.toArray_toList (xs := fs)]
    rw [List.mapM_toArray, Sem.run_map, placesC_ok hpl w]
    rfl
  simp only [Instr.build]
  simp only [Sem.run_bind, hrun, Result.andThen_ok, und_ok hu, hm]
  simp only [Array.toArray_toList] at hD
  rw [hD]
  simp
  exact YieldsS.same hrel (by simp [ren, hd])

theorem s_un (hrel : Rel base ρ H w) (he : EvOk ρ e ev) {op : UnOp} {t : TypeId} {a : Operand} {a' : X} (ha : cx a = some a') {v : AV}
    (h : (AOp.un op a').eval P R e H = some (v, H')) {o : Oper} (ho : o.op = .unOp op t a) : YieldsS ρ w H ((execOp ev o).run P w) v H' := by
  have h1 := cx_ok he ha
  simp only [AOp.eval] at h
  split at h
  · rename_i b hb
    cases h
    rw [hb] at h1
    have h1 := ren_bool h1
    simp only [execOp, ho, h1]
    simp [Op.unary]
    exact YieldsS.same hrel rfl
  · rename_i k n hb
    cases h
    rw [hb] at h1
    have h1 := ren_int h1
    simp only [execOp, ho, h1]
    simp only [Op.unary, Op.intArith]
    simp
    exact YieldsS.same hrel (by simp [ren])
  · cases h

theorem s_convI (hrel : Rel base ρ H w) (he : EvOk ρ e ev) {s d : TypeId} {k k' : IntKind} {a : Operand} {a' : X} (ha : cx a = some a') (hs : P.underlying s = some (.int k')) (hd : P.underlying d = some (.int k)) {v : AV}
    (h : (AOp.convI k a').eval P R e H = some (v, H')) {o : Oper} (ho : o.op = .convert s d a) : YieldsS ρ w H ((execOp ev o).run P w) v H' := by
  have h1 := cx_ok he ha
  simp only [AOp.eval] at h
  split at h
  · rename_i k2 n hb
    cases h
    rw [hb] at h1
    have h1 := ren_int h1
    simp only [execOp, ho, h1]
    simp [convert, und_ok hs, und_ok hd, Conv.intToInt]
    exact YieldsS.same hrel rfl
  · cases h

theorem bytes_loop (f : Value → ByteArray → Sem (ForInStep ByteArray)) (hf : ∀ n r, f (.int .u8 n) r = pure (.yield (r.push (UInt8.ofNat n.toNat)))) :
    ∀ {c : List AV} {s : List UInt8} {C : List Value}, bytesOf c = some s → renL ρ c = some C → ∀ (acc : List UInt8) (w : World), (forIn C (⟨⟨acc⟩⟩ : ByteArray) f).run P w = .ok ⟨⟨acc ++ s⟩⟩ w
  | [], s, C, h, hC, acc, w => by
    simp only [bytesOf] at h; cases h
    rw [renL_nil hC]; simp
  | a :: c, s, C, h, hC, acc, w => by
    obtain ⟨x, xs, h1, h2, rfl⟩ := renL_cons hC
    unfold bytesOf at h
    split at h
    · rename_i h0; cases h0
    · rename_i n l heq
      cases heq
      split at h
      · simp only [Option.map_eq_some_iff] at h
        obtain ⟨r, hr, rfl⟩ := h
        have h1 := ren_int h1
        subst h1
        have := bytes_loop f hf hr h2 (acc ++ [UInt8.ofNat n.toNat]) w
        simp only [List.append_assoc, List.singleton_append] at this
        simp only [List.forIn_cons, hf, Sem.run_bind, Sem.run_pure, Result.andThen_ok]
        rw [← this]
        congr 1
        congr 1
        simp [ByteArray.push]
      · cases h
    · cases h

theorem s_strOf (hR : ROk R base) (hrel : Rel base ρ H w) (he : EvOk ρ e ev) {s d : TypeId} {el : TypeId} {a : Operand} {a' : X} (ha : cx a = some a') (hs : P.underlying s = some (.slice el)) (hd : P.underlying d = some .string)
    (hel : P.underlying el = some (.int .u8)) {v : AV}
    (h : (AOp.strOf a').eval P R e H = some (v, H')) {o : Oper} (ho : o.op = .convert s d a) : YieldsS ρ w H ((execOp ev o).run P w) v H' := by
  have h1 := cx_ok he ha
  simp only [AOp.eval] at h
  split at h
  · rename_i hb
    cases h
    rw [hb] at h1
    simp only [ren, Option.some.injEq] at h1
    simp only [execOp, ho, ← h1]
    simp [convert, und_ok hs, und_ok hd, und_ok hel, Conv.bytesToString]
    exact YieldsS.same hrel rfl
  · rename_i l off n c hb
    split at h
    · rename_i cs hcs
      simp only [Option.map_eq_some_iff] at h
      obtain ⟨st, hst, h⟩ := h
      cases h
      rw [hb] at h1
      obtain ⟨A, m, hA, _, h1⟩ := ren_slice h1
      obtain ⟨V, hV, hlen, hrun⟩ := readN_sound hR hrel hcs hA
      simp only [execOp, ho, h1]
      simp [convert, und_ok hs, und_ok hd, und_ok hel, Conv.bytesToString, loadCells, hrun]
      have e0 : (ByteArray.empty : ByteArray) = ⟨⟨[]⟩⟩ := rfl
      rw [e0, bytes_loop _ (fun n r => rfl) hst hV [] w]
      simp
      exact YieldsS.same hrel rfl
    · cases h
  · cases h


theorem bound_ok {y d n : Nat} {x : AV} {X : Value} (h : boundEv d y (some x) = some n) (hx : ren ρ x = some X) (code : BoundsCode) (w : World) : (Instr.sliceBound X y code).run P w = .ok n w ∧ n ≤ y := by
  unfold boundEv at h
  split at h
  · rename_i hn; cases hn
  · rename_i k i hn
    cases hn
    split at h
    · rename_i hc
      cases h
      have := ren_int hx
      subst this
      refine ⟨?_, by omega⟩
      simp [Instr.sliceBound, asIntOf, hc]
    · cases h
  · cases h

theorem cxo_ok (he : EvOk ρ e ev) {o : Option Operand} {x : Option X} (h : cxo o = some x) : (o = none ∧ x = none) ∨ ∃ a b, o = some a ∧ x = some b ∧ ren ρ (b.ev e) = some (ev a) := by
  cases o with
  | none => simp only [cxo] at h; cases h; exact .inl ⟨rfl, rfl⟩
  | some a =>
    simp only [cxo, Option.map_eq_some_iff] at h
    obtain ⟨b, hb, rfl⟩ := h
    exact .inr ⟨a, b, rfl, rfl, cx_ok he hb⟩

/-- The three bounds of a slicing, each told or not. -/
theorem bounds_ok (isS : Bool) {len cap m h l : Nat} {lo hi mx : Option AV} {LO HI MX : Option Value}
    (h1 : (mx = none ∧ MX = none) ∨ ∃ a b, mx = some a ∧ MX = some b ∧ ren ρ a = some b)
    (h2 : (hi = none ∧ HI = none) ∨ ∃ a b, hi = some a ∧ HI = some b ∧ ren ρ a = some b)
    (h3 : (lo = none ∧ LO = none) ∨ ∃ a b, lo = some a ∧ LO = some b ∧ ren ρ a = some b)
    (e1 : boundEv cap cap mx = some m) (e2 : boundEv len m hi = some h) (e3 : boundEv 0 h lo = some l) (hno : hi = none → mx = none) (w : World) :
    (Instr.sliceBounds isS len cap LO HI MX).run P w = .ok (l, h, m) w := by
  unfold Instr.sliceBounds
  rcases h1 with ⟨rfl, rfl⟩ | ⟨a, b, rfl, rfl, hm⟩
  · simp only [boundEv] at e1; cases e1
    rcases h2 with ⟨rfl, rfl⟩ | ⟨a, b, rfl, rfl, hh⟩
    · simp only [boundEv] at e2; cases e2
      rcases h3 with ⟨rfl, rfl⟩ | ⟨a, b, rfl, rfl, hl⟩
      · simp only [boundEv] at e3; cases e3; simp
      · obtain ⟨r, _⟩ := bound_ok (P := P) e3 hl .sliceB w
        simp [r]
    · have r2 := fun c => (bound_ok (P := P) e2 hh c w).1
      rcases h3 with ⟨rfl, rfl⟩ | ⟨a, b, rfl, rfl, hl⟩
      · simp only [boundEv] at e3; cases e3; simp [r2]
      · obtain ⟨r, _⟩ := bound_ok (P := P) e3 hl .sliceB w
        simp [r, r2]
  · have r1 := fun c => (bound_ok (P := P) e1 hm c w).1
    rcases h2 with ⟨rfl, rfl⟩ | ⟨a, b, rfl, rfl, hh⟩
    · cases hno rfl
    · have r2 := fun c => (bound_ok (P := P) e2 hh c w).1
      rcases h3 with ⟨rfl, rfl⟩ | ⟨a, b, rfl, rfl, hl⟩
      · simp only [boundEv] at e3; cases e3; simp [r1, r2]
      · have r3 := fun c => (bound_ok (P := P) e3 hl c w).1
        simp [r1, r2, r3]

theorem opt_map (he : EvOk ρ e ev) {o : Option Operand} {x : Option X} (h : cxo o = some x) : (x.map (X.ev e) = none ∧ o.map ev = none) ∨ ∃ a b, x.map (X.ev e) = some a ∧ o.map ev = some b ∧ ren ρ a = some b := by
  rcases cxo_ok he h with ⟨rfl, rfl⟩ | ⟨a, b, rfl, rfl, hr⟩
  · exact .inl ⟨rfl, rfl⟩
  · exact .inr ⟨_, _, rfl, rfl, hr⟩

theorem s_sliceS (hrel : Rel base ρ H w) (he : EvOk ρ e ev) {t : TypeId} {a : Operand} {a' : X} {lo hi : Option Operand} {lo' hi' : Option X} (ha : cx a = some a') (hl : cxo lo = some lo') (hh : cxo hi = some hi') (hu : P.underlying t = some .string) {v : AV}
    (h : (AOp.sliceS a' lo' hi').eval P R e H = some (v, H')) {o : Oper} (ho : o.op = .slice t a lo hi none) : YieldsS ρ w H ((execOp ev o).run P w) v H' := by
  have h1 := cx_ok he ha
  simp only [AOp.eval] at h
  split at h
  · rename_i s hs
    rw [hs] at h1
    have h1 := ren_str h1
    split at h
    · rename_i hn e2
      split at h
      · rename_i ln e3
        cases h
        have hb := bounds_ok (P := P) (ρ := ρ) false (len := s.length) (cap := s.length) (.inl ⟨rfl, rfl⟩) (opt_map he hh) (opt_map he hl) rfl e2 e3 (fun _ => rfl) w
        have hsz : (ByteArray.mk ⟨s⟩).size = s.length := rfl
        simp only [execOp, ho, h1]
        simp [Instr.sliceAt, Instr.slice, und_ok hu, hsz, hb]
        refine YieldsS.same hrel ?_
        have := ByteArray.extract_mk s ln hn
        simp only [ren]
        rw [List.drop_take]
        exact congrArg (fun x => some (Value.string x)) this.symm
      · cases h
    · cases h
  · cases h

theorem s_addr (hrel : Rel base ρ H w) (he : EvOk ρ e ev) {t : TypeId} {a : Operand} {a' : X} {f : Nat} {fs : Array Field} {fl : Field} {n : Nat} (ha : cx a = some a') (hu : P.underlying t = some (.struct fs)) (hf : fs[f]? = some fl) (hn : sizeC P fl.type = some (n + 1)) {v : AV}
    (h : (AOp.addr fl.offset a').eval P R e H = some (v, H')) {o : Oper} (ho : o.op = .fieldAddr t a f) : YieldsS ρ w H ((execOp ev o).run P w) v H' := by
  have h1 := cx_ok he ha
  simp only [AOp.eval] at h
  split at h
  · rename_i l off hx
    cases h
    rw [hx] at h1
    obtain ⟨A, hA, h1⟩ := ren_ptr h1
    simp only [execOp, ho, h1]
    simp [Instr.fieldAt, und_ok hu, hf, Instr.sureAddr, fieldPlace, sizeC_ok hn]
    refine YieldsS.same hrel ?_
    simp only [ren, Option.map_eq_some_iff]
    cases l with
    | ro b => simp only [Loc.addr] at hA ⊢; cases hA; exact ⟨_, rfl, by rw [addr_add]⟩
    | mu i =>
      simp only [Loc.addr, Option.map_eq_some_iff] at hA ⊢
      obtain ⟨p, hp, rfl⟩ := hA
      exact ⟨_, ⟨p, hp, rfl⟩, by rw [addr_add, Nat.add_assoc]⟩
  · cases h

theorem addr_off {l : Loc} {off d : Nat} {A : Addr} (hA : l.addr ρ off = some A) : l.addr ρ (off + d) = some (A.add d) := by
  cases l with
  | ro b => simp only [Loc.addr] at hA ⊢; cases hA; rw [addr_add]
  | mu i =>
    simp only [Loc.addr, Option.map_eq_some_iff] at hA ⊢
    obtain ⟨p, hp, rfl⟩ := hA
    exact ⟨p, hp, by rw [addr_add, Nat.add_assoc]⟩

def partEv (cs : List AV) (off : Nat) : Option Nat → Option AV
  | some n => some (.agg ((cs.drop off).take n))
  | none => cs[off]?

theorem part_ok {t : TypeId} {b : Bool} (hb : aggC P t = some b) {n : Option Nat} (hn : (b = true ∧ ∃ m, n = some m ∧ sizeC P t = some m) ∨ (b = false ∧ n = none)) {cs : List AV} {C : List Value} (hC : renL ρ cs = some C) {off : Nat} {v : AV}
    (h : partEv cs off n = some v) (w : World) : ∃ x, ren ρ v = some x ∧ (part t C.toArray off).run P w = .ok x w := by
  rcases hn with ⟨rfl, m, rfl, hm⟩ | ⟨rfl, rfl⟩
  · simp only [partEv, Option.some.injEq] at h
    subst h
    refine ⟨.agg ((C.drop off).take m).toArray, by simp [ren, renL_take (renL_drop hC off) m], ?_⟩
    simp [part, aggC_ok hb, sizeC_ok hm, List.extract_eq_take_drop]
  · simp only [partEv] at h
    obtain ⟨x, hx, hr⟩ := renL_getElem? hC off v h
    refine ⟨x, hr, ?_⟩
    simp [part, aggC_ok hb, hx]

theorem s_fld (hrel : Rel base ρ H w) (he : EvOk ρ e ev) {t : TypeId} {a : Operand} {a' : X} {f : Nat} {fs : Array Field} {fl : Field} {n : Option Nat} {b : Bool} (ha : cx a = some a') (hu : P.underlying t = some (.struct fs)) (hf : fs[f]? = some fl)
    (hb : aggC P fl.type = some b) (hn : (b = true ∧ ∃ m, n = some m ∧ sizeC P fl.type = some m) ∨ (b = false ∧ n = none)) {v : AV}
    (h : (AOp.fld fl.offset n a').eval P R e H = some (v, H')) {o : Oper} (ho : o.op = .field t a f) : YieldsS ρ w H ((execOp ev o).run P w) v H' := by
  have h1 := cx_ok he ha
  simp only [AOp.eval] at h
  split at h
  · rename_i cs hx
    rw [hx] at h1
    obtain ⟨C, hC, h1⟩ := ren_agg h1
    have key : partEv cs fl.offset n = some v ∧ H = H' := by
      cases n with
      | some n => simpa [partEv] using h
      | none =>
        simp only [Option.map_eq_some_iff] at h
        obtain ⟨u, hu, h⟩ := h
        cases h; exact ⟨hu, rfl⟩
    obtain ⟨h2, rfl⟩ := key
    obtain ⟨x, hx, hrun⟩ := part_ok hb hn hC h2 w
    simp only [execOp, ho, h1]
    simp [Instr.field, und_ok hu, hf, asAgg, hrun]
    exact YieldsS.same hrel hx
  · cases h

theorem s_iaddrS (hrel : Rel base ρ H w) (he : EvOk ρ e ev) {t el : TypeId} {a i : Operand} {a' i' : X} {sz : Nat} (ha : cx a = some a') (hi : cx i = some i') (hu : P.underlying t = some (.slice el)) (hs : sizeC P el = some sz) {v : AV}
    (h : (AOp.iaddrS sz a' i').eval P R e H = some (v, H')) {o : Oper} (ho : o.op = .indexAddr t a i) : YieldsS ρ w H ((execOp ev o).run P w) v H' := by
  have h1 := cx_ok he ha
  have h2 := cx_ok he hi
  simp only [AOp.eval] at h
  split at h
  · rename_i l off ln c k j hx hj
    split at h
    · rename_i hb
      cases h
      rw [hx] at h1
      rw [hj] at h2
      obtain ⟨A, m, hA, _, h1⟩ := ren_slice h1
      have h2 := ren_int h2
      simp only [execOp, ho, h1, h2]
      simp [Instr.indexAt, asIntOf, und_ok hu, hb, sizeC_ok hs]
      exact YieldsS.same hrel (by simp [ren, addr_off hA])
    · cases h
  · cases h

theorem s_iaddrA (hrel : Rel base ρ H w) (he : EvOk ρ e ev) {t el : TypeId} {a i : Operand} {a' i' : X} {sz n : Nat} (ha : cx a = some a') (hi : cx i = some i') (hu : P.underlying t = some (.array n el)) (hs : sizeC P el = some sz) {v : AV}
    (h : (AOp.iaddrA n sz a' i').eval P R e H = some (v, H')) {o : Oper} (ho : o.op = .indexAddr t a i) : YieldsS ρ w H ((execOp ev o).run P w) v H' := by
  have h1 := cx_ok he ha
  have h2 := cx_ok he hi
  simp only [AOp.eval] at h
  split at h
  · rename_i l off k j hx hj
    split at h
    · rename_i hb
      cases h
      rw [hx] at h1
      rw [hj] at h2
      obtain ⟨A, hA, h1⟩ := ren_ptr h1
      have h2 := ren_int h2
      simp only [execOp, ho, h1, h2]
      simp [Instr.indexAt, asIntOf, und_ok hu, hb, sizeC_ok hs, Instr.sureAddr]
      exact YieldsS.same hrel (by simp [ren, addr_off hA])
    · cases h
  · cases h

theorem s_idxS (hrel : Rel base ρ H w) (he : EvOk ρ e ev) {t : TypeId} {a i : Operand} {a' i' : X} (ha : cx a = some a') (hi : cx i = some i') (hu : P.underlying t = some .string) {v : AV}
    (h : (AOp.idxS a' i').eval P R e H = some (v, H')) {o : Oper} (ho : o.op = .index t a i) : YieldsS ρ w H ((execOp ev o).run P w) v H' := by
  have h1 := cx_ok he ha
  have h2 := cx_ok he hi
  simp only [AOp.eval] at h
  split at h
  · rename_i s k j hx hj
    split at h
    · rename_i hb
      simp only [Option.map_eq_some_iff] at h
      obtain ⟨c, hc, h⟩ := h
      cases h
      rw [hx] at h1
      rw [hj] at h2
      have h1 := ren_str h1
      have h2 := ren_int h2
      have hlt := (List.getElem?_eq_some_iff.1 hc).1
      have hg : (ByteArray.mk ⟨s⟩)[j.toNat]? = some c := by
        rw [ByteArray.getElem?_lt' _ _ hlt]
        congr 1
        exact (List.getElem?_eq_some_iff.1 hc).2
      simp only [execOp, ho, h1, h2]
      simp [Instr.index, asIntOf, und_ok hu, hb, hg]
      exact YieldsS.same hrel rfl
    · cases h
  · cases h

theorem s_idxA (hrel : Rel base ρ H w) (he : EvOk ρ e ev) {t el : TypeId} {a i : Operand} {a' i' : X} {sz n : Nat} {b : Bool} (ha : cx a = some a') (hi : cx i = some i') (hu : P.underlying t = some (.array n el)) (hs : sizeC P el = some sz) (hb : aggC P el = some b) {v : AV}
    (h : (AOp.idxA n sz b a' i').eval P R e H = some (v, H')) {o : Oper} (ho : o.op = .index t a i) : YieldsS ρ w H ((execOp ev o).run P w) v H' := by
  have h1 := cx_ok he ha
  have h2 := cx_ok he hi
  simp only [AOp.eval] at h
  split at h
  · rename_i cs k j hx hj
    split at h
    · rename_i hc
      rw [hx] at h1
      rw [hj] at h2
      obtain ⟨C, hC, h1⟩ := ren_agg h1
      have h2 := ren_int h2
      have key : ∃ n', ((b = true ∧ ∃ m, n' = some m ∧ sizeC P el = some m) ∨ (b = false ∧ n' = none)) ∧ partEv cs (j.toNat * sz) n' = some v ∧ H = H' := by
        cases b with
        | true => simp at h; exact ⟨some sz, .inl ⟨rfl, sz, rfl, hs⟩, by simp [partEv, h.1], h.2⟩
        | false =>
          simp only [Bool.false_eq_true, if_false, Option.map_eq_some_iff] at h
          obtain ⟨u, hu, h⟩ := h
          cases h; exact ⟨none, .inr ⟨rfl, rfl⟩, hu, rfl⟩
      obtain ⟨n', hn', h3, rfl⟩ := key
      obtain ⟨x, hx, hrun⟩ := part_ok hb hn' hC h3 w
      simp only [execOp, ho, h1, h2]
      simp [Instr.index, asIntOf, und_ok hu, hc, sizeC_ok hs, hrun]
      exact YieldsS.same hrel hx
    · cases h
  · cases h
end
end Am
namespace Am
open Go Go.RowKit
section
variable {P : Program} {R : Ro} {base : World} {ρ : Ren} {H H' : AH} {w : World} {e : Env} {ev : Operand → Value}

theorem drawn_same (w : World) : ({ w with drawn := w.drawn } : World) = w := rfl

theorem rangeMap_fill : ∀ (pl : List (Nat × Nat)) (sz n : Nat), pl = (List.range n).map (fun i => (i * sz, sz)) → ∀ i q, pl[i]? = some q → (fun i => some (i * sz, sz)) i = some q := by
  intro pl sz n h i q hq
  subst h
  simp only [List.getElem?_map, Option.map_eq_some_iff] at hq
  obtain ⟨j, hj, hq⟩ := hq
  have hj2 := List.getElem?_eq_some_iff.1 hj
  obtain ⟨h1, h2⟩ := hj2
  simp at h2
  subst h2
  simpa using hq

theorem zerosEv_length (z : List AV) (n : Nat) : (zerosEv z n).length = n * z.length := by
  induction n with
  | zero => simp [zerosEv]
  | succ n ih => simp [zerosEv, ih, Nat.succ_mul, Nat.add_comm]

def zerosV (z : List Value) : Nat → List Value
  | 0 => []
  | n + 1 => z ++ zerosV z n

theorem zerosV_length (z : List Value) (n : Nat) : (zerosV z n).length = n * z.length := by
  induction n with
  | zero => simp [zerosV]
  | succ n ih => simp [zerosV, ih, Nat.succ_mul, Nat.add_comm]

theorem renL_zeros {z : List AV} {Z : List Value} (h : renL ρ z = some Z) (n : Nat) : renL ρ (zerosEv z n) = some (zerosV Z n) := by
  induction n with
  | zero => rfl
  | succ n ih => exact renL_append h ih

theorem zerosV_get {z : List Value} (hz : z ≠ []) : ∀ (n i : Nat), i < n * z.length → (zerosV z n)[i]? = z[i % z.length]? := by
  have hp : 0 < z.length := List.length_pos_iff.2 hz
  intro n
  induction n with
  | zero => intro i h; simp at h
  | succ n ih =>
    intro i h
    simp only [zerosV]
    by_cases hi : i < z.length
    · rw [List.getElem?_append_left hi, Nat.mod_eq_of_lt hi]
    · rw [List.getElem?_append_right (by omega), ih _ (by rw [Nat.add_mul, Nat.one_mul] at h; omega)]
      rw [← Nat.mod_eq_sub_mod (by omega)]

theorem zeros_range {z : List Value} (n : Nat) : ((Array.range (n * z.length)).map fun i => z.toArray[i % z.toArray.size]!) = (zerosV z n).toArray := by
  by_cases hz : z = []
  · subst hz
    have e : zerosV ([] : List Value) n = [] := List.eq_nil_of_length_eq_zero (by rw [zerosV_length]; rfl)
    have hr0 : Array.range 0 = #[] := rfl
    rw [e, List.length_nil, Nat.mul_zero, hr0]; simp
  · have hp : 0 < z.length := List.length_pos_iff.2 hz
    apply Array.ext
    · simp [zerosV_length]
    · intro i h1 h2
      simp at h1
      have h3 := zerosV_get hz n i h1
      have h4 : i % z.length < z.length := Nat.mod_lt _ hp
      simp at h2
      rw [List.getElem?_eq_getElem h2, List.getElem?_eq_getElem h4] at h3
      simp at h3
      simp [h3, h4]

theorem zeroCells_eq (z : List Value) (n : Nat) : Builtin.zeroCells z.toArray n = (zerosV z n).toArray := by
  unfold Builtin.zeroCells
  have := zeros_range (z := z) n
  simpa using this

theorem s_bslice (hrel : Rel base ρ H w) (he : EvOk ρ e ev) {t el : TypeId} {n sz : Nat} {ps : Array (Nat × Operand)} {z : AV} {l : List (Nat × X)}
    (hu : P.underlying t = some (.slice el)) (hs : sizeC P el = some sz) (hz : zeroC P el = some z) (hl : cxp ps.toList = some l) (hbig : n * sz ≤ 2 ^ 24) {v : AV}
    (h : (AOp.bslice el sz n z.cells l).eval P R e H = some (v, H')) {o : Oper} (ho : o.op = .buildSlice t n ps) : Yields base ρ ((execOp ev o).run P w) v H' := by
  simp only [AOp.eval] at h
  split at h
  · rename_i c hc
    split at h
    · rename_i hcond
      obtain ⟨hzl, hone⟩ := hcond
      cases h
      obtain ⟨x, hx, hrun⟩ := zeroC_ok hz ρ w
      have hxz := cells_ren hx
      have hxl := renL_length hxz
      simp at hxl
      have hxs : x.cells.size = sz := by omega
      obtain ⟨h1, h2⟩ := cxp_fill he hl
      obtain ⟨D, hD, hd⟩ := fill_ok (place := fun i => some (i * sz, sz)) (rangeMap_fill _ sz n rfl) hc h1 h2 (renL_zeros hxz n)
      refine ⟨_, _, .slice (some ⟨w.heap.size, 0, none⟩) n n, .inl ?_, Ext.mk ρ [⟨w.heap.size, 0, 0⟩], hrel.newCells hd el 0 0 w.drawn rfl, ?_⟩
      · simp only [execOp, ho, Instr.buildSlice]
        simp only [Array.toList_map] at hD
        by_cases h0 : n * sz = 0
        · have hz0 : zerosV x.cells.toList n = [] := List.eq_nil_of_length_eq_zero (by rw [zerosV_length]; simp [hxs, h0])
          have hr0 : Array.range 0 = #[] := rfl
          rw [hz0] at hD
          simp only [Sem.run_bind, und_ok hu, sizeC_ok hs, Result.andThen_ok, h0, if_true, Sem.run_ite, hr0]
          simp [hD, newRow]
        · have := zeros_range (z := x.cells.toList) n
          simp only [Array.length_toList, hxs, Array.toArray_toList] at this
          rw [← this] at hD
          simp only [Sem.run_bind, und_ok hu, sizeC_ok hs, Result.andThen_ok, h0, if_false, Sem.run_ite, hrun]
          rw [if_neg (by omega)]
          simp [hD, hxs, newRow]
      · simp [ren, addr_new ρ ⟨w.heap.size, 0, 0⟩ 0 H hrel.len, Cap.num]
    · cases h
  · cases h

theorem s_mksl (hrel : Rel base ρ H w) (he : EvOk ρ e ev) {t el : TypeId} {sz by' : Nat} {a b : Operand} {a' b' : X} {z : AV} (ha : cx a = some a') (hb : cx b = some b')
    (hu : P.underlying t = some (.slice el)) (hs : sizeC P el = some sz) (hby : bytesC P el = some by') (hz : zeroC P el = some z) {v : AV}
    (h : (AOp.mksl el sz by' z.cells a' b').eval P R e H = some (v, H')) {o : Oper} (ho : o.op = .makeSlice t a b) : Yields base ρ ((execOp ev o).run P w) v H' := by
  have h1 := cx_ok he ha
  have h2 := cx_ok he hb
  simp only [AOp.eval] at h
  split at h
  · rename_i k1 l k2 c hl hc
    split at h
    · rename_i hcond
      obtain ⟨c1, c2, c3, c3b, c4, c5⟩ := hcond
      cases h
      rw [hl] at h1; rw [hc] at h2
      have h1 := ren_int h1
      have h2 := ren_int h2
      obtain ⟨x, hx, hrun⟩ := zeroC_ok hz ρ w
      have hxz := cells_ren hx
      have hxl := renL_length hxz
      simp at hxl
      have hxs : x.cells.size = sz := by omega
      simp only [bytesC, Option.map_eq_some_iff] at hby
      obtain ⟨ti, hti, rfl⟩ := hby
      have hw1 : IntKind.i64.wrap l = l := by simp only [IntKind.wrap, IntKind.bits, IntKind.signed]; simp; omega
      have hw2 : IntKind.i64.wrap c = c := by simp only [IntKind.wrap, IntKind.bits, IntKind.signed]; simp; omega
      refine ⟨_, _, .slice (some ⟨w.heap.size, 0, none⟩) l.toNat c.toNat, .inl ?_, Ext.mk ρ [⟨w.heap.size, 0, 0⟩], hrel.newCells (renL_zeros hxz c.toNat) el 0 0 w.drawn rfl, ?_⟩
      · have hlt : (decide (c < 0) || decide ((ti.bytes : Int) * c > 2 ^ 48)) = false := by simp; omega
        simp only [execOp, ho, h1, h2, Instr.makeSlice]
        simp only [Sem.run_bind, und_ok hu, Result.andThen_ok, asInt, asIntOf, Sem.run_pure, typeInfo, run_program, hti, hw1, hw2, hlt, sizeC_ok hs, run_askRoom, Sem.run_ite]
        rw [if_neg (by simp; omega)]
        by_cases h0 : c.toNat * sz = 0
        · have hz0 : zerosV x.cells.toList c.toNat = [] := List.eq_nil_of_length_eq_zero (by rw [zerosV_length]; simp [hxs, h0])
          have hr0 : Array.range 0 = #[] := rfl
          simp only [h0, if_true, hr0, hz0]
          simp [newRow]
        · have := zeros_range (z := x.cells.toList) c.toNat
          simp only [Array.length_toList, hxs, Array.toArray_toList] at this
          simp only [Result.andThen_ok, h0, if_false, hrun, hxs, this]
          simp [newRow]
      · simp [ren, addr_new ρ ⟨w.heap.size, 0, 0⟩ 0 H hrel.len, Cap.num]
    · cases h
  · cases h
end
end Am
namespace Am
open Go Go.RowKit
section
variable {P : Program} {R : Ro} {base : World} {ρ : Ren} {H H' : AH} {w : World} {e : Env} {ev : Operand → Value}

theorem addr_slice (l : Loc) {off : Nat} {A : Addr} (hA : l.addr ρ off = some A) (m lw sz : Nat) : l.addr ρ (if m = lw then off else off + lw * sz) = some (if m = lw then A else A.add (lw * sz)) := by
  split
  · exact hA
  · exact addr_off hA

theorem s_sliceA (hrel : Rel base ρ H w) (he : EvOk ρ e ev) {t el : TypeId} {n sz : Nat} {a : Operand} {a' : X} {lo hi : Option Operand} {lo' hi' : Option X} (ha : cx a = some a') (hl : cxo lo = some lo') (hh : cxo hi = some hi') (hu : P.underlying t = some (.array n el)) (hs : sizeC P el = some sz) {v : AV}
    (h : (AOp.sliceA n sz a' lo' hi').eval P R e H = some (v, H')) {o : Oper} (ho : o.op = .slice t a lo hi none) : YieldsS ρ w H ((execOp ev o).run P w) v H' := by
  have h1 := cx_ok he ha
  simp only [AOp.eval] at h
  split at h
  · rename_i l off hx
    split at h
    · rename_i hn e2
      split at h
      · rename_i ln e3
        cases h
        rw [hx] at h1
        obtain ⟨A, hA, h1⟩ := ren_ptr h1
        have hb := bounds_ok (P := P) (ρ := ρ) false (len := n) (cap := n) (.inl ⟨rfl, rfl⟩) (opt_map he hh) (opt_map he hl) rfl e2 e3 (fun _ => rfl) w
        simp only [execOp, ho, h1]
        simp [Instr.sliceAt, und_ok hu, Instr.sureAddr, hb, sizeC_ok hs]
        exact YieldsS.same hrel (by simp only [ren, addr_slice l hA n ln sz, Cap.num])
      · cases h
    · cases h
  · cases h

/-- A slicing's run, its bounds known. -/
theorem run_slice {t el : TypeId} {sz : Nat} (hu : P.underlying t = some (.slice el)) (hs : sizeC P el = some sz) {a : Option Addr} {len cap l h m : Nat} {LO HI MX : Option Value} (w : World)
    (hb : (Instr.sliceBounds true len cap LO HI MX).run P w = .ok (l, h, m) w) :
    (Instr.sliceAt t (.slice a len cap) LO HI MX).run P w = .ok (.slice (if m = l then a else a.map (·.add (l * sz))) (h - l) (m - l)) w := by
  simp [Instr.sliceAt, Instr.slice, und_ok hu, hb, sizeC_ok hs]

theorem bound_le {d y : Nat} {o : Option AV} {n : Nat} (h : boundEv d y o = some n) : n = d ∨ n ≤ y := by
  unfold boundEv at h
  split at h
  · cases h; exact .inl rfl
  · split at h
    · cases h; exact .inr (by omega)
    · cases h
  · cases h

/-- A bound that holds for a capacity holds for a greater one. -/
theorem bound_mono {d y y' : Nat} (hy : y ≤ y') {o : Option AV} {n : Nat} (h : boundEv d y o = some n) : boundEv d y' o = some n := by
  unfold boundEv at h ⊢
  split at h
  · exact h
  · split at h
    · rw [if_pos (by omega)]; exact h
    · cases h
  · cases h

theorem bound_some (d d' y : Nat) (x : AV) : boundEv d y (some x) = boundEv d' y (some x) := by
  unfold boundEv; cases x <;> rfl

theorem open_new (p : Slot) (n : Nat) (hl : ρ.length = H.length) : ren (ρ ++ [p]) (.slice (.mu H.length) 0 n (.opn 0)) = some (.slice (some ⟨p.blk, p.sh, none⟩) n p.ecap) := by
  simp [ren, Cap.num, ← hl]
  simp [Loc.addr]

theorem s_slice (hrel : Rel base ρ H w) (he : EvOk ρ e ev) {t el : TypeId} {sz : Nat} {a : Operand} {a' : X} {lo hi mx : Option Operand} {lo' hi' mx' : Option X} (ha : cx a = some a') (hl : cxo lo = some lo') (hh : cxo hi = some hi') (hm : cxo mx = some mx') (hno : hi = none → mx = none) (hu : P.underlying t = some (.slice el)) (hs : sizeC P el = some sz) {v : AV}
    (h : (AOp.slice sz a' lo' hi' mx').eval P R e H = some (v, H')) {o : Oper} (ho : o.op = .slice t a lo hi mx) : Yields base ρ ((execOp ev o).run P w) v H' := by
  have h1 := cx_ok he ha
  have g1 := opt_map he hm
  have g2 := opt_map he hh
  have g3 := opt_map he hl
  have hno' : hi'.map (X.ev e) = none → mx'.map (X.ev e) = none := by
    intro h0
    have : hi = none := by
      rcases cxo_ok he hh with ⟨h1, _⟩ | ⟨a, b, _, rfl, _⟩
      · exact h1
      · simp at h0
    have := hno this
    subst this
    simp [cxo] at hm
    subst hm; rfl
  simp only [AOp.eval] at h
  have hrunS : (execOp ev o).run P w = ((Instr.sliceAt t (ev a) (lo.map ev) (hi.map ev) (mx.map ev)).run P w).andThen fun x w' => .ok (.value x) w' := by
    simp only [execOp, ho]; simp
  rw [hrunS]
  generalize lo.map ev = LO at *
  generalize hi.map ev = HI at *
  generalize mx.map ev = MX at *
  generalize lo'.map (X.ev e) = lo2 at *
  generalize hi'.map (X.ev e) = hi2 at *
  generalize mx'.map (X.ev e) = mx2 at *
  generalize X.ev e a' = A at *
  generalize ev a = A' at *
  unfold sliceEv at h
  split at h
  · -- nil
    simp only [ren, Option.some.injEq] at h1
    subst h1
    split at h
    · rename_i m e1
      split at h
      · rename_i hh e2
        split at h
        · rename_i lw e3
          cases h
          have l1 := bound_le e1
          have l2 := bound_le e2
          have l3 := bound_le e3
          have hb := bounds_ok (P := P) (ρ := ρ) true (len := 0) (cap := 0) g1 g2 g3 e1 e2 e3 hno' w
          rw [run_slice hu hs w hb]
          simp
          rw [show hh - lw = 0 from by omega, show m - lw = 0 from by omega]
          exact Yields.same hrel rfl
        · cases h
      · cases h
    · cases h
  · -- known
    rename_i l off ln c
    obtain ⟨A, n, hA, hc, rfl⟩ := ren_slice h1
    simp only [Cap.num] at hc
    have hc : c = n := by cases l <;> simpa using hc
    subst hc
    split at h
    · rename_i m e1
      split at h
      · rename_i hh e2
        split at h
        · rename_i lw e3
          cases h
          have hb := bounds_ok (P := P) (ρ := ρ) true (len := ln) (cap := c) g1 g2 g3 e1 e2 e3 hno' w
          rw [run_slice hu hs w hb]
          simp only [Result.andThen_ok]
          refine Yields.same hrel ?_
          simp only [ren, addr_slice l hA m lw sz, Cap.num]
          by_cases hml : m = lw <;> simp [hml]
        · cases h
      · cases h
    · cases h
  · -- open
    rename_i i off ln eo
    obtain ⟨A, n, hA, hc, rfl⟩ := ren_slice h1
    split at h
    · rename_i c t' sz' hi
      split at h
      · rename_i hcond
        obtain ⟨rfl, hoff, hsz, hoc⟩ := hcond
        simp only [Loc.addr, Option.map_eq_some_iff] at hA
        obtain ⟨p, hp, rfl⟩ := hA
        simp only [Cap.num, Option.map_eq_some_iff] at hc
        obtain ⟨p', hp', rfl⟩ := hc
        rw [hp] at hp'; cases hp'
        obtain ⟨C, cs, d1, d2, d3, d4, d5⟩ := hrel.obj i _ p hi hp
        have hlc := renL_length d2
        have htop : (c.length - off) / sz' ≤ p.ecap - eo := by
          have h6 : c.length - off ≤ (p.ecap - eo) * sz' := by rw [Nat.sub_mul]; omega
          calc (c.length - off) / sz' ≤ ((p.ecap - eo) * sz') / sz' := Nat.div_le_div_right h6
            _ = p.ecap - eo := Nat.mul_div_cancel _ (Nat.pos_of_ne_zero hsz)
        split at h
        · rename_i x0 mv
          dsimp only at h
          split at h
          · rename_i m e1
            split at h
            · rename_i hh e2
              split at h
              · rename_i lw e3
                cases h
                have e1' : boundEv (p.ecap - eo) (p.ecap - eo) (some mv) = some m := by
                  rw [bound_some _ 0]; exact bound_mono htop e1
                have hb := bounds_ok (P := P) (ρ := ρ) true (len := ln) (cap := p.ecap - eo) g1 g2 g3 e1' e2 e3 hno' w
                rw [run_slice hu hs w hb]
                simp only [Result.andThen_ok]
                refine Yields.same hrel ?_
                simp only [ren]
                rw [addr_slice (.mu i) (A := ⟨p.blk, p.sh + off, none⟩) (by simp [Loc.addr, hp]) m lw sz']
                simp only [Cap.num]
                by_cases hml : m = lw <;> simp [hml]
              · cases h
            · cases h
          · cases h
        · dsimp only at h
          split at h
          · rename_i hh e2
            split at h
            · rename_i htp
              split at h
              · rename_i lw e3
                have l3 := bound_le e3
                have e2' : boundEv ln (p.ecap - eo) hi2 = some hh := bound_mono htop e2
                have hb := bounds_ok (P := P) (ρ := ρ) true (len := ln) (cap := p.ecap - eo) g1 g2 g3 rfl e2' e3 hno' w
                rw [run_slice hu hs w hb]
                simp only [Result.andThen_ok]
                split at h
                · rename_i hlw
                  subst hlw
                  cases h
                  refine Yields.same hrel ?_
                  simp only [ren, Loc.addr, hp, Cap.num, Option.map_some]
                  by_cases hml : p.ecap - eo = 0 <;> simp [hml, Addr.add]
                · rename_i hlw
                  split at h
                  · rename_i hlt
                    cases h
                    refine Yields.same hrel ?_
                    simp only [ren, Loc.addr, hp, Cap.num, Option.map_some]
                    rw [if_neg (by omega)]
                    simp [addr_add, Nat.add_assoc, Nat.sub_sub]
                  · rename_i hge
                    cases h
                    have hlh : lw = hh := by omega
                    subst hlh
                    have hbig : p.sh + off + (p.ecap - eo) * sz' ≤ C.size ∨ p.ecap < eo := by
                      by_cases h9 : p.ecap < eo
                      · exact .inr h9
                      · left
                        have : off + (p.ecap - eo) * sz' = p.ecap * sz' := by
                          rw [hoff, ← Nat.add_mul]; congr 1; omega
                        omega
                    have hle : lw ≤ p.ecap - eo := by omega
                    have hbig : p.sh + off + (p.ecap - eo) * sz' ≤ C.size := by rcases hbig with h | h <;> omega
                    have hmul : (p.ecap - eo) * sz' = lw * sz' + (p.ecap - eo - lw) * sz' := by rw [← Nat.add_mul]; congr 1; omega
                    by_cases hml : p.ecap - eo = lw
                    · refine ⟨ρ ++ [⟨p.blk, p.sh + off, 0⟩], w, .slice (some ⟨p.blk, p.sh + off, none⟩) 0 0, .inl ?_, Ext.mk _ _, ?_, ?_⟩
                      · simp [hml]
                      · exact hrel.pushDead _
                      · rw [open_new _ _ hrel.len]
                    · refine ⟨ρ ++ [⟨p.blk, p.sh + off + lw * sz', p.ecap - eo - lw⟩], w, .slice (some ⟨p.blk, p.sh + off + lw * sz', none⟩) 0 (p.ecap - eo - lw), .inl ?_, Ext.mk _ _, ?_, ?_⟩
                      · simp [hml, addr_add]
                      · exact hrel.pushDead _
                      · rw [open_new _ _ hrel.len]
              · cases h
            · cases h
          · cases h
      · cases h
    · cases h
  · cases h
end
end Am
namespace Am
open Go Go.RowKit
section
variable {P : Program} {R : Ro} {base : World} {ρ : Ren} {H H' : AH} {w : World} {e : Env} {ev : Operand → Value}

theorem src_ok (hR : ROk R base) (hrel : Rel base ρ H w) {sz n : Nat} {x : AV} {X : Value} {new : List AV} (hx : ren ρ x = some X) (h : srcEv R H sz x = some (new, n)) :
    (Builtin.lenOf X).run P w = .ok n w ∧ ∃ N, renL ρ new = some N ∧ N.length = n * sz ∧ (Builtin.firstCells sz n X).run P w = .ok N.toArray w := by
  unfold srcEv at h
  split at h
  · cases h
    simp only [ren, Option.some.injEq] at hx
    subst hx
    exact ⟨rfl, [], rfl, by simp, rfl⟩
  · simp only [Option.map_eq_some_iff] at h
    obtain ⟨c, hc, h⟩ := h
    cases h
    obtain ⟨A, m, hA, _, rfl⟩ := ren_slice hx
    obtain ⟨V, hV, hl, hrun⟩ := readN_sound hR hrel hc hA
    exact ⟨rfl, V, hV, hl, by simp [Builtin.firstCells, loadCells, hrun]⟩
  · split at h
    · rename_i s hs
      cases h
      subst hs
      obtain rfl := ren_str hx
      refine ⟨rfl, s.map fun b => .int .u8 b.toNat, ?_, by simp, ?_⟩
      · clear hx
        induction s with
        | nil => rfl
        | cons b s ih => exact renL_cons_mk rfl ih
      · have he : (ByteArray.mk ⟨s⟩).extract 0 s.length = ByteArray.mk ⟨s⟩ := by
          have := ByteArray.extract_mk s 0 s.length
          simp at this
          simpa using this
        simp only [Builtin.firstCells, he]
        simp
    · cases h
  · cases h

theorem cap_bound (need sCap by' : Nat) (h : need * by' ≤ 140737488355328) (hc : sCap < need) : Builtin.nextslicecap need sCap * by' ≤ 281474976710656 := by
  have key : Builtin.nextslicecap need sCap ≤ 2 * need := by
    unfold Builtin.nextslicecap
    split
    · omega
    · split
      · omega
      · have hg : ∀ (n c : Nat), c < need → 256 ≤ c → Builtin.growBy need n c ≤ 2 * need := by
          intro n
          induction n with
          | zero => intro c h1 _; simp only [Builtin.growBy]; omega
          | succ n ih =>
            intro c h1 h2
            simp only [Builtin.growBy]
            rw [if_neg (by omega)]
            by_cases h3 : c + (c + 768) / 4 < need
            · exact ih _ h3 (by omega)
            · cases n with
              | zero => simp only [Builtin.growBy]; omega
              | succ n => simp only [Builtin.growBy]; rw [if_pos (by omega)]; omega
        exact hg 4 sCap hc (by omega)
  calc Builtin.nextslicecap need sCap * by' ≤ (2 * need) * by' := Nat.mul_le_mul_right _ key
    _ = 2 * (need * by') := by rw [Nat.mul_assoc]
    _ ≤ 281474976710656 := by omega

theorem take_pre (a b : List Value) (r : Array Value) : ((a.toArray ++ b.toArray ++ r).toList.drop 0).take (a ++ b).length = a ++ b := by
  have : (a.toArray ++ b.toArray ++ r).toList = (a ++ b) ++ r.toList := by simp
  rw [List.drop_zero, this, List.take_left]

theorem push_at (a : Array Obj) (x : Obj) : (a.push x)[a.size]? = some x := by simp

/-- The shape of an append's run. -/
theorem run_append {t u el : TypeId} {d : TypeDesc} {sz by' n len cap : Nat} (hu : P.underlying t = some (.slice el)) (hd : P.underlying u = some d) (hnd : d = .string ∨ ∃ e', d = .slice e') (hs : sizeC P el = some sz) (hby : bytesC P el = some by') {b : Option Addr} {X : Value} {N : List Value}
    (hlen : (Builtin.lenOf X).run P w = .ok n w) (hnew : (Builtin.firstCells sz n X).run P w = .ok N.toArray w) (ty : TypeId) (hsmall : (len + n) * by' ≤ 140737488355328) (hb0 : by' ≠ 0) {ats : Array TypeId} (ha0 : ats[0]? = some t) (ha1 : ats[1]? = some u) :
    (len + n ≤ cap → ∀ w', (b = none → N = [] ∧ w' = w) → (∀ a, b = some a → (storeCells (a.add (len * sz)) N 0).run P w = .ok () w') → (Builtin.append_ ats ty #[.slice b len cap, X]).run P w = .ok (.slice b (len + n) cap) w') ∧
    (cap < len + n → ∀ O Z, (Builtin.firstCells sz len (.slice b len cap)).run P { w with drawn := w.drawn + 1 } = .ok O { w with drawn := w.drawn + 1 } → (zeroValue el).run P { w with drawn := w.drawn + 1 } = .ok Z { w with drawn := w.drawn + 1 } →
      (Builtin.firstCells sz n X).run P { w with drawn := w.drawn + 1 } = .ok N.toArray { w with drawn := w.drawn + 1 } → ∃ newCap, len + n ≤ newCap ∧
      (Builtin.append_ ats ty #[.slice b len cap, X]).run P w = .ok (.slice (some ⟨w.heap.size, 0, none⟩) (len + n) newCap) { w with heap := w.heap.push (.cells (O ++ N.toArray ++ Builtin.zeroCells Z.cells (newCap - (len + n))) el (0, 0)), drawn := w.drawn + 1 }) := by
  constructor
  · intro hle w' hnone hsome
    unfold Builtin.append_
    simp only [ha0, ha1, List.getElem?_toArray, List.getElem?_cons_zero, List.getElem?_cons_succ]
    rcases hnd with rfl | ⟨e', rfl⟩
    all_goals simp only [Sem.run_bind, und_ok hu, und_ok hd, sizeC_ok hs, Result.andThen_ok, Sem.run_pure, Bool.false_eq_true, if_false, hlen, Sem.run_ite, hle, if_true, Bool.not_false, hnew]
    all_goals cases b with
    | none => obtain ⟨rfl, rfl⟩ := hnone rfl; simp
    | some a => simp [hsome a rfl]
  · intro hlt O Z hO hZ hN
    have hcap := cap_bound (len + n) cap by' hsmall hlt
    simp only [bytesC, Option.map_eq_some_iff] at hby
    obtain ⟨ti, hti, rfl⟩ := hby
    refine ⟨(Question.appendCap (len + n) cap el).cut (w.tape w.drawn (.appendCap (len + n) cap el)), Nat.le_add_right _ _, ?_⟩
    unfold Builtin.append_
    simp only [ha0, ha1, List.getElem?_toArray, List.getElem?_cons_zero, List.getElem?_cons_succ]
    rcases hnd with rfl | ⟨e', rfl⟩
    all_goals
      simp only [Sem.run_bind, und_ok hu, und_ok hd, sizeC_ok hs, Result.andThen_ok, Sem.run_pure, Bool.false_eq_true, if_false, hlen, Sem.run_ite, Bool.not_false, if_true]
      rw [if_neg (by omega)]
      simp only [typeInfo, Sem.run_bind, run_program, Result.andThen_ok, hti, Sem.run_pure]
      rw [if_neg (by simp [hb0])]
      rw [if_neg (by omega)]
      simp only [run_choose]
      rw [if_neg (by simp [Question.forced])]
      simp only [Result.andThen_ok, run_askRoom, hO, hN, hZ, newRow, Sem.run_bind, run_newObj, Sem.run_pure]

theorem renL_all {ρ : Ren} {a : List AV} {X : List Value} (_ : renL ρ a = some X) : True := trivial

theorem run_zero_drawn {el : TypeId} {z : AV} (hz : zeroC P el = some z) (ρ : Ren) (w : World) : ∃ Z, ren ρ z = some Z ∧ (zeroValue el).run P w = .ok Z w := zeroC_ok hz ρ w

theorem s_append (hR : ROk R base) (hrel : Rel base ρ H w) (he : EvOk ρ e ev) {t u el ty : TypeId} {d : TypeDesc} {sz by' : Nat} {a b : Operand} {a' b' : X} {z : AV} (ha : cx a = some a') (hb : cx b = some b') (hu : P.underlying t = some (.slice el)) (hd : P.underlying u = some d) (hnd : d = .string ∨ ∃ e', d = .slice e')
    (hs : sizeC P el = some sz) (hby : bytesC P el = some by') (hz : zeroC P el = some z) (hzs : z.cells.length = sz) {ats : Array TypeId} (ha0 : ats[0]? = some t) (ha1 : ats[1]? = some u) {v : AV}
    (h : appendEv R H el sz by' (a'.ev e) (b'.ev e) = some (v, H')) : ∃ ρ' w' x, (Builtin.append_ ats ty #[ev a, ev b]).run P w = .ok x w' ∧ Ext ρ ρ' ∧ Rel base ρ' H' w' ∧ ren ρ' v = some x := by
  have h1 := cx_ok he ha
  have h2 := cx_ok he hb
  generalize X.ev e a' = A at *
  generalize X.ev e b' = B at *
  generalize ev a = VA at *
  generalize ev b = VB at *
  unfold appendEv at h
  split at h
  · cases h
  · rename_i new n hsrc
    obtain ⟨hlen, N, hN, hNl, hnew⟩ := src_ok (P := P) hR hrel h2 hsrc
    have hrelD : Rel base ρ H { w with drawn := w.drawn + 1 } := hrel.draw _
    obtain ⟨_, N', hN', hNl', hnewD⟩ := src_ok (P := P) hR hrelD h2 hsrc
    rw [hN] at hN'; cases hN'
    obtain ⟨Z, hZ, hZrun⟩ := zeroC_ok hz ρ { w with drawn := w.drawn + 1 }
    have hZl := renL_length (cells_ren hZ)
    have hlN := renL_length hN
    split at h
    · -- the nil slice
      simp only [ren, Option.some.injEq] at h1
      subst h1
      split at h
      · rename_i hn0
        cases h
        subst hn0
        have hN0 : N = [] := List.eq_nil_of_length_eq_zero (by rw [hNl]; simp)
        subst hN0
        have hb0 : by' ≠ 0 ∨ by' = 0 := by omega
        refine ⟨ρ, w, .slice none 0 0, ?_, Ext.refl _, hrel, rfl⟩
        unfold Builtin.append_
        simp only [ha0, ha1, List.getElem?_toArray, List.getElem?_cons_zero, List.getElem?_cons_succ]
        rcases hnd with rfl | ⟨e', rfl⟩
        all_goals
          simp only [Sem.run_bind, und_ok hu, und_ok hd, sizeC_ok hs, Result.andThen_ok, Sem.run_pure, Bool.false_eq_true, if_false, hlen, Sem.run_ite, Bool.not_false, if_true, hnew]
          simp
      · rename_i hn0
        split at h
        · rename_i hc
          obtain ⟨hsmall, hsz, hb0, hone⟩ := hc
          cases h
          obtain ⟨newCap, hge, hrun⟩ := (run_append (len := 0) (cap := 0) (b := none) hu hd hnd hs hby hlen hnew ty (by simpa using hsmall) hb0 ha0 ha1).2 (by omega) #[] Z rfl hZrun hnewD
          refine ⟨ρ ++ [⟨w.heap.size, 0, newCap⟩], _, _, hrun, Ext.mk _ _, ?_, ?_⟩
          · refine hrel.new _ _ 0 newCap _ ?_
            refine ⟨(#[] ++ N.toArray ++ Builtin.zeroCells Z.cells (newCap - (0 + n))), N, push_at _ _, renL_ext (Ext.mk _ _) hN, by simp, ?_, ?_⟩
            · rw [show Z.cells = Z.cells.toList.toArray from by simp, zeroCells_eq]
              simp [zerosV_length, hNl]
              simp at hZl
              rw [hZl, hzs, ← Nat.add_mul]
              exact Nat.mul_le_mul_right _ (by simp at hge; omega)
            · rw [← hlN, hNl]; exact Nat.mul_le_mul_right _ (by simpa using hge)
          · rw [open_new _ _ hrel.len]; simp
        · cases h
    · rename_i l off len cp
      obtain ⟨A, m, hA, hm, rfl⟩ := ren_slice h1
      dsimp only at h
      split at h
      · rename_i hc
        obtain ⟨hsmall, hsz, hb0, hone⟩ := hc
        obtain ⟨rin, rout⟩ := run_append (P := P) (w := w) (len := len) (cap := m) (b := some A) hu hd hnd hs hby hlen hnew ty hsmall hb0 ha0 ha1
        split at h
        · -- a known capacity
          rename_i c
          have hmc : m = c := by cases l <;> simpa [Cap.num] using hm.symm
          subst hmc
          split at h
          · rename_i hle
            split at h
            · rename_i hn0
              subst hn0
              cases h
              have hN0 : N = [] := List.eq_nil_of_length_eq_zero (by rw [hNl]; simp)
              subst hN0
              refine ⟨ρ, w, _, rin hle w (fun h => by cases h) (fun a h => by simp [storeCells]), Ext.refl _, hrel, ?_⟩
              simp only [ren, hA, hm]
            · rename_i hn0
              split at h
              · rename_i i
                simp only [Option.map_eq_some_iff] at h
                obtain ⟨H1, hH, h⟩ := h
                cases h
                simp only [Loc.addr, Option.map_eq_some_iff] at hA
                obtain ⟨p, hp, rfl⟩ := hA
                obtain ⟨w', hrun, hrel'⟩ := writeN_sound hrel hH hN hp
                refine ⟨ρ, w', _, rin hle w' (fun h => by cases h) (fun a h => by cases h; rw [addr_add, Nat.add_assoc]; exact hrun P), Ext.refl _, hrel', ?_⟩
                simp only [ren, Loc.addr, hp, hm, Option.map_some]
              · cases h
          · rename_i hgt
            split at h
            · rename_i old hold
              cases h
              obtain ⟨O, hO, hOl, hOrun⟩ := readN_sound hR hrelD hold hA
              obtain ⟨newCap, hge, hrun⟩ := rout (by omega) O.toArray Z (by simp only [Builtin.firstCells, loadCells, hOrun, Array.empty_append]) hZrun hnewD
              refine ⟨ρ ++ [⟨w.heap.size, 0, newCap⟩], _, _, hrun, Ext.mk _ _, ?_, ?_⟩
              · refine hrel.new _ _ 0 newCap _ ?_
                refine ⟨(O.toArray ++ N.toArray ++ Builtin.zeroCells Z.cells (newCap - (len + n))), O ++ N, push_at _ _, renL_ext (Ext.mk _ _) (renL_append hO hN), take_pre _ _ _, ?_, ?_⟩
                · rw [show Z.cells = Z.cells.toList.toArray from by simp, zeroCells_eq]
                  simp [zerosV_length, hNl, hOl]
                  simp at hZl
                  rw [hZl, hzs, ← Nat.add_assoc, ← Nat.add_mul, ← Nat.add_mul]
                  exact Nat.mul_le_mul_right _ (by omega)
                · have := renL_length hO
                  rw [List.length_append, ← hlN, hNl, ← this, hOl, ← Nat.add_mul]; exact Nat.mul_le_mul_right _ hge
              · rw [open_new _ _ hrel.len]
            · cases h
        · -- an open one
          rename_i eo
          split at h
          · rename_i i
            split at h
            · rename_i c t' sz' hi
              split at h
              · rename_i hcond
                obtain ⟨rfl, rfl, hoff, hfit⟩ := hcond
                simp only [Loc.addr, Option.map_eq_some_iff] at hA
                obtain ⟨p, hp, rfl⟩ := hA
                simp only [Cap.num, Option.map_eq_some_iff] at hm
                obtain ⟨p', hp', rfl⟩ := hm
                rw [hp] at hp'; cases hp'
                obtain ⟨C, cs, d1, d2, d3, d4, d5⟩ := hrel.obj i _ p hi hp
                have hlc := renL_length d2
                split at h
                · rename_i hin
                  simp only [Option.map_eq_some_iff] at h
                  obtain ⟨H1, hH, h⟩ := h
                  cases h
                  obtain ⟨w', hrun, hrel'⟩ := writeN_sound hrel hH hN hp
                  have hle : len + n ≤ p.ecap - eo := by
                    have h9 : (eo + (len + n)) * sz' ≤ p.ecap * sz' := by rw [Nat.add_mul]; omega
                    have := Nat.le_of_mul_le_mul_right h9 (Nat.pos_of_ne_zero hsz)
                    omega
                  refine ⟨ρ, w', _, rin hle w' (fun h => by cases h) (fun a h => by cases h; rw [addr_add, Nat.add_assoc]; exact hrun P), Ext.refl _, hrel', ?_⟩
                  simp only [ren, Loc.addr, hp, Cap.num, Option.map_some]
                · rename_i hout
                  cases h
                  have hlen2 : ((cs.drop off).take (len * sz')).length = len * sz' := by rw [List.length_take, List.length_drop, hlc]; omega
                  have hOren := renL_take (renL_drop d2 off) (len * sz')
                  by_cases hroom : len + n ≤ p.ecap - eo
                  · -- there is room
                    have hneed : 0 < len + n := by
                      rcases Nat.eq_zero_or_pos (len + n) with h0 | h0
                      · exfalso; apply hout; rw [h0, Nat.zero_mul]
                        have : len = 0 := by omega
                        rw [this, Nat.zero_mul] at hfit; exact hfit
                      · exact h0
                    have heo : eo + (len + n) ≤ p.ecap := by omega
                    have hNC : p.sh + off + len * sz' + 0 + N.length ≤ C.size := by
                      have h9 : off + (len + n) * sz' ≤ p.ecap * sz' := by
                        rw [hoff, ← Nat.add_mul]; exact Nat.mul_le_mul_right _ heo
                      rw [hNl]; rw [Nat.add_mul] at h9; omega
                    obtain ⟨w', C', r1, r2, r3, r4, r5⟩ := run_storeCells P p.blk (p.sh + off + len * sz') N 0 w C d1 (oneCell_renL hN hone) hNC
                    have hCs : C'.toList.length = C.size := by
                      rw [r3, splice_length _ _ _ (by simpa using hNC)]; simp
                    refine ⟨ρ ++ [⟨p.blk, p.sh + off, p.ecap - eo⟩], w', _, rin hroom w' (fun h => by cases h) (fun a h => by cases h; rw [addr_add]; exact r1), Ext.mk _ _, ?_, ?_⟩
                    · refine hrel.again hi hp rfl r4.os r4.tape r4.output r4.size r4.other _ _ ?_
                      refine ⟨C', _, r2, renL_ext (Ext.mk _ _) (renL_append hOren hN), ?_, ?_, ?_⟩
                      · -- the content
                        rw [r3, Nat.add_zero]
                        dsimp only
                        have hget : ∀ j, j < cs.length → C.toList[p.sh + j]? = cs[j]? := fun j hj => by
                          rw [← d3, List.getElem?_take_of_lt hj, List.getElem?_drop]
                        apply List.ext_getElem?
                        intro j
                        have hll : ((cs.drop off).take (len * sz') ++ N).length = len * sz' + N.length := by rw [List.length_append, hlen2]
                        by_cases hj : j < len * sz' + N.length
                        · rw [List.getElem?_take_of_lt (by omega), List.getElem?_drop]
                          by_cases hj2 : j < len * sz'
                          · rw [List.getElem?_append_left (by omega), List.getElem?_take_of_lt hj2, List.getElem?_drop]
                            unfold splice
                            rw [List.append_assoc, List.getElem?_append_left (by simp; omega), List.getElem?_take_of_lt (by omega), Nat.add_assoc]
                            exact hget _ (by omega)
                          · rw [List.getElem?_append_right (by omega), hlen2]
                            unfold splice
                            rw [List.append_assoc, List.getElem?_append_right (by simp; omega), List.getElem?_append_left (by simp; omega)]
                            congr 1
                            simp; omega
                        · rw [List.getElem?_eq_none (Nat.le_trans (List.length_take_le _ _) (by omega)), List.getElem?_eq_none (by omega)]
                      · have : p.sh + off + (p.ecap - eo) * sz' = p.sh + p.ecap * sz' := by
                          rw [hoff, Nat.add_assoc, ← Nat.add_mul]; congr 2; omega
                        have hC2 : C'.size = C.size := by simpa using hCs
                        simp only
                        omega
                      · rw [List.length_append, List.length_take, List.length_drop, ← hlN, hNl]
                        have : (len + n) * sz' ≤ (p.ecap - eo) * sz' := Nat.mul_le_mul_right _ hroom
                        rw [Nat.add_mul] at this
                        simp only
                        omega
                    · have := open_new (ρ := ρ) (H := H) ⟨p.blk, p.sh + off, p.ecap - eo⟩ (len + n) hrel.len
                      rw [this]
                  · -- a new row
                    have hO : (Builtin.firstCells sz' len (.slice (some ⟨p.blk, p.sh + off, none⟩) len (p.ecap - eo))).run P { w with drawn := w.drawn + 1 } = .ok ((cs.drop off).take (len * sz')).toArray { w with drawn := w.drawn + 1 } := by
                      have := run_loadCells_of P { w with drawn := w.drawn + 1 } ⟨p.blk, p.sh + off, none⟩ ((cs.drop off).take (len * sz')) 0 #[] (fun j x hj => by
                        rw [addr_add, Nat.zero_add]
                        have hcell : ({ w with drawn := w.drawn + 1 } : World).cell? ⟨p.blk, p.sh + off + j, none⟩ = C[p.sh + off + j]? := cell_at (w := { w with drawn := w.drawn + 1 }) d1 _
                        rw [hcell, ← Array.getElem?_toList]
                        have hjn : j < len * sz' := by have := (List.getElem?_eq_some_iff.1 hj).1; omega
                        rw [List.getElem?_take_of_lt hjn, List.getElem?_drop] at hj
                        rw [Nat.add_assoc]
                        exact take_drop_get d3 hj)
                      rw [hlen2] at this
                      simpa [Builtin.firstCells, loadCells] using this
                    obtain ⟨newCap, hge, hrun⟩ := rout (by omega) _ Z hO hZrun hnewD
                    refine ⟨ρ ++ [⟨w.heap.size, 0, newCap⟩], _, _, hrun, Ext.mk _ _, ?_, ?_⟩
                    · have hk := hrel.kill i
                      refine hk.new _ _ 0 newCap _ ?_
                      refine ⟨(((cs.drop off).take (len * sz')).toArray ++ N.toArray ++ Builtin.zeroCells Z.cells (newCap - (len + n))), _, push_at _ _, renL_ext (Ext.mk _ _) (renL_append hOren hN), take_pre _ _ _, ?_, ?_⟩
                      · rw [show Z.cells = Z.cells.toList.toArray from by simp, zeroCells_eq]
                        simp only [List.append_toArray, List.size_toArray, List.length_append, hlen2, zerosV_length, hNl]
                        simp at hZl
                        simp only [Array.length_toList, hZl, hzs, ← Nat.add_mul]
                        simp only [Nat.zero_add]
                        exact Nat.mul_le_mul_right _ (by omega)
                      · have hl3 : ((c.drop off).take (len * sz')).length = len * sz' := by rw [List.length_take, List.length_drop]; omega
                        rw [List.length_append, hl3, ← hlN, hNl, ← Nat.add_mul]; exact Nat.mul_le_mul_right _ hge
                    · rw [open_new _ _ hrel.len]
              · cases h
            · cases h
          · cases h
      · cases h
    · cases h

theorem s_appz (hR : ROk R base) (hrel : Rel base ρ H w) (he : EvOk ρ e ev) {t u el ty : TypeId} {k0 : IntKind} {sz by' : Nat} {a b : Operand} {a' b' : X} {z : AV} (ha : cx a = some a') (hb : cx b = some b') (hu : P.underlying t = some (.slice el)) (hd : P.underlying u = some (.int k0))
    (hs : sizeC P el = some sz) (hby : bytesC P el = some by') (hz : zeroC P el = some z) (hzs : z.cells.length = sz) {ats : Array TypeId} (ha0 : ats[0]? = some t) (ha1 : ats[1]? = some u) {v : AV}
    (h : appzEv R H el sz by' z.cells (a'.ev e) (b'.ev e) = some (v, H')) : ∃ ρ' w' x, (Builtin.append_ ats ty #[ev a, ev b]).run P w = .ok x w' ∧ Ext ρ ρ' ∧ Rel base ρ' H' w' ∧ ren ρ' v = some x := by
  have h1 := cx_ok he ha
  have h2 := cx_ok he hb
  generalize X.ev e a' = A at *
  generalize X.ev e b' = B at *
  generalize ev a = VA at *
  generalize ev b = VB at *
  unfold appzEv at h
  split at h
  · rename_i l off len c kq k
    split at h
    · rename_i hc
      obtain ⟨h0, hg, hsmall, hsz, hb0⟩ := hc
      split at h
      · rename_i old hold
        cases h
        obtain ⟨A, m, hA, hm, rfl⟩ := ren_slice h1
        have hmc : m = c := by cases l <;> simpa [Cap.num] using hm.symm
        subst hmc
        have h2 := ren_int h2
        obtain ⟨O, hO, hOl, hOrun⟩ := readN_sound hR (hrel.draw (w.drawn + 1)) hold hA
        unfold zeroC at hz
        split at hz
        · rename_i i hi
          simp only [Option.bind_eq_some_iff] at hz
          obtain ⟨x, hx, ha⟩ := hz
          have hxr := absC_ok ha ρ
          have hxz := cells_ren hxr
          have hxl := renL_length hxz
          have hisz : i.size = sz := by simpa [sizeC, hi] using hs
          have hiby : i.bytes = by' := by simpa [bytesC, hi] using hby
          have hk : ((k.toNat : Nat) : Int) = k := Int.toNat_of_nonneg (by omega)
          subst hisz hiby
          have hle : (k.toNat) * i.bytes ≤ (len + k.toNat) * i.bytes := Nat.mul_le_mul_right _ (by omega)
          have hle2 : (len + k.toNat) * 1 ≤ (len + k.toNat) * i.bytes := Nat.mul_le_mul_left _ (by omega)
          have hrun := Lib.run_append_grow_zeros (P := P) w t u ty el i x kq k0 hu hd hi hx (some A) len m O (by simp only [Builtin.firstCells, loadCells, World.drew, hOrun, Array.empty_append]) k.toNat (by omega) (by omega) hg (by omega) (by omega) (cap_bound _ _ _ hsmall hg)
          rw [hk] at hrun
          rw [h2]
          have hge : len + k.toNat ≤ grownCap w (len + k.toNat) m el := Nat.le_add_right _ _
          have hats2 : ∀ X, Builtin.append_ ats ty X = Builtin.append_ #[t, u] ty X := fun X => by
            unfold Builtin.append_
            simp only [ha0, ha1, List.getElem?_toArray, List.getElem?_cons_zero, List.getElem?_cons_succ]
          rw [← hats2] at hrun
          refine ⟨ρ ++ [⟨w.heap.size, 0, grownCap w (len + k.toNat) m el⟩], _, _, hrun, Ext.mk _ _, ?_, ?_⟩
          · refine hrel.new _ _ 0 _ _ ?_
            have hZ := renL_zeros hxz k.toNat
            have e1 : Builtin.zeroCells x.cells k.toNat = (zerosV x.cells.toList k.toNat).toArray := by
              have := zeroCells_eq x.cells.toList k.toNat
              simpa using this
            have hzl : x.cells.toList.length = i.size := by rw [hxl, hzs]
            have hOl' := renL_length hO
            refine ⟨_, O ++ zerosV x.cells.toList k.toNat, push_at _ _, renL_ext (Ext.mk _ _) (renL_append hO hZ), ?_, ?_, ?_⟩
            · rw [e1]; exact take_pre _ _ _
            · rw [e1, show x.cells = x.cells.toList.toArray from by simp, zeroCells_eq]
              simp only [Array.size_append, List.size_toArray, zerosV_length, hzl, hOl, ← Nat.add_mul, Nat.zero_add]
              exact Nat.mul_le_mul_right _ (by omega)
            · have hzz := renL_length hZ
              rw [List.length_append, ← hzz, zerosV_length, hzl, ← hOl', hOl, ← Nat.add_mul]; exact Nat.mul_le_mul_right _ hge
          · rw [open_new _ _ hrel.len]
        · cases hz
      · cases h
    · cases h
  · cases h

theorem execOp_builtin {o : Oper} {c : Call} (ho : o.op = .call c) {b : Builtin} (hc : c.callee = .builtin b) :
    ∃ cs, (execOp ev o).run P w = (builtin b c.argTypes o.type cs (c.args.map ev)).run P w := by
  refine ⟨c.args.map fun | .const _ => true | _ => false, ?_⟩
  simp only [execOp, ho, resolve, hc]
  simp [invoke]
  rfl

theorem args1 {c : Call} {a : Operand} (h : c.args.toList = [a]) : c.args.map ev = #[ev a] := by
  have : c.args = #[a] := by rw [← h]
  rw [this]; simp
theorem args2 {c : Call} {a b : Operand} (h : c.args.toList = [a, b]) : c.args.map ev = #[ev a, ev b] := by
  have : c.args = #[a, b] := by rw [← h]
  rw [this]; simp

/-- A builtin whose value is known. -/
theorem y_builtin {o : Oper} {c : Call} (ho : o.op = .call c) {b : Builtin} (hc : c.callee = .builtin b) {s : Sem Value} {x : Value} {w' : World} {ρ' : Ren} {v : AV}
    (hb : ∀ cs, builtin b c.argTypes o.type cs (c.args.map ev) = (do pure (.value (← s)) : Sem Next)) (hrun : s.run P w = .ok x w') (hext : Ext ρ ρ') (hrel : Rel base ρ' H' w') (hx : ren ρ' v = some x) :
    Yields base ρ ((execOp ev o).run P w) v H' := by
  obtain ⟨cs, h⟩ := execOp_builtin (P := P) (ev := ev) (w := w) ho hc
  rw [h, hb cs]
  refine ⟨ρ', w', x, .inl ?_, hext, hrel, hx⟩
  simp [hrun]

theorem y_builtinS {o : Oper} {c : Call} (ho : o.op = .call c) {b : Builtin} (hc : c.callee = .builtin b) {s : Sem Value} {x : Value} {v : AV}
    (hb : ∀ cs, builtin b c.argTypes o.type cs (c.args.map ev) = (do pure (.value (← s)) : Sem Next)) (hrun : s.run P w = .ok x w) (_ : Ext ρ ρ) (_ : Rel base ρ H w) (hx : ren ρ v = some x) :
    YieldsS ρ w H ((execOp ev o).run P w) v H := by
  obtain ⟨cs, h⟩ := execOp_builtin (P := P) (ev := ev) (w := w) ho hc
  rw [h, hb cs]
  refine ⟨rfl, x, ?_, hx⟩
  simp [hrun]

theorem s_lenS (hrel : Rel base ρ H w) (he : EvOk ρ e ev) {t : TypeId} {a : Operand} {a' : X} (ha : cx a = some a') (hu : P.underlying t = some .string) {v : AV}
    (h : (AOp.lenS a').eval P R e H = some (v, H')) {o : Oper} {c : Call} (ho : o.op = .call c) (hc : c.callee = .builtin .len) (h0 : c.argTypes[0]? = some t) (hl : c.args.toList = [a]) : YieldsS ρ w H ((execOp ev o).run P w) v H' := by
  have h1 := cx_ok he ha
  simp only [AOp.eval] at h
  split at h
  · rename_i s hs
    cases h
    rw [hs] at h1
    have h1 := ren_str h1
    refine y_builtinS (x := .int .i64 s.length) ho hc (fun cs => rfl) ?_ (Ext.refl _) hrel rfl
    rw [args1 hl, h1]
    unfold Builtin.len_
    simp [h0, und_ok hu, goInt]
    rfl
  · cases h

theorem s_lenL (hrel : Rel base ρ H w) (he : EvOk ρ e ev) {t el : TypeId} {a : Operand} {a' : X} (ha : cx a = some a') (hu : P.underlying t = some (.slice el)) {v : AV}
    (h : (AOp.lenL a').eval P R e H = some (v, H')) {o : Oper} {c : Call} (ho : o.op = .call c) (hc : c.callee = .builtin .len) (h0 : c.argTypes[0]? = some t) (hl : c.args.toList = [a]) : YieldsS ρ w H ((execOp ev o).run P w) v H' := by
  have h1 := cx_ok he ha
  simp only [AOp.eval] at h
  split at h
  · rename_i hs
    cases h
    rw [hs] at h1
    simp only [ren, Option.some.injEq] at h1
    refine y_builtinS (x := .int .i64 0) ho hc (fun cs => rfl) ?_ (Ext.refl _) hrel rfl
    rw [args1 hl, ← h1]
    unfold Builtin.len_
    simp [h0, und_ok hu, goInt]
  · rename_i l off n cp hs
    cases h
    rw [hs] at h1
    obtain ⟨A, m, _, _, h1⟩ := ren_slice h1
    refine y_builtinS (x := .int .i64 n) ho hc (fun cs => rfl) ?_ (Ext.refl _) hrel rfl
    rw [args1 hl, h1]
    unfold Builtin.len_
    simp [h0, und_ok hu, goInt]
  · rename_i A n cp hs
    cases h
    rw [hs] at h1
    obtain ⟨h1, _⟩ := ren_raw h1
    refine y_builtinS (x := .int .i64 n) ho hc (fun cs => rfl) ?_ (Ext.refl _) hrel rfl
    rw [args1 hl, h1]
    unfold Builtin.len_
    simp [h0, und_ok hu, goInt]
  · cases h

theorem s_cap (hrel : Rel base ρ H w) (he : EvOk ρ e ev) {t el : TypeId} {a : Operand} {a' : X} (ha : cx a = some a') (hu : P.underlying t = some (.slice el)) {v : AV}
    (h : (AOp.cap a').eval P R e H = some (v, H')) {o : Oper} {c : Call} (ho : o.op = .call c) (hc : c.callee = .builtin .cap) (h0 : c.argTypes[0]? = some t) (hl : c.args.toList = [a]) : YieldsS ρ w H ((execOp ev o).run P w) v H' := by
  have h1 := cx_ok he ha
  simp only [AOp.eval] at h
  split at h
  · rename_i hs
    cases h
    rw [hs] at h1
    simp only [ren, Option.some.injEq] at h1
    refine y_builtinS (x := .int .i64 0) ho hc (fun cs => rfl) ?_ (Ext.refl _) hrel rfl
    rw [args1 hl, ← h1]
    unfold Builtin.cap_
    simp [h0, und_ok hu, goInt]
  · rename_i l off n cp hs
    cases h
    rw [hs] at h1
    obtain ⟨A, m, _, hm, h3⟩ := ren_slice h1
    have : m = cp := by cases l <;> simpa [Cap.num] using hm.symm
    subst this
    refine y_builtinS (x := .int .i64 m) ho hc (fun cs => rfl) ?_ (Ext.refl _) hrel rfl
    rw [args1 hl, h3]
    unfold Builtin.cap_
    simp [h0, und_ok hu, goInt]
  · cases h

theorem fold_ok (f : Int → Int → Int) (g : Value → Value → Sem Value) (hg : ∀ k a k' b, g (.int k a) (.int k' b) = pure (.int k (f a b))) (k : IntKind) :
    ∀ {vs : List AV} {a : Int} {v : AV} {X : List Value}, foldI f k a vs = some v → renL ρ vs = some X → ∃ x, ren ρ v = some x ∧ (X.foldlM g (.int k a)).run P w = .ok x w
  | [], a, v, X, h, hX => by
    simp only [foldI] at h; cases h
    rw [renL_nil hX]
    exact ⟨_, rfl, rfl⟩
  | u :: vs, a, v, X, h, hX => by
    obtain ⟨x, xs, h1, h2, rfl⟩ := renL_cons hX
    cases u with
    | int k' b =>
      simp only [foldI] at h
      split at h
      · rename_i hk
        subst hk
        obtain rfl := ren_int h1
        obtain ⟨y, hy, hr⟩ := fold_ok f g hg k' h h2
        refine ⟨y, hy, ?_⟩
        simp only [List.foldlM_cons, hg, Sem.run_bind, Sem.run_pure, Result.andThen_ok]
        exact hr
      · cases h
    | _ => simp [foldI] at h

theorem s_minI (hrel : Rel base ρ H w) (he : EvOk ρ e ev) {a' : X} {as' : List X} {v : AV}
    (h : (AOp.minI a' as').eval P R e H = some (v, H')) {o : Oper} {c : Call} (ho : o.op = .call c) (hc : c.callee = .builtin .min) (hl : cxs c.args.toList = some (a' :: as')) : YieldsS ρ w H ((execOp ev o).run P w) v H' := by
  have h1 := cxs_ok he hl
  simp only [AOp.eval] at h
  split at h
  · rename_i k a hx
    simp only [Option.map_eq_some_iff] at h
    obtain ⟨u, hu, h⟩ := h
    cases h
    obtain ⟨x, xs, e1, e2, e3⟩ := renL_cons h1
    rw [hx] at e1
    obtain rfl := ren_int e1
    obtain ⟨y, hy, hr⟩ := fold_ok (P := P) (w := w) _ Builtin.min2 (fun k a k' b => rfl) k hu e2
    refine y_builtinS (x := y) ho hc (fun cs => rfl) ?_ (Ext.refl _) hrel hy
    unfold Builtin.min_
    simp only [Array.toList_map, e3]
    exact hr
  · cases h

theorem s_maxI (hrel : Rel base ρ H w) (he : EvOk ρ e ev) {a' : X} {as' : List X} {v : AV}
    (h : (AOp.maxI a' as').eval P R e H = some (v, H')) {o : Oper} {c : Call} (ho : o.op = .call c) (hc : c.callee = .builtin .max) (hl : cxs c.args.toList = some (a' :: as')) : YieldsS ρ w H ((execOp ev o).run P w) v H' := by
  have h1 := cxs_ok he hl
  simp only [AOp.eval] at h
  split at h
  · rename_i k a hx
    simp only [Option.map_eq_some_iff] at h
    obtain ⟨u, hu, h⟩ := h
    cases h
    obtain ⟨x, xs, e1, e2, e3⟩ := renL_cons h1
    rw [hx] at e1
    obtain rfl := ren_int e1
    obtain ⟨y, hy, hr⟩ := fold_ok (P := P) (w := w) _ Builtin.max2 (fun k a k' b => rfl) k hu e2
    refine y_builtinS (x := y) ho hc (fun cs => rfl) ?_ (Ext.refl _) hrel hy
    unfold Builtin.max_
    simp only [Array.toList_map, e3]
    exact hr
  · cases h

theorem s_ext (hrel : Rel base ρ H w) (he : EvOk ρ e ev) {a : Operand} {a' : X} {i : Nat} (ha : cx a = some a') {v : AV}
    (h : (AOp.ext a' i).eval P R e H = some (v, H')) {o : Oper} (ho : o.op = .extract a i) : YieldsS ρ w H ((execOp ev o).run P w) v H' := by
  have h1 := cx_ok he ha
  simp only [AOp.eval] at h
  split at h
  · rename_i vs hx
    simp only [Option.map_eq_some_iff] at h
    obtain ⟨u, hu, h⟩ := h
    cases h
    rw [hx] at h1
    obtain ⟨l, hl, h1⟩ := ren_tuple h1
    obtain ⟨x, hx, hr⟩ := renL_getElem? hl i _ hu
    simp only [execOp, ho, h1]
    simp [Instr.extract, hx]
    exact YieldsS.same hrel hr
  · cases h

theorem s_fn (hrel : Rel base ρ H w) (he : EvOk ρ e ev) {f : Fn} {a b : Array Operand} {a' b' : List X} (ha : cxs a.toList = some a') (hb : cxs b.toList = some b') {v : AV}
    (h : (AOp.fn f a' b').eval P R e H = some (v, H')) {o : Oper} (ho : o.op = .makeFunc f a b) : YieldsS ρ w H ((execOp ev o).run P w) v H' := by
  simp only [AOp.eval] at h
  cases h
  have h1 := cxs_ok he ha
  have h2 := cxs_ok he hb
  simp only [execOp, ho]
  simp [Instr.makeFunc]
  refine YieldsS.same hrel ?_
  simp only [ren, h1, h2]
  congr 2
  · apply Array.ext'; simp
  · apply Array.ext'; simp
end
end Am
namespace Am
open Go Go.RowKit
section
variable {P : Program} {R : Ro} {base : World} {ρ : Ren} {H H' : AH} {w : World} {e : Env} {ev : Operand → Value}

theorem bytes_ren (s : List UInt8) (ρ : Ren) : renL ρ (s.map fun b => AV.int .u8 b.toNat) = some (s.map fun b => Value.int .u8 b.toNat) := by
  induction s with
  | nil => rfl
  | cons b s ih => exact renL_cons_mk rfl ih

theorem s_copy (hR : ROk R base) (hrel : Rel base ρ H w) (he : EvOk ρ e ev) {t el : TypeId} {sz : Nat} {a b : Operand} {a' b' : X} (ha : cx a = some a') (hb : cx b = some b') (hu : P.underlying t = some (.slice el)) (hs : sizeC P el = some sz) {v : AV}
    (h : (AOp.copy sz a' b').eval P R e H = some (v, H')) {o : Oper} {c : Call} (ho : o.op = .call c) (hc : c.callee = .builtin .copy) (h0 : c.argTypes[0]? = some t) (hl : c.args.toList = [a, b]) : Yields base ρ ((execOp ev o).run P w) v H' := by
  have h1 := cx_ok he ha
  have h2 := cx_ok he hb
  simp only [AOp.eval] at h
  have hmin : ∀ a b, Nat.min a b = min a b := fun _ _ => rfl
  split at h
  · rename_i hx
    rw [hx] at h1
    simp only [ren, Option.some.injEq] at h1
    have key : ∃ n, (Builtin.lenOf (ev b)).run P w = .ok n w ∧ (Builtin.firstCells sz 0 (ev b)).run P w = .ok #[] w ∧ v = .int .i64 0 ∧ H = H' := by
      split at h
      · rename_i hy
        cases h
        rw [hy] at h2
        simp only [ren, Option.some.injEq] at h2
        rw [← h2]; exact ⟨0, rfl, rfl, rfl, rfl⟩
      · rename_i hy
        cases h
        rw [hy] at h2
        obtain ⟨A, m, _, _, h2⟩ := ren_slice h2
        rw [h2]; exact ⟨_, rfl, by simp [Builtin.firstCells, loadCells, loadCellsFrom], rfl, rfl⟩
      · rename_i hy
        cases h
        rw [hy] at h2
        have h2 := ren_str h2
        rw [h2]; exact ⟨_, rfl, by simp [Builtin.firstCells, ByteArray.extract, ByteArray.copySlice], rfl, rfl⟩
      · cases h
    obtain ⟨n, k1, k2, rfl, rfl⟩ := key
    refine y_builtin (x := .int .i64 0) ho hc (fun cs => rfl) ?_ (Ext.refl _) hrel rfl
    rw [args2 hl, ← h1]
    unfold Builtin.copy_
    simp [h0, und_ok hu, sizeC_ok hs, k1, k2, goInt]
  · rename_i l off dn cp hx
    rw [hx] at h1
    obtain ⟨A, m, hA, _, g1⟩ := ren_slice h1
    split at h
    · rename_i hy
      cases h
      rw [hy] at h2
      simp only [ren, Option.some.injEq] at h2
      refine y_builtin (x := .int .i64 0) ho hc (fun cs => rfl) ?_ (Ext.refl _) hrel rfl
      rw [args2 hl, g1, ← h2]
      unfold Builtin.copy_
      simp [h0, und_ok hu, sizeC_ok hs, Builtin.lenOf, hmin, Builtin.firstCells, storeCells, goInt]
    · rename_i l' off' sn cp' hy
      rw [hy] at h2
      obtain ⟨B, m', hB, _, h2⟩ := ren_slice h2
      split at h
      · rename_i cs hcs
        obtain ⟨V, hV, hVl, hrun⟩ := readN_sound hR hrel hcs hB
        have hfc : (Builtin.firstCells sz (min sn dn) (Value.slice (some B) sn m')).run P w = .ok V.toArray w := by
          simp only [Builtin.firstCells, loadCells, hrun, Array.empty_append]
        split at h
        · rename_i i
          simp only [Option.map_eq_some_iff] at h
          obtain ⟨H1, hH, h⟩ := h
          cases h
          simp only [Loc.addr, Option.map_eq_some_iff] at hA
          obtain ⟨p, hp, rfl⟩ := hA
          obtain ⟨w', hrun', hrel'⟩ := writeN_sound hrel hH hV hp
          refine y_builtin (x := .int .i64 (min sn dn)) ho hc (fun cs => rfl) (w' := w') ?_ (Ext.refl _) hrel' rfl
          rw [args2 hl, g1, h2]
          unfold Builtin.copy_
          simp [h0, und_ok hu, sizeC_ok hs, Builtin.lenOf, hmin, hfc, hrun', goInt]
          omega
        · split at h
          · rename_i hcs0
            cases h
            subst hcs0
            obtain rfl := renL_nil hV
            refine y_builtin (x := .int .i64 (min sn dn)) ho hc (fun cs => rfl) ?_ (Ext.refl _) hrel rfl
            rw [args2 hl, g1, h2]
            unfold Builtin.copy_
            simp [h0, und_ok hu, sizeC_ok hs, Builtin.lenOf, hmin, hfc, storeCells, goInt]
            omega
          · cases h
      · cases h
    · rename_i s hy
      rw [hy] at h2
      have h2 := ren_str h2
      split at h
      · rename_i hsz
        subst hsz
        split at h
        · rename_i i
          simp only [Option.map_eq_some_iff] at h
          obtain ⟨H1, hH, h⟩ := h
          cases h
          simp only [Loc.addr, Option.map_eq_some_iff] at hA
          obtain ⟨p, hp, rfl⟩ := hA
          obtain ⟨w', hrun', hrel'⟩ := writeN_sound hrel hH (bytes_ren _ ρ) hp
          have hfc : (Builtin.firstCells 1 (min s.length dn) (Value.string ⟨⟨s⟩⟩)).run P w = .ok ((s.take (min s.length dn)).map fun b => Value.int .u8 b.toNat).toArray w := by
            have := ByteArray.extract_mk s 0 (min s.length dn)
            simp only [Builtin.firstCells]
            rw [show (ByteArray.mk ⟨s⟩).extract 0 (min s.length dn) = ByteArray.mk ((s.take (min s.length dn))).toArray from by simpa using this]
            simp
          have hsz : (ByteArray.mk ⟨s⟩).size = s.length := rfl
          refine y_builtin (x := .int .i64 (min s.length dn)) ho hc (fun cs => rfl) (w' := w') ?_ (Ext.refl _) hrel' rfl
          rw [args2 hl, g1, h2]
          unfold Builtin.copy_
          simp only [h0, List.getElem?_toArray, List.getElem?_cons_zero, List.getElem?_cons_succ, Sem.run_bind, und_ok hu, Result.andThen_ok, Builtin.lenOf, Sem.run_pure, hsz, hmin, sizeC_ok hs, hfc]
          rw [hrun']
          simp [goInt]
          omega
        · cases h
      · cases h
    · cases h
  · cases h

theorem s_clearS (hrel : Rel base ρ H w) (he : EvOk ρ e ev) {t el : TypeId} {sz : Nat} {z : AV} {a : Operand} {a' : X} (ha : cx a = some a') (hu : P.underlying t = some (.slice el)) (hz : zeroC P el = some z) {v : AV}
    (h : (AOp.clearS sz z.cells a').eval P R e H = some (v, H')) {o : Oper} {c : Call} (ho : o.op = .call c) (hc : c.callee = .builtin .clear) (h0 : c.argTypes[0]? = some t) (hl : c.args.toList = [a]) : Yields base ρ ((execOp ev o).run P w) v H' := by
  have h1 := cx_ok he ha
  simp only [AOp.eval] at h
  split at h
  · rename_i hx
    cases h
    rw [hx] at h1
    simp only [ren, Option.some.injEq] at h1
    refine y_builtin (x := Go.undef) ho hc (fun cs => rfl) ?_ (Ext.refl _) hrel rfl
    rw [args1 hl, ← h1]
    unfold Builtin.clear_
    simp [h0, und_ok hu, Go.undef]
  · rename_i i off n cp hx
    split at h
    · rename_i hzl
      simp only [Option.map_eq_some_iff] at h
      obtain ⟨H1, hH, h⟩ := h
      cases h
      rw [hx] at h1
      obtain ⟨A, m, hA, _, h1⟩ := ren_slice h1
      obtain ⟨Z, hZ, hZrun⟩ := zeroC_ok hz ρ w
      simp only [Loc.addr, Option.map_eq_some_iff] at hA
      obtain ⟨p, hp, rfl⟩ := hA
      obtain ⟨w', hrun', hrel'⟩ := writeN_sound hrel hH (renL_zeros (cells_ren hZ) n) hp
      cases n with
      | zero =>
        simp only [zerosEv, writeN] at hH
        have hrun0 := hrun' P
        simp only [zerosV, storeCells, Sem.run_pure] at hrun0
        cases hrun0
        refine y_builtin (x := Go.undef) ho hc (fun cs => rfl) ?_ (Ext.refl _) hrel' rfl
        rw [args1 hl, h1]
        unfold Builtin.clear_
        simp [h0, und_ok hu, Go.undef]
      | succ n =>
        refine y_builtin (x := Go.undef) ho hc (fun cs => rfl) (w' := w') ?_ (Ext.refl _) hrel' rfl
        rw [args1 hl, h1]
        unfold Builtin.clear_
        have hzc := zeroCells_eq Z.cells.toList (n + 1)
        simp only [Array.toArray_toList] at hzc
        simp [h0, und_ok hu, hZrun, hzc, hrun', Go.undef]
    · cases h
  · cases h

theorem s_rangeS (hrel : Rel base ρ H w) (he : EvOk ρ e ev) {t : TypeId} {a : Operand} {a' : X} (ha : cx a = some a') (hu : P.underlying t = some .string) {v : AV}
    (h : (AOp.rangeS a').eval P R e H = some (v, H')) {o : Oper} (ho : o.op = .range t a) : Yields base ρ ((execOp ev o).run P w) v H' := by
  have h1 := cx_ok he ha
  simp only [AOp.eval] at h
  split at h
  · rename_i s hx
    cases h
    rw [hx] at h1
    have h1 := ren_str h1
    refine ⟨ρ ++ [⟨w.heap.size, 0, 0⟩], _, .pointer (some ⟨w.heap.size, 0, none⟩), .inl ?_, Ext.mk _ _, hrel.new (.stringIter ⟨⟨s⟩⟩ 0) (.siter s 0) 0 0 w.drawn ?_, ?_⟩
    · simp [execOp, ho, h1, Instr.range, und_ok hu]
    · exact ⟨push_at _ _, rfl⟩
    · simp [ren, addr_new ρ ⟨w.heap.size, 0, 0⟩ 0 H hrel.len]
  · cases h

theorem setObj_touch {b : Nat} {ob : Obj} (hb : w.heap[b]? = some ob) (hnc : ∀ c t f, ob ≠ .cells c t f) (o' : Obj) :
    (setObj b o').run P w = .ok () { w with heap := w.heap.setIfInBounds b o' } ∧ Touch w { w with heap := w.heap.setIfInBounds b o' } b ∧ (w.heap.setIfInBounds b o')[b]? = some o' := by
  refine ⟨?_, ⟨rfl, rfl, rfl, by simp, fun k hk => ?_⟩, ?_⟩
  · simp only [setObj, Sem.run, hb]
  · show (w.heap.setIfInBounds b o')[k]? = _
    rw [Array.getElem?_setIfInBounds, if_neg (Ne.symm hk)]
  · rw [Array.getElem?_setIfInBounds, if_pos rfl, if_pos (Array.getElem?_eq_some_iff.1 hb).1]

theorem getObj_at {b : Nat} {ob : Obj} (hb : w.heap[b]? = some ob) (hnc : ∀ c t f, ob ≠ .cells c t f) : (getObj b).run P w = .ok ob w := by
  simp only [getObj, Sem.run, hb]

theorem s_nextS (hrel : Rel base ρ H w) (he : EvOk ρ e ev) {a : Operand} {a' : X} (ha : cx a = some a') {v : AV}
    (h : (AOp.nextS a').eval P R e H = some (v, H')) {o : Oper} (ho : o.op = .next a true) : Yields base ρ ((execOp ev o).run P w) v H' := by
  have h1 := cx_ok he ha
  simp only [AOp.eval] at h
  split at h
  · rename_i i hx
    split at h
    · rename_i s pos hi
      rw [hx] at h1
      obtain ⟨A, hA, h1⟩ := ren_ptr h1
      simp only [Loc.addr, Option.map_eq_some_iff] at hA
      obtain ⟨p, hp, rfl⟩ := hA
      obtain ⟨hobj, hs0⟩ : w.heap[p.blk]? = some (.stringIter ⟨⟨s⟩⟩ pos) ∧ p.sh = 0 := hrel.obj i _ p hi hp
      have hsz : (ByteArray.mk ⟨s⟩).size = s.length := rfl
      have hget := getObj_at (P := P) hobj (by intro c t f hcc; cases hcc)
      rw [hs0] at h1
      split at h
      · rename_i hpos
        cases h
        obtain ⟨q1, q2, q3⟩ := setObj_touch (P := P) hobj (by intro c t f hcc; cases hcc) (.stringIter ⟨⟨s⟩⟩ (pos + (Utf8.decode ⟨⟨s⟩⟩ pos).2))
        refine ⟨ρ, _, .tuple #[.bool true, goInt pos, .int .i32 (Utf8.decode ⟨⟨s⟩⟩ pos).1], .inl ?_, Ext.refl _, hrel.put hi hp rfl q2.os q2.tape q2.output q2.size q2.other ⟨q3, hs0⟩, rfl⟩
        simp only [execOp, ho, h1, Instr.next]
        simp [hget, hsz, hpos, q1]
      · rename_i hpos
        cases h
        refine ⟨ρ, w, .tuple #[.bool false], .inl ?_, Ext.refl _, hrel, rfl⟩
        simp only [execOp, ho, h1, Instr.next]
        simp [hget, hsz, hpos]
    · cases h
  · cases h

/-! ### Maps -/
theorem renE_getElem? : ∀ {es : List AEntry} {X : List MapEntry}, renE ρ es = some X → ∀ (i : Nat) en, es[i]? = some en → ∃ k v, ren ρ en.key = some k ∧ ren ρ en.val = some v ∧ X[i]? = some ⟨k, v, en.born⟩
  | [], _, _, i, en, h => by simp at h
  | a :: es, X, hX, i, en, h => by
    obtain ⟨k, v, l, h1, h2, h3, rfl⟩ := renE_cons hX
    cases i with
    | zero => simp at h; subst h; exact ⟨k, v, h1, h2, rfl⟩
    | succ i => simp only [List.getElem?_cons_succ] at h ⊢; exact renE_getElem? h3 i en h

theorem renE_length : ∀ {es : List AEntry} {X : List MapEntry}, renE ρ es = some X → X.length = es.length
  | [], X, h => by simp only [renE] at h; cases h; rfl
  | a :: es, X, h => by
    obtain ⟨k, v, l, h1, h2, h3, rfl⟩ := renE_cons h
    simp [renE_length h3]

theorem renE_append : ∀ {a b : List AEntry} {X Y : List MapEntry}, renE ρ a = some X → renE ρ b = some Y → renE ρ (a ++ b) = some (X ++ Y)
  | [], b, X, Y, h, k => by simp only [renE] at h; cases h; simpa using k
  | e :: es, b, X, Y, h, k => by
    obtain ⟨x, v, l, h1, h2, h3, rfl⟩ := renE_cons h
    exact renE_cons_mk h1 h2 (renE_append h3 k)

theorem renE_set : ∀ {a : List AEntry} {X : List MapEntry}, renE ρ a = some X → ∀ (i : Nat) {en : AEntry} {k v : Value}, ren ρ en.key = some k → ren ρ en.val = some v → renE ρ (a.set i en) = some (X.set i ⟨k, v, en.born⟩)
  | [], X, h, i, en, k, v, hk, hv => by simp only [renE] at h; cases h; rfl
  | e :: es, X, h, i, en, k, v, hk, hv => by
    obtain ⟨x, u, l, h1, h2, h3, rfl⟩ := renE_cons h
    cases i with
    | zero => exact renE_cons_mk hk hv h3
    | succ i => exact renE_cons_mk h1 h2 (renE_set h3 i hk hv)

theorem renE_erase : ∀ {a : List AEntry} {X : List MapEntry}, renE ρ a = some X → ∀ (i : Nat), renE ρ (a.eraseIdx i) = some (X.eraseIdx i)
  | [], X, h, i => by simp only [renE] at h; cases h; rfl
  | e :: es, X, h, i => by
    obtain ⟨x, u, l, h1, h2, h3, rfl⟩ := renE_cons h
    cases i with
    | zero => exact h3
    | succ i => exact renE_cons_mk h1 h2 (renE_erase h3 i)

theorem findNow_keys (kind : TypeDesc) (K : Value) : ∀ (es es' : List MapEntry) (i : Nat), es.map (·.key) = es'.map (·.key) →
    ∀ r, Instr.findNow kind K es i = some r → ∃ r', Instr.findNow kind K es' i = some r' ∧ r.map (·.1) = r'.map (·.1) ∧ ∀ j u, r' = some (j, u) → i ≤ j ∧ (es'[j - i]?).map (·.val) = some u
  | [], es', i, h, r, hr => by
    simp at h; subst h
    simp only [Instr.findNow] at hr ⊢
    cases hr; exact ⟨none, rfl, rfl, fun _ _ h => by cases h⟩
  | e :: es, [], i, h, r, hr => by simp at h
  | e :: es, e' :: es', i, h, r, hr => by
    simp at h
    obtain ⟨h1, h2⟩ := h
    simp only [Instr.findNow] at hr ⊢
    rw [← h1]
    split at hr
    · cases hr; exact ⟨some (i, e'.val), rfl, rfl, fun j u h => by cases h; simp⟩
    · obtain ⟨r', g1, g2, g3⟩ := findNow_keys kind K es es' (i + 1) h2 r hr
      exact ⟨r', g1, g2, fun j u h => by
        obtain ⟨a, b⟩ := g3 j u h
        refine ⟨by omega, ?_⟩
        rw [show j - i = (j - (i + 1)) + 1 from by omega]; simpa using b⟩
    · cases hr

theorem findNow_none (kind : TypeDesc) (K : Value) : ∀ (es es' : List MapEntry) (i : Nat), es.map (·.key) = es'.map (·.key) → Instr.findNow kind K es i = none → Instr.findNow kind K es' i = none
  | [], es', i, h, hr => by simp [Instr.findNow] at hr
  | e :: es, [], i, h, hr => by simp at h
  | e :: es, e' :: es', i, h, hr => by
    simp at h
    obtain ⟨h1, h2⟩ := h
    simp only [Instr.findNow] at hr ⊢
    rw [← h1]
    split at hr
    · cases hr
    · exact findNow_none kind K es es' (i + 1) h2 hr
    · rfl

theorem pureRun_bind {α β : Type} : ∀ {s : Sem α} {f : α → Sem β} {r : β}, pureRun P (s >>= f) = some r → ∃ q, pureRun P s = some q ∧ pureRun P (f q) = some r := by
  intro s
  induction s with
  | pure a => intro f r h; exact ⟨a, rfl, h⟩
  | program k ih => intro f r h; exact ih P h
  | mark m k ih => intro f r h; exact ih h
  | _ => intro f r h; simp [Bind.bind, Sem.bind, pureRun] at h

theorem pureRun_bind_mk {α β : Type} : ∀ {s : Sem α} {f : α → Sem β} {q : α} {r : β}, pureRun P s = some q → pureRun P (f q) = some r → pureRun P (s >>= f) = some r := by
  intro s
  induction s with
  | pure a => intro f q r h k; simp only [pureRun] at h; cases h; exact k
  | program k ih => intro f q r h k'; exact ih P h k'
  | mark m k ih => intro f q r h k'; exact ih h k'
  | _ => intro f q r h k; simp [pureRun] at h

theorem findAsking_keys (key : TypeId) (K : Value) : ∀ (es es' : List MapEntry) (i : Nat), es.map (·.key) = es'.map (·.key) →
    ∀ r, pureRun P (Instr.findAsking key K es i) = some r → ∃ r', pureRun P (Instr.findAsking key K es' i) = some r' ∧ r.map (·.1) = r'.map (·.1) ∧ ∀ j u, r' = some (j, u) → i ≤ j ∧ (es'[j - i]?).map (·.val) = some u
  | [], es', i, h, r, hr => by
    simp at h; subst h
    simp only [Instr.findAsking] at hr ⊢
    cases hr; exact ⟨none, rfl, rfl, fun _ _ h => by cases h⟩
  | e :: es, [], i, h, r, hr => by simp at h
  | e :: es, e' :: es', i, h, r, hr => by
    simp at h
    obtain ⟨h1, h2⟩ := h
    simp only [Instr.findAsking] at hr ⊢
    rw [← h1]
    obtain ⟨q, hq, hr⟩ := pureRun_bind hr
    cases q with
    | true => simp only [if_true] at hr; cases hr; exact ⟨some (i, e'.val), pureRun_bind_mk hq rfl, rfl, fun j u h => by cases h; simp⟩
    | false =>
      simp only [Bool.false_eq_true, if_false] at hr
      obtain ⟨r', g1, g2, g3⟩ := findAsking_keys key K es es' (i + 1) h2 r hr
      exact ⟨r', pureRun_bind_mk hq g1, g2, fun j u h => by
        obtain ⟨a, b⟩ := g3 j u h
        refine ⟨by omega, ?_⟩
        rw [show j - i = (j - (i + 1)) + 1 from by omega]; simpa using b⟩

theorem concs_keys : ∀ {es : List AEntry} {Ks : List Value} {X : List MapEntry}, es.mapM (fun e => conc e.key) = some Ks → renE ρ es = some X → X.map (·.key) = Ks
  | [], Ks, X, h, hX => by
    simp at h; subst h
    simp only [renE] at hX; cases hX; rfl
  | e :: es, Ks, X, h, hX => by
    obtain ⟨k, v, l, h1, h2, h3, rfl⟩ := renE_cons hX
    simp only [List.mapM_cons] at h
    cases hk : conc e.key with
    | none => simp [hk] at h
    | some k' =>
      cases hl : es.mapM (fun e => conc e.key) with
      | none => simp [hk, hl] at h
      | some Ks' =>
        simp [hk, hl] at h
        subst h
        have := conc_ok hk ρ
        rw [h1] at this; cases this
        simp [concs_keys hl h3]

/-- What the model's search finds. -/
theorem find_ok {key : TypeId} {k : AV} {es : List AEntry} {r : Option Nat} (h : findEv P key k es = some r) {X : List MapEntry} (hX : renE ρ es = some X) {K : Value} (hK : ren ρ k = some K) (w : World) :
    (∀ b, (Instr.checkKey b 10000 key K).run P w = .ok () w) ∧ ∃ r', (Instr.findKey key K X).run P w = .ok r' w ∧ r'.map (·.1) = r ∧ ∀ j u, r' = some (j, u) → (X[j]?).map (·.val) = some u := by
  unfold findEv at h
  split at h
  · rename_i K' Ks hk hks
    have e1 := conc_ok hk ρ
    rw [hK] at e1; cases e1
    split at h
    · rename_i q q' hq hq'
      simp only [Option.map_eq_some_iff] at h
      obtain ⟨r0, hr0, rfl⟩ := h
      have hkeys := concs_keys hks hX
      refine ⟨fun b => ?_, ?_⟩
      · cases b
        · exact pureRun_run hq' w
        · exact pureRun_run hq w
      · have hmm : (Ks.map fun x => (⟨x, .nilFunc, 0⟩ : MapEntry)).map (·.key) = X.map (·.key) := by rw [hkeys, List.map_map]; exact List.map_id _
        unfold Instr.findKey at hr0
        obtain ⟨d, hd, hr0⟩ := pureRun_bind hr0
        have hdr := pureRun_run hd w
        unfold Instr.findKey
        simp only [Sem.run_bind, hdr, Result.andThen_ok]
        cases hn : Instr.findNow d K (Ks.map fun x => ⟨x, .nilFunc, 0⟩) 0 with
        | some r1 =>
          rw [hn] at hr0
          have hr0 : r1 = r0 := by cases hr0; rfl
          subst hr0
          obtain ⟨r', g1, g2, g3⟩ := findNow_keys d K _ X 0 hmm r1 hn
          rw [g1]
          exact ⟨r', rfl, g2.symm, fun j u h => by simpa using (g3 j u h).2⟩
        | none =>
          rw [hn] at hr0
          have hn2 := findNow_none d K _ X 0 hmm hn
          rw [hn2]
          obtain ⟨r', g1, g2, g3⟩ := findAsking_keys key K _ X 0 hmm r0 hr0
          exact ⟨r', pureRun_run g1 w, g2.symm, fun j u h => by simpa using (g3 j u h).2⟩
    · cases h
  · cases h
end
end Am
namespace Am
open Go Go.RowKit
section
variable {P : Program} {R : Ro} {base : World} {ρ : Ren} {H H' : AH} {w : World} {e : Env} {ev : Operand → Value}

/-- A map's object, and what is found in it. -/
theorem map_at (hrel : Rel base ρ H w) {r : Nat} {es : List AEntry} {clock : Nat} (hr : H[r]? = some (.map es clock)) {p : Slot} (hp : ρ[r]? = some p) :
    ∃ E, w.heap[p.blk]? = some (.map E clock) ∧ renE ρ es = some E.toList ∧ (getObj p.blk).run P w = .ok (.map E clock) w := by
  obtain ⟨E, h1, h2⟩ := hrel.obj r _ p hr hp
  exact ⟨E, h1, h2, getObj_at h1 (by intro c t f hcc; cases hcc)⟩

theorem map_put (hrel : Rel base ρ H w) {r : Nat} {es es' : List AEntry} {clock clock' : Nat} (hr : H[r]? = some (.map es clock)) {p : Slot} (hp : ρ[r]? = some p) {E' : Array MapEntry} (hE : renE ρ es' = some E'.toList) :
    ∃ w', (setObj p.blk (.map E' clock')).run P w = .ok () w' ∧ Rel base ρ (H.set r (.map es' clock')) w' := by
  obtain ⟨E, h1, h2⟩ := hrel.obj r _ p hr hp
  obtain ⟨q1, q2, q3⟩ := setObj_touch (P := P) h1 (by intro c t f hcc; cases hcc) (.map E' clock')
  exact ⟨_, q1, hrel.put hr hp rfl q2.os q2.tape q2.output q2.size q2.other ⟨E', q3, hE⟩⟩

theorem s_mkmap (hrel : Rel base ρ H w) {t : TypeId} {v : AV}
    (h : AOp.mkmap.eval P R e H = some (v, H')) {o : Oper} (ho : o.op = .makeMap t none) : Yields base ρ ((execOp ev o).run P w) v H' := by
  simp only [AOp.eval] at h
  cases h
  refine ⟨ρ ++ [⟨w.heap.size, 0, 0⟩], _, .map (some w.heap.size), .inl ?_, Ext.mk _ _, hrel.new (.map #[] 0) (.map [] 0) 0 0 w.drawn ?_, ?_⟩
  · simp [execOp, ho, Instr.makeMap]
  · exact ⟨#[], push_at _ _, rfl⟩
  · simp [ren, ← hrel.len]

theorem s_lookup (hrel : Rel base ρ H w) (he : EvOk ρ e ev) {t key el : TypeId} {a b : Operand} {a' b' : X} {ok : Bool} {z : AV} (ha : cx a = some a') (hb : cx b = some b') (hu : P.underlying t = some (.map key el)) (hz : zeroC P el = some z) {v : AV}
    (h : (AOp.lookup key z a' b' ok).eval P R e H = some (v, H')) {o : Oper} (ho : o.op = .lookup t a b ok) : YieldsS ρ w H ((execOp ev o).run P w) v H' := by
  have h1 := cx_ok he ha
  have h2 := cx_ok he hb
  obtain ⟨Z, hZ, hZrun⟩ := zeroC_ok hz ρ w
  simp only [AOp.eval] at h
  have hfin : ∀ (u : AV) (U : Value) (bb : Bool), ren ρ u = some U → ren ρ (if ok then AV.tuple [u, .bool bb] else u) = some (if ok then .tuple #[U, .bool bb] else U) := by
    intro u U bb hU
    cases ok
    · exact hU
    · simp [ren, renL, hU]
  split at h
  · rename_i hx
    rw [hx] at h1
    simp only [ren, Option.some.injEq] at h1
    split at h
    · rename_i q hq
      cases h
      obtain ⟨c1, r', c2, c3, _⟩ := find_ok (P := P) hq (ρ := ρ) (X := []) rfl h2 w
      have hck : (Instr.checkKey true 10000 key (ev b)).run P w = .ok () w := c1 true
      have hr' : r' = none := by
        simp only [Instr.findKey, Instr.findNow, Sem.run_bind] at c2
        cases hu2 : (underlying key).run P w with
        | halt x w' => rw [hu2] at c2; simp at c2
        | ok x w' => rw [hu2] at c2; simp at c2; exact c2.1.symm
      subst hr'
      simp only [execOp, ho, ← h1, Instr.lookup]
      simp only [Sem.run_bind, und_ok hu, Result.andThen_ok, Sem.run_pure, Array.isEmpty_empty, hck, c2, hZrun]
      exact YieldsS.same hrel (hfin _ _ _ hZ)
    · cases h
  · rename_i r hx
    rw [hx] at h1
    obtain ⟨p, hp, h1⟩ := ren_map h1
    split at h
    · rename_i es clock hr
      obtain ⟨E, g1, g2, g3⟩ := map_at (P := P) hrel hr hp
      split at h
      · rename_i j hf
        split at h
        · rename_i en hen
          cases h
          obtain ⟨c1, r', c2, c3, c4⟩ := find_ok (P := P) hf g2 h2 w
          have hck : (Instr.checkKey E.isEmpty 10000 key (ev b)).run P w = .ok () w := c1 _
          cases r' with
          | none => simp at c3
          | some q =>
            obtain ⟨j', u⟩ := q
            simp at c3
            subst c3
            obtain ⟨k, x, k1, k2, k3⟩ := renE_getElem? g2 j' en hen
            have hu4 := c4 j' u rfl
            rw [k3] at hu4
            simp at hu4
            subst hu4
            simp only [execOp, ho, h1, Instr.lookup]
            simp only [Sem.run_bind, und_ok hu, Result.andThen_ok, Sem.run_pure, g3, hck, c2]
            exact YieldsS.same hrel (hfin _ _ _ k2)
        · cases h
      · rename_i hf
        cases h
        obtain ⟨c1, r', c2, c3, c4⟩ := find_ok (P := P) hf g2 h2 w
        have hck : (Instr.checkKey E.isEmpty 10000 key (ev b)).run P w = .ok () w := c1 _
        cases r' with
        | some q => simp at c3
        | none =>
          simp only [execOp, ho, h1, Instr.lookup]
          simp only [Sem.run_bind, und_ok hu, Result.andThen_ok, Sem.run_pure, g3, hck, c2, hZrun]
          exact YieldsS.same hrel (hfin _ _ _ hZ)
      · cases h
    · cases h
  · cases h

theorem stays_ok {old new : AV} {O N : Value} (h : staysEv old new = true) (hO : ren ρ old = some O) (hN : ren ρ new = some N) : Instr.sameBits 10000 O N = true := by
  unfold staysEv at h
  split at h
  · rename_i a b h1 h2
    have e1 := conc_ok h1 ρ
    have e2 := conc_ok h2 ρ
    rw [hO] at e1; rw [hN] at e2
    cases e1; cases e2
    exact h
  · cases h

theorem modify_set {E : Array MapEntry} {i : Nat} {en : MapEntry} (h : E.toList[i]? = some en) (f : MapEntry → MapEntry) : (E.modify i f).toList = E.toList.set i (f en) := by
  apply List.ext_getElem?
  intro j
  have hE : E[i]? = some en := by simpa using h
  rw [List.getElem?_set, Array.getElem?_toList, Array.getElem?_modify, Array.getElem?_toList]
  split
  · rename_i hij
    subst hij
    obtain ⟨h1, h2⟩ := Array.getElem?_eq_some_iff.1 hE
    simp [h1, h2]
  · rfl

theorem s_mapUpd (hrel : Rel base ρ H w) (he : EvOk ρ e ev) {t key el : TypeId} {a b c : Operand} {a' b' c' : X} (ha : cx a = some a') (hb : cx b = some b') (hc : cx c = some c') (hu : P.underlying t = some (.map key el)) {v : AV}
    (h : (AOp.mapUpd key a' b' c').eval P R e H = some (v, H')) {o : Oper} (ho : o.op = .mapUpdate t a b c ∨ o.op = .insert t a b c) : Yields base ρ ((execOp ev o).run P w) v H' := by
  have h1 := cx_ok he ha
  have h2 := cx_ok he hb
  have h3 := cx_ok he hc
  simp only [AOp.eval] at h
  have hrunE : (execOp ev o).run P w = ((Instr.mapUpdate t (ev a) (ev b) (ev c)).run P w).andThen fun _ w' => .ok .skip w' := by
    rcases ho with ho | ho <;> (simp only [execOp, ho]; simp)
  rw [hrunE]
  split at h
  · rename_i r hx
    rw [hx] at h1
    obtain ⟨p, hp, h1⟩ := ren_map h1
    split at h
    · rename_i es clock hr
      obtain ⟨E, g1, g2, g3⟩ := map_at (P := P) hrel hr hp
      split at h
      · rename_i j hf
        split at h
        · rename_i en hen
          split at h
          · rename_i hst
            cases h
            obtain ⟨c1, r', c2, c3, c4⟩ := find_ok (P := P) hf g2 h2 w
            have hck : (Instr.checkKey false 10000 key (ev b)).run P w = .ok () w := c1 false
            cases r' with
            | none => simp at c3
            | some q =>
              obtain ⟨j', u⟩ := q
              simp at c3
              subst c3
              obtain ⟨k, x, k1, k2, k3⟩ := renE_getElem? g2 j' en hen
              have hsb := stays_ok hst k1 h2
              have hEj : E[j']? = some ⟨k, x, en.born⟩ := by simpa using k3
              have hset := renE_set g2 j' (en := ⟨X.ev e b', X.ev e c', en.born⟩) h2 h3
              have hmod : (E.modify j' fun e => { e with key := ev b, val := ev c }).toList = E.toList.set j' ⟨ev b, ev c, en.born⟩ := modify_set k3 _
              obtain ⟨w', q1, q2⟩ := map_put (P := P) hrel hr hp (E' := E.modify j' fun e => { e with key := ev b, val := ev c }) (clock' := clock) (by rw [hmod]; exact hset)
              refine ⟨ρ, w', Go.undef, .inr ⟨?_, rfl⟩, Ext.refl _, q2, rfl⟩
              simp only [h1, Instr.mapUpdate]
              simp only [Sem.run_bind, und_ok hu, Result.andThen_ok, g3, hck, c2, hEj, Option.map_some, Option.getD_some, Instr.keyThatStays, hsb, if_true, Sem.run_pure, q1]
          · cases h
        · cases h
      · rename_i hf
        cases h
        obtain ⟨c1, r', c2, c3, c4⟩ := find_ok (P := P) hf g2 h2 w
        have hck : (Instr.checkKey false 10000 key (ev b)).run P w = .ok () w := c1 false
        cases r' with
        | some q => simp at c3
        | none =>
          obtain ⟨w', q1, q2⟩ := map_put (P := P) hrel hr hp (E' := E.push ⟨ev b, ev c, clock⟩) (clock' := clock + 1) (es' := es ++ [⟨X.ev e b', X.ev e c', clock⟩]) (by
            rw [Array.toList_push]; exact renE_append g2 (renE_cons_mk h2 h3 rfl))
          refine ⟨ρ, w', Go.undef, .inr ⟨?_, rfl⟩, Ext.refl _, q2, rfl⟩
          simp only [h1, Instr.mapUpdate]
          simp only [Sem.run_bind, und_ok hu, Result.andThen_ok, g3, hck, c2, q1]
      · cases h
    · cases h
  · cases h

theorem s_mapEntry (hrel : Rel base ρ H w) (he : EvOk ρ e ev) {t key el : TypeId} {a b : Operand} {a' b' : X} {z : AV} (ha : cx a = some a') (hb : cx b = some b') (hu : P.underlying t = some (.map key el)) (hz : zeroC P el = some z) {v : AV}
    (h : (AOp.mapEntry key z a' b').eval P R e H = some (v, H')) {o : Oper} (ho : o.op = .mapEntry t a b) : Yields base ρ ((execOp ev o).run P w) v H' := by
  have h1 := cx_ok he ha
  have h2 := cx_ok he hb
  obtain ⟨Z, hZ, hZrun⟩ := zeroC_ok hz ρ w
  simp only [AOp.eval] at h
  have hrunE : (execOp ev o).run P w = ((Instr.mapEntry t (ev a) (ev b)).run P w).andThen fun x w' => .ok (.value x) w' := by
    simp only [execOp, ho]; simp
  rw [hrunE]
  split at h
  · rename_i r hx
    rw [hx] at h1
    obtain ⟨p, hp, h1⟩ := ren_map h1
    split at h
    · rename_i es clock hr
      obtain ⟨E, g1, g2, g3⟩ := map_at (P := P) hrel hr hp
      split at h
      · rename_i j hf
        split at h
        · rename_i en hen
          split at h
          · rename_i hst
            cases h
            obtain ⟨c1, r', c2, c3, c4⟩ := find_ok (P := P) hf g2 h2 w
            have hck : (Instr.checkKey false 10000 key (ev b)).run P w = .ok () w := c1 false
            cases r' with
            | none => simp at c3
            | some q =>
              obtain ⟨j', u⟩ := q
              simp at c3
              subst c3
              obtain ⟨k, x, k1, k2, k3⟩ := renE_getElem? g2 j' en hen
              have hsb := stays_ok hst k1 h2
              have hEj : E[j']? = some ⟨k, x, en.born⟩ := by simpa using k3
              have hu4 := c4 j' u rfl
              rw [k3] at hu4
              simp at hu4
              subst hu4
              have hset := renE_set g2 j' (en := ⟨X.ev e b', en.val, en.born⟩) h2 k2
              have hmod : (E.modify j' fun e => { e with key := ev b }).toList = E.toList.set j' ⟨ev b, x, en.born⟩ := modify_set k3 _
              obtain ⟨w', q1, q2⟩ := map_put (P := P) hrel hr hp (E' := E.modify j' fun e => { e with key := ev b }) (clock' := clock) (by rw [hmod]; exact hset)
              refine ⟨ρ, w', .tuple #[x, goInt en.born], .inl ?_, Ext.refl _, q2, by simp [ren, renL, k2, goInt]⟩
              simp only [h1, Instr.mapEntry]
              simp only [Sem.run_bind, und_ok hu, Result.andThen_ok, g3, hck, c2, hEj, Option.map_some, Option.getD_some, Instr.keyThatStays, hsb, if_true, Sem.run_pure, q1]
          · cases h
        · cases h
      · rename_i hf
        cases h
        obtain ⟨c1, r', c2, c3, c4⟩ := find_ok (P := P) hf g2 h2 w
        have hck : (Instr.checkKey false 10000 key (ev b)).run P w = .ok () w := c1 false
        cases r' with
        | some q => simp at c3
        | none =>
          obtain ⟨w', q1, q2⟩ := map_put (P := P) hrel hr hp (E' := E.push ⟨ev b, Z, clock⟩) (clock' := clock + 1) (es' := es ++ [⟨X.ev e b', z, clock⟩]) (by
            rw [Array.toList_push]; exact renE_append g2 (renE_cons_mk h2 hZ rfl))
          refine ⟨ρ, w', .tuple #[Z, goInt clock], .inl ?_, Ext.refl _, q2, by simp [ren, renL, hZ, goInt]⟩
          simp only [h1, Instr.mapEntry]
          simp only [Sem.run_bind, und_ok hu, Result.andThen_ok, g3, hck, c2, hZrun, q1, Sem.run_pure]
      · cases h
    · cases h
  · cases h

theorem findIdx_keys (born : Int) : ∀ {es : List AEntry} {X : List MapEntry}, renE ρ es = some X → X.findIdx? (fun e => (e.born : Int) == born) = es.findIdx? (fun e => (e.born : Int) == born)
  | [], X, h => by simp only [renE] at h; cases h; rfl
  | a :: es, X, h => by
    obtain ⟨k, v, l, h1, h2, h3, rfl⟩ := renE_cons h
    simp [List.findIdx?_cons, findIdx_keys born h3]

theorem s_entryStore (hrel : Rel base ρ H w) (he : EvOk ρ e ev) {t : TypeId} {a b c : Operand} {a' b' c' : X} (ha : cx a = some a') (hb : cx b = some b') (hc : cx c = some c') {v : AV}
    (h : (AOp.entryStore a' b' c').eval P R e H = some (v, H')) {o : Oper} (ho : o.op = .entryStore t a b c) : Yields base ρ ((execOp ev o).run P w) v H' := by
  have h1 := cx_ok he ha
  have h2 := cx_ok he hb
  have h3 := cx_ok he hc
  simp only [AOp.eval] at h
  split at h
  · rename_i r kk born hx hy
    rw [hx] at h1
    rw [hy] at h2
    obtain ⟨p, hp, h1⟩ := ren_map h1
    have h2 := ren_int h2
    split at h
    · rename_i es clock hr
      obtain ⟨E, g1, g2, g3⟩ := map_at (P := P) hrel hr hp
      split at h
      · rename_i j hf
        split at h
        · rename_i en hen
          cases h
          obtain ⟨k, x, k1, k2, k3⟩ := renE_getElem? g2 j en hen
          have hset := renE_set g2 j (en := ⟨en.key, X.ev e c', en.born⟩) k1 h3
          have hmod : (E.modify j fun e => { e with val := ev c }).toList = E.toList.set j ⟨k, ev c, en.born⟩ := modify_set k3 _
          obtain ⟨w', q1, q2⟩ := map_put (P := P) hrel hr hp (E' := E.modify j fun e => { e with val := ev c }) (clock' := clock) (by rw [hmod]; exact hset)
          have hfi : E.findIdx? (fun e => (e.born : Int) == born) = some j := by
            rw [← hf, ← findIdx_keys born g2]
            cases E
            simp
          refine ⟨ρ, w', Go.undef, .inr ⟨?_, rfl⟩, Ext.refl _, q2, rfl⟩
          simp only [execOp, ho, h1, h2, Instr.entryStore]
          simp only [Sem.run_bind, Result.andThen_ok, g3, asInt, asIntOf, Sem.run_pure, hfi, q1]
        · cases h
      · cases h
    · cases h
  · cases h

theorem s_mapDel (hrel : Rel base ρ H w) (he : EvOk ρ e ev) {t key el : TypeId} {a b : Operand} {a' b' : X} (ha : cx a = some a') (hb : cx b = some b') (hu : P.underlying t = some (.map key el)) {v : AV}
    (h : (AOp.mapDel key a' b').eval P R e H = some (v, H')) {o : Oper} {c : Call} (ho : o.op = .call c) (hc : c.callee = .builtin .delete) (h0 : c.argTypes[0]? = some t) (hl : c.args.toList = [a, b]) : Yields base ρ ((execOp ev o).run P w) v H' := by
  have h1 := cx_ok he ha
  have h2 := cx_ok he hb
  simp only [AOp.eval] at h
  split at h
  · rename_i hx
    rw [hx] at h1
    simp only [ren, Option.some.injEq] at h1
    split at h
    · rename_i q hq
      cases h
      obtain ⟨c1, _⟩ := find_ok (P := P) hq (ρ := ρ) (X := []) rfl h2 w
      refine y_builtin (x := Go.undef) ho hc (fun cs => rfl) ?_ (Ext.refl _) hrel rfl
      rw [args2 hl, ← h1]
      unfold Builtin.delete_
      simp [h0, und_ok hu, c1 true, Go.undef]
    · cases h
  · rename_i r hx
    rw [hx] at h1
    obtain ⟨p, hp, h1⟩ := ren_map h1
    split at h
    · rename_i es clock hr
      obtain ⟨E, g1, g2, g3⟩ := map_at (P := P) hrel hr hp
      split at h
      · rename_i j hf
        cases h
        obtain ⟨c1, r', c2, c3, c4⟩ := find_ok (P := P) hf g2 h2 w
        cases r' with
        | none => simp at c3
        | some q =>
          obtain ⟨j', u⟩ := q
          simp at c3
          subst c3
          have her := renE_erase g2 j'
          have hel : (E.eraseIdxIfInBounds j').toList = E.toList.eraseIdx j' := by
            unfold Array.eraseIdxIfInBounds
            split
            · simp
            · rw [List.eraseIdx_of_length_le (by simp; omega)]
          obtain ⟨w', q1, q2⟩ := map_put (P := P) hrel hr hp (E' := E.eraseIdxIfInBounds j') (clock' := clock) (by rw [hel]; exact her)
          refine y_builtin (x := Go.undef) ho hc (fun cs => rfl) (w' := w') ?_ (Ext.refl _) q2 rfl
          rw [args2 hl, h1]
          unfold Builtin.delete_
          simp [h0, und_ok hu, g3, c1, c2, q1, Go.undef]
      · rename_i hf
        cases h
        obtain ⟨c1, r', c2, c3, c4⟩ := find_ok (P := P) hf g2 h2 w
        cases r' with
        | some q => simp at c3
        | none =>
          obtain ⟨w', q1, q2⟩ := map_put (P := P) hrel hr hp (E' := E) (clock' := clock) g2
          have hset : H.set r (.map es clock) = H := by
            apply List.ext_getElem?
            intro k
            rw [List.getElem?_set]
            split
            · subst_vars; split
              · exact hr.symm
              · rename_i hn; rw [List.getElem?_eq_none (by omega)]
            · rfl
          rw [hset] at q2
          refine y_builtin (x := Go.undef) ho hc (fun cs => rfl) (w' := w') ?_ (Ext.refl _) q2 rfl
          rw [args2 hl, h1]
          unfold Builtin.delete_
          simp [h0, und_ok hu, g3, c1, c2, q1, Go.undef]
      · cases h
    · cases h
  · cases h

theorem s_mapClear (hrel : Rel base ρ H w) (he : EvOk ρ e ev) {t key el : TypeId} {a : Operand} {a' : X} (ha : cx a = some a') (hu : P.underlying t = some (.map key el)) {v : AV}
    (h : (AOp.mapClear a').eval P R e H = some (v, H')) {o : Oper} {c : Call} (ho : o.op = .call c) (hc : c.callee = .builtin .clear) (h0 : c.argTypes[0]? = some t) (hl : c.args.toList = [a]) : Yields base ρ ((execOp ev o).run P w) v H' := by
  have h1 := cx_ok he ha
  simp only [AOp.eval] at h
  split at h
  · rename_i hx
    rw [hx] at h1
    simp only [ren, Option.some.injEq] at h1
    cases h
    refine y_builtin (x := Go.undef) ho hc (fun cs => rfl) ?_ (Ext.refl _) hrel rfl
    rw [args1 hl, ← h1]
    unfold Builtin.clear_
    simp [h0, und_ok hu, Go.undef]
  · rename_i r hx
    rw [hx] at h1
    obtain ⟨p, hp, h1⟩ := ren_map h1
    split at h
    · rename_i es clock hr
      cases h
      obtain ⟨E, g1, g2, g3⟩ := map_at (P := P) hrel hr hp
      obtain ⟨w', q1, q2⟩ := map_put (P := P) hrel hr hp (E' := #[]) (es' := []) (clock' := clock) rfl
      refine y_builtin (x := Go.undef) ho hc (fun cs => rfl) (w' := w') ?_ (Ext.refl _) q2 rfl
      rw [args1 hl, h1]
      unfold Builtin.clear_
      simp [h0, und_ok hu, g3, q1, Go.undef]
    · cases h
  · cases h

theorem s_lenM (hrel : Rel base ρ H w) (he : EvOk ρ e ev) {t key el : TypeId} {a : Operand} {a' : X} (ha : cx a = some a') (hu : P.underlying t = some (.map key el)) {v : AV}
    (h : (AOp.lenM a').eval P R e H = some (v, H')) {o : Oper} {c : Call} (ho : o.op = .call c) (hc : c.callee = .builtin .len) (h0 : c.argTypes[0]? = some t) (hl : c.args.toList = [a]) : YieldsS ρ w H ((execOp ev o).run P w) v H' := by
  have h1 := cx_ok he ha
  simp only [AOp.eval] at h
  split at h
  · rename_i hx
    rw [hx] at h1
    simp only [ren, Option.some.injEq] at h1
    cases h
    refine y_builtinS (x := .int .i64 0) ho hc (fun cs => rfl) ?_ (Ext.refl _) hrel rfl
    rw [args1 hl, ← h1]
    unfold Builtin.len_
    simp [h0, und_ok hu, goInt]
  · rename_i r hx
    rw [hx] at h1
    obtain ⟨p, hp, h1⟩ := ren_map h1
    split at h
    · rename_i es clock hr
      cases h
      obtain ⟨E, g1, g2, g3⟩ := map_at (P := P) hrel hr hp
      have hle := renE_length g2
      refine y_builtinS (x := .int .i64 es.length) ho hc (fun cs => rfl) ?_ (Ext.refl _) hrel rfl
      rw [args1 hl, h1]
      unfold Builtin.len_
      simp at hle
      simp [h0, und_ok hu, g3, goInt, hle]
    · cases h
  · cases h
end
end Am
namespace Am
open Go Go.RowKit
section
variable {P : Program} {R : Ro} {base : World} {ρ : Ren} {H H' : AH} {w : World} {e : Env} {ev : Operand → Value}

theorem s_buildA (hrel : Rel base ρ H w) (he : EvOk ρ e ev) {t el : TypeId} {ps : Array (Nat × Operand)} {n m sz : Nat} {z : AV} {l : List (Nat × X)}
    (hu : P.underlying t = some (.array n el)) (hz : zeroC P t = some z) (hl : cxp ps.toList = some l) (hs : sizeC P el = some sz) {v : AV}
    (h : (AOp.build z.cells ((List.range m).map fun i => (i * sz, sz)) l).eval P R e H = some (v, H')) {o : Oper} (ho : o.op = .build t ps) : YieldsS ρ w H ((execOp ev o).run P w) v H' := by
  simp only [AOp.eval, Option.map_eq_some_iff] at h
  obtain ⟨c, hc, h⟩ := h
  cases h
  obtain ⟨x, hx, hrun⟩ := zeroC_ok hz ρ w
  obtain ⟨h1, h2⟩ := cxp_fill he hl
  obtain ⟨D, hD, hd⟩ := fill_ok (place := fun i => some (i * sz, sz)) (rangeMap_fill _ sz m rfl) hc h1 h2 (cells_ren hx)
  simp only [execOp, ho]
  simp only [Instr.build]
  simp only [Sem.run_bind, hrun, Result.andThen_ok, und_ok hu, sizeC_ok hs]
  simp only [Array.toArray_toList] at hD
  rw [hD]
  simp
  exact YieldsS.same hrel (by simp [ren, hd])

theorem sz_fact {t : TypeId} {n : Nat} (h : sizeC P t = some (n + 1)) : (P.info? t).map (fun i => decide (i.size = 0)) = some false := by
  simp only [sizeC, Option.map_eq_some_iff] at h
  obtain ⟨ti, hti, hsz⟩ := h
  rw [hti]; simp [hsz]

theorem find_of (fn : Func) (n : String) (h : fn.name = n) (ho : fn.origin = "") (e : Array Value → Sem Value) (he : Extern.find { (default : Func) with name := n, origin := "", targs := fn.targs, params := fn.params, resultTypes := fn.resultTypes } = some e)
    (hn : Extern.findNext { (default : Func) with name := n, origin := "", targs := fn.targs, params := fn.params, resultTypes := fn.resultTypes } = none) : Extern.findNext fn = none ∧ Extern.find fn = some e := by
  subst h
  constructor
  · rw [← hn]; unfold Extern.findNext; simp only [ho]
  · rw [← he]; unfold Extern.find; simp only [ho]

theorem lookup_cons_inv {n m : String} {k k' : XK} {l : List (String × XK)} (h : List.lookup n ((m, k) :: l) = some k') : (n = m ∧ k' = k) ∨ List.lookup n l = some k' := by
  rw [List.lookup_cons] at h
  split at h
  · rename_i he; cases h; exact .inl ⟨by simpa using he, rfl⟩
  · exact .inr h

theorem xk_find {fn : Func} {k : XK} (ho : fn.origin = "") (h : xkTable.lookup fn.name = some k) : Extern.findNext fn = none ∧ Extern.find fn = some k.sem := by
  unfold xkTable at h
  rcases lookup_cons_inv h with ⟨h1, rfl⟩ | h
  · exact find_of fn _ h1 ho _ (by kernel_rfl) (by kernel_rfl)
  rcases lookup_cons_inv h with ⟨h1, rfl⟩ | h
  · exact find_of fn _ h1 ho _ (by kernel_rfl) (by kernel_rfl)
  rcases lookup_cons_inv h with ⟨h1, rfl⟩ | h
  · exact find_of fn _ h1 ho _ (by kernel_rfl) (by kernel_rfl)
  rcases lookup_cons_inv h with ⟨h1, rfl⟩ | h
  · exact find_of fn _ h1 ho _ (by kernel_rfl) (by kernel_rfl)
  rcases lookup_cons_inv h with ⟨h1, rfl⟩ | h
  · exact find_of fn _ h1 ho _ (by kernel_rfl) (by kernel_rfl)
  rcases lookup_cons_inv h with ⟨h1, rfl⟩ | h
  · exact find_of fn _ h1 ho _ (by kernel_rfl) (by kernel_rfl)
  rcases lookup_cons_inv h with ⟨h1, rfl⟩ | h
  · exact find_of fn _ h1 ho _ (by kernel_rfl) (by kernel_rfl)
  rcases lookup_cons_inv h with ⟨h1, rfl⟩ | h
  · exact find_of fn _ h1 ho _ (by kernel_rfl) (by kernel_rfl)
  rcases lookup_cons_inv h with ⟨h1, rfl⟩ | h
  · exact find_of fn _ h1 ho _ (by kernel_rfl) (by kernel_rfl)
  rcases lookup_cons_inv h with ⟨h1, rfl⟩ | h
  · exact find_of fn _ h1 ho _ (by kernel_rfl) (by kernel_rfl)
  rcases lookup_cons_inv h with ⟨h1, rfl⟩ | h
  · exact find_of fn _ h1 ho _ (by kernel_rfl) (by kernel_rfl)
  simp at h

theorem ov_find {fn : Func} (ho : fn.origin = "slices.overlaps") (h : ovNames.contains fn.name = true) : Extern.findNext fn = none ∧ Extern.find fn = some (Extern.SlicesOverlaps.overlaps fn.params fn.resultTypes) := by
  have key : ∀ n, fn.name = n → Extern.find { (default : Func) with name := n, origin := "slices.overlaps", targs := fn.targs, params := fn.params, resultTypes := fn.resultTypes } = some (Extern.SlicesOverlaps.overlaps fn.params fn.resultTypes) →
      Extern.findNext { (default : Func) with name := n, origin := "slices.overlaps", targs := fn.targs, params := fn.params, resultTypes := fn.resultTypes } = none → Extern.findNext fn = none ∧ Extern.find fn = some (Extern.SlicesOverlaps.overlaps fn.params fn.resultTypes) := by
    intro n hn h1 h2
    subst hn
    constructor
    · rw [← h2]; unfold Extern.findNext; simp only [ho]
    · rw [← h1]; unfold Extern.find; simp only [ho]
  simp only [ovNames, List.contains_cons, List.contains_nil, Bool.or_false, Bool.or_eq_true, beq_iff_eq] at h
  rcases h with h | h
  · exact key _ h (by kernel_rfl) (by kernel_rfl)
  · exact key _ h (by kernel_rfl) (by kernel_rfl)

theorem xk_no_ov {n : String} {p r : Array TypeId} (h : xkTable.lookup n = some (.overlaps p r)) : False := by
  unfold xkTable at h
  iterate 11 (rcases lookup_cons_inv h with ⟨_, h0⟩ | h; · cases h0)
  simp at h

theorem s_over (hrel : Rel base ρ H w) {f : FuncId} {fn : Func} (hfn : P.funcs[f]? = some fn) (hb : fn.body.isNone = true) (hnn : (fn.name == "runtime.NumGoroutine") = false) (ho : fn.origin = "slices.overlaps") (hin : ovNames.contains fn.name = true) (hfit : ovFits P fn.params = true) (hone : fn.resultTypes.size = 1)
    {i j o o' la lb : Nat} {ca cb : Cap} {x y : Value} (hx : ren ρ (.slice (.mu i) o la ca) = some x) (hy : ren ρ (.slice (.mu j) o' lb cb) = some y) {u u' : AV} {us us' : List AV} (hi : (H[i]?).bind AO.content = some (u :: us)) (hj : (H[j]?).bind AO.content = some (u' :: us')) (hij : i ≠ j) :
    (callFunc f #[x, y]).run P w = .ok (.value (.bool false)) w := by
  obtain ⟨hn, hf⟩ := ov_find ho hin
  simp only [ren] at hx hy
  split at hx
  · rename_i A nA hA hnA
    split at hy
    · rename_i B nB hB hnB
      cases hx; cases hy
      simp only [Loc.addr, Option.map_eq_some_iff] at hA hB
      obtain ⟨pA, hpA, rfl⟩ := hA
      obtain ⟨pB, hpB, rfl⟩ := hB
      simp only [Option.bind_eq_some_iff] at hi hj
      obtain ⟨oA, hoA, hcA⟩ := hi
      obtain ⟨oB, hoB, hcB⟩ := hj
      obtain ⟨CA, tA, csA, a1, a2, a3⟩ := content_ok (hrel.obj i oA pA hoA hpA) hcA
      obtain ⟨CB, tB, csB, b1, b2, b3⟩ := content_ok (hrel.obj j oB pB hoB hpB) hcB
      have hne : pA.blk ≠ pB.blk := hrel.inj i j oA oB pA pB hij hoA hoB hpA hpB (okO_content_live hcA) (okO_content_live hcB)
      unfold ovFits at hfit
      split at hfit
      · rename_i t ht
        simp only [Bool.and_eq_true, beq_iff_eq] at hfit
        obtain ⟨hp, hfit⟩ := hfit
        split at hfit
        · rename_i e hu
          obtain ⟨size, hsz⟩ := Option.isSome_iff_exists.1 hfit
          rw [run_callFunc_extern hfn hnn hb hn hf, hp]
          obtain ⟨tR, hR⟩ : ∃ tR, fn.resultTypes = #[tR] := by
            exact ⟨fn.resultTypes[0], by
              apply Array.ext
              · simp [hone]
              · intro i h1 h2
                have : i = 0 := by omega
                subst this
                rfl⟩
          rw [hR]
          have hcb : csB ≠ [] := by
            intro e; subst e
            have := renL_length b2; simp at this
          have hfB := fits_of_take b3 hcb
          have hkB : CB.size ≠ 0 := by
            have : csB.length ≠ 0 := by simpa using hcb
            simp at hfB; omega
          have shp : ∀ {b : Nat} {C : Array Value} {t : TypeId}, w.heap[b]? = some (.cells C t (0, 0)) → w.shape? b = some (t, C.size) := by
            intro b C t h
            simp only [World.shape?, h]
          rw [Lib.run_overlaps_apart w t tR e hu size (fun w => sizeC_ok hsz w) ⟨pA.blk, _, none⟩ ⟨pB.blk, _, none⟩ la _ lb _ hne tA tB CA.size CB.size (shp a1) (shp b1) hkB (frozen_at a1 _) (frozen_at a1 _)]
          rfl
        · cases hfit
      · cases hfit
    · cases hy
  · cases hx

/-- A cell of the call's own: what it holds, and that it may be written. -/
theorem cell_facts (hrel : Rel base ρ H w) {i off : Nat} {v : AV} (hv : read1 R H (.mu i) off = some v) {a : Addr} (ha : (Loc.mu i).addr ρ off = some a) : ∃ x, ren ρ v = some x ∧ w.cell? a = some x ∧ w.frozen? a = false := by
  simp only [read1] at hv
  split at hv
  · rename_i c hc
    simp only [Option.bind_eq_some_iff] at hc
    obtain ⟨o, ho, hc⟩ := hc
    simp only [Loc.addr, Option.map_eq_some_iff] at ha
    obtain ⟨p, hp, rfl⟩ := ha
    obtain ⟨C, t, cs, h1, h2, h3⟩ := content_ok (hrel.obj i o p ho hp) hc
    obtain ⟨x, hx, hr⟩ := renL_getElem? h2 off v hv
    refine ⟨x, hr, ?_, frozen_at h1 _⟩
    rw [cell_at h1, ← Array.getElem?_toList]
    exact take_drop_get h3 hx
  · cases hv

theorem write1_sound (hrel : Rel base ρ H w) {i off : Nat} {u v : AV} (hu : read1 R H (.mu i) off = some u) (hw : writeN H i off [v] = some H') {x : Value} (hx : ren ρ v = some x) (hone : x.oneCell' = true) {a : Addr} (ha : (Loc.mu i).addr ρ off = some a) :
    Rel base ρ H' (w.setCell a x) := by
  obtain ⟨y, _, hc, hf⟩ := cell_facts hrel hu ha
  simp only [Loc.addr, Option.map_eq_some_iff] at ha
  obtain ⟨p, hp, rfl⟩ := ha
  obtain ⟨w', hrun, hr⟩ := writeN_sound hrel hw (renL_cons_mk hx rfl) hp
  have h1 := hrun default
  simp only [storeCells, Sem.run_bind, addr_add, Nat.add_zero] at h1
  rw [run_store default w _ x .plain hone, hc, hf] at h1
  simp at h1
  rw [h1]; exact hr

theorem s_atom (hR : ROk R base) (hrel : Rel base ρ H w) (he : EvOk ρ e ev) {c : Call} {f : FuncId} {k : XK} {xs : List X} (hcal : c.callee = .value (.func f)) (hx : cxs c.args.toList = some xs) (hk : externC P f = some k) {v : AV}
    (h : (AOp.atom k xs).eval P R e H = some (v, H')) {o : Oper} (ho : o.op = .call c) : Yields base ρ ((execOp ev o).run P w) v H' := by
  unfold externC at hk
  split at hk
  · rename_i fn hfn
    split at hk
    · rename_i hcond
      simp only [Bool.and_eq_true, beq_iff_eq, bne_iff_ne, ne_eq] at hcond
      obtain ⟨hn, hf⟩ := xk_find hcond.1.2 hk
      have hnn : (fn.name == "runtime.NumGoroutine") = false := by simpa using hcond.2
      have hargs : renL ρ (xs.map (X.ev e)) = some (c.args.map ev).toList := by rw [Array.toList_map]; exact cxs_ok he hx
      have hrunE : ∀ (args : Array Value), args.toList = (c.args.map ev).toList → (execOp ev o).run P w = (callFunc f args).run P w := by
        intro args hargs
        simp only [execOp, ho, resolve, hcal, he.func, Deferred.ofValue]
        simp only [Sem.run_bind, Sem.run_pure, Result.andThen_ok, invoke]
        congr 2
        apply Array.ext'
        simp [hargs]
      simp only [AOp.eval] at h
      generalize hA : xs.map (X.ev e) = A at *
      split at h
      · -- load
        rename_i k l off
        obtain ⟨x, r, e1, e2, e3⟩ := renL_cons hargs
        obtain rfl := renL_nil e2
        obtain ⟨a, ha, rfl⟩ := ren_ptr e1
        split at h
        · rename_i k' n hrd
          split at h
          · rename_i hkk
            subst hkk
            cases h
            obtain ⟨y, hy, hc⟩ := read1_sound hR hrel hrd ha
            obtain rfl := ren_int hy
            rw [hrunE #[.pointer (some a)] (by rw [e3]), run_call_load hfn hnn hcond.1.1 hn k' hf hc]
            exact Yields.same hrel rfl
          · cases h
        · cases h
      · -- store
        rename_i i off k y
        obtain ⟨x, r, e1, e2, e3⟩ := renL_cons hargs
        obtain ⟨x2, r2, e4, e5, rfl⟩ := renL_cons e2
        obtain rfl := renL_nil e5
        obtain ⟨a, ha, rfl⟩ := ren_ptr e1
        obtain rfl := ren_int e4
        split at h
        · rename_i u hrd
          simp only [Option.map_eq_some_iff] at h
          obtain ⟨H1, hH, h⟩ := h
          cases h
          obtain ⟨y', _, hc, hz⟩ := cell_facts hrel hrd ha
          have hr := write1_sound hrel hrd hH (x := .int k y) rfl rfl ha
          rw [hrunE #[.pointer (some a), .int k y] (by rw [e3]), run_call_store hfn hnn hcond.1.1 hn hf hc hz]
          exact ⟨ρ, _, _, .inl rfl, Ext.refl _, hr, rfl⟩
        · cases h
      · -- add
        rename_i k i off k2 y
        obtain ⟨x, r, e1, e2, e3⟩ := renL_cons hargs
        obtain ⟨x2, r2, e4, e5, rfl⟩ := renL_cons e2
        obtain rfl := renL_nil e5
        obtain ⟨a, ha, rfl⟩ := ren_ptr e1
        obtain rfl := ren_int e4
        split at h
        · rename_i k' x hrd
          split at h
          · rename_i hkk
            obtain ⟨rfl, rfl⟩ := hkk
            simp only [Option.map_eq_some_iff] at h
            obtain ⟨H1, hH, h⟩ := h
            cases h
            obtain ⟨y', hy, hc, hz⟩ := cell_facts hrel hrd ha
            obtain rfl := ren_int hy
            have hr := write1_sound hrel hrd hH rfl rfl ha
            rw [hrunE #[.pointer (some a), .int _ y] (by rw [e3]), run_call_add hfn hnn hcond.1.1 hn _ hf hc hz rfl]
            exact ⟨ρ, _, _, .inl rfl, Ext.refl _, hr, rfl⟩
          · cases h
        · cases h
      · -- compare and swap
        rename_i k i off k1 oo k2 y
        obtain ⟨x, r, e1, e2, e3⟩ := renL_cons hargs
        obtain ⟨x2, r2, e4, e5, rfl⟩ := renL_cons e2
        obtain ⟨x3, r3, e6, e7, rfl⟩ := renL_cons e5
        obtain rfl := renL_nil e7
        obtain ⟨a, ha, rfl⟩ := ren_ptr e1
        obtain rfl := ren_int e4
        obtain rfl := ren_int e6
        split at h
        · rename_i k' x hrd
          split at h
          · rename_i hkk
            obtain ⟨rfl, rfl, rfl⟩ := hkk
            obtain ⟨y', hy, hc, hz⟩ := cell_facts hrel hrd ha
            obtain rfl := ren_int hy
            split at h
            · rename_i hxo
              subst hxo
              simp only [Option.map_eq_some_iff] at h
              obtain ⟨H1, hH, h⟩ := h
              cases h
              have hr := write1_sound hrel hrd hH rfl rfl ha
              rw [hrunE #[.pointer (some a), .int _ x, .int _ y] (by rw [e3]), run_call_cas_hit hfn hnn hcond.1.1 hn _ hf hc hz]
              exact ⟨ρ, _, _, .inl rfl, Ext.refl _, hr, rfl⟩
            · rename_i hxo
              cases h
              rw [hrunE #[.pointer (some a), .int _ oo, .int _ y] (by rw [e3]), run_call_cas_miss hfn hnn hcond.1.1 hn _ hf hc hz hxo]
              exact Yields.same hrel rfl
          · cases h
        · cases h
      · cases h
        have e3 := renL_nil hargs
        rw [hrunE #[] (by rw [e3]), run_call_mark0 hfn hnn hcond.1.1 hn _ hf]
        exact Yields.same hrel rfl
      · cases h
        have e3 := renL_nil hargs
        rw [hrunE #[] (by rw [e3]), run_call_mark0 hfn hnn hcond.1.1 hn _ hf]
        exact Yields.same hrel rfl
      · cases h
        obtain ⟨x, r, e1, e2, e3⟩ := renL_cons hargs
        obtain rfl := renL_nil e2
        obtain ⟨a, ha, rfl⟩ := ren_ptr e1
        rw [hrunE #[.pointer (some a)] (by rw [e3]), run_call_marked hfn hnn hcond.1.1 hn _ hf]
        exact Yields.same hrel rfl
      · cases h
        obtain ⟨x, r, e1, e2, e3⟩ := renL_cons hargs
        obtain rfl := renL_nil e2
        obtain ⟨a, ha, rfl⟩ := ren_ptr e1
        rw [hrunE #[.pointer (some a)] (by rw [e3]), run_call_marked hfn hnn hcond.1.1 hn _ hf]
        exact Yields.same hrel rfl
      · exact (xk_no_ov hk).elim
      · cases h
    · split at hk
      · rename_i _ hcond
        simp only [Bool.and_eq_true, beq_iff_eq] at hcond
        obtain ⟨⟨⟨⟨c1, c2⟩, c3⟩, c4⟩, c5⟩ := hcond
        have hnn : (fn.name == "runtime.NumGoroutine") = false := by
          simp only [ovNames, List.contains_cons, List.contains_nil, Bool.or_false, Bool.or_eq_true, beq_iff_eq] at c3
          rcases c3 with c3 | c3 <;> rw [c3] <;> decide +kernel
        have hargs : renL ρ (xs.map (X.ev e)) = some (c.args.map ev).toList := by rw [Array.toList_map]; exact cxs_ok he hx
        cases hk
        simp only [AOp.eval] at h
        generalize hA : xs.map (X.ev e) = A at *
        split at h
        all_goals first
          | (rename_i heq; cases heq; done)
          | skip
        all_goals first
          | (cases h; done)
          | skip
        rename_i i oo la ca j oo' lb cb
        obtain ⟨x, r, e1, e2, e3⟩ := renL_cons hargs
        obtain ⟨x2, r2, e4, e5, rfl⟩ := renL_cons e2
        obtain rfl := renL_nil e5
        split at h
        · rename_i u us u' us' h1 h2
          split at h
          · rename_i hij
            cases h
            have hrun : (execOp ev o).run P w = (callFunc f #[x, x2]).run P w := by
              simp only [execOp, ho, resolve, hcal, he.func, Deferred.ofValue]
              simp only [Sem.run_bind, Sem.run_pure, Result.andThen_ok, invoke]
              congr 2
              apply Array.ext'
              simpa using e3
            rw [hrun, s_over hrel hfn c1 hnn c2 c3 c4 c5 e1 e4 h1 h2 hij]
            exact Yields.same hrel rfl
          · cases h
        · cases h
      · cases hk
  · cases hk

theorem op_sound (hR : ROk R base) (hrel : Rel base ρ H w) (he : EvOk ρ e ev) {o : Oper} {ao : AOp} (hc : compOp P o.op = some ao) {v : AV} (h : ao.eval P R e H = some (v, H')) :
    Yields base ρ ((execOp ev o).run P w) v H' ∧ (ao.quiet = true → YieldsS ρ w H ((execOp ev o).run P w) v H') := by
  have both : ∀ {ao : AOp} {v : AV} {H' : AH}, YieldsS ρ w H ((execOp ev o).run P w) v H' → Yields base ρ ((execOp ev o).run P w) v H' ∧ (ao.quiet = true → YieldsS ρ w H ((execOp ev o).run P w) v H') := fun h => ⟨h.toY hrel, fun _ => h⟩
  cases hop : o.op with
  | move x =>
    rw [hop] at hc; simp only [compOp, Option.map_eq_some_iff] at hc
    obtain ⟨x', hx, rfl⟩ := hc
    simp only [AOp.eval] at h; cases h
    have := s_mv hrel he hx
    exact both (by simpa [execOp, hop] using this)
  | assign x =>
    rw [hop] at hc; simp only [compOp, Option.map_eq_some_iff] at hc
    obtain ⟨x', hx, rfl⟩ := hc
    simp only [AOp.eval] at h; cases h
    have := s_mv hrel he hx
    exact both (by simpa [execOp, hop] using this)
  | pick c a b =>
    rw [hop] at hc; simp only [compOp] at hc
    split at hc
    · cases hc; exact both (s_pick hrel he ‹_› ‹_› ‹_› h hop)
    · cases hc
  | alloc t =>
    rw [hop] at hc; simp only [compOp, Option.map_eq_some_iff] at hc
    obtain ⟨z, hz, rfl⟩ := hc
    exact ⟨s_alloc hrel hz h hop, by simp [AOp.quiet]⟩
  | box t x =>
    rw [hop] at hc; simp only [compOp, Option.map_eq_some_iff] at hc
    obtain ⟨x', hx, rfl⟩ := hc
    exact ⟨s_box hrel he hx h hop, by simp [AOp.quiet]⟩
  | build t ps =>
    rw [hop] at hc; simp only [compOp] at hc
    split at hc
    · simp only [Option.map_eq_some_iff] at hc
      obtain ⟨pl, hpl, rfl⟩ := hc
      exact both (s_buildS hrel he ‹_› ‹_› ‹_› hpl h hop)
    · simp only [Option.map_eq_some_iff] at hc
      obtain ⟨s, hs, rfl⟩ := hc
      exact both (s_buildA hrel he ‹_› ‹_› ‹_› hs h hop)
    · cases hc
  | buildSlice t n ps =>
    rw [hop] at hc; simp only [compOp] at hc
    split at hc
    · split at hc
      · split at hc
        · rename_i hcond
          cases hc
          exact ⟨s_bslice hrel he ‹_› ‹_› ‹_› ‹_› hcond.1 h hop, by simp [AOp.quiet]⟩
        · cases hc
      · cases hc
    · cases hc
  | insert t m k x =>
    rw [hop] at hc; simp only [compOp] at hc
    split at hc
    · cases hc; exact ⟨s_mapUpd hrel he ‹_› ‹_› ‹_› ‹_› h (.inr hop), by simp [AOp.quiet]⟩
    · cases hc
  | load t a =>
    rw [hop] at hc; simp only [compOp] at hc
    split at hc
    · rename_i hb hx
      simp only [Option.map_eq_some_iff] at hc
      obtain ⟨n, hn, rfl⟩ := hc
      exact both (s_load hR hrel he hx hb (.inl ⟨rfl, n, rfl, hn⟩) h hop)
    · rename_i hb hx
      cases hc
      exact both (s_load hR hrel he hx hb (.inr ⟨rfl, rfl⟩) h hop)
    · cases hc
  | store t a x =>
    rw [hop] at hc; simp only [compOp] at hc
    split at hc
    · cases hc; exact ⟨s_store hrel he ‹_› ‹_› ‹_› h hop, by simp [AOp.quiet]⟩
    · cases hc
  | ready g => rw [hop] at hc; simp [compOp] at hc
  | waits g => rw [hop] at hc; simp [compOp] at hc
  | nilCheck x =>
    rw [hop] at hc; simp only [compOp, Option.map_eq_some_iff] at hc
    obtain ⟨x', hx, rfl⟩ := hc
    exact both (s_nilck hrel he hx h hop)
  | binOp op t x y yt =>
    rw [hop] at hc; simp only [compOp] at hc
    split at hc
    · split at hc <;> first
        | (cases hc; exact both (s_bin hrel he ‹_› ‹_› h hop))
        | (cases hc; exact both (s_eq hrel he ‹_› ‹_› (.inl ⟨rfl, rfl⟩) ‹_› h hop))
        | (cases hc; exact both (s_eq hrel he ‹_› ‹_› (.inr ⟨rfl, rfl⟩) ‹_› h hop))
    · cases hc
  | unOp op t x =>
    rw [hop] at hc; simp only [compOp, Option.map_eq_some_iff] at hc
    obtain ⟨x', hx, rfl⟩ := hc
    exact both (s_un hrel he hx h hop)
  | convert s d x =>
    rw [hop] at hc; simp only [compOp] at hc
    split at hc
    · cases hc; exact both (s_convI hrel he ‹_› ‹_› ‹_› h hop)
    · split at hc
      · cases hc; exact both (s_strOf hR hrel he ‹_› ‹_› ‹_› ‹_› h hop)
      · cases hc
    · split at hc
      · rename_i h4
        have h1 : P.underlying s = some (.pointer _) := ‹_›
        have h2 : P.underlying d = some .unsafePointer := ‹_›
        have h3 : cx x = some _ := ‹_›
        cases hc
        simp only [AOp.eval] at h
        split at h
        · rename_i l off hx
          split at h
          · rename_i u hrd
            cases h
            have g1 := cx_ok he h3
            rw [hx] at g1
            obtain ⟨A, hA, g1⟩ := ren_ptr g1
            obtain ⟨y, _, hcell⟩ := read1_sound hR hrel hrd hA
            refine ⟨?_, by simp [AOp.quiet]⟩
            have hsz := sz_fact h4
            simp only [execOp, hop, g1]
            simp only [Sem.run_bind, run_convert_to_unsafe h1 h2 hsz hcell, Result.andThen_ok, Sem.run_pure]
            exact Yields.same hrel (by simp [ren, hA])
          · cases h
        · cases h
      · cases hc
    · cases hc
  | sliceToArrayPointer d x => rw [hop] at hc; simp [compOp] at hc
  | makeInterface t x => rw [hop] at hc; simp [compOp] at hc
  | makeFunc f a b =>
    rw [hop] at hc; simp only [compOp] at hc
    split at hc
    · cases hc; exact both (s_fn hrel he ‹_› ‹_› h hop)
    · cases hc
  | makeMap t r =>
    cases r with
    | none => rw [hop] at hc; simp only [compOp] at hc; cases hc; exact ⟨s_mkmap hrel h hop, by simp [AOp.quiet]⟩
    | some r => rw [hop] at hc; simp [compOp] at hc
  | makeChan t x => rw [hop] at hc; simp [compOp] at hc
  | makeSlice t l c =>
    rw [hop] at hc; simp only [compOp] at hc
    split at hc
    · split at hc
      · cases hc; exact ⟨s_mksl hrel he ‹_› ‹_› ‹_› ‹_› ‹_› ‹_› h hop, by simp [AOp.quiet]⟩
      · cases hc
    · cases hc
  | slice t x lo hi mx =>
    rw [hop] at hc; simp only [compOp] at hc
    split at hc
    · rename_i h1 h2 h3 h4 h5
      cases hc
      have : mx = none := by cases mx with
        | none => rfl
        | some m => simp only [cxo, Option.map_eq_some_iff] at h5; obtain ⟨_, _, h5⟩ := h5; cases h5
      subst this
      exact both (s_sliceS hrel he h2 h3 h4 h1 h hop)
    · rename_i h1 h2 h3 h4 h5
      split at hc
      · cases hc
      · rename_i hno
        simp only [Option.map_eq_some_iff] at hc
        obtain ⟨s, hs, rfl⟩ := hc
        refine ⟨s_slice hrel he h2 h3 h4 h5 (fun hh => ?_) h1 hs h hop, by simp [AOp.quiet]⟩
        subst hh
        cases mx with
        | none => rfl
        | some m => simp at hno
    · rename_i h1 h2 h3 h4 h5
      simp only [Option.map_eq_some_iff] at hc
      obtain ⟨s, hs, rfl⟩ := hc
      have : mx = none := by cases mx with
        | none => rfl
        | some m => simp only [cxo, Option.map_eq_some_iff] at h5; obtain ⟨_, _, h5⟩ := h5; cases h5
      subst this
      exact both (s_sliceA hrel he h2 h3 h4 h1 hs h hop)
    · cases hc
  | fieldAddr t x f =>
    rw [hop] at hc; simp only [compOp] at hc
    split at hc
    · split at hc
      · split at hc
        · cases hc; exact both (s_addr hrel he ‹_› ‹_› ‹_› ‹_› h hop)
        · cases hc
      · cases hc
    · cases hc
  | field t x f =>
    rw [hop] at hc; simp only [compOp] at hc
    split at hc
    · split at hc
      · split at hc
        · simp only [Option.map_eq_some_iff] at hc
          obtain ⟨n, hn, rfl⟩ := hc
          exact both (s_fld hrel he ‹_› ‹_› ‹_› ‹_› (.inl ⟨rfl, n, rfl, hn⟩) h hop)
        · cases hc
          exact both (s_fld hrel he ‹_› ‹_› ‹_› ‹_› (.inr ⟨rfl, rfl⟩) h hop)
        · cases hc
      · cases hc
    · cases hc
  | indexAddr t x i =>
    rw [hop] at hc; simp only [compOp] at hc
    split at hc
    · simp only [Option.map_eq_some_iff] at hc
      obtain ⟨s, hs, rfl⟩ := hc
      exact both (s_iaddrS hrel he ‹_› ‹_› ‹_› hs h hop)
    · simp only [Option.map_eq_some_iff] at hc
      obtain ⟨s, hs, rfl⟩ := hc
      exact both (s_iaddrA hrel he ‹_› ‹_› ‹_› hs h hop)
    · cases hc
  | index t x i =>
    rw [hop] at hc; simp only [compOp] at hc
    split at hc
    · cases hc; exact both (s_idxS hrel he ‹_› ‹_› ‹_› h hop)
    · split at hc
      · cases hc; exact both (s_idxA hrel he ‹_› ‹_› ‹_› ‹_› ‹_› h hop)
      · cases hc
    · cases hc
  | lookup t x i ok =>
    rw [hop] at hc; simp only [compOp] at hc
    split at hc
    · simp only [Option.map_eq_some_iff] at hc
      obtain ⟨z, hz, rfl⟩ := hc
      exact both (s_lookup hrel he ‹_› ‹_› ‹_› hz h hop)
    · cases hc
  | mapUpdate t m k x =>
    rw [hop] at hc; simp only [compOp] at hc
    split at hc
    · cases hc; exact ⟨s_mapUpd hrel he ‹_› ‹_› ‹_› ‹_› h (.inl hop), by simp [AOp.quiet]⟩
    · cases hc
  | mapEntry t m k =>
    rw [hop] at hc; simp only [compOp] at hc
    split at hc
    · simp only [Option.map_eq_some_iff] at hc
      obtain ⟨z, hz, rfl⟩ := hc
      exact ⟨s_mapEntry hrel he ‹_› ‹_› ‹_› hz h hop, by simp [AOp.quiet]⟩
    · cases hc
  | entryStore t m s x =>
    rw [hop] at hc; simp only [compOp] at hc
    split at hc
    · cases hc; exact ⟨s_entryStore hrel he ‹_› ‹_› ‹_› h hop, by simp [AOp.quiet]⟩
    · cases hc
  | range t x =>
    rw [hop] at hc; simp only [compOp] at hc
    split at hc
    · cases hc; exact ⟨s_rangeS hrel he ‹_› ‹_› h hop, by simp [AOp.quiet]⟩
    · cases hc
  | next it b =>
    cases b with
    | true =>
      rw [hop] at hc; simp only [compOp, Option.map_eq_some_iff] at hc
      obtain ⟨x', hx, rfl⟩ := hc
      exact ⟨s_nextS hrel he hx h hop, by simp [AOp.quiet]⟩
    | false => rw [hop] at hc; simp [compOp] at hc
  | entry it => rw [hop] at hc; simp [compOp] at hc
  | typeAssert x t a ok => rw [hop] at hc; simp [compOp] at hc
  | extract t i =>
    rw [hop] at hc; simp only [compOp, Option.map_eq_some_iff] at hc
    obtain ⟨x', hx, rfl⟩ := hc
    exact both (s_ext hrel he hx h hop)
  | call c =>
    rw [hop] at hc; simp only [compOp] at hc
    unfold compCall at hc
    split at hc
    · split at hc
      · split at hc
        · cases hc; simp [AOp.eval] at h
        · simp only [Option.map_eq_some_iff] at hc
          obtain ⟨k, hk, rfl⟩ := hc
          exact ⟨s_atom hR hrel he ‹_› ‹_› hk h hop, by simp [AOp.quiet]⟩
      · cases hc
    · split at hc
      · cases hc; simp [AOp.eval] at h
      · cases hc
    · rename_i hcal
      split at hc
      · rename_i t a h0 hl
        split at hc
        · cases hc; exact both (s_lenS hrel he ‹_› ‹_› h hop hcal h0 hl)
        · cases hc; exact both (s_lenL hrel he ‹_› ‹_› h hop hcal h0 hl)
        · cases hc; exact both (s_lenM hrel he ‹_› ‹_› h hop hcal h0 hl)
        · rename_i n el x hu hx
          cases hc
          simp only [AOp.eval] at h
          cases h
          refine both (y_builtinS (x := .int .i64 n) hop hcal (fun cs => rfl) ?_ (Ext.refl _) hrel rfl)
          rw [args1 hl]
          unfold Builtin.len_
          simp [h0, und_ok hu, goInt]
        · cases hc
      · cases hc
    · rename_i hcal
      split at hc
      · rename_i t a h0 hl
        split at hc
        · cases hc; exact both (s_cap hrel he ‹_› ‹_› h hop hcal h0 hl)
        · cases hc
      · cases hc
    · rename_i hcal
      split at hc
      · rename_i t u a b h0 h1 hl
        split at hc
        · split at hc
          · split at hc
            · rename_i hzs
              cases hc
              simp only [AOp.eval] at h
              obtain ⟨ρ', w', x, q1, q2, q3, q4⟩ := s_append (ty := o.type) hR hrel he ‹_› ‹_› ‹_› ‹_› (.inr ⟨_, rfl⟩) ‹_› ‹_› ‹_› hzs h0 h1 h
              exact ⟨y_builtin hop hcal (fun cs => rfl) (by rw [args2 hl]; exact q1) q2 q3 q4, by simp [AOp.quiet]⟩
            · cases hc
          · cases hc
        · split at hc
          · split at hc
            · rename_i hzs
              cases hc
              simp only [AOp.eval] at h
              obtain ⟨ρ', w', x, q1, q2, q3, q4⟩ := s_append (ty := o.type) hR hrel he ‹_› ‹_› ‹_› ‹_› (.inl rfl) ‹_› ‹_› ‹_› hzs h0 h1 h
              exact ⟨y_builtin hop hcal (fun cs => rfl) (by rw [args2 hl]; exact q1) q2 q3 q4, by simp [AOp.quiet]⟩
            · cases hc
          · cases hc
        · split at hc
          · split at hc
            · rename_i hzs
              cases hc
              simp only [AOp.eval] at h
              obtain ⟨ρ', w', x, q1, q2, q3, q4⟩ := s_appz (ty := o.type) hR hrel he ‹_› ‹_› ‹_› ‹_› ‹_› ‹_› ‹_› hzs h0 h1 h
              exact ⟨y_builtin hop hcal (fun cs => rfl) (by rw [args2 hl]; exact q1) q2 q3 q4, by simp [AOp.quiet]⟩
            · cases hc
          · cases hc
        · cases hc
      · cases hc
    · rename_i hcal
      split at hc
      · rename_i t a b h0 hl
        split at hc
        · simp only [Option.map_eq_some_iff] at hc
          obtain ⟨s, hs, rfl⟩ := hc
          exact ⟨s_copy hR hrel he ‹_› ‹_› ‹_› hs h hop hcal h0 hl, by simp [AOp.quiet]⟩
        · cases hc
      · cases hc
    · rename_i hcal
      split at hc
      · rename_i t a h0 hl
        split at hc
        · split at hc
          · cases hc; exact ⟨s_clearS hrel he ‹_› ‹_› ‹_› h hop hcal h0 hl, by simp [AOp.quiet]⟩
          · cases hc
        · cases hc; exact ⟨s_mapClear hrel he ‹_› ‹_› h hop hcal h0 hl, by simp [AOp.quiet]⟩
        · cases hc
      · cases hc
    · rename_i hcal
      split at hc
      · rename_i t a b h0 hl
        split at hc
        · cases hc; exact ⟨s_mapDel hrel he ‹_› ‹_› ‹_› h hop hcal h0 hl, by simp [AOp.quiet]⟩
        · cases hc
      · cases hc
    · rename_i hcal
      split at hc
      · rename_i hl
        cases hc; exact both (s_minI hrel he h hop hcal hl)
      · cases hc
    · rename_i hcal
      split at hc
      · rename_i hl
        cases hc; exact both (s_maxI hrel he h hop hcal hl)
      · cases hc
    · cases hc
  | go c => rw [hop] at hc; simp [compOp] at hc
  | defer c => rw [hop] at hc; simp [compOp] at hc
  | panic x => rw [hop] at hc; simp [compOp] at hc
  | send c x => rw [hop] at hc; simp [compOp] at hc
  | recv t c b => rw [hop] at hc; simp [compOp] at hc
  | select c b => rw [hop] at hc; simp [compOp] at hc


theorem callFunc_run {f : FuncId} (hb : bodied P f = true) (args : Array Value) : (callFunc f args).run P w = .ok (.enter f args) w := by
  unfold bodied at hb
  split at hb
  · rename_i fn hfn
    simp only [Bool.and_eq_true, bne_iff_ne, ne_eq] at hb
    have h3 : fn.body.isNone = false := by cases h : fn.body with
      | none => rw [h] at hb; simp at hb
      | some c => rfl
    unfold callFunc
    simp only [Sem.run_bind, run_program, Result.andThen_ok, hfn, beq_iff_eq, Sem.run_ite]
    rw [if_neg hb.2, h3]
    rfl
  · cases hb

/-- A call of a Go function is entered. -/
theorem call_sound (he : EvOk ρ e ev) {o : Oper} {f : FuncId} {xs : List X} (hc : compOp P o.op = some (.call f xs)) :
    ∃ args, renL ρ (xs.map (X.ev e)) = some args ∧ (execOp ev o).run P w = .ok (.enter f args.toArray) w := by
  cases hop : o.op <;> rw [hop] at hc <;> simp only [compOp] at hc
  case call c =>
    unfold compCall at hc
    split at hc
    · rename_i g hcal
      split at hc
      · rename_i ys hys
        split at hc
        · rename_i hbod
          cases hc
          refine ⟨(c.args.map ev).toList, by rw [Array.toList_map]; exact cxs_ok he hys, ?_⟩
          simp only [execOp, hop, resolve, hcal, he.func, Deferred.ofValue]
          simp only [Sem.run_bind, Sem.run_pure, Result.andThen_ok, invoke, Array.toArray_toList]
          rw [callFunc_run hbod]
          simp
        · simp only [Option.map_eq_some_iff] at hc
          obtain ⟨_, _, hc⟩ := hc
          cases hc
      · cases hc
    all_goals
      repeat' split at hc
      all_goals first
        | (cases hc; done)
        | (simp only [Option.map_eq_some_iff] at hc; obtain ⟨_, _, hc⟩ := hc; cases hc; done)
        | (rename_i heq; cases heq; done)
  all_goals
    repeat' split at hc
    all_goals first
      | (cases hc; done)
      | (simp only [Option.map_eq_some_iff] at hc; obtain ⟨_, _, hc⟩ := hc; cases hc; done)
      | (rename_i heq; cases heq; done)

/-- A call of a function value: which function, with which arguments. -/
def fnArgs (v : AV) (args : List AV) : Option (FuncId × List AV) :=
  match v with
  | .fn (.func f) first captured => some (f, first ++ args ++ captured)
  | _ => none

theorem callv_sound (he : EvOk ρ e ev) {o : Oper} {f : FuncId} {x : X} {xs : List X} {as : List AV} (hc : compOp P o.op = some (.callv x xs)) (hf : fnArgs (x.ev e) (xs.map (X.ev e)) = some (f, as)) (hb : bodied P f = true) :
    ∃ args, renL ρ as = some args ∧ (execOp ev o).run P w = .ok (.enter f args.toArray) w := by
  cases hop : o.op <;> rw [hop] at hc <;> simp only [compOp] at hc
  case call c =>
    unfold compCall at hc
    split at hc
    · repeat' split at hc
      all_goals first
        | (cases hc; done)
        | (simp only [Option.map_eq_some_iff] at hc; obtain ⟨_, _, hc⟩ := hc; cases hc; done)
    · rename_i t hcal
      split at hc
      · rename_i ys hys
        cases hc
        unfold fnArgs at hf
        split at hf
        · rename_i g first captured hx
          cases hf
          have h1 := he.tmp t
          simp only [X.ev] at hx
          rw [hx] at h1
          simp only [ren] at h1
          split at h1
          · rename_i A C hA hC
            simp only [Option.some.injEq] at h1
            have h2 := cxs_ok he hys
            refine ⟨A ++ (c.args.map ev).toList ++ C, renL_append (renL_append hA (by rw [Array.toList_map]; exact h2)) hC, ?_⟩
            simp only [execOp, hop, resolve, hcal, ← h1, Deferred.ofValue]
            simp only [Sem.run_bind, Sem.run_pure, Result.andThen_ok, invoke]
            rw [callFunc_run hb]
            congr 2
            apply Array.ext'
            simp
          · cases h1
        · cases hf
      · cases hc
    all_goals
      repeat' split at hc
      all_goals first
        | (cases hc; done)
        | (simp only [Option.map_eq_some_iff] at hc; obtain ⟨_, _, hc⟩ := hc; cases hc; done)
        | (rename_i heq; cases heq; done)
  all_goals
    repeat' split at hc
    all_goals first
      | (cases hc; done)
      | (simp only [Option.map_eq_some_iff] at hc; obtain ⟨_, _, hc⟩ := hc; cases hc; done)
      | (rename_i heq; cases heq; done)
end
end Am
