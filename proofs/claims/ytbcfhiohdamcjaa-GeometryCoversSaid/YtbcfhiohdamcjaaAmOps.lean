/- The abstract machine: abstract values and heaps, and what they say of a world. -/
import Derived.Calls
import Derived.Below
import Derived.KernelRfl
import Derived.Laws.Sem
import Derived.Laws.World
import GoSem.Dispatch
set_option linter.unusedSimpArgs false
set_option linter.unusedVariables false
set_option linter.unusedSectionVars false
set_option linter.unnecessarySimpa false
namespace Am
open Go Go.RowKit

/-- A block: one of the base world's (a real number), or one of the call's own (an abstract number). -/
inductive Loc where
  | ro (b : Nat)
  | mu (i : Nat)
  deriving DecidableEq

/-- What is known of a slice's capacity: the number; or: to the end of a row of the call's own, whose capacity is not known (the element's place in that row). -/
inductive Cap where
  | known (n : Nat)
  | opn (eo : Nat)
  deriving DecidableEq

inductive AV where
  | bool (b : Bool)
  | int (k : IntKind) (n : Int)
  | str (s : List UInt8)
  | ptr (l : Loc) (off : Nat)
  | nilptr
  | slice (l : Loc) (off len : Nat) (cap : Cap)
  | nilslice
  | map (i : Nat)
  | nilmap
  | fn (f : Fn) (first captured : List AV)
  | nilfn
  | iface (t : TypeId) (v : AV)
  | niface
  | agg (cs : List AV)
  | tuple (vs : List AV)
  /-- any value of one cell, as it is -/
  | raw (x : Value)
  deriving Inhabited

abbrev AV.undef : AV := .tuple []

def AV.cells : AV → List AV
  | .agg cs => cs
  | v => [v]

/-- Where an abstract block lies: the real block, by how much its cells are shifted, the capacity in elements. -/
structure Slot where
  blk : Nat
  sh : Nat
  ecap : Nat

abbrev Ren := List Slot

def Loc.addr (ρ : Ren) (off : Nat) : Loc → Option Addr
  | .ro b => some ⟨b, off, none⟩
  | .mu i => (ρ[i]?).map fun p => ⟨p.blk, p.sh + off, none⟩

def Cap.num (ρ : Ren) : Loc → Cap → Option Nat
  | _, .known n => some n
  | .mu i, .opn eo => (ρ[i]?).map fun p => p.ecap - eo
  | .ro _, .opn _ => none

mutual
def ren (ρ : Ren) : AV → Option Value
  | .bool b => some (.bool b)
  | .int k n => some (.int k n)
  | .str s => some (.string ⟨⟨s⟩⟩)
  | .ptr l off => (l.addr ρ off).map fun a => .pointer (some a)
  | .nilptr => some (.pointer none)
  | .slice l off len cap => match l.addr ρ off, cap.num ρ l with
    | some a, some c => some (.slice (some a) len c)
    | _, _ => none
  | .nilslice => some (.slice none 0 0)
  | .map i => (ρ[i]?).map fun p => .map (some p.blk)
  | .nilmap => some (.map none)
  | .fn f first captured => match renL ρ first, renL ρ captured with
    | some a, some c => some (.func f a.toArray c.toArray)
    | _, _ => none
  | .nilfn => some .nilFunc
  | .iface t v => (ren ρ v).map fun x => .iface t x
  | .niface => some .nilIface
  | .agg cs => (renL ρ cs).map fun l => .agg l.toArray
  | .tuple vs => (renL ρ vs).map fun l => .tuple l.toArray
  | .raw x => if x.oneCell' = true then some x else none
def renL (ρ : Ren) : List AV → Option (List Value)
  | [] => some []
  | v :: vs => match ren ρ v, renL ρ vs with
    | some x, some xs => some (x :: xs)
    | _, _ => none
end

theorem renL_cons {ρ : Ren} {v : AV} {vs : List AV} {X : List Value} (h : renL ρ (v :: vs) = some X) : ∃ x xs, ren ρ v = some x ∧ renL ρ vs = some xs ∧ X = x :: xs := by
  simp only [renL] at h
  split at h
  · cases h; exact ⟨_, _, ‹_›, ‹_›, rfl⟩
  · cases h

theorem renL_cons_mk {ρ : Ren} {v : AV} {vs : List AV} {x : Value} {xs : List Value} (h : ren ρ v = some x) (hs : renL ρ vs = some xs) : renL ρ (v :: vs) = some (x :: xs) := by
  simp only [renL, h, hs]

theorem renL_nil {ρ : Ren} {X : List Value} (h : renL ρ [] = some X) : X = [] := by
  simp only [renL] at h; cases h; rfl

theorem renL_length {ρ : Ren} : ∀ {vs : List AV} {X : List Value}, renL ρ vs = some X → X.length = vs.length
  | [], X, h => by rw [renL_nil h]; rfl
  | v :: vs, X, h => by
    obtain ⟨x, xs, _, h2, rfl⟩ := renL_cons h
    simp [renL_length h2]

theorem renL_getElem? {ρ : Ren} : ∀ {vs : List AV} {X : List Value}, renL ρ vs = some X → ∀ (i : Nat) v, vs[i]? = some v → ∃ x, X[i]? = some x ∧ ren ρ v = some x
  | [], _, _, i, v, hv => by simp at hv
  | w :: vs, X, h, i, v, hv => by
    obtain ⟨x, xs, h1, h2, rfl⟩ := renL_cons h
    cases i with
    | zero => simp at hv; subst hv; exact ⟨x, rfl, h1⟩
    | succ i => simp at hv ⊢; exact renL_getElem? h2 i v hv

theorem renL_append {ρ : Ren} : ∀ {a b : List AV} {X Y : List Value}, renL ρ a = some X → renL ρ b = some Y → renL ρ (a ++ b) = some (X ++ Y)
  | [], b, X, Y, h, k => by rw [renL_nil h]; simpa using k
  | v :: vs, b, X, Y, h, k => by
    obtain ⟨x, xs, h1, h2, rfl⟩ := renL_cons h
    exact renL_cons_mk h1 (renL_append h2 k)

theorem renL_append_inv {ρ : Ren} : ∀ {a b : List AV} {Z : List Value}, renL ρ (a ++ b) = some Z → ∃ X Y, renL ρ a = some X ∧ renL ρ b = some Y ∧ Z = X ++ Y
  | [], b, Z, h => ⟨[], Z, rfl, h, rfl⟩
  | v :: vs, b, Z, h => by
    obtain ⟨x, xs, h1, h2, rfl⟩ := renL_cons h
    obtain ⟨X, Y, h3, h4, rfl⟩ := renL_append_inv h2
    exact ⟨x :: X, Y, renL_cons_mk h1 h3, h4, rfl⟩

theorem renL_take {ρ : Ren} {a : List AV} {X : List Value} (h : renL ρ a = some X) (n : Nat) : renL ρ (a.take n) = some (X.take n) := by
  have h' := h
  rw [← List.take_append_drop n a] at h'
  obtain ⟨Y, Z, h1, h2, rfl⟩ := renL_append_inv h'
  have hl := renL_length h
  have hy := renL_length h1
  rw [h1]
  congr 1
  rw [List.length_take] at hy
  by_cases hn : n ≤ a.length
  · rw [List.take_append_of_le_length (by omega), List.take_of_length_le (by omega)]
  · have hz := renL_length h2
    have : Z = [] := List.eq_nil_of_length_eq_zero (by rw [hz, List.length_drop]; omega)
    subst this
    rw [List.append_nil, List.take_of_length_le (by omega)]

theorem renL_drop {ρ : Ren} {a : List AV} {X : List Value} (h : renL ρ a = some X) (n : Nat) : renL ρ (a.drop n) = some (X.drop n) := by
  have h' := h
  rw [← List.take_append_drop n a] at h'
  obtain ⟨Y, Z, h1, h2, rfl⟩ := renL_append_inv h'
  have hl := renL_length h
  have hy := renL_length h1
  rw [h2]
  congr 1
  rw [List.length_take] at hy
  by_cases hn : n ≤ a.length
  · rw [List.drop_append_of_le_length (by omega), List.drop_of_length_le (by omega), List.nil_append]
  · have hz := renL_length h2
    have : Z = [] := List.eq_nil_of_length_eq_zero (by rw [hz, List.length_drop]; omega)
    subst this
    rw [List.append_nil, List.drop_of_length_le (by omega)]

theorem renL_set {ρ : Ren} : ∀ {a : List AV} {X : List Value} (_ : renL ρ a = some X) (i : Nat) {v : AV} {x : Value} (_ : ren ρ v = some x), renL ρ (a.set i v) = some (X.set i x)
  | [], X, h, i, v, x, hv => by rw [renL_nil h]; simp [renL]
  | u :: us, X, h, i, v, x, hv => by
    obtain ⟨y, ys, h1, h2, rfl⟩ := renL_cons h
    cases i with
    | zero => exact renL_cons_mk hv h2
    | succ i => exact renL_cons_mk h1 (renL_set h2 i hv)

/-- More blocks: what was named is named as it was. -/
def Ext (ρ ρ' : Ren) : Prop := ∃ l, ρ' = ρ ++ l
theorem Ext.refl (ρ : Ren) : Ext ρ ρ := ⟨[], by simp⟩
theorem Ext.trans {a b c : Ren} (h : Ext a b) (k : Ext b c) : Ext a c := by
  obtain ⟨l, rfl⟩ := h; obtain ⟨m, rfl⟩ := k; exact ⟨l ++ m, by simp⟩
theorem Ext.mk (ρ l : Ren) : Ext ρ (ρ ++ l) := ⟨l, rfl⟩
theorem Ext.get {ρ ρ' : Ren} (h : Ext ρ ρ') {i : Nat} {p : Slot} (hp : ρ[i]? = some p) : ρ'[i]? = some p := by
  obtain ⟨l, rfl⟩ := h
  rw [List.getElem?_append_left (by have := (List.getElem?_eq_some_iff.1 hp).1; omega)]; exact hp

theorem Loc.addr_ext {ρ ρ' : Ren} (h : Ext ρ ρ') {l : Loc} {off : Nat} {a : Addr} (ha : l.addr ρ off = some a) : l.addr ρ' off = some a := by
  cases l with
  | ro b => exact ha
  | mu i =>
    simp only [Loc.addr, Option.map_eq_some_iff] at ha ⊢
    obtain ⟨p, hp, rfl⟩ := ha
    exact ⟨p, h.get hp, rfl⟩
theorem Cap.num_ext {ρ ρ' : Ren} (h : Ext ρ ρ') {l : Loc} {c : Cap} {n : Nat} (ha : c.num ρ l = some n) : c.num ρ' l = some n := by
  cases c with
  | known n => exact ha
  | opn eo => cases l with
    | ro b => exact ha
    | mu i =>
      simp only [Cap.num, Option.map_eq_some_iff] at ha ⊢
      obtain ⟨p, hp, rfl⟩ := ha
      exact ⟨p, h.get hp, rfl⟩

mutual
theorem ren_ext {ρ ρ' : Ren} (h : Ext ρ ρ') : ∀ {v : AV} {x : Value}, ren ρ v = some x → ren ρ' v = some x
  | .bool b, x, hx => by simpa [ren] using hx
  | .int k n, x, hx => by simpa [ren] using hx
  | .str s, x, hx => by simpa [ren] using hx
  | .nilptr, x, hx => by simpa [ren] using hx
  | .nilslice, x, hx => by simpa [ren] using hx
  | .nilmap, x, hx => by simpa [ren] using hx
  | .nilfn, x, hx => by simpa [ren] using hx
  | .niface, x, hx => by simpa [ren] using hx
  | .ptr l off, x, hx => by
    simp only [ren, Option.map_eq_some_iff] at hx ⊢
    obtain ⟨a, ha, rfl⟩ := hx
    exact ⟨a, Loc.addr_ext h ha, rfl⟩
  | .slice l off len cap, x, hx => by
    simp only [ren] at hx ⊢
    split at hx
    · rename_i h1 h2; rw [Loc.addr_ext h h1, Cap.num_ext h h2]; exact hx
    · cases hx
  | .map i, x, hx => by
    simp only [ren, Option.map_eq_some_iff] at hx ⊢
    obtain ⟨p, hp, rfl⟩ := hx
    exact ⟨p, h.get hp, rfl⟩
  | .fn f a c, x, hx => by
    simp only [ren] at hx ⊢
    split at hx
    · rename_i h1 h2; rw [renL_ext h h1, renL_ext h h2]; exact hx
    · cases hx
  | .iface t v, x, hx => by
    simp only [ren, Option.map_eq_some_iff] at hx ⊢
    obtain ⟨p, hp, rfl⟩ := hx
    exact ⟨p, ren_ext h hp, rfl⟩
  | .agg cs, x, hx => by
    simp only [ren, Option.map_eq_some_iff] at hx ⊢
    obtain ⟨p, hp, rfl⟩ := hx
    exact ⟨p, renL_ext h hp, rfl⟩
  | .tuple cs, x, hx => by
    simp only [ren, Option.map_eq_some_iff] at hx ⊢
    obtain ⟨p, hp, rfl⟩ := hx
    exact ⟨p, renL_ext h hp, rfl⟩
  | .raw v, x, hx => by simpa [ren] using hx
theorem renL_ext {ρ ρ' : Ren} (h : Ext ρ ρ') : ∀ {vs : List AV} {X : List Value}, renL ρ vs = some X → renL ρ' vs = some X
  | [], X, hx => by rw [renL_nil hx]; rfl
  | v :: vs, X, hx => by
    obtain ⟨x, xs, h1, h2, rfl⟩ := renL_cons hx
    exact renL_cons_mk (ren_ext h h1) (renL_ext h h2)
end

/-! ### The heap -/
structure AEntry where
  key : AV
  val : AV
  born : Nat

inductive AO where
  /-- cells of a type, the first of those that lie there -/
  | cells (c : List AV) (t : TypeId)
  /-- a row that can grow: its elements take 'sz' cells each -/
  | row (c : List AV) (t : TypeId) (sz : Nat)
  | map (es : List AEntry) (clock : Nat)
  | siter (s : List UInt8) (pos : Nat)
  /-- a block of the call's own that holds just this: its number; what values within stand for -/
  | obj (b : Nat) (x : Obj) (es : List AV) (vs : List Value)
  | dead

abbrev AH := List AO

def renE (ρ : Ren) : List AEntry → Option (List MapEntry)
  | [] => some []
  | e :: es => match ren ρ e.key, ren ρ e.val, renE ρ es with
    | some k, some v, some l => some (⟨k, v, e.born⟩ :: l)
    | _, _, _ => none

theorem renE_cons {ρ : Ren} {e : AEntry} {es : List AEntry} {X : List MapEntry} (h : renE ρ (e :: es) = some X) :
    ∃ k v l, ren ρ e.key = some k ∧ ren ρ e.val = some v ∧ renE ρ es = some l ∧ X = ⟨k, v, e.born⟩ :: l := by
  simp only [renE] at h
  split at h
  · cases h; exact ⟨_, _, _, ‹_›, ‹_›, ‹_›, rfl⟩
  · cases h
theorem renE_cons_mk {ρ : Ren} {e : AEntry} {es : List AEntry} {k v : Value} {l : List MapEntry} (h1 : ren ρ e.key = some k) (h2 : ren ρ e.val = some v) (h3 : renE ρ es = some l) :
    renE ρ (e :: es) = some (⟨k, v, e.born⟩ :: l) := by simp only [renE, h1, h2, h3]
theorem renE_ext {ρ ρ' : Ren} (h : Ext ρ ρ') : ∀ {es : List AEntry} {X : List MapEntry}, renE ρ es = some X → renE ρ' es = some X
  | [], X, hx => by simpa [renE] using hx
  | e :: es, X, hx => by
    obtain ⟨k, v, l, h1, h2, h3, rfl⟩ := renE_cons hx
    exact renE_cons_mk (ren_ext h h1) (ren_ext h h2) (renE_ext h h3)

/-- What an abstract object says of the block that it names. -/
def okO (ρ : Ren) (w : World) (p : Slot) : AO → Prop
  | .cells c t => ∃ C cs, w.heap[p.blk]? = some (.cells C t (0, 0)) ∧ renL ρ c = some cs ∧ (C.toList.drop p.sh).take cs.length = cs
  | .row c t sz => ∃ C cs, w.heap[p.blk]? = some (.cells C t (0, 0)) ∧ renL ρ c = some cs ∧ (C.toList.drop p.sh).take cs.length = cs ∧ p.sh + p.ecap * sz ≤ C.size ∧ c.length ≤ p.ecap * sz
  | .map es clock => ∃ E, w.heap[p.blk]? = some (.map E clock) ∧ renE ρ es = some E.toList
  | .siter s pos => w.heap[p.blk]? = some (.stringIter ⟨⟨s⟩⟩ pos) ∧ p.sh = 0
  | .obj b x es vs => p.blk = b ∧ w.heap[p.blk]? = some x ∧ renL ρ es = some vs
  | .dead => True

def AO.live : AO → Bool
  | .dead => false
  | _ => true

/-- What of the base world's cells may be read. -/
structure Ro where
  f : Nat → Nat → Option AV
  good : World → Prop := fun _ => True
  up : ∀ a b : World, Below a.heap.size a b → good a → good b := by intros; trivial
instance : CoeFun Ro (fun _ => Nat → Nat → Option AV) := ⟨Ro.f⟩

structure ROk (R : Ro) (base : World) : Prop where
  cells : ∀ b o v, R b o = some v → b < base.heap.size ∧ ∃ x, ren [] v = some x ∧ base.cell? ⟨b, o, none⟩ = some x
  good : R.good base
instance (R : Ro) (base : World) : CoeFun (ROk R base) (fun _ => ∀ b o v, R b o = some v → b < base.heap.size ∧ ∃ x, ren [] v = some x ∧ base.cell? ⟨b, o, none⟩ = some x) := ⟨ROk.cells⟩

structure Rel (base : World) (ρ : Ren) (H : AH) (w : World) : Prop where
  below : Below base.heap.size base w
  len : ρ.length = H.length
  obj : ∀ (i : Nat) o p, H[i]? = some o → ρ[i]? = some p → okO ρ w p o
  blk : ∀ (i : Nat) o p, H[i]? = some o → ρ[i]? = some p → o.live = true → base.heap.size ≤ p.blk
  inj : ∀ (i j : Nat) o u p q, i ≠ j → H[i]? = some o → H[j]? = some u → ρ[i]? = some p → ρ[j]? = some q → o.live = true → u.live = true → p.blk ≠ q.blk

theorem okO_ext {ρ ρ' : Ren} (h : Ext ρ ρ') {w : World} {p : Slot} {o : AO} (ho : okO ρ w p o) : okO ρ' w p o := by
  cases o with
  | cells c t => obtain ⟨C, cs, h1, h2, h3⟩ := ho; exact ⟨C, cs, h1, renL_ext h h2, h3⟩
  | row c t sz => obtain ⟨C, cs, h1, h2, h3⟩ := ho; exact ⟨C, cs, h1, renL_ext h h2, h3⟩
  | map es k => obtain ⟨E, h1, h2⟩ := ho; exact ⟨E, h1, renE_ext h h2⟩
  | siter s pos => exact ho
  | obj b x es vs => exact ⟨ho.1, ho.2.1, renL_ext h ho.2.2⟩
  | dead => trivial

/-- The block's content is all that counts. -/
theorem okO_same {ρ : Ren} {w w' : World} {p : Slot} {o : AO} (ho : okO ρ w p o) (hb : o.live = true → w'.heap[p.blk]? = w.heap[p.blk]?) : okO ρ w' p o := by
  cases o with
  | cells c t => obtain ⟨C, cs, h1, h2⟩ := ho; exact ⟨C, cs, by rw [hb rfl]; exact h1, h2⟩
  | row c t sz => obtain ⟨C, cs, h1, h2⟩ := ho; exact ⟨C, cs, by rw [hb rfl]; exact h1, h2⟩
  | map es k => obtain ⟨E, h1, h2⟩ := ho; exact ⟨E, by rw [hb rfl]; exact h1, h2⟩
  | siter s pos => exact ⟨(hb rfl).trans ho.1, ho.2⟩
  | obj b x es vs => exact ⟨ho.1, (hb rfl).trans ho.2.1, ho.2.2⟩
  | dead => trivial

theorem okO_lt {ρ : Ren} {w : World} {p : Slot} {o : AO} (ho : okO ρ w p o) (hl : o.live = true) : p.blk < w.heap.size := by
  have : ∃ x, w.heap[p.blk]? = some x := by
    cases o with
    | cells c t => obtain ⟨C, cs, h1, _⟩ := ho; exact ⟨_, h1⟩
    | row c t sz => obtain ⟨C, cs, h1, _⟩ := ho; exact ⟨_, h1⟩
    | map es k => obtain ⟨E, h1, _⟩ := ho; exact ⟨_, h1⟩
    | siter s pos => exact ⟨_, ho.1⟩
    | obj b x es vs => exact ⟨_, ho.2.1⟩
    | dead => cases hl
  obtain ⟨x, hx⟩ := this
  exact (Array.getElem?_eq_some_iff.1 hx).1

theorem Rel.slot {base : World} {ρ : Ren} {H : AH} {w : World} (h : Rel base ρ H w) {i : Nat} {o : AO} (ho : H[i]? = some o) : ∃ p, ρ[i]? = some p := by
  have := (List.getElem?_eq_some_iff.1 ho).1
  exact ⟨ρ[i]'(by rw [h.len]; exact this), by simp⟩

/-- Draws change nothing of the heap. -/
theorem Rel.draw {base : World} {ρ : Ren} {H : AH} {w : World} (h : Rel base ρ H w) (n : Nat) : Rel base ρ H { w with drawn := n } :=
  ⟨⟨h.below.os, h.below.tape, h.below.output, h.below.size, h.below.block⟩, h.len, fun i o p h1 h2 => okO_same (h.obj i o p h1 h2) (fun _ => rfl), h.blk, h.inj⟩

/-- One object is written anew (and others may die). -/
theorem Rel.put {base : World} {ρ : Ren} {H : AH} {w w' : World} (h : Rel base ρ H w) {i : Nat} {o o' : AO} {p : Slot} (ho : H[i]? = some o) (hp : ρ[i]? = some p) (hl : o.live = true)
    (hos : w'.os = w.os) (htape : w'.tape = w.tape) (hout : w'.output = w.output) (hsize : w'.heap.size = w.heap.size)
    (hother : ∀ k, k ≠ p.blk → w'.heap[k]? = w.heap[k]?) (hok : okO ρ w' p o') : Rel base ρ (H.set i o') w' := by
  have hpb := h.blk i o p ho hp hl
  have hi : i < H.length := (List.getElem?_eq_some_iff.1 ho).1
  refine ⟨⟨hos.trans h.below.os, htape.trans h.below.tape, hout.trans h.below.output, by rw [hsize]; exact h.below.size, fun k hk => (hother k (by omega)).trans (h.below.block k hk)⟩, by rw [List.length_set]; exact h.len, ?_, ?_, ?_⟩
  · intro j u q hj hq
    rw [List.getElem?_set] at hj
    by_cases hij : i = j
    · subst hij
      rw [if_pos rfl, if_pos hi] at hj
      cases hj
      rw [hp] at hq; cases hq
      exact hok
    · rw [if_neg hij] at hj
      refine okO_same (h.obj j u q hj hq) fun hu => hother _ ?_
      exact (h.inj i j o u p q hij ho hj hp hq hl hu).symm
  · intro j u q hj hq hu
    rw [List.getElem?_set] at hj
    by_cases hij : i = j
    · subst hij
      rw [hp] at hq; cases hq
      exact hpb
    · rw [if_neg hij] at hj
      exact h.blk j u q hj hq hu
  · intro j k u v q r hjk hj hk hq hr hu hv
    rw [List.getElem?_set] at hj hk
    by_cases hij : i = j
    · subst hij
      rw [if_neg hjk] at hk
      rw [hp] at hq; cases hq
      exact h.inj i k o v p r hjk ho hk hp hr hl hv
    · rw [if_neg hij] at hj
      by_cases hik : i = k
      · subst hik
        rw [hp] at hr; cases hr
        exact h.inj j i u o q p hjk hj ho hq hp hu hl
      · rw [if_neg hik] at hk
        exact h.inj j k u v q r hjk hj hk hq hr hu hv

/-- A new block. -/
theorem Rel.new {base : World} {ρ : Ren} {H : AH} {w : World} (h : Rel base ρ H w) (x : Obj) (o : AO) (sh ecap : Nat) (n : Nat)
    (hok : okO (ρ ++ [⟨w.heap.size, sh, ecap⟩]) { w with heap := w.heap.push x, drawn := n } ⟨w.heap.size, sh, ecap⟩ o) :
    Rel base (ρ ++ [⟨w.heap.size, sh, ecap⟩]) (H ++ [o]) { w with heap := w.heap.push x, drawn := n } := by
  have hs := h.below.size
  have hold : ∀ k, k < w.heap.size → (w.heap.push x)[k]? = w.heap[k]? := fun k hk => by rw [Array.getElem?_push, if_neg (by omega)]
  have hlen := h.len
  have hcase : ∀ (i : Nat) u q, (H ++ [o])[i]? = some u → (ρ ++ [(⟨w.heap.size, sh, ecap⟩ : Slot)])[i]? = some q → (H[i]? = some u ∧ ρ[i]? = some q ∧ i < H.length) ∨ (i = H.length ∧ u = o ∧ q = ⟨w.heap.size, sh, ecap⟩) := by
    intro i u q hu hq
    by_cases hi : i < H.length
    · rw [List.getElem?_append_left hi] at hu
      rw [List.getElem?_append_left (by omega)] at hq
      exact .inl ⟨hu, hq, hi⟩
    · have hi2 : i = H.length := by
        have := (List.getElem?_eq_some_iff.1 hu).1
        simp at this; omega
      subst hi2
      rw [List.getElem?_append_right (Nat.le_refl _)] at hu
      rw [List.getElem?_append_right (by omega)] at hq
      simp [hlen] at hu hq
      exact .inr ⟨rfl, hu.symm, hq.symm⟩
  refine ⟨⟨h.below.os, h.below.tape, h.below.output, by simp; omega, fun k hk => (hold k (by omega)).trans (h.below.block k hk)⟩, by simp [hlen], ?_, ?_, ?_⟩
  · intro i u q hu hq
    rcases hcase i u q hu hq with ⟨hu, hq, hi⟩ | ⟨_, rfl, rfl⟩
    · refine okO_ext (Ext.mk _ _) (okO_same (h.obj i u q hu hq) fun hl => hold _ (okO_lt (h.obj i u q hu hq) hl))
    · exact hok
  · intro i u q hu hq hl
    rcases hcase i u q hu hq with ⟨hu, hq, hi⟩ | ⟨_, rfl, rfl⟩
    · exact h.blk i u q hu hq hl
    · exact hs
  · intro i j u v q r hij hu hv hq hr hl hl'
    rcases hcase i u q hu hq with ⟨hu, hq, hi⟩ | ⟨hi, rfl, rfl⟩
    · have h1 := okO_lt (h.obj i u q hu hq) hl
      rcases hcase j v r hv hr with ⟨hv, hr, hj⟩ | ⟨hj, rfl, rfl⟩
      · exact h.inj i j u v q r hij hu hv hq hr hl hl'
      · exact Nat.ne_of_lt h1
    · rcases hcase j v r hv hr with ⟨hv, hr, hj⟩ | ⟨hj, rfl, rfl⟩
      · exact (Nat.ne_of_lt (okO_lt (h.obj j v r hv hr) hl')).symm
      · exact absurd (hi.trans hj.symm) hij

/-- A block of the call's own is given a new name; the old one is dead. -/
theorem Rel.again {base : World} {ρ : Ren} {H : AH} {w w' : World} (h : Rel base ρ H w) {i : Nat} {o o' : AO} {p : Slot} (ho : H[i]? = some o) (hp : ρ[i]? = some p) (hl : o.live = true)
    (hos : w'.os = w.os) (htape : w'.tape = w.tape) (hout : w'.output = w.output) (hsize : w'.heap.size = w.heap.size)
    (hother : ∀ k, k ≠ p.blk → w'.heap[k]? = w.heap[k]?) (sh ecap : Nat)
    (hok : okO (ρ ++ [⟨p.blk, sh, ecap⟩]) w' ⟨p.blk, sh, ecap⟩ o') : Rel base (ρ ++ [⟨p.blk, sh, ecap⟩]) (H.set i .dead ++ [o']) w' := by
  have h0 : Rel base ρ (H.set i .dead) w' := h.put ho hp hl hos htape hout hsize hother trivial
  have hi : i < H.length := (List.getElem?_eq_some_iff.1 ho).1
  have hpb := h.blk i o p ho hp hl
  have hlen := h0.len
  generalize hH : H.set i .dead = H1 at h0
  have hdead : H1[i]? = some .dead := by rw [← hH, List.getElem?_set]; simp [hi]
  have hcase : ∀ (j : Nat) u q, (H1 ++ [o'])[j]? = some u → (ρ ++ [(⟨p.blk, sh, ecap⟩ : Slot)])[j]? = some q → (H1[j]? = some u ∧ ρ[j]? = some q) ∨ (j = H1.length ∧ u = o' ∧ q = ⟨p.blk, sh, ecap⟩) := by
    intro j u q hu hq
    by_cases hj : j < H1.length
    · rw [List.getElem?_append_left hj] at hu
      rw [List.getElem?_append_left (by rw [h0.len]; exact hj)] at hq
      exact .inl ⟨hu, hq⟩
    · have hi2 : j = H1.length := by
        have := (List.getElem?_eq_some_iff.1 hu).1
        simp at this; omega
      subst hi2
      rw [List.getElem?_append_right (Nat.le_refl _)] at hu
      rw [List.getElem?_append_right (by rw [h0.len]; exact Nat.le_refl _)] at hq
      simp [h0.len] at hu hq
      exact .inr ⟨rfl, hu.symm, hq.symm⟩
  have hne : ∀ (j : Nat) u q, H1[j]? = some u → ρ[j]? = some q → u.live = true → q.blk ≠ p.blk := by
    intro j u q hu hq hlu
    have hij : j ≠ i := by
      intro e; subst e; rw [hdead] at hu; cases hu; cases hlu
    have hu' : H[j]? = some u := by
      rw [← hH, List.getElem?_set, if_neg (Ne.symm hij)] at hu; exact hu
    exact h.inj j i u o q p hij hu' ho hq hp hlu hl
  refine ⟨h0.below, by simp [h0.len], ?_, ?_, ?_⟩
  · intro j u q hu hq
    rcases hcase j u q hu hq with ⟨hu, hq⟩ | ⟨_, rfl, rfl⟩
    · exact okO_ext (Ext.mk _ _) (h0.obj j u q hu hq)
    · exact hok
  · intro j u q hu hq hlu
    rcases hcase j u q hu hq with ⟨hu, hq⟩ | ⟨_, rfl, rfl⟩
    · exact h0.blk j u q hu hq hlu
    · exact hpb
  · intro j k u v q r hjk hu hv hq hr hlu hlv
    rcases hcase j u q hu hq with ⟨hu, hq⟩ | ⟨hj, rfl, rfl⟩
    · rcases hcase k v r hv hr with ⟨hv, hr⟩ | ⟨hk, rfl, rfl⟩
      · exact h0.inj j k u v q r hjk hu hv hq hr hlu hlv
      · exact hne j u q ‹_› ‹_› hlu
    · rcases hcase k v r hv hr with ⟨hv, hr⟩ | ⟨hk, rfl, rfl⟩
      · exact (hne k v r hv hr hlv).symm
      · exact absurd (hj.trans hk.symm) hjk

/-- What is forgotten. -/
theorem Rel.kill {base : World} {ρ : Ren} {H : AH} {w : World} (h : Rel base ρ H w) (i : Nat) : Rel base ρ (H.set i .dead) w := by
  refine ⟨h.below, by simp [h.len], ?_, ?_, ?_⟩
  · intro j u q hu hq
    rw [List.getElem?_set] at hu
    split at hu
    · split at hu
      · cases hu; trivial
      · cases hu
    · exact h.obj j u q hu hq
  · intro j u q hu hq hl
    rw [List.getElem?_set] at hu
    split at hu
    · split at hu
      · cases hu; cases hl
      · cases hu
    · exact h.blk j u q hu hq hl
  · intro j k u v q r hjk hu hv hq hr hlu hlv
    rw [List.getElem?_set] at hu hv
    split at hu
    · split at hu
      · cases hu; cases hlu
      · cases hu
    · split at hv
      · split at hv
        · cases hv; cases hlv
        · cases hv
      · exact h.inj j k u v q r hjk hu hv hq hr hlu hlv

theorem Rel.pushDead {base : World} {ρ : Ren} {H : AH} {w : World} (h : Rel base ρ H w) (p : Slot) : Rel base (ρ ++ [p]) (H ++ [.dead]) w := by
  have hlen := h.len
  have hcase : ∀ (i : Nat) u q, (H ++ [AO.dead])[i]? = some u → (ρ ++ [p])[i]? = some q → (H[i]? = some u ∧ ρ[i]? = some q) ∨ u = .dead := by
    intro i u q hu hq
    by_cases hi : i < H.length
    · rw [List.getElem?_append_left hi] at hu
      rw [List.getElem?_append_left (by omega)] at hq
      exact .inl ⟨hu, hq⟩
    · have hi2 : i = H.length := by
        have := (List.getElem?_eq_some_iff.1 hu).1
        simp at this; omega
      subst hi2
      rw [List.getElem?_append_right (Nat.le_refl _)] at hu
      simp at hu
      exact .inr hu.symm
  refine ⟨h.below, by simp [hlen], fun i o q h1 h2 => ?_, fun i o q h1 h2 hl => ?_, fun i j o u q r hij h1 h2 h3 h4 l1 l2 => ?_⟩
  · rcases hcase i o q h1 h2 with ⟨a, b⟩ | rfl
    · exact okO_ext (Ext.mk _ _) (h.obj i o q a b)
    · trivial
  · rcases hcase i o q h1 h2 with ⟨a, b⟩ | rfl
    · exact h.blk i o q a b hl
    · cases hl
  · rcases hcase i o q h1 h3 with ⟨a, b⟩ | rfl
    · rcases hcase j u r h2 h4 with ⟨c, d⟩ | rfl
      · exact h.inj i j o u q r hij a c b d l1 l2
      · cases l2
    · cases l1
end Am
namespace Am
open Go Go.RowKit

structure Touch (w w' : World) (b : Nat) : Prop where
  os : w'.os = w.os
  tape : w'.tape = w.tape
  output : w'.output = w.output
  size : w'.heap.size = w.heap.size
  other : ∀ k, k ≠ b → w'.heap[k]? = w.heap[k]?

theorem Touch.refl (w : World) (b : Nat) : Touch w w b := ⟨rfl, rfl, rfl, rfl, fun _ _ => rfl⟩
theorem Touch.trans {a b c : World} {k : Nat} (h : Touch a b k) (h' : Touch b c k) : Touch a c k :=
  ⟨h'.os.trans h.os, h'.tape.trans h.tape, h'.output.trans h.output, h'.size.trans h.size, fun i hi => (h'.other i hi).trans (h.other i hi)⟩

theorem touch_setCell (w : World) (a : Addr) (x : Value) : Touch w (w.setCell a x) a.block :=
  ⟨rfl, rfl, rfl, by simp, fun k hk => Below.heap_setCell w a x k hk⟩

theorem cell_at {w : World} {b : Nat} {C : Array Value} {t : TypeId} {f : Nat × Nat} (h : w.heap[b]? = some (.cells C t f)) (o : Nat) : w.cell? ⟨b, o, none⟩ = C[o]? := by
  unfold World.cell?; rw [h]; rfl

theorem frozen_at {w : World} {b : Nat} {C : Array Value} {t : TypeId} (h : w.heap[b]? = some (.cells C t (0, 0))) (o : Nat) : w.frozen? ⟨b, o, none⟩ = false := by
  unfold World.frozen?; rw [h]; simp

theorem heap_setCell_at {w : World} {b o : Nat} {C : Array Value} {t : TypeId} {f : Nat × Nat} (h : w.heap[b]? = some (.cells C t f)) (x : Value) :
    (w.setCell ⟨b, o, none⟩ x).heap[b]? = some (.cells (C.setIfInBounds o x) t f) := by
  simp only [World.setCell, Array.getElem?_modify, if_true, h]; rfl

theorem addr_add (b o n : Nat) : Addr.add ⟨b, o, none⟩ n = ⟨b, o + n, none⟩ := by
  unfold Addr.add; split <;> simp_all

def splice {α : Type} (c : List α) (off : Nat) (vs : List α) : List α := c.take off ++ vs ++ c.drop (off + vs.length)

theorem splice_length {α : Type} (c : List α) (off : Nat) (vs : List α) (h : off + vs.length ≤ c.length) : (splice c off vs).length = c.length := by
  simp [splice]; omega

theorem splice_nil {α : Type} (c : List α) (off : Nat) : splice c off [] = c := by simp [splice]

theorem splice_cons {α : Type} (c : List α) (off : Nat) (v : α) (vs : List α) (h : off < c.length) : splice c off (v :: vs) = splice (c.set off v) (off + 1) vs := by
  simp only [splice, List.length_cons]
  rw [List.take_succ_eq_append_getElem (by simpa using h), List.drop_set, if_pos (by omega)]
  rw [List.take_set_of_le (Nat.le_refl _), List.getElem_set_self]
  simp
  congr 1
  omega

theorem run_loadCellsFrom (P : Program) (w : World) (b off : Nat) {C : Array Value} {t : TypeId} {f : Nat × Nat} (h : w.heap[b]? = some (.cells C t f)) :
    ∀ (n i : Nat) (acc : Array Value), off + i + n ≤ C.size → (loadCellsFrom ⟨b, off, none⟩ i n acc).run P w = .ok (acc ++ ((C.toList.drop (off + i)).take n).toArray) w := by
  intro n
  induction n with
  | zero => intro i acc _; simp [loadCellsFrom]
  | succ n ih =>
    intro i acc hn
    have hlt : off + i < C.size := by omega
    simp only [loadCellsFrom, Sem.run_bind, run_load, addr_add, cell_at h, Array.getElem?_eq_getElem hlt, Result.andThen_ok]
    rw [ih (i + 1) _ (by omega)]
    congr 1
    have hd : C.toList.drop (off + i) = C[off + i] :: C.toList.drop (off + i + 1) := by
      rw [List.drop_eq_getElem_cons (by simpa using hlt)]; simp
    rw [hd, List.take_succ_cons, ← Nat.add_assoc]
    apply Array.ext'
    simp

/-- The same, wherever each cell is known. -/
theorem run_loadCells_of (P : Program) (w : World) (a : Addr) :
    ∀ (vs : List Value) (i : Nat) (acc : Array Value), (∀ (j : Nat) x, vs[j]? = some x → w.cell? (a.add (i + j)) = some x) → (loadCellsFrom a i vs.length acc).run P w = .ok (acc ++ vs.toArray) w := by
  intro vs
  induction vs with
  | nil => intro i acc _; simp [loadCellsFrom]
  | cons v vs ih =>
    intro i acc h
    have h0 := h 0 v rfl
    simp only [List.length_cons, loadCellsFrom, Sem.run_bind, run_load]
    rw [show a.add i = a.add (i + 0) from rfl, h0]
    simp only [Result.andThen_ok]
    rw [ih (i + 1) _ (fun j x hj => by rw [Nat.add_assoc, Nat.add_comm 1 j]; exact h (j + 1) x hj)]
    congr 1
    apply Array.ext'
    simp

theorem run_storeCells (P : Program) (b off : Nat) {t : TypeId} :
    ∀ (Vs : List Value) (i : Nat) (w : World) (C : Array Value), w.heap[b]? = some (.cells C t (0, 0)) → (∀ v ∈ Vs, v.oneCell' = true) → off + i + Vs.length ≤ C.size →
    ∃ w' C', (storeCells ⟨b, off, none⟩ Vs i).run P w = .ok () w' ∧ w'.heap[b]? = some (.cells C' t (0, 0)) ∧ C'.toList = splice C.toList (off + i) Vs ∧ Touch w w' b ∧ w'.drawn = w.drawn := by
  intro Vs
  induction Vs with
  | nil => intro i w C h _ _; exact ⟨w, C, by simp [storeCells], h, by simp [splice_nil], Touch.refl _ _, rfl⟩
  | cons v vs ih =>
    intro i w C h hone hfit
    have hlt : off + i < C.size := by simp at hfit; omega
    have hcell : w.cell? ⟨b, off + i, none⟩ = some C[off + i] := by rw [cell_at h, Array.getElem?_eq_getElem hlt]
    obtain ⟨w', C', h1, h2, h3, h4, h5⟩ := ih (i + 1) (w.setCell ⟨b, off + i, none⟩ v) (C.setIfInBounds (off + i) v) (heap_setCell_at h v) (fun u hu => hone u (List.mem_cons_of_mem _ hu)) (by simp at hfit ⊢; omega)
    refine ⟨w', C', ?_, h2, ?_, (touch_setCell w ⟨b, off + i, none⟩ v).trans h4, h5.trans rfl⟩
    · simp only [storeCells, Sem.run_bind, addr_add]
      rw [run_store P w _ v .plain (hone v (List.mem_cons_self ..)), hcell, frozen_at h]
      simpa using h1
    · rw [h3, splice_cons _ _ _ _ (by simpa using hlt)]
      simp [Nat.add_assoc]

/-! ### Abstract reading and writing -/
def AO.content : AO → Option (List AV)
  | .cells c _ | .row c _ _ => some c
  | _ => none

def readN (R : Ro) (H : AH) (n : Nat) : Loc → Nat → Option (List AV)
  | .mu i, off => match (H[i]?).bind AO.content with
    | some c => if off + n ≤ c.length then some ((c.drop off).take n) else none
    | none => none
  | .ro b, off => (List.range n).mapM fun k => R b (off + k)

def read1 (R : Ro) (H : AH) : Loc → Nat → Option AV
  | .mu i, off => match (H[i]?).bind AO.content with
    | some c => c[off]?
    | none => none
  | .ro b, off => R b off

theorem content_ok {ρ : Ren} {w : World} {p : Slot} {o : AO} {c : List AV} (h : okO ρ w p o) (hc : o.content = some c) :
    ∃ C t cs, w.heap[p.blk]? = some (.cells C t (0, 0)) ∧ renL ρ c = some cs ∧ (C.toList.drop p.sh).take cs.length = cs := by
  cases o with
  | cells c' t => simp [AO.content] at hc; subst hc; obtain ⟨C, cs, h1, h2, h3⟩ := h; exact ⟨C, t, cs, h1, h2, h3⟩
  | row c' t sz => simp [AO.content] at hc; subst hc; obtain ⟨C, cs, h1, h2, h3, _⟩ := h; exact ⟨C, t, cs, h1, h2, h3⟩
  | map es k => simp [AO.content] at hc
  | siter s pos => simp [AO.content] at hc
  | obj b x es vs => simp [AO.content] at hc
  | dead => simp [AO.content] at hc

theorem take_drop_get {α : Type} {L cs : List α} {s i : Nat} {x : α} (h : (L.drop s).take cs.length = cs) (hx : cs[i]? = some x) : L[s + i]? = some x := by
  have hi := (List.getElem?_eq_some_iff.1 hx).1
  rw [← h, List.getElem?_take_of_lt hi, List.getElem?_drop] at hx
  exact hx

theorem fits_of_take {α : Type} {L cs : List α} {s : Nat} (h : (L.drop s).take cs.length = cs) (hc : cs ≠ []) : s + cs.length ≤ L.length := by
  have := congrArg List.length h
  simp at this
  have : cs.length ≠ 0 := by simpa using hc
  omega

theorem okO_content_live {o : AO} {c : List AV} (hc : o.content = some c) : o.live = true := by
  cases o <;> simp_all [AO.content, AO.live]

theorem read1_sound {R : Ro} {base : World} (hR : ROk R base) {ρ : Ren} {H : AH} {w : World} (h : Rel base ρ H w) {l : Loc} {off : Nat} {v : AV} (hv : read1 R H l off = some v) {a : Addr}
    (ha : l.addr ρ off = some a) : ∃ x, ren ρ v = some x ∧ w.cell? a = some x := by
  cases l with
  | ro b =>
    simp only [Loc.addr] at ha; cases ha
    obtain ⟨hb, x, hx, hc⟩ := hR b off v hv
    exact ⟨x, ren_ext ⟨ρ, by simp⟩ hx, by rw [h.below.cell (p := ⟨b, off, none⟩) hb]; exact hc⟩
  | mu i =>
    simp only [read1] at hv
    split at hv
    · rename_i c hc
      simp only [Option.bind_eq_some_iff] at hc
      obtain ⟨o, ho, hc⟩ := hc
      simp only [Loc.addr, Option.map_eq_some_iff] at ha
      obtain ⟨p, hp, rfl⟩ := ha
      obtain ⟨C, t, cs, h1, h2, h3⟩ := content_ok (h.obj i o p ho hp) hc
      obtain ⟨x, hx, hr⟩ := renL_getElem? h2 off v hv
      refine ⟨x, hr, ?_⟩
      rw [cell_at h1, ← Array.getElem?_toList]
      exact take_drop_get h3 hx
    · cases hv

theorem mapM_some {α β : Type} (f : α → Option β) : ∀ {l : List α} {r : List β}, l.mapM f = some r → r.length = l.length ∧ ∀ (i : Nat) a, l[i]? = some a → ∃ b, f a = some b ∧ r[i]? = some b
  | [], r, h => by simp at h; subst h; simp
  | a :: l, r, h => by
    simp only [List.mapM_cons] at h
    cases hf : f a with
    | none => simp [hf] at h
    | some b =>
      cases hl : l.mapM f with
      | none => simp [hf, hl] at h
      | some r' =>
        simp [hf, hl] at h
        subst h
        obtain ⟨h1, h2⟩ := mapM_some f hl
        refine ⟨by simp [h1], fun i x hx => ?_⟩
        cases i with
        | zero => simp at hx; subst hx; exact ⟨b, hf, rfl⟩
        | succ i => simpa using h2 i x (by simpa using hx)

theorem readN_sound {R : Ro} {base : World} (hR : ROk R base) {ρ : Ren} {H : AH} {w : World} (h : Rel base ρ H w) {l : Loc} {off n : Nat} {vs : List AV} (hv : readN R H n l off = some vs) {a : Addr}
    (ha : l.addr ρ off = some a) : ∃ X, renL ρ vs = some X ∧ X.length = n ∧ ∀ (P : Program) (acc : Array Value), (loadCellsFrom a 0 n acc).run P w = .ok (acc ++ X.toArray) w := by
  cases l with
  | ro b =>
    simp only [Loc.addr] at ha; cases ha
    simp only [readN] at hv
    obtain ⟨hl, hg⟩ := mapM_some _ hv
    simp at hl
    have key : ∀ (vs : List AV) (off : Nat), (∀ (i : Nat) v, vs[i]? = some v → R b (off + i) = some v) → ∃ X, renL ρ vs = some X ∧ ∀ (j : Nat) x, X[j]? = some x → w.cell? ⟨b, off + j, none⟩ = some x := by
      intro vs
      induction vs with
      | nil => intro off _; exact ⟨[], rfl, by simp⟩
      | cons v vs ih =>
        intro off hg
        obtain ⟨X, hX, hc⟩ := ih (off + 1) (fun i u hu => by rw [Nat.add_assoc, Nat.add_comm 1 i]; exact hg (i + 1) u (by simpa using hu))
        obtain ⟨hb, x, hx, hxc⟩ := hR b (off + 0) v (hg 0 v rfl)
        refine ⟨x :: X, renL_cons_mk (ren_ext ⟨ρ, by simp⟩ hx) hX, fun j y hy => ?_⟩
        cases j with
        | zero => simp at hy; subst hy; rw [h.below.cell (p := ⟨b, off + 0, none⟩) hb]; exact hxc
        | succ j => rw [show off + (j + 1) = off + 1 + j from by omega]; exact hc j y (by simpa using hy)
    obtain ⟨X, hX, hc⟩ := key vs off (fun i v hi => by
      have hin : i < n := by have := (List.getElem?_eq_some_iff.1 hi).1; omega
      obtain ⟨u, h1, h2⟩ := hg i i (by simp [List.getElem?_range, hin])
      rw [hi] at h2; cases h2; exact h1)
    have hlx := renL_length hX
    refine ⟨X, hX, by omega, fun P acc => ?_⟩
    have := run_loadCells_of P w ⟨b, off, none⟩ X 0 acc (fun j x hj => by rw [addr_add, Nat.zero_add]; exact hc j x hj)
    rw [hlx, hl] at this; exact this
  | mu i =>
    simp only [readN] at hv
    split at hv
    · rename_i c hc
      simp only [Option.bind_eq_some_iff] at hc
      obtain ⟨o, ho, hc⟩ := hc
      split at hv
      · rename_i hfit
        cases hv
        simp only [Loc.addr, Option.map_eq_some_iff] at ha
        obtain ⟨p, hp, rfl⟩ := ha
        obtain ⟨C, t, cs, h1, h2, h3⟩ := content_ok (h.obj i o p ho hp) hc
        have hlc := renL_length h2
        have hX := renL_take (renL_drop h2 off) n
        have hlen : ((cs.drop off).take n).length = n := by rw [List.length_take, List.length_drop, hlc]; omega
        refine ⟨_, hX, hlen, fun P acc => ?_⟩
        have := run_loadCells_of P w ⟨p.blk, p.sh + off, none⟩ ((cs.drop off).take n) 0 acc (fun j x hj => by
          rw [addr_add, Nat.zero_add, cell_at h1, ← Array.getElem?_toList]
          have hjn : j < n := by have := (List.getElem?_eq_some_iff.1 hj).1; omega
          rw [List.getElem?_take_of_lt hjn, List.getElem?_drop] at hj
          rw [Nat.add_assoc]
          exact take_drop_get h3 hj)
        rw [hlen] at this; exact this
      · cases hv
    · cases hv

def AV.oneCell : AV → Bool
  | .agg _ | .tuple _ => false
  | _ => true

theorem oneCell_ren {ρ : Ren} {v : AV} {x : Value} (h : ren ρ v = some x) (hv : v.oneCell = true) : x.oneCell' = true := by
  cases v <;> simp [AV.oneCell] at hv <;> simp only [ren, Option.map_eq_some_iff] at h <;> first
    | (cases h; rfl)
    | (obtain ⟨_, _, rfl⟩ := h; rfl)
    | (split at h <;> cases h; first | rfl | assumption)

theorem oneCell_renL {ρ : Ren} : ∀ {vs : List AV} {X : List Value}, renL ρ vs = some X → vs.all AV.oneCell = true → ∀ x ∈ X, x.oneCell' = true
  | [], X, h, _, x, hx => by rw [renL_nil h] at hx; cases hx
  | v :: vs, X, h, ha, x, hx => by
    obtain ⟨y, ys, h1, h2, rfl⟩ := renL_cons h
    simp at ha
    rcases List.mem_cons.1 hx with rfl | hx
    · exact oneCell_ren h1 ha.1
    · exact oneCell_renL h2 (by simpa using ha.2) x hx

def AO.withContent : AO → List AV → AO
  | .cells _ t, c => .cells c t
  | .row _ t sz, c => .row c t sz
  | o, _ => o

def writeN (H : AH) (i off : Nat) (vs : List AV) : Option AH :=
  match H[i]? with
  | some o => match o.content with
    | some c => if off + vs.length ≤ c.length ∧ vs.all AV.oneCell = true then some (H.set i (o.withContent (splice c off vs))) else none
    | none => none
  | none => none

theorem take_drop_splice {α : Type} {L cs vs : List α} {s off : Nat} (h : (L.drop s).take cs.length = cs) (hfit : off + vs.length ≤ cs.length) :
    ((splice L (s + off) vs).drop s).take (splice cs off vs).length = splice cs off vs := by
  rw [splice_length cs off vs hfit]
  by_cases hcs : cs = []
  · subst hcs
    have : off = 0 ∧ vs = [] := by simpa using hfit
    simp [this, splice]
  have hL := fits_of_take h hcs
  have hlen : (splice L (s + off) vs).length = L.length := splice_length _ _ _ (by omega)
  apply List.ext_getElem?
  intro i
  by_cases hi : i < cs.length
  · rw [List.getElem?_take_of_lt hi, List.getElem?_drop]
    have hget : ∀ j, j < cs.length → L[s + j]? = cs[j]? := fun j hj => by
      rw [← h, List.getElem?_take_of_lt hj, List.getElem?_drop]
    unfold splice
    by_cases h1 : i < off
    · rw [List.append_assoc, List.getElem?_append_left (by simp; omega), List.getElem?_take_of_lt (by omega), List.append_assoc, List.getElem?_append_left (by simp; omega), List.getElem?_take_of_lt h1]
      exact hget i hi
    · by_cases h2 : i < off + vs.length
      · rw [List.append_assoc, List.getElem?_append_right (by simp; omega), List.getElem?_append_left (by simp; omega), List.append_assoc, List.getElem?_append_right (by simp; omega), List.getElem?_append_left (by simp; omega)]
        congr 1
        simp; omega
      · rw [List.getElem?_append_right (by simp; omega), List.getElem?_drop, List.getElem?_append_right (by simp; omega), List.getElem?_drop]
        have e1 : s + off + vs.length + (s + i - (List.take (s + off) L ++ vs).length) = s + i := by simp; omega
        have e2 : off + vs.length + (i - (List.take off cs ++ vs).length) = i := by simp; omega
        rw [e1, e2]
        exact hget i hi
  · rw [List.getElem?_eq_none (by rw [List.length_take, List.length_drop]; omega), List.getElem?_eq_none (by rw [splice_length cs off vs hfit]; omega)]

theorem renL_splice {ρ : Ren} {c vs : List AV} {cs Vs : List Value} (h1 : renL ρ c = some cs) (h2 : renL ρ vs = some Vs) (off : Nat) : renL ρ (splice c off vs) = some (splice cs off Vs) := by
  unfold splice
  rw [renL_length h2]
  exact renL_append (renL_append (renL_take h1 off) h2) (renL_drop h1 _)

theorem writeN_sound {base : World} {ρ : Ren} {H H' : AH} {w : World} (h : Rel base ρ H w) {i off : Nat} {vs : List AV} (hw : writeN H i off vs = some H') {X : List Value} (hX : renL ρ vs = some X) {p : Slot}
    (hp : ρ[i]? = some p) : ∃ w', (∀ P, (storeCells ⟨p.blk, p.sh + off, none⟩ X 0).run P w = .ok () w') ∧ Rel base ρ H' w' := by
  unfold writeN at hw
  split at hw
  · rename_i o ho
    split at hw
    · rename_i c hc
      split at hw
      · rename_i hcond
        obtain ⟨hfit, hone⟩ := hcond
        cases hw
        have hobj := h.obj i o p ho hp
        have hlive := okO_content_live hc
        obtain ⟨C, t, cs, h1, h2, h3⟩ := content_ok hobj hc
        have hlc := renL_length h2
        have hlx := renL_length hX
        have hbound : p.sh + off + 0 + X.length ≤ C.size ∨ X = [] := by
          by_cases hx : X = []
          · exact .inr hx
          · left
            have : cs ≠ [] := by
              intro e; subst e; simp at hlc
              have : X.length = 0 := by rw [hlx]; omega
              exact hx (List.eq_nil_of_length_eq_zero this)
            have := fits_of_take h3 this
            simp at this; omega
        rcases hbound with hbound | rfl
        · have hrun := fun P => run_storeCells P p.blk (p.sh + off) X 0 w C h1 (oneCell_renL hX hone) hbound
          obtain ⟨w', C', r1, r2, r3, r4, r5⟩ := hrun default
          refine ⟨w', fun P => ?_, ?_⟩
          · obtain ⟨w'', C'', q1, q2, q3, q4, q5⟩ := hrun P
            rw [q1]
            congr 1
            have e1 : w''.heap = w'.heap := by
              apply Array.ext'
              apply List.ext_getElem?
              intro k
              simp only [Array.getElem?_toList]
              by_cases hk : k = p.blk
              · subst hk; rw [q2, r2]
                have : C'' = C' := Array.ext' (by rw [q3, r3])
                rw [this]
              · rw [q4.other k hk, r4.other k hk]
            cases w'; cases w''
            have := q4.os; have := q4.tape; have := q4.output; have := r4.os; have := r4.tape; have := r4.output
            simp_all
          · refine h.put ho hp hlive r4.os r4.tape r4.output r4.size r4.other ?_
            have hspl := renL_splice h2 hX off
            have htk : (C'.toList.drop p.sh).take (splice cs off X).length = splice cs off X := by
              rw [r3, Nat.add_zero]
              exact take_drop_splice h3 (by omega)
            have hCs : C'.size = C.size := by
              have := congrArg List.length r3
              rw [splice_length _ _ _ (by simpa using hbound)] at this
              simpa using this
            cases o with
            | cells c' t' =>
              simp [AO.content] at hc; subst hc
              obtain ⟨D, ds, d1, d2, d3⟩ := hobj
              rw [h1] at d1; cases d1
              exact ⟨C', _, r2, hspl, htk⟩
            | row c' t' sz =>
              simp [AO.content] at hc; subst hc
              obtain ⟨D, ds, d1, d2, d3, d4, d5⟩ := hobj
              rw [h1] at d1; cases d1
              exact ⟨C', _, r2, hspl, htk, by rw [hCs]; exact d4, by rw [splice_length _ _ _ hfit]; exact d5⟩
            | map es k => simp [AO.content] at hc
            | siter s pos => simp [AO.content] at hc
            | obj b x es vs => simp [AO.content] at hc
            | dead => simp [AO.content] at hc
        · have hv : vs = [] := List.eq_nil_of_length_eq_zero (by rw [← hlx]; rfl)
          subst hv
          refine ⟨w, fun P => rfl, ?_⟩
          rw [splice_nil]
          have : o.withContent c = o := by cases o <;> simp_all [AO.content, AO.withContent]
          rw [this]
          have : H.set i o = H := by
            apply List.ext_getElem?
            intro k
            rw [List.getElem?_set]
            split
            · subst_vars; split
              · exact ho.symm
              · rename_i hn; rw [List.getElem?_eq_none (by omega)]
            · rfl
          rw [this]; exact h
      · cases hw
    · cases hw
  · cases hw

end Am
namespace Am
open Go Go.RowKit

inductive X where
  | t (n : Nat)
  | c (v : AV)

abbrev Env := Nat → AV
def Env.upd (e : Env) (t : Nat) (v : AV) : Env := fun s => if s = t then v else e s
def Env.put (e : Env) : Option Nat → AV → Env
  | some t, v => e.upd t v
  | none, _ => e

def X.ev (e : Env) : X → AV
  | .t n => e n
  | .c v => v

/-! ### Constants -/
def absC0 : Value → Option AV
  | .bool b => some (.bool b)
  | .int k n => some (.int k n)
  | .string s => some (.str s.data.toList)
  | .pointer none => some .nilptr
  | .slice none 0 0 => some .nilslice
  | .map none => some .nilmap
  | .nilFunc => some .nilfn
  | .nilIface => some .niface
  | _ => none
def absC0L : List Value → Option (List AV)
  | [] => some []
  | v :: vs => match absC0 v, absC0L vs with
    | some a, some l => some (a :: l)
    | _, _ => none
def absC : Value → Option AV
  | .agg cs => (absC0L cs.toList).map .agg
  | .tuple cs => (absC0L cs.toList).map .tuple
  | v => absC0 v

def cx : Operand → Option X
  | .tmp t => some (.t t)
  | .const v => (absC v).map .c
  | .func f => some (.c (.fn (.func f) [] []))
  | .global g => some (.c (.ptr (.ro g) 0))
def cxs : List Operand → Option (List X)
  | [] => some []
  | o :: os => match cx o, cxs os with
    | some x, some l => some (x :: l)
    | _, _ => none
def cxo : Option Operand → Option (Option X)
  | none => some none
  | some o => (cx o).map some
def cxp : List (Nat × Operand) → Option (List (Nat × X))
  | [] => some []
  | (i, o) :: os => match cx o, cxp os with
    | some x, some l => some ((i, x) :: l)
    | _, _ => none

/-! ### Functions without a Go body -/
inductive XK where
  | load (k : IntKind)
  | store
  | add (k : IntKind)
  | cas (k : IntKind)
  | disable
  | enable
  | acquire
  | releaseMerge
  /-- have two slices cells in common? -/
  | overlaps (p r : Array TypeId)

def XK.sem : XK → Array Value → Sem Value
  | .load k => Extern.Atomic.loadT (.int k)
  | .store => Extern.Atomic.storeT
  | .add k => Extern.Atomic.update (Op.intArith .add) k true
  | .cas k => Extern.Atomic.casT (.int k)
  | .disable => fun _ => do mark .disable; pure Extern.Race.none_
  | .enable => fun _ => do mark .enable; pure Extern.Race.none_
  | .acquire => Extern.Race.marked .acquire
  | .releaseMerge => Extern.Race.marked .releaseMerge
  | .overlaps p r => Extern.SlicesOverlaps.overlaps p r

/-- The instances of slices.overlaps that are read. -/
def ovNames : List String := ["slices.overlaps[jalousie/buffers.text]", "slices.overlaps[jalousie/tree.Node]"]

def xkTable : List (String × XK) :=
  [("sync/atomic.LoadInt64", .load .i64), ("sync/atomic.LoadInt32", .load .i32), ("sync/atomic.LoadUint32", .load .u32), ("sync/atomic.StoreUint32", .store), ("sync/atomic.AddInt64", .add .i64), ("sync/atomic.AddInt32", .add .i32),
   ("sync/atomic.CompareAndSwapInt32", .cas .i32), ("internal/race.Disable", .disable), ("internal/race.Enable", .enable), ("internal/race.Acquire", .acquire), ("internal/race.ReleaseMerge", .releaseMerge)]

/-! ### Operations -/
inductive AOp where
  | mv (x : X)
  | pick (c a b : X)
  | box (t : TypeId) (x : X)
  | alloc (t : TypeId) (z : List AV)
  | build (z : List AV) (places : List (Nat × Nat)) (ps : List (Nat × X))
  | bslice (t : TypeId) (sz len : Nat) (z : List AV) (ps : List (Nat × X))
  | load (n : Option Nat) (x : X)
  | store (n : Nat) (x v : X)
  | nilck (x : X)
  | bin (op : BinOp) (x y : X)
  /-- '==' (or '!=') at a type, on values that are no numbers and no texts -/
  | eq (neg : Bool) (t : TypeId) (k : TypeDesc) (x y : X)
  | un (op : UnOp) (x : X)
  | convI (k : IntKind) (x : X)
  | strOf (x : X)
  | sliceS (x : X) (lo hi : Option X)
  | slice (sz : Nat) (x : X) (lo hi mx : Option X)
  | sliceA (n sz : Nat) (x : X) (lo hi : Option X)
  | addr (d : Nat) (x : X)
  | fld (off : Nat) (n : Option Nat) (x : X)
  | iaddrS (sz : Nat) (x i : X)
  | iaddrA (len sz : Nat) (x i : X)
  | idxS (x i : X)
  | idxA (len sz : Nat) (agg : Bool) (x i : X)
  | lookup (key : TypeId) (z : AV) (x i : X) (ok : Bool)
  | mapUpd (key : TypeId) (m k v : X)
  | mapEntry (key : TypeId) (z : AV) (m k : X)
  | entryStore (m s v : X)
  | mkmap
  | mapDel (key : TypeId) (m k : X)
  | mapClear (m : X)
  | rangeS (x : X)
  | nextS (x : X)
  | ext (x : X) (i : Nat)
  | mksl (t : TypeId) (sz bytes : Nat) (z : List AV) (l c : X)
  | fn (f : Fn) (first captured : List X)
  | lenS (x : X)
  | lenL (x : X)
  | lenM (x : X)
  | cap (x : X)
  | append (t : TypeId) (sz bytes : Nat) (s x : X)
  /-- 'append(s, make([]T, k)...)' where s has no room: the number is handed over -/
  | appz (t : TypeId) (sz bytes : Nat) (z : List AV) (s x : X)
  | copy (sz : Nat) (d s : X)
  | clearS (sz : Nat) (z : List AV) (x : X)
  | minI (x : X) (xs : List X)
  | maxI (x : X) (xs : List X)
  /-- a call of a function without a Go body -/
  | atom (k : XK) (xs : List X)
  | toUnsafe (x : X)
  /-- what is not read -/
  | bad
  /-- a call of a Go function: its number, its operands -/
  | call (f : FuncId) (xs : List X)
  /-- a call of a function value -/
  | callv (f : X) (xs : List X)

structure AOper where
  dst : Option Nat
  guard : Option (Nat × Bool)
  op : AOp

section
variable (P : Program)

def zeroC (t : TypeId) : Option AV := match P.info? t with
  | some i => i.zero.bind absC
  | none => none
def sizeC (t : TypeId) : Option Nat := (P.info? t).map (·.size)
def bytesC (t : TypeId) : Option Nat := (P.info? t).map (·.bytes)
def aggC (t : TypeId) : Option Bool := match P.underlying t with
  | some (.struct _) | some (.array _ _) => some true
  | some _ => some false
  | none => none

def placesC : List Field → Option (List (Nat × Nat))
  | [] => some []
  | f :: fs => match sizeC P f.type, placesC fs with
    | some n, some l => some ((f.offset, n) :: l)
    | _, _ => none

def bodied (f : FuncId) : Bool := match P.funcs[f]? with
  | some fn => fn.body.isSome && fn.name != "runtime.NumGoroutine"
  | none => false

/-- Slices whose elements have a size. -/
def ovFits (p : Array TypeId) : Bool := match p[0]? with
  | some t => p == #[t, t] && match P.underlying t with
    | some (.slice e) => (sizeC P e).isSome
    | _ => false
  | none => false

def externC (f : FuncId) : Option XK := match P.funcs[f]? with
  | some fn => if fn.body.isNone && fn.origin == "" && fn.name != "runtime.NumGoroutine" then xkTable.lookup fn.name
    else if fn.body.isNone && fn.origin == "slices.overlaps" && ovNames.contains fn.name && ovFits P fn.params && fn.resultTypes.size == 1 then some (.overlaps fn.params fn.resultTypes) else none
  | none => none

def compCall (c : Call) : Option AOp :=
  match c.callee with
  | .value (.func f) => match cxs c.args.toList with
    | some xs => if bodied P f then some (.call f xs) else (externC P f).map fun k => .atom k xs
    | none => none
  | .value (.tmp t) => match cxs c.args.toList with
    | some xs => some (.callv (.t t) xs)
    | none => none
  | .builtin .len => match c.argTypes[0]?, c.args.toList with
    | some t, [a] => match P.underlying t, cx a with
      | some .string, some x => some (.lenS x)
      | some (.slice _), some x => some (.lenL x)
      | some (.map _ _), some x => some (.lenM x)
      | some (.array n _), some _ => some (.mv (.c (.int .i64 n)))
      | _, _ => none
    | _, _ => none
  | .builtin .cap => match c.argTypes[0]?, c.args.toList with
    | some t, [a] => match P.underlying t, cx a with
      | some (.slice _), some x => some (.cap x)
      | _, _ => none
    | _, _ => none
  | .builtin .append => match c.argTypes[0]?, c.argTypes[1]?, c.args.toList with
    | some t, some u, [a, b] => match P.underlying t, P.underlying u, cx a, cx b with
      | some (.slice e), some (.slice _), some x, some y | some (.slice e), some .string, some x, some y => match sizeC P e, bytesC P e, zeroC P e with
        | some sz, some by', some z => if z.cells.length = sz then some (.append e sz by' x y) else none
        | _, _, _ => none
      | some (.slice e), some (.int _), some x, some y => match sizeC P e, bytesC P e, zeroC P e with
        | some sz, some by', some z => if z.cells.length = sz then some (.appz e sz by' z.cells x y) else none
        | _, _, _ => none
      | _, _, _, _ => none
    | _, _, _ => none
  | .builtin .copy => match c.argTypes[0]?, c.args.toList with
    | some t, [a, b] => match P.underlying t, cx a, cx b with
      | some (.slice e), some x, some y => (sizeC P e).map fun sz => .copy sz x y
      | _, _, _ => none
    | _, _ => none
  | .builtin .clear => match c.argTypes[0]?, c.args.toList with
    | some t, [a] => match P.underlying t, cx a with
      | some (.slice e), some x => match sizeC P e, zeroC P e with
        | some sz, some z => some (.clearS sz z.cells x)
        | _, _ => none
      | some (.map _ _), some x => some (.mapClear x)
      | _, _ => none
    | _, _ => none
  | .builtin .delete => match c.argTypes[0]?, c.args.toList with
    | some t, [a, b] => match P.underlying t, cx a, cx b with
      | some (.map key _), some x, some y => some (.mapDel key x y)
      | _, _, _ => none
    | _, _ => none
  | .builtin .min => match cxs c.args.toList with
    | some (x :: xs) => some (.minI x xs)
    | _ => none
  | .builtin .max => match cxs c.args.toList with
    | some (x :: xs) => some (.maxI x xs)
    | _ => none
  | _ => none

def compOp : Op → Option AOp
  | .move x | .assign x => (cx x).map .mv
  | .pick c a b => match cx c, cx a, cx b with
    | some c, some a, some b => some (.pick c a b)
    | _, _, _ => none
  | .alloc t => (zeroC P t).map fun z => .alloc t z.cells
  | .box t v => (cx v).map (.box t)
  | .build t ps => match P.underlying t, zeroC P t, cxp ps.toList with
    | some (.struct fs), some z, some l => (placesC P fs.toList).map fun pl => .build z.cells pl l
    | some (.array n e), some z, some l => (sizeC P e).map fun s => .build z.cells ((List.range (max n (ps.size + 1) + z.cells.length)).map fun i => (i * s, s)) l
    | _, _, _ => none
  | .buildSlice t len ps => match P.underlying t, cxp ps.toList with
    | some (.slice e), some l => match sizeC P e, zeroC P e with
      | some sz, some z => if len * sz ≤ 2 ^ 24 ∧ l.all (fun p => decide (p.1 < len)) then some (.bslice e sz len z.cells l) else none
      | _, _ => none
    | _, _ => none
  | .load t a => match aggC P t, cx a with
    | some true, some x => (sizeC P t).map fun n => .load (some n) x
    | some false, some x => some (.load none x)
    | _, _ => none
  | .store t a v => match cx a, cx v, sizeC P t with
    | some x, some y, some n => some (.store n x y)
    | _, _, _ => none
  | .nilCheck x => (cx x).map .nilck
  | .binOp op t x y _ => match cx x, cx y with
    | some x', some y' => match op, P.underlying t with
      | .eql, some (.int _) | .eql, some .string | .neq, some (.int _) | .neq, some .string => some (.bin op x' y')
      | .eql, some k => some (.eq false t k x' y')
      | .neq, some k => some (.eq true t k x' y')
      | _, _ => some (.bin op x' y')
    | _, _ => none
  | .unOp op _ x => (cx x).map (.un op)
  | .convert s d x => match P.underlying s, P.underlying d, cx x with
    | some (.int _), some (.int k), some x => some (.convI k x)
    | some (.slice e), some .string, some x => match P.underlying e with
      | some (.int .u8) => some (.strOf x)
      | _ => none
    | some (.pointer t), some .unsafePointer, some x => match sizeC P t with
      | some (_ + 1) => some (.toUnsafe x)
      | _ => none
    | _, _, _ => none
  | .slice t x lo hi mx => match P.underlying t, cx x, cxo lo, cxo hi, cxo mx with
    | some .string, some x, some l, some h, some none => some (.sliceS x l h)
    | some (.slice e), some x, some l, some h, some m => if hi.isNone && mx.isSome then none else (sizeC P e).map fun sz => .slice sz x l h m
    | some (.array n e), some x, some l, some h, some none => (sizeC P e).map fun sz => .sliceA n sz x l h
    | _, _, _, _, _ => none
  | .fieldAddr s x f => match P.underlying s, cx x with
    | some (.struct fs), some x => match fs[f]? with
      | some fl => match sizeC P fl.type with
        | some (_ + 1) => some (.addr fl.offset x)
        | _ => none
      | none => none
    | _, _ => none
  | .field s x f => match P.underlying s, cx x with
    | some (.struct fs), some x => match fs[f]? with
      | some fl => match aggC P fl.type with
        | some true => (sizeC P fl.type).map fun n => .fld fl.offset (some n) x
        | some false => some (.fld fl.offset none x)
        | none => none
      | none => none
    | _, _ => none
  | .indexAddr t x i => match P.underlying t, cx x, cx i with
    | some (.slice e), some x, some i => (sizeC P e).map fun sz => .iaddrS sz x i
    | some (.array n e), some x, some i => (sizeC P e).map fun sz => .iaddrA n sz x i
    | _, _, _ => none
  | .index t x i => match P.underlying t, cx x, cx i with
    | some .string, some x, some i => some (.idxS x i)
    | some (.array n e), some x, some i => match sizeC P e, aggC P e with
      | some sz, some a => some (.idxA n sz a x i)
      | _, _ => none
    | _, _, _ => none
  | .lookup t x i ok => match P.underlying t, cx x, cx i with
    | some (.map key e), some x, some i => (zeroC P e).map fun z => .lookup key z x i ok
    | _, _, _ => none
  | .mapUpdate t m k v | .insert t m k v => match P.underlying t, cx m, cx k, cx v with
    | some (.map key _), some m, some k, some v => some (.mapUpd key m k v)
    | _, _, _, _ => none
  | .mapEntry t m k => match P.underlying t, cx m, cx k with
    | some (.map key e), some m, some k => (zeroC P e).map fun z => .mapEntry key z m k
    | _, _, _ => none
  | .entryStore _ m s v => match cx m, cx s, cx v with
    | some m, some s, some v => some (.entryStore m s v)
    | _, _, _ => none
  | .makeMap _ none => some .mkmap
  | .range t x => match P.underlying t, cx x with
    | some .string, some x => some (.rangeS x)
    | _, _ => none
  | .next it true => (cx it).map .nextS
  | .extract t i => (cx t).map fun x => .ext x i
  | .makeSlice t l c => match P.underlying t, cx l, cx c with
    | some (.slice e), some l, some c => match sizeC P e, bytesC P e, zeroC P e with
      | some sz, some by', some z => some (.mksl e sz by' z.cells l c)
      | _, _, _ => none
    | _, _, _ => none
  | .makeFunc f a b => match cxs a.toList, cxs b.toList with
    | some a, some b => some (.fn f a b)
    | _, _ => none
  | .call c => compCall P c
  | _ => none
end

/-! ### What they do -/

/-- A run that touches no world. -/
def pureRun {α : Type} (P : Program) : Sem α → Option α
  | .pure a => some a
  | .program k => pureRun P (k P)
  | .mark _ k => pureRun P k
  | _ => none

/-- A value without an address, as the model has it. -/
def conc0 : AV → Option Value
  | .bool b => some (.bool b)
  | .int k n => some (.int k n)
  | .str s => some (.string ⟨⟨s⟩⟩)
  | _ => none
def conc0L : List AV → Option (List Value)
  | [] => some []
  | v :: vs => match conc0 v, conc0L vs with
    | some a, some l => some (a :: l)
    | _, _ => none
def conc : AV → Option Value
  | .agg cs => (conc0L cs).map fun l => .agg l.toArray
  | v => conc0 v

def intBin (op : BinOp) (k : IntKind) (a b : Int) : Option AV :=
  match op with
  | .add => some (.int k (k.wrap (a + b)))
  | .sub => some (.int k (k.wrap (a - b)))
  | .mul => some (.int k (k.wrap (a * b)))
  | .quo => if b = 0 then none else some (.int k (k.wrap (a.tdiv b)))
  | .rem => if b = 0 then none else some (.int k (a.tmod b))
  | .and => some (.int k (k.wrap (BitVec.ofInt k.bits a &&& BitVec.ofInt k.bits b).toNat))
  | .or => some (.int k (k.wrap (BitVec.ofInt k.bits a ||| BitVec.ofInt k.bits b).toNat))
  | .xor => some (.int k (k.wrap (BitVec.ofInt k.bits a ^^^ BitVec.ofInt k.bits b).toNat))
  | .andNot => some (.int k (k.wrap (BitVec.ofInt k.bits a &&& ~~~ BitVec.ofInt k.bits b).toNat))
  | .eql => some (.bool (a == b))
  | .neq => some (.bool (a != b))
  | .lss => some (.bool (a < b))
  | .leq => some (.bool (a ≤ b))
  | .gtr => some (.bool (a > b))
  | .geq => some (.bool (a ≥ b))
  | _ => none

def strBin (op : BinOp) (a b : List UInt8) : Option AV :=
  match op with
  | .add => if a.length + b.length ≤ 9223372036854775807 then some (.str (a ++ b)) else none
  | .eql => some (.bool (a == b))
  | .neq => some (.bool !(a == b))
  | .lss => some (.bool (Op.bytesLess a b))
  | .leq => some (.bool (Op.bytesLess a b || a == b))
  | .gtr => some (.bool !(Op.bytesLess a b || a == b))
  | .geq => some (.bool !(Op.bytesLess a b))
  | _ => none

def binEv (op : BinOp) : AV → AV → Option AV
  | .int k a, .int yk b => match op with
    | .shl => if b < 0 then none else some (.int k (k.wrap (a * 2 ^ (min b.toNat k.bits))))
    | .shr => if b < 0 then none else some (.int k (a.fdiv (2 ^ (min b.toNat k.bits))))
    | op => if k = yk then intBin op k a b else none
  | .str a, .str b => strBin op a b
  | _, _ => none

/-- '==' on what is no number and no text. -/
def eqEv (P : Program) (t : TypeId) (k : TypeDesc) (x y : AV) : Option Bool :=
  match k, x, y with
  | .bool, .bool a, .bool b => some (a == b)
  | .pointer _, .nilptr, .nilptr => some true
  | .pointer _, .nilptr, .ptr _ _ => some false
  | .pointer _, .ptr _ _, .nilptr => some false
  | .slice _, .nilslice, .nilslice => some true
  | .slice _, .nilslice, .slice _ _ _ _ => some false
  | .slice _, .slice _ _ _ _, .nilslice => some false
  | .map _ _, .nilmap, .nilmap => some true
  | .map _ _, .nilmap, .map _ => some false
  | .map _ _, .map _, .nilmap => some false
  | .func _ _ _, .nilfn, .nilfn => some true
  | .func _ _ _, .nilfn, .fn _ _ _ => some false
  | .func _ _ _, .fn _ _ _, .nilfn => some false
  | _, .agg a, .agg b => match conc (.agg a), conc (.agg b) with
    | some A, some B => pureRun P (do eqGuard .eql t (.tmp 0) (.tmp 0) A B; Op.equal t A B)
    | _, _ => none
  | _, _, _ => none

def fillA (place : List (Nat × Nat)) (cells : List AV) : List (Nat × AV) → Option (List AV)
  | [] => some cells
  | (i, v) :: rest => match place[i]? with
    | none => none
    | some (off, size) => if v.cells.length = size ∧ off + size ≤ cells.length then fillA place (splice cells off v.cells) rest else none

def boundEv (d : Nat) (y : Nat) : Option AV → Option Nat
  | none => some d
  | some (.int _ i) => if 0 ≤ i ∧ i ≤ y then some i.toNat else none
  | some _ => none

/-- Of a key among a map's entries: none: it can't be told; some none: it isn't there. -/
def findEv (P : Program) (key : TypeId) (k : AV) (es : List AEntry) : Option (Option Nat) :=
  match conc k, es.mapM (fun e => conc e.key) with
  | some K, some Ks => match pureRun P (Instr.checkKey true 10000 key K), pureRun P (Instr.checkKey false 10000 key K) with
    | some _, some _ => (pureRun P (Instr.findKey key K (Ks.map fun x => ⟨x, .nilFunc, 0⟩))).map fun r => r.map (·.1)
    | _, _ => none
  | _, _ => none

def staysEv (old new : AV) : Bool := match conc old, conc new with
  | some a, some b => Instr.sameBits 10000 a b
  | _, _ => false

def modAt {α : Type} (l : List α) (i : Nat) (f : α → α) : List α := match l[i]? with
  | some x => l.set i (f x)
  | none => l

def srcEv (R : Ro) (H : AH) (sz : Nat) : AV → Option (List AV × Nat)
  | .nilslice => some ([], 0)
  | .slice l off n _ => (readN R H (n * sz) l off).map fun c => (c, n)
  | .str s => if sz = 1 then some (s.map fun b => .int .u8 b.toNat, s.length) else none
  | _ => none

/-- 'clear' of cells: the zero's cells, again and again. -/
def zerosEv (z : List AV) (n : Nat) : List AV := match n with
  | 0 => []
  | n + 1 => z ++ zerosEv z n

def appendEv (R : Ro) (H : AH) (t : TypeId) (sz by' : Nat) (s x : AV) : Option (AV × AH) :=
  match srcEv R H sz x with
  | none => none
  | some (new, n) =>
    match s with
    | .nilslice => if n = 0 then some (.nilslice, H) else
      if n * by' ≤ 140737488355328 ∧ sz ≠ 0 ∧ by' ≠ 0 ∧ new.all AV.oneCell = true then some (.slice (.mu H.length) 0 n (.opn 0), H ++ [.row new t sz]) else none
    | .slice l off len cap =>
      let need := len + n
      if need * by' ≤ 140737488355328 ∧ sz ≠ 0 ∧ by' ≠ 0 ∧ new.all AV.oneCell = true then
        match cap with
        | .known c =>
          if need ≤ c then
            if n = 0 then some (.slice l off need (.known c), H) else
            match l with
            | .mu i => (writeN H i (off + len * sz) new).map fun H' => (.slice l off need (.known c), H')
            | .ro _ => none
          else match readN R H (len * sz) l off with
            | some old => some (.slice (.mu H.length) 0 need (.opn 0), H ++ [.row (old ++ new) t sz])
            | none => none
        | .opn eo => match l with
          | .mu i => match H[i]? with
            | some (.row c t' sz') =>
              if t' = t ∧ sz' = sz ∧ off = eo * sz ∧ off + len * sz ≤ c.length then
                if off + need * sz ≤ c.length then (writeN H i (off + len * sz) new).map fun H' => (.slice l off need (.opn eo), H')
                else some (.slice (.mu H.length) 0 need (.opn 0), H.set i .dead ++ [.row ((c.drop off).take (len * sz) ++ new) t sz])
              else none
            | _ => none
          | .ro _ => none
      else none
    | _ => none

def appzEv (R : Ro) (H : AH) (t : TypeId) (sz by' : Nat) (z : List AV) (s x : AV) : Option (AV × AH) :=
  match s, x with
  | .slice l off len (.known c), .int _ k =>
    if 0 < k ∧ c < len + k.toNat ∧ (len + k.toNat) * by' ≤ 140737488355328 ∧ sz ≠ 0 ∧ by' ≠ 0 then match readN R H (len * sz) l off with
      | some old => some (.slice (.mu H.length) 0 (len + k.toNat) (.opn 0), H ++ [.row (old ++ zerosEv z k.toNat) t sz])
      | none => none
    else none
  | _, _ => none

def sliceEv (H : AH) (sz : Nat) (s : AV) (lo hi mx : Option AV) : Option (AV × AH) :=
  match s with
  | .nilslice => match boundEv 0 0 mx with
    | some m => match boundEv 0 m hi with
      | some h => match boundEv 0 h lo with
        | some _ => some (.nilslice, H)
        | none => none
      | none => none
    | none => none
  | .slice l off len (.known c) => match boundEv c c mx with
    | some m => match boundEv len m hi with
      | some h => match boundEv 0 h lo with
        | some lw => some (.slice l (if m = lw then off else off + lw * sz) (h - lw) (.known (m - lw)), H)
        | none => none
      | none => none
    | none => none
  | .slice (.mu i) off len (.opn eo) => match H[i]? with
    | some (.row c t sz') =>
      let top := (c.length - off) / sz
      if sz' = sz ∧ off = eo * sz ∧ sz ≠ 0 ∧ off ≤ c.length then
        match mx with
        | some mv => match boundEv 0 top (some mv) with
          | some m => match boundEv len m hi with
            | some h => match boundEv 0 h lo with
              | some lw => some (.slice (.mu i) (if m = lw then off else off + lw * sz) (h - lw) (.known (m - lw)), H)
              | none => none
            | none => none
          | none => none
        | none => match boundEv len top hi with
          | some h => if h ≤ top then match boundEv 0 h lo with
            | some lw =>
              if lw = 0 then some (.slice (.mu i) off h (.opn eo), H)
              else if lw < h then some (.slice (.mu i) (off + lw * sz) (h - lw) (.opn (eo + lw)), H)
              else some (.slice (.mu H.length) 0 0 (.opn 0), H ++ [.dead])
            | none => none
            else none
          | none => none
      else none
    | _ => none
  | _ => none

def foldI (f : Int → Int → Int) (k : IntKind) : Int → List AV → Option AV
  | a, [] => some (.int k a)
  | a, .int k' b :: l => if k' = k then foldI f k (f a b) l else none
  | _, _ => none

def bytesOf : List AV → Option (List UInt8)
  | [] => some []
  | .int .u8 n :: l => if 0 ≤ n then (bytesOf l).map fun r => UInt8.ofNat n.toNat :: r else none
  | _ => none

/-- '==' with the literal nil of an interface, or else. -/
def eqX (P : Program) (t : TypeId) (k : TypeDesc) (e : Env) (x y : X) : Option Bool :=
  match k, x.ev e, y with
  | .interface _, .niface, .c .niface => some true
  | .interface _, .iface _ _, .c .niface => some false
  | k, a, y => eqEv P t k a (y.ev e)

def AOp.eval (P : Program) (R : Ro) (e : Env) (H : AH) : AOp → Option (AV × AH)
  | .mv x => some (x.ev e, H)
  | .pick c a b => match c.ev e with
    | .bool t => some (if t then a.ev e else b.ev e, H)
    | _ => none
  | .box t x => if (x.ev e).cells.all AV.oneCell then some (.ptr (.mu H.length) 0, H ++ [.cells (x.ev e).cells t]) else none
  | .alloc t z => if z.all AV.oneCell then some (.ptr (.mu H.length) 0, H ++ [.cells z t]) else none
  | .build z pl ps => (fillA pl z (ps.map fun p => (p.1, p.2.ev e))).map fun c => (.agg c, H)
  | .bslice t sz ln z ps => match fillA ((List.range ln).map fun i => (i * sz, sz)) (zerosEv z ln) (ps.map fun p => (p.1, p.2.ev e)) with
    | some c => if z.length = sz ∧ c.all AV.oneCell then some (.slice (.mu H.length) 0 ln (.known ln), H ++ [.cells c t]) else none
    | none => none
  | .load n x => match x.ev e with
    | .ptr l off => match n with
      | none => (read1 R H l off).map fun v => (v, H)
      | some n => (readN R H n l off).map fun vs => (.agg vs, H)
    | _ => none
  | .store n x v => match x.ev e with
    | .ptr (.mu i) off => if (v.ev e).cells.length = n then (writeN H i off (v.ev e).cells).map fun H' => (AV.undef, H') else none
    | _ => none
  | .nilck x => match x.ev e with
    | .ptr l off => some (.ptr l off, H)
    | .fn (.func f) a c => some (.fn (.func f) a c, H)
    | _ => none
  | .bin op x y => (binEv op (x.ev e) (y.ev e)).map fun v => (v, H)
  | .eq neg t k x y => (eqX P t k e x y).map fun b => (.bool (if neg then !b else b), H)
  | .un op x => match op, x.ev e with
    | .not, .bool b => some (.bool !b, H)
    | .neg, .int k n => some (.int k (k.wrap (0 - n)), H)
    | _, _ => none
  | .convI k x => match x.ev e with
    | .int _ n => some (.int k (k.wrap n), H)
    | _ => none
  | .strOf x => match x.ev e with
    | .nilslice => some (.str [], H)
    | .slice l off n _ => match readN R H n l off with
      | some c => (bytesOf c).map fun s => (.str s, H)
      | none => none
    | _ => none
  | .sliceS x lo hi => match x.ev e with
    | .str s => match boundEv s.length s.length (hi.map (X.ev e)) with
      | some h => match boundEv 0 h (lo.map (X.ev e)) with
        | some l => some (.str ((s.take h).drop l), H)
        | none => none
      | none => none
    | _ => none
  | .slice sz x lo hi mx => sliceEv H sz (x.ev e) (lo.map (X.ev e)) (hi.map (X.ev e)) (mx.map (X.ev e))
  | .sliceA n sz x lo hi => match x.ev e with
    | .ptr l off => match boundEv n n (hi.map (X.ev e)) with
      | some h => match boundEv 0 h (lo.map (X.ev e)) with
        | some lw => some (.slice l (if n = lw then off else off + lw * sz) (h - lw) (.known (n - lw)), H)
        | none => none
      | none => none
    | _ => none
  | .addr d x => match x.ev e with
    | .ptr l off => some (.ptr l (off + d), H)
    | _ => none
  | .fld off n x => match x.ev e with
    | .agg cs => match n with
      | some n => some (.agg ((cs.drop off).take n), H)
      | none => (cs[off]?).map fun v => (v, H)
    | _ => none
  | .iaddrS sz x i => match x.ev e, i.ev e with
    | .slice l off ln _, .int _ j => if 0 ≤ j ∧ j < ln then some (.ptr l (off + j.toNat * sz), H) else none
    | _, _ => none
  | .iaddrA ln sz x i => match x.ev e, i.ev e with
    | .ptr l off, .int _ j => if 0 ≤ j ∧ j < ln then some (.ptr l (off + j.toNat * sz), H) else none
    | _, _ => none
  | .idxS x i => match x.ev e, i.ev e with
    | .str s, .int _ j => if 0 ≤ j then (s[j.toNat]?).map fun b => (.int .u8 b.toNat, H) else none
    | _, _ => none
  | .idxA ln sz ag x i => match x.ev e, i.ev e with
    | .agg cs, .int _ j => if 0 ≤ j ∧ j < ln then (if ag then some (.agg ((cs.drop (j.toNat * sz)).take sz), H) else (cs[j.toNat * sz]?).map fun v => (v, H)) else none
    | _, _ => none
  | .lookup key z x i ok => match x.ev e with
    | .nilmap => match findEv P key (i.ev e) [] with
      | some _ => some (if ok then .tuple [z, .bool false] else z, H)
      | none => none
    | .map r => match H[r]? with
      | some (.map es _) => match findEv P key (i.ev e) es with
        | some (some j) => match es[j]? with
          | some en => some (if ok then .tuple [en.val, .bool true] else en.val, H)
          | none => none
        | some none => some (if ok then .tuple [z, .bool false] else z, H)
        | none => none
      | _ => none
    | _ => none
  | .mapUpd key m k v => match m.ev e with
    | .map r => match H[r]? with
      | some (.map es clock) => match findEv P key (k.ev e) es with
        | some (some j) => match es[j]? with
          | some en => if staysEv en.key (k.ev e) then some (AV.undef, H.set r (.map (es.set j ⟨k.ev e, v.ev e, en.born⟩) clock)) else none
          | none => none
        | some none => some (AV.undef, H.set r (.map (es ++ [⟨k.ev e, v.ev e, clock⟩]) (clock + 1)))
        | none => none
      | _ => none
    | _ => none
  | .mapEntry key z m k => match m.ev e with
    | .map r => match H[r]? with
      | some (.map es clock) => match findEv P key (k.ev e) es with
        | some (some j) => match es[j]? with
          | some en => if staysEv en.key (k.ev e) then some (.tuple [en.val, .int .i64 en.born], H.set r (.map (es.set j ⟨k.ev e, en.val, en.born⟩) clock)) else none
          | none => none
        | some none => some (.tuple [z, .int .i64 clock], H.set r (.map (es ++ [⟨k.ev e, z, clock⟩]) (clock + 1)))
        | none => none
      | _ => none
    | _ => none
  | .entryStore m s v => match m.ev e, s.ev e with
    | .map r, .int _ born => match H[r]? with
      | some (.map es clock) => match es.findIdx? (fun x => (x.born : Int) == born) with
        | some j => match es[j]? with
          | some en => some (AV.undef, H.set r (.map (es.set j ⟨en.key, v.ev e, en.born⟩) clock))
          | none => none
        | none => none
      | _ => none
    | _, _ => none
  | .mkmap => some (.map H.length, H ++ [.map [] 0])
  | .mapDel key m k => match m.ev e with
    | .nilmap => match findEv P key (k.ev e) [] with
      | some _ => some (AV.undef, H)
      | none => none
    | .map r => match H[r]? with
      | some (.map es clock) => match findEv P key (k.ev e) es with
        | some (some j) => some (AV.undef, H.set r (.map (es.eraseIdx j) clock))
        | some none => some (AV.undef, H)
        | none => none
      | _ => none
    | _ => none
  | .mapClear m => match m.ev e with
    | .nilmap => some (AV.undef, H)
    | .map r => match H[r]? with
      | some (.map _ clock) => some (AV.undef, H.set r (.map [] clock))
      | _ => none
    | _ => none
  | .rangeS x => match x.ev e with
    | .str s => some (.ptr (.mu H.length) 0, H ++ [.siter s 0])
    | _ => none
  | .nextS x => match x.ev e with
    | .ptr (.mu i) 0 => match H[i]? with
      | some (.siter s pos) => if pos < s.length then
          let d := Utf8.decode ⟨⟨s⟩⟩ pos
          some (.tuple [.bool true, .int .i64 pos, .int .i32 d.1], H.set i (.siter s (pos + d.2)))
        else some (.tuple [.bool false], H)
      | _ => none
    | _ => none
  | .ext x i => match x.ev e with
    | .tuple vs => (vs[i]?).map fun v => (v, H)
    | _ => none
  | .mksl t sz by' z l c => match l.ev e, c.ev e with
    | .int _ l, .int _ c => if 0 ≤ l ∧ l ≤ c ∧ by' * c ≤ 281474976710656 ∧ c ≤ 9223372036854775807 ∧ z.length = sz ∧ z.all AV.oneCell then
        some (.slice (.mu H.length) 0 l.toNat (.known c.toNat), H ++ [.cells (zerosEv z c.toNat) t]) else none
    | _, _ => none
  | .fn f a b => some (.fn f (a.map (X.ev e)) (b.map (X.ev e)), H)
  | .lenS x => match x.ev e with
    | .str s => some (.int .i64 s.length, H)
    | _ => none
  | .lenL x => match x.ev e with
    | .nilslice => some (.int .i64 0, H)
    | .slice _ _ n _ => some (.int .i64 n, H)
    | .raw (.slice _ n _) => some (.int .i64 n, H)
    | _ => none
  | .lenM x => match x.ev e with
    | .nilmap => some (.int .i64 0, H)
    | .map r => match H[r]? with
      | some (.map es _) => some (.int .i64 es.length, H)
      | _ => none
    | _ => none
  | .cap x => match x.ev e with
    | .nilslice => some (.int .i64 0, H)
    | .slice _ _ _ (.known c) => some (.int .i64 c, H)
    | _ => none
  | .append t sz by' s x => appendEv R H t sz by' (s.ev e) (x.ev e)
  | .appz t sz by' z s x => appzEv R H t sz by' z (s.ev e) (x.ev e)
  | .copy sz d s => match d.ev e with
    | .nilslice => match s.ev e with
      | .nilslice | .slice _ _ _ _ | .str _ => some (.int .i64 0, H)
      | _ => none
    | .slice l off dn _ => match s.ev e with
      | .nilslice => some (.int .i64 0, H)
      | .slice l' off' sn _ => match readN R H (min sn dn * sz) l' off' with
        | some c => match l with
          | .mu i => (writeN H i off c).map fun H' => (.int .i64 (min sn dn), H')
          | .ro _ => if c = [] then some (.int .i64 (min sn dn), H) else none
        | none => none
      | .str s => if sz = 1 then match l with
          | .mu i => (writeN H i off ((s.take (min s.length dn)).map fun b => .int .u8 b.toNat)).map fun H' => (.int .i64 (min s.length dn), H')
          | .ro _ => none
        else none
      | _ => none
    | _ => none
  | .clearS sz z x => match x.ev e with
    | .nilslice => some (AV.undef, H)
    | .slice (.mu i) off n _ => if z.length = sz then (writeN H i off (zerosEv z n)).map fun H' => (AV.undef, H') else none
    | _ => none
  | .minI x xs => match x.ev e with
    | .int k a => (foldI (fun x y => if y < x then y else x) k a (xs.map (X.ev e))).map fun v => (v, H)
    | _ => none
  | .maxI x xs => match x.ev e with
    | .int k a => (foldI (fun x y => if y > x then y else x) k a (xs.map (X.ev e))).map fun v => (v, H)
    | _ => none
  | .atom k xs => match k, xs.map (X.ev e) with
    | .load k, [.ptr l off] => match read1 R H l off with
      | some (.int k' n) => if k' = k then some (.int k n, H) else none
      | _ => none
    | .store, [.ptr (.mu i) off, .int k y] => match read1 R H (.mu i) off with
      | some _ => (writeN H i off [.int k y]).map fun H' => (AV.undef, H')
      | none => none
    | .add k, [.ptr (.mu i) off, .int k2 y] => match read1 R H (.mu i) off with
      | some (.int k' x) => if k' = k ∧ k2 = k then (writeN H i off [.int k (k.wrap (x + y))]).map fun H' => (.int k (k.wrap (x + y)), H') else none
      | _ => none
    | .cas k, [.ptr (.mu i) off, .int k1 o, .int k2 y] => match read1 R H (.mu i) off with
      | some (.int k' x) => if k' = k ∧ k1 = k ∧ k2 = k then (if x = o then (writeN H i off [.int k y]).map fun H' => (.bool true, H') else some (.bool false, H)) else none
      | _ => none
    | .disable, [] => some (AV.undef, H)
    | .enable, [] => some (AV.undef, H)
    | .acquire, [.ptr _ _] => some (AV.undef, H)
    | .releaseMerge, [.ptr _ _] => some (AV.undef, H)
    | .overlaps _ _, [.slice (.mu i) _ _ _, .slice (.mu j) _ _ _] => match (H[i]?).bind AO.content, (H[j]?).bind AO.content with
      | some (_ :: _), some (_ :: _) => if i ≠ j then some (.bool false, H) else none
      | _, _ => none
    | _, _ => none
  | .toUnsafe x => match x.ev e with
    | .ptr l off => match read1 R H l off with
      | some _ => some (.ptr l off, H)
      | none => none
    | _ => none
  | .bad => none
  | .call _ _ => none
  | .callv _ _ => none


/-- The operations that only look. -/
def AOp.quiet : AOp → Bool
  | .mv _ | .pick _ _ _ | .load _ _ | .nilck _ | .bin _ _ _ | .eq _ _ _ _ _ | .un _ _ | .convI _ _ | .strOf _ | .sliceS _ _ _ | .sliceA _ _ _ _ _ | .addr _ _ | .fld _ _ _ | .iaddrS _ _ _ | .iaddrA _ _ _ _
  | .idxS _ _ | .idxA _ _ _ _ _ | .lookup _ _ _ _ _ | .ext _ _ | .fn _ _ _ | .lenS _ | .lenL _ | .lenM _ | .cap _ | .minI _ _ | .maxI _ _ | .build _ _ _ => true
  | _ => false

def AOp.isCall : AOp → Bool
  | .call _ _ | .callv _ _ => true
  | _ => false

end Am
