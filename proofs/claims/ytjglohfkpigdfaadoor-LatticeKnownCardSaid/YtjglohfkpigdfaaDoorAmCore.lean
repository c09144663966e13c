/- The abstract machine: abstract values and heaps, and what they say of a world. -/
import Derived.Calls
import Derived.Below
import Derived.KernelRfl
set_option linter.unusedSimpArgs false
set_option linter.unusedVariables false
set_option linter.unusedSectionVars false
set_option linter.unnecessarySimpa false
namespace Am
open Go Go.RowKit

/-- A block: one of the base world's (a real number), or one of the call's own (an abstract number). -/
inductive Loc where
  | ro (b : Nat)
  | mu (i : Nat)
  deriving DecidableEq

/-- What is known of a slice's capacity: the number; or: to the end of a row of the call's own, whose capacity is not known (the element's place in that row). -/
inductive Cap where
  | known (n : Nat)
  | opn (eo : Nat)
  deriving DecidableEq

inductive AV where
  | bool (b : Bool)
  | int (k : IntKind) (n : Int)
  | str (s : List UInt8)
  | ptr (l : Loc) (off : Nat)
  | nilptr
  | slice (l : Loc) (off len : Nat) (cap : Cap)
  | nilslice
  | map (i : Nat)
  | nilmap
  | fn (f : Fn) (first captured : List AV)
  | nilfn
  | iface (t : TypeId) (v : AV)
  | niface
  | agg (cs : List AV)
  | tuple (vs : List AV)
  deriving Inhabited

abbrev AV.undef : AV := .tuple []

def AV.cells : AV → List AV
  | .agg cs => cs
  | v => [v]

/-- Where an abstract block lies: the real block, by how much its cells are shifted, the capacity in elements. -/
structure Slot where
  blk : Nat
  sh : Nat
  ecap : Nat

abbrev Ren := List Slot

def Loc.addr (ρ : Ren) (off : Nat) : Loc → Option Addr
  | .ro b => some ⟨b, off, none⟩
  | .mu i => (ρ[i]?).map fun p => ⟨p.blk, p.sh + off, none⟩

def Cap.num (ρ : Ren) : Loc → Cap → Option Nat
  | _, .known n => some n
  | .mu i, .opn eo => (ρ[i]?).map fun p => p.ecap - eo
  | .ro _, .opn _ => none

mutual
def ren (ρ : Ren) : AV → Option Value
  | .bool b => some (.bool b)
  | .int k n => some (.int k n)
  | .str s => some (.string ⟨⟨s⟩⟩)
  | .ptr l off => (l.addr ρ off).map fun a => .pointer (some a)
  | .nilptr => some (.pointer none)
  | .slice l off len cap => match l.addr ρ off, cap.num ρ l with
    | some a, some c => some (.slice (some a) len c)
    | _, _ => none
  | .nilslice => some (.slice none 0 0)
  | .map i => (ρ[i]?).map fun p => .map (some p.blk)
  | .nilmap => some (.map none)
  | .fn f first captured => match renL ρ first, renL ρ captured with
    | some a, some c => some (.func f a.toArray c.toArray)
    | _, _ => none
  | .nilfn => some .nilFunc
  | .iface t v => (ren ρ v).map fun x => .iface t x
  | .niface => some .nilIface
  | .agg cs => (renL ρ cs).map fun l => .agg l.toArray
  | .tuple vs => (renL ρ vs).map fun l => .tuple l.toArray
def renL (ρ : Ren) : List AV → Option (List Value)
  | [] => some []
  | v :: vs => match ren ρ v, renL ρ vs with
    | some x, some xs => some (x :: xs)
    | _, _ => none
end

theorem renL_cons {ρ : Ren} {v : AV} {vs : List AV} {X : List Value} (h : renL ρ (v :: vs) = some X) : ∃ x xs, ren ρ v = some x ∧ renL ρ vs = some xs ∧ X = x :: xs := by
  simp only [renL] at h
  split at h
  · cases h; exact ⟨_, _, ‹_›, ‹_›, rfl⟩
  · cases h

theorem renL_cons_mk {ρ : Ren} {v : AV} {vs : List AV} {x : Value} {xs : List Value} (h : ren ρ v = some x) (hs : renL ρ vs = some xs) : renL ρ (v :: vs) = some (x :: xs) := by
  simp only [renL, h, hs]

theorem renL_nil {ρ : Ren} {X : List Value} (h : renL ρ [] = some X) : X = [] := by
  simp only [renL] at h; cases h; rfl

theorem renL_length {ρ : Ren} : ∀ {vs : List AV} {X : List Value}, renL ρ vs = some X → X.length = vs.length
  | [], X, h => by rw [renL_nil h]; rfl
  | v :: vs, X, h => by
    obtain ⟨x, xs, _, h2, rfl⟩ := renL_cons h
    simp [renL_length h2]

theorem renL_getElem? {ρ : Ren} : ∀ {vs : List AV} {X : List Value}, renL ρ vs = some X → ∀ (i : Nat) v, vs[i]? = some v → ∃ x, X[i]? = some x ∧ ren ρ v = some x
  | [], _, _, i, v, hv => by simp at hv
  | w :: vs, X, h, i, v, hv => by
    obtain ⟨x, xs, h1, h2, rfl⟩ := renL_cons h
    cases i with
    | zero => simp at hv; subst hv; exact ⟨x, rfl, h1⟩
    | succ i => simp at hv ⊢; exact renL_getElem? h2 i v hv

theorem renL_append {ρ : Ren} : ∀ {a b : List AV} {X Y : List Value}, renL ρ a = some X → renL ρ b = some Y → renL ρ (a ++ b) = some (X ++ Y)
  | [], b, X, Y, h, k => by rw [renL_nil h]; simpa using k
  | v :: vs, b, X, Y, h, k => by
    obtain ⟨x, xs, h1, h2, rfl⟩ := renL_cons h
    exact renL_cons_mk h1 (renL_append h2 k)

theorem renL_append_inv {ρ : Ren} : ∀ {a b : List AV} {Z : List Value}, renL ρ (a ++ b) = some Z → ∃ X Y, renL ρ a = some X ∧ renL ρ b = some Y ∧ Z = X ++ Y
  | [], b, Z, h => ⟨[], Z, rfl, h, rfl⟩
  | v :: vs, b, Z, h => by
    obtain ⟨x, xs, h1, h2, rfl⟩ := renL_cons h
    obtain ⟨X, Y, h3, h4, rfl⟩ := renL_append_inv h2
    exact ⟨x :: X, Y, renL_cons_mk h1 h3, h4, rfl⟩

theorem renL_take {ρ : Ren} {a : List AV} {X : List Value} (h : renL ρ a = some X) (n : Nat) : renL ρ (a.take n) = some (X.take n) := by
  have h' := h
  rw [← List.take_append_drop n a] at h'
  obtain ⟨Y, Z, h1, h2, rfl⟩ := renL_append_inv h'
  have hl := renL_length h
  have hy := renL_length h1
  rw [h1]
  congr 1
  rw [List.length_take] at hy
  by_cases hn : n ≤ a.length
  · rw [List.take_append_of_le_length (by omega), List.take_of_length_le (by omega)]
  · have hz := renL_length h2
    have : Z = [] := List.eq_nil_of_length_eq_zero (by rw [hz, List.length_drop]; omega)
    subst this
    rw [List.append_nil, List.take_of_length_le (by omega)]

theorem renL_drop {ρ : Ren} {a : List AV} {X : List Value} (h : renL ρ a = some X) (n : Nat) : renL ρ (a.drop n) = some (X.drop n) := by
  have h' := h
  rw [← List.take_append_drop n a] at h'
  obtain ⟨Y, Z, h1, h2, rfl⟩ := renL_append_inv h'
  have hl := renL_length h
  have hy := renL_length h1
  rw [h2]
  congr 1
  rw [List.length_take] at hy
  by_cases hn : n ≤ a.length
  · rw [List.drop_append_of_le_length (by omega), List.drop_of_length_le (by omega), List.nil_append]
  · have hz := renL_length h2
    have : Z = [] := List.eq_nil_of_length_eq_zero (by rw [hz, List.length_drop]; omega)
    subst this
    rw [List.append_nil, List.drop_of_length_le (by omega)]

theorem renL_set {ρ : Ren} : ∀ {a : List AV} {X : List Value} (_ : renL ρ a = some X) (i : Nat) {v : AV} {x : Value} (_ : ren ρ v = some x), renL ρ (a.set i v) = some (X.set i x)
  | [], X, h, i, v, x, hv => by rw [renL_nil h]; simp [renL]
  | u :: us, X, h, i, v, x, hv => by
    obtain ⟨y, ys, h1, h2, rfl⟩ := renL_cons h
    cases i with
    | zero => exact renL_cons_mk hv h2
    | succ i => exact renL_cons_mk h1 (renL_set h2 i hv)

/-- More blocks: what was named is named as it was. -/
def Ext (ρ ρ' : Ren) : Prop := ∃ l, ρ' = ρ ++ l
theorem Ext.refl (ρ : Ren) : Ext ρ ρ := ⟨[], by simp⟩
theorem Ext.trans {a b c : Ren} (h : Ext a b) (k : Ext b c) : Ext a c := by
  obtain ⟨l, rfl⟩ := h; obtain ⟨m, rfl⟩ := k; exact ⟨l ++ m, by simp⟩
theorem Ext.mk (ρ l : Ren) : Ext ρ (ρ ++ l) := ⟨l, rfl⟩
theorem Ext.get {ρ ρ' : Ren} (h : Ext ρ ρ') {i : Nat} {p : Slot} (hp : ρ[i]? = some p) : ρ'[i]? = some p := by
  obtain ⟨l, rfl⟩ := h
  rw [List.getElem?_append_left (by have := (List.getElem?_eq_some_iff.1 hp).1; omega)]; exact hp

theorem Loc.addr_ext {ρ ρ' : Ren} (h : Ext ρ ρ') {l : Loc} {off : Nat} {a : Addr} (ha : l.addr ρ off = some a) : l.addr ρ' off = some a := by
  cases l with
  | ro b => exact ha
  | mu i =>
    simp only [Loc.addr, Option.map_eq_some_iff] at ha ⊢
    obtain ⟨p, hp, rfl⟩ := ha
    exact ⟨p, h.get hp, rfl⟩
theorem Cap.num_ext {ρ ρ' : Ren} (h : Ext ρ ρ') {l : Loc} {c : Cap} {n : Nat} (ha : c.num ρ l = some n) : c.num ρ' l = some n := by
  cases c with
  | known n => exact ha
  | opn eo => cases l with
    | ro b => exact ha
    | mu i =>
      simp only [Cap.num, Option.map_eq_some_iff] at ha ⊢
      obtain ⟨p, hp, rfl⟩ := ha
      exact ⟨p, h.get hp, rfl⟩

mutual
theorem ren_ext {ρ ρ' : Ren} (h : Ext ρ ρ') : ∀ {v : AV} {x : Value}, ren ρ v = some x → ren ρ' v = some x
  | .bool b, x, hx => by simpa [ren] using hx
  | .int k n, x, hx => by simpa [ren] using hx
  | .str s, x, hx => by simpa [ren] using hx
  | .nilptr, x, hx => by simpa [ren] using hx
  | .nilslice, x, hx => by simpa [ren] using hx
  | .nilmap, x, hx => by simpa [ren] using hx
  | .nilfn, x, hx => by simpa [ren] using hx
  | .niface, x, hx => by simpa [ren] using hx
  | .ptr l off, x, hx => by
    simp only [ren, Option.map_eq_some_iff] at hx ⊢
    obtain ⟨a, ha, rfl⟩ := hx
    exact ⟨a, Loc.addr_ext h ha, rfl⟩
  | .slice l off len cap, x, hx => by
    simp only [ren] at hx ⊢
    split at hx
    · rename_i h1 h2; rw [Loc.addr_ext h h1, Cap.num_ext h h2]; exact hx
    · cases hx
  | .map i, x, hx => by
    simp only [ren, Option.map_eq_some_iff] at hx ⊢
    obtain ⟨p, hp, rfl⟩ := hx
    exact ⟨p, h.get hp, rfl⟩
  | .fn f a c, x, hx => by
    simp only [ren] at hx ⊢
    split at hx
    · rename_i h1 h2; rw [renL_ext h h1, renL_ext h h2]; exact hx
    · cases hx
  | .iface t v, x, hx => by
    simp only [ren, Option.map_eq_some_iff] at hx ⊢
    obtain ⟨p, hp, rfl⟩ := hx
    exact ⟨p, ren_ext h hp, rfl⟩
  | .agg cs, x, hx => by
    simp only [ren, Option.map_eq_some_iff] at hx ⊢
    obtain ⟨p, hp, rfl⟩ := hx
    exact ⟨p, renL_ext h hp, rfl⟩
  | .tuple cs, x, hx => by
    simp only [ren, Option.map_eq_some_iff] at hx ⊢
    obtain ⟨p, hp, rfl⟩ := hx
    exact ⟨p, renL_ext h hp, rfl⟩
theorem renL_ext {ρ ρ' : Ren} (h : Ext ρ ρ') : ∀ {vs : List AV} {X : List Value}, renL ρ vs = some X → renL ρ' vs = some X
  | [], X, hx => by rw [renL_nil hx]; rfl
  | v :: vs, X, hx => by
    obtain ⟨x, xs, h1, h2, rfl⟩ := renL_cons hx
    exact renL_cons_mk (ren_ext h h1) (renL_ext h h2)
end

/-! ### The heap -/
structure AEntry where
  key : AV
  val : AV
  born : Nat

inductive AO where
  /-- cells of a type, the first of those that lie there -/
  | cells (c : List AV) (t : TypeId)
  /-- a row that can grow: its elements take 'sz' cells each -/
  | row (c : List AV) (t : TypeId) (sz : Nat)
  | map (es : List AEntry) (clock : Nat)
  | siter (s : List UInt8) (pos : Nat)
  | dead

abbrev AH := List AO

def renE (ρ : Ren) : List AEntry → Option (List MapEntry)
  | [] => some []
  | e :: es => match ren ρ e.key, ren ρ e.val, renE ρ es with
    | some k, some v, some l => some (⟨k, v, e.born⟩ :: l)
    | _, _, _ => none

theorem renE_cons {ρ : Ren} {e : AEntry} {es : List AEntry} {X : List MapEntry} (h : renE ρ (e :: es) = some X) :
    ∃ k v l, ren ρ e.key = some k ∧ ren ρ e.val = some v ∧ renE ρ es = some l ∧ X = ⟨k, v, e.born⟩ :: l := by
  simp only [renE] at h
  split at h
  · cases h; exact ⟨_, _, _, ‹_›, ‹_›, ‹_›, rfl⟩
  · cases h
theorem renE_cons_mk {ρ : Ren} {e : AEntry} {es : List AEntry} {k v : Value} {l : List MapEntry} (h1 : ren ρ e.key = some k) (h2 : ren ρ e.val = some v) (h3 : renE ρ es = some l) :
    renE ρ (e :: es) = some (⟨k, v, e.born⟩ :: l) := by simp only [renE, h1, h2, h3]
theorem renE_ext {ρ ρ' : Ren} (h : Ext ρ ρ') : ∀ {es : List AEntry} {X : List MapEntry}, renE ρ es = some X → renE ρ' es = some X
  | [], X, hx => by simpa [renE] using hx
  | e :: es, X, hx => by
    obtain ⟨k, v, l, h1, h2, h3, rfl⟩ := renE_cons hx
    exact renE_cons_mk (ren_ext h h1) (ren_ext h h2) (renE_ext h h3)

/-- What an abstract object says of the block that it names. -/
def okO (ρ : Ren) (w : World) (p : Slot) : AO → Prop
  | .cells c t => ∃ C cs, w.heap[p.blk]? = some (.cells C t (0, 0)) ∧ renL ρ c = some cs ∧ (C.toList.drop p.sh).take cs.length = cs
  | .row c t sz => ∃ C cs, w.heap[p.blk]? = some (.cells C t (0, 0)) ∧ renL ρ c = some cs ∧ (C.toList.drop p.sh).take cs.length = cs ∧ p.sh + p.ecap * sz ≤ C.size ∧ c.length ≤ p.ecap * sz
  | .map es clock => ∃ E, w.heap[p.blk]? = some (.map E clock) ∧ renE ρ es = some E.toList
  | .siter s pos => w.heap[p.blk]? = some (.stringIter ⟨⟨s⟩⟩ pos) ∧ p.sh = 0
  | .dead => True

def AO.live : AO → Bool
  | .dead => false
  | _ => true

/-- What of the base world's cells may be read. -/
abbrev Ro := Nat → Nat → Option AV

def ROk (R : Ro) (base : World) : Prop := ∀ b o v, R b o = some v → b < base.heap.size ∧ ∃ x, ren [] v = some x ∧ base.cell? ⟨b, o, none⟩ = some x

structure Rel (base : World) (ρ : Ren) (H : AH) (w : World) : Prop where
  below : Below base.heap.size base w
  len : ρ.length = H.length
  obj : ∀ (i : Nat) o p, H[i]? = some o → ρ[i]? = some p → okO ρ w p o
  blk : ∀ (i : Nat) o p, H[i]? = some o → ρ[i]? = some p → o.live = true → base.heap.size ≤ p.blk
  inj : ∀ (i j : Nat) o u p q, i ≠ j → H[i]? = some o → H[j]? = some u → ρ[i]? = some p → ρ[j]? = some q → o.live = true → u.live = true → p.blk ≠ q.blk

theorem okO_ext {ρ ρ' : Ren} (h : Ext ρ ρ') {w : World} {p : Slot} {o : AO} (ho : okO ρ w p o) : okO ρ' w p o := by
  cases o with
  | cells c t => obtain ⟨C, cs, h1, h2, h3⟩ := ho; exact ⟨C, cs, h1, renL_ext h h2, h3⟩
  | row c t sz => obtain ⟨C, cs, h1, h2, h3⟩ := ho; exact ⟨C, cs, h1, renL_ext h h2, h3⟩
  | map es k => obtain ⟨E, h1, h2⟩ := ho; exact ⟨E, h1, renE_ext h h2⟩
  | siter s pos => exact ho
  | dead => trivial

/-- The block's content is all that counts. -/
theorem okO_same {ρ : Ren} {w w' : World} {p : Slot} {o : AO} (ho : okO ρ w p o) (hb : o.live = true → w'.heap[p.blk]? = w.heap[p.blk]?) : okO ρ w' p o := by
  cases o with
  | cells c t => obtain ⟨C, cs, h1, h2⟩ := ho; exact ⟨C, cs, by rw [hb rfl]; exact h1, h2⟩
  | row c t sz => obtain ⟨C, cs, h1, h2⟩ := ho; exact ⟨C, cs, by rw [hb rfl]; exact h1, h2⟩
  | map es k => obtain ⟨E, h1, h2⟩ := ho; exact ⟨E, by rw [hb rfl]; exact h1, h2⟩
  | siter s pos => exact ⟨(hb rfl).trans ho.1, ho.2⟩
  | dead => trivial

theorem okO_lt {ρ : Ren} {w : World} {p : Slot} {o : AO} (ho : okO ρ w p o) (hl : o.live = true) : p.blk < w.heap.size := by
  have : ∃ x, w.heap[p.blk]? = some x := by
    cases o with
    | cells c t => obtain ⟨C, cs, h1, _⟩ := ho; exact ⟨_, h1⟩
    | row c t sz => obtain ⟨C, cs, h1, _⟩ := ho; exact ⟨_, h1⟩
    | map es k => obtain ⟨E, h1, _⟩ := ho; exact ⟨_, h1⟩
    | siter s pos => exact ⟨_, ho.1⟩
    | dead => cases hl
  obtain ⟨x, hx⟩ := this
  exact (Array.getElem?_eq_some_iff.1 hx).1

theorem Rel.slot {base : World} {ρ : Ren} {H : AH} {w : World} (h : Rel base ρ H w) {i : Nat} {o : AO} (ho : H[i]? = some o) : ∃ p, ρ[i]? = some p := by
  have := (List.getElem?_eq_some_iff.1 ho).1
  exact ⟨ρ[i]'(by rw [h.len]; exact this), by simp⟩

/-- Draws change nothing of the heap. -/
theorem Rel.draw {base : World} {ρ : Ren} {H : AH} {w : World} (h : Rel base ρ H w) (n : Nat) : Rel base ρ H { w with drawn := n } :=
  ⟨⟨h.below.os, h.below.tape, h.below.output, h.below.size, h.below.block⟩, h.len, fun i o p h1 h2 => okO_same (h.obj i o p h1 h2) (fun _ => rfl), h.blk, h.inj⟩

/-- One object is written anew (and others may die). -/
theorem Rel.put {base : World} {ρ : Ren} {H : AH} {w w' : World} (h : Rel base ρ H w) {i : Nat} {o o' : AO} {p : Slot} (ho : H[i]? = some o) (hp : ρ[i]? = some p) (hl : o.live = true)
    (hos : w'.os = w.os) (htape : w'.tape = w.tape) (hout : w'.output = w.output) (hsize : w'.heap.size = w.heap.size)
    (hother : ∀ k, k ≠ p.blk → w'.heap[k]? = w.heap[k]?) (hok : okO ρ w' p o') : Rel base ρ (H.set i o') w' := by
  have hpb := h.blk i o p ho hp hl
  have hi : i < H.length := (List.getElem?_eq_some_iff.1 ho).1
  refine ⟨⟨hos.trans h.below.os, htape.trans h.below.tape, hout.trans h.below.output, by rw [hsize]; exact h.below.size, fun k hk => (hother k (by omega)).trans (h.below.block k hk)⟩, by rw [List.length_set]; exact h.len, ?_, ?_, ?_⟩
  · intro j u q hj hq
    rw [List.getElem?_set] at hj
    by_cases hij : i = j
    · subst hij
      rw [if_pos rfl, if_pos hi] at hj
      cases hj
      rw [hp] at hq; cases hq
      exact hok
    · rw [if_neg hij] at hj
      refine okO_same (h.obj j u q hj hq) fun hu => hother _ ?_
      exact (h.inj i j o u p q hij ho hj hp hq hl hu).symm
  · intro j u q hj hq hu
    rw [List.getElem?_set] at hj
    by_cases hij : i = j
    · subst hij
      rw [hp] at hq; cases hq
      exact hpb
    · rw [if_neg hij] at hj
      exact h.blk j u q hj hq hu
  · intro j k u v q r hjk hj hk hq hr hu hv
    rw [List.getElem?_set] at hj hk
    by_cases hij : i = j
    · subst hij
      rw [if_neg hjk] at hk
      rw [hp] at hq; cases hq
      exact h.inj i k o v p r hjk ho hk hp hr hl hv
    · rw [if_neg hij] at hj
      by_cases hik : i = k
      · subst hik
        rw [hp] at hr; cases hr
        exact h.inj j i u o q p hjk hj ho hq hp hu hl
      · rw [if_neg hik] at hk
        exact h.inj j k u v q r hjk hj hk hq hr hu hv

/-- A new block. -/
theorem Rel.new {base : World} {ρ : Ren} {H : AH} {w : World} (h : Rel base ρ H w) (x : Obj) (o : AO) (sh ecap : Nat) (n : Nat)
    (hok : okO (ρ ++ [⟨w.heap.size, sh, ecap⟩]) { w with heap := w.heap.push x, drawn := n } ⟨w.heap.size, sh, ecap⟩ o) :
    Rel base (ρ ++ [⟨w.heap.size, sh, ecap⟩]) (H ++ [o]) { w with heap := w.heap.push x, drawn := n } := by
  have hs := h.below.size
  have hold : ∀ k, k < w.heap.size → (w.heap.push x)[k]? = w.heap[k]? := fun k hk => by rw [Array.getElem?_push, if_neg (by omega)]
  have hlen := h.len
  have hcase : ∀ (i : Nat) u q, (H ++ [o])[i]? = some u → (ρ ++ [(⟨w.heap.size, sh, ecap⟩ : Slot)])[i]? = some q → (H[i]? = some u ∧ ρ[i]? = some q ∧ i < H.length) ∨ (i = H.length ∧ u = o ∧ q = ⟨w.heap.size, sh, ecap⟩) := by
    intro i u q hu hq
    by_cases hi : i < H.length
    · rw [List.getElem?_append_left hi] at hu
      rw [List.getElem?_append_left (by omega)] at hq
      exact .inl ⟨hu, hq, hi⟩
    · have hi2 : i = H.length := by
        have := (List.getElem?_eq_some_iff.1 hu).1
        simp at this; omega
      subst hi2
      rw [List.getElem?_append_right (Nat.le_refl _)] at hu
      rw [List.getElem?_append_right (by omega)] at hq
      simp [hlen] at hu hq
      exact .inr ⟨rfl, hu.symm, hq.symm⟩
  refine ⟨⟨h.below.os, h.below.tape, h.below.output, by simp; omega, fun k hk => (hold k (by omega)).trans (h.below.block k hk)⟩, by simp [hlen], ?_, ?_, ?_⟩
  · intro i u q hu hq
    rcases hcase i u q hu hq with ⟨hu, hq, hi⟩ | ⟨_, rfl, rfl⟩
    · refine okO_ext (Ext.mk _ _) (okO_same (h.obj i u q hu hq) fun hl => hold _ (okO_lt (h.obj i u q hu hq) hl))
    · exact hok
  · intro i u q hu hq hl
    rcases hcase i u q hu hq with ⟨hu, hq, hi⟩ | ⟨_, rfl, rfl⟩
    · exact h.blk i u q hu hq hl
    · exact hs
  · intro i j u v q r hij hu hv hq hr hl hl'
    rcases hcase i u q hu hq with ⟨hu, hq, hi⟩ | ⟨hi, rfl, rfl⟩
    · have h1 := okO_lt (h.obj i u q hu hq) hl
      rcases hcase j v r hv hr with ⟨hv, hr, hj⟩ | ⟨hj, rfl, rfl⟩
      · exact h.inj i j u v q r hij hu hv hq hr hl hl'
      · exact Nat.ne_of_lt h1
    · rcases hcase j v r hv hr with ⟨hv, hr, hj⟩ | ⟨hj, rfl, rfl⟩
      · exact (Nat.ne_of_lt (okO_lt (h.obj j v r hv hr) hl')).symm
      · exact absurd (hi.trans hj.symm) hij

/-- A block of the call's own is given a new name; the old one is dead. -/
theorem Rel.again {base : World} {ρ : Ren} {H : AH} {w w' : World} (h : Rel base ρ H w) {i : Nat} {o o' : AO} {p : Slot} (ho : H[i]? = some o) (hp : ρ[i]? = some p) (hl : o.live = true)
    (hos : w'.os = w.os) (htape : w'.tape = w.tape) (hout : w'.output = w.output) (hsize : w'.heap.size = w.heap.size)
    (hother : ∀ k, k ≠ p.blk → w'.heap[k]? = w.heap[k]?) (sh ecap : Nat)
    (hok : okO (ρ ++ [⟨p.blk, sh, ecap⟩]) w' ⟨p.blk, sh, ecap⟩ o') : Rel base (ρ ++ [⟨p.blk, sh, ecap⟩]) (H.set i .dead ++ [o']) w' := by
  have h0 : Rel base ρ (H.set i .dead) w' := h.put ho hp hl hos htape hout hsize hother trivial
  have hi : i < H.length := (List.getElem?_eq_some_iff.1 ho).1
  have hpb := h.blk i o p ho hp hl
  have hlen := h0.len
  generalize hH : H.set i .dead = H1 at h0
  have hdead : H1[i]? = some .dead := by rw [← hH, List.getElem?_set]; simp [hi]
  have hcase : ∀ (j : Nat) u q, (H1 ++ [o'])[j]? = some u → (ρ ++ [(⟨p.blk, sh, ecap⟩ : Slot)])[j]? = some q → (H1[j]? = some u ∧ ρ[j]? = some q) ∨ (j = H1.length ∧ u = o' ∧ q = ⟨p.blk, sh, ecap⟩) := by
    intro j u q hu hq
    by_cases hj : j < H1.length
    · rw [List.getElem?_append_left hj] at hu
      rw [List.getElem?_append_left (by rw [h0.len]; exact hj)] at hq
      exact .inl ⟨hu, hq⟩
    · have hi2 : j = H1.length := by
        have := (List.getElem?_eq_some_iff.1 hu).1
        simp at this; omega
      subst hi2
      rw [List.getElem?_append_right (Nat.le_refl _)] at hu
      rw [List.getElem?_append_right (by rw [h0.len]; exact Nat.le_refl _)] at hq
      simp [h0.len] at hu hq
      exact .inr ⟨rfl, hu.symm, hq.symm⟩
  have hne : ∀ (j : Nat) u q, H1[j]? = some u → ρ[j]? = some q → u.live = true → q.blk ≠ p.blk := by
    intro j u q hu hq hlu
    have hij : j ≠ i := by
      intro e; subst e; rw [hdead] at hu; cases hu; cases hlu
    have hu' : H[j]? = some u := by
      rw [← hH, List.getElem?_set, if_neg (Ne.symm hij)] at hu; exact hu
    exact h.inj j i u o q p hij hu' ho hq hp hlu hl
  refine ⟨h0.below, by simp [h0.len], ?_, ?_, ?_⟩
  · intro j u q hu hq
    rcases hcase j u q hu hq with ⟨hu, hq⟩ | ⟨_, rfl, rfl⟩
    · exact okO_ext (Ext.mk _ _) (h0.obj j u q hu hq)
    · exact hok
  · intro j u q hu hq hlu
    rcases hcase j u q hu hq with ⟨hu, hq⟩ | ⟨_, rfl, rfl⟩
    · exact h0.blk j u q hu hq hlu
    · exact hpb
  · intro j k u v q r hjk hu hv hq hr hlu hlv
    rcases hcase j u q hu hq with ⟨hu, hq⟩ | ⟨hj, rfl, rfl⟩
    · rcases hcase k v r hv hr with ⟨hv, hr⟩ | ⟨hk, rfl, rfl⟩
      · exact h0.inj j k u v q r hjk hu hv hq hr hlu hlv
      · exact hne j u q ‹_› ‹_› hlu
    · rcases hcase k v r hv hr with ⟨hv, hr⟩ | ⟨hk, rfl, rfl⟩
      · exact (hne k v r hv hr hlv).symm
      · exact absurd (hj.trans hk.symm) hjk

/-- What is forgotten. -/
theorem Rel.kill {base : World} {ρ : Ren} {H : AH} {w : World} (h : Rel base ρ H w) (i : Nat) : Rel base ρ (H.set i .dead) w := by
  refine ⟨h.below, by simp [h.len], ?_, ?_, ?_⟩
  · intro j u q hu hq
    rw [List.getElem?_set] at hu
    split at hu
    · split at hu
      · cases hu; trivial
      · cases hu
    · exact h.obj j u q hu hq
  · intro j u q hu hq hl
    rw [List.getElem?_set] at hu
    split at hu
    · split at hu
      · cases hu; cases hl
      · cases hu
    · exact h.blk j u q hu hq hl
  · intro j k u v q r hjk hu hv hq hr hlu hlv
    rw [List.getElem?_set] at hu hv
    split at hu
    · split at hu
      · cases hu; cases hlu
      · cases hu
    · split at hv
      · split at hv
        · cases hv; cases hlv
        · cases hv
      · exact h.inj j k u v q r hjk hu hv hq hr hlu hlv

theorem Rel.pushDead {base : World} {ρ : Ren} {H : AH} {w : World} (h : Rel base ρ H w) (p : Slot) : Rel base (ρ ++ [p]) (H ++ [.dead]) w := by
  have hlen := h.len
  have hcase : ∀ (i : Nat) u q, (H ++ [AO.dead])[i]? = some u → (ρ ++ [p])[i]? = some q → (H[i]? = some u ∧ ρ[i]? = some q) ∨ u = .dead := by
    intro i u q hu hq
    by_cases hi : i < H.length
    · rw [List.getElem?_append_left hi] at hu
      rw [List.getElem?_append_left (by omega)] at hq
      exact .inl ⟨hu, hq⟩
    · have hi2 : i = H.length := by
        have := (List.getElem?_eq_some_iff.1 hu).1
        simp at this; omega
      subst hi2
      rw [List.getElem?_append_right (Nat.le_refl _)] at hu
      simp at hu
      exact .inr hu.symm
  refine ⟨h.below, by simp [hlen], fun i o q h1 h2 => ?_, fun i o q h1 h2 hl => ?_, fun i j o u q r hij h1 h2 h3 h4 l1 l2 => ?_⟩
  · rcases hcase i o q h1 h2 with ⟨a, b⟩ | rfl
    · exact okO_ext (Ext.mk _ _) (h.obj i o q a b)
    · trivial
  · rcases hcase i o q h1 h2 with ⟨a, b⟩ | rfl
    · exact h.blk i o q a b hl
    · cases hl
  · rcases hcase i o q h1 h3 with ⟨a, b⟩ | rfl
    · rcases hcase j u r h2 h4 with ⟨c, d⟩ | rfl
      · exact h.inj i j o u q r hij a c b d l1 l2
      · cases l2
    · cases l1
end Am
