/- Structs of whole numbers, texts and bools, of whatever nesting, cell by cell; slices of such that came in. -/
import Derived.Test.YtbcfhiohdamcjaaAmIn
set_option linter.unusedSimpArgs false
set_option linter.unusedVariables false
set_option linter.unusedSectionVars false
set_option linter.unnecessarySimpa false
namespace Am
open Go Go.RowKit Go.Deep Go.ChangeShapes Go.WideShapes
inductive Leaf where
  | int (k : IntKind)
  | str
  | bool
def LeafOk : Leaf → AV → Prop
  | .int k, v => ∃ z, v = .int k z ∧ (Lit.int k z).wf = true
  | .str, v => ∃ s : List UInt8, v = .str s ∧ s.length ≤ maxLen
  | .bool, v => ∃ b, v = .bool b
/-- The cells, each as its leaf says. -/
def Shape : List Leaf → List AV → Prop
  | [], vs => vs = []
  | k :: ks, vs => ∃ v r, vs = v :: r ∧ LeafOk k v ∧ Shape ks r
theorem Shape.length : ∀ {ks : List Leaf} {vs : List AV}, Shape ks vs → vs.length = ks.length
  | [], vs, h => by rw [show vs = [] from h]; rfl
  | k :: ks, vs, ⟨v, r, h1, _, h3⟩ => by rw [h1]; simp [Shape.length h3]
theorem Shape.append : ∀ {ks ls : List Leaf} {vs us : List AV}, Shape ks vs → Shape ls us → Shape (ks ++ ls) (vs ++ us)
  | [], ls, vs, us, h, k => by rw [show vs = [] from h]; exact k
  | _ :: ks, ls, vs, us, ⟨v, r, h1, h2, h3⟩, k => ⟨v, r ++ us, by rw [h1]; rfl, h2, Shape.append h3 k⟩
section
variable (P : Program)
def flatFs (g : TypeId → Option (List Leaf)) : List Field → Nat → Option (List Leaf)
  | [], _ => some []
  | f :: fs, off => match g f.type with
    | some ks => if f.offset = off ∧ P.cellsOf f.type = ks.length then (flatFs g fs (off + ks.length)).map (ks ++ ·) else none
    | none => none
/-- The leaves of a type. -/
def flat : Nat → TypeId → Option (List Leaf)
  | 0, _ => none
  | n + 1, t => match P.underlying t with
    | some (.int k) => some [.int k]
    | some .string => some [.str]
    | some .bool => some [.bool]
    | some (.struct fs) => match flatFs P (flat n) fs.toList 0 with
      | some ks => if P.cellsOf t = ks.length then some ks else none
      | none => none
    | _ => none
end
theorem absVL_append : ∀ {a b : List Value} {x y : List AV}, absVL a = some x → absVL b = some y → absVL (a ++ b) = some (x ++ y)
  | [], b, x, y, h, k => by simp [absVL] at h; subst h; simpa using k
  | v :: vs, b, x, y, h, k => by
    simp only [absVL] at h
    split at h
    · rename_i p q h1 h2
      cases h
      have := absVL_append h2 k
      simp [absVL, h1, this]
    · cases h
section
variable {H : Type} {enc : TypeId × Value → H} {P : Program} {W : World} {base : Nat} {sp : Nat → Bool} {held : Bool}
theorem flatFs_ok {g : TypeId → Option (List Leaf)} {m : Nat} (hg : ∀ t ks, g t = some ks → ∀ cs y, DataW.trod enc P W base sp held m t cs = some y → cs.length = ks.length → ∃ vs, absVL cs = some vs ∧ Shape ks vs) (cs : List Value) :
    ∀ (fs : List Field) (off : Nat) (ks : List Leaf), flatFs P g fs off = some ks → off + ks.length = cs.length → (∀ (i : Nat) f, fs[i]? = some f → ∃ y, DataW.trod enc P W base sp held m f.type ((cs.drop f.offset).take (P.cellsOf f.type)) = some y) →
      ∃ vs, absVL (cs.drop off) = some vs ∧ Shape ks vs
  | [], off, ks, h, hl, _ => by
    simp only [flatFs, Option.some.injEq] at h
    subst h
    rw [List.drop_of_length_le (by simp at hl; omega)]
    exact ⟨[], rfl, rfl⟩
  | f :: fs, off, ks, h, hl, hf => by
    simp only [flatFs] at h
    split at h
    · rename_i k1 hk
      split at h
      · rename_i hc
        simp only [Option.map_eq_some_iff] at h
        obtain ⟨k2, h2, rfl⟩ := h
        simp only [List.length_append] at hl
        obtain ⟨y, hy⟩ := hf 0 f rfl
        rw [hc.1, hc.2] at hy
        obtain ⟨v1, a1, s1⟩ := hg _ _ hk _ _ hy (by rw [List.length_take, List.length_drop]; omega)
        obtain ⟨v2, a2, s2⟩ := flatFs_ok hg cs fs (off + k1.length) k2 h2 (by omega) (fun i f' hi => hf (i + 1) f' hi)
        refine ⟨v1 ++ v2, ?_, s1.append s2⟩
        rw [← List.take_append_drop k1.length (cs.drop off), List.drop_drop]
        exact absVL_append a1 a2
      · cases h
    · cases h
theorem flat_ok : ∀ (n : Nat) (t : TypeId) (ks : List Leaf), flat P n t = some ks → ∀ (m : Nat) (cs : List Value) y, DataW.trod enc P W base sp held m t cs = some y → cs.length = ks.length → ∃ vs, absVL cs = some vs ∧ Shape ks vs
  | 0, t, ks, h, _, _, _, _, _ => by cases h
  | n + 1, t, ks, h, m, cs, y, hy, hl => by
    unfold flat at h
    split at h
    · rename_i k ht
      cases h
      match cs, hl with
      | [v], _ =>
        obtain ⟨z, rfl, hz⟩ := trod_int1 ht hy
        exact ⟨[.int k z], by simp [absVL, absV], _, _, rfl, ⟨z, rfl, hz⟩, rfl⟩
    · rename_i ht
      cases h
      match cs, hl with
      | [v], _ =>
        obtain ⟨s, rfl, hs⟩ := trod_str1 ht hy
        exact ⟨[.str s.data.toList], by simp [absVL, absV], _, _, rfl, ⟨_, rfl, by simpa using hs⟩, rfl⟩
    · rename_i ht
      cases h
      match cs, hl with
      | [v], _ =>
        obtain ⟨b, rfl⟩ := trod_bool1 ht hy
        exact ⟨[.bool b], by simp [absVL, absV], _, _, rfl, ⟨_, rfl⟩, rfl⟩
    · rename_i fs ht
      split at h
      · rename_i k' hk
        split at h
        · cases h
          obtain ⟨xs, m', rfl, _, _, hxl, hff⟩ := DataW.trod_struct ht hy
          have := flatFs_ok (fun t ks hg cs y hy hl => flat_ok n t ks hg m' cs y hy hl) cs fs.toList 0 _ hk (by simpa using hl.symm) (fun i f hi => by
            have hi' : fs[i]? = some f := by simpa using hi
            have h1 := hff i f hi'
            have : i < xs.length := by rw [hxl]; exact (Array.getElem?_eq_some_iff.1 hi').1
            rw [List.getElem?_eq_getElem this] at h1
            exact ⟨_, h1⟩)
          simpa using this
        · cases h
      · cases h
    · cases h
theorem absVL_len : ∀ {cs : List Value} {vs : List AV}, absVL cs = some vs → vs.length = cs.length
  | [], vs, h => by simp [absVL] at h; subst h; rfl
  | v :: cs, vs, h => by
    simp only [absVL] at h
    split at h
    · cases h; simp [absVL_len ‹_›]
    · cases h
theorem absVL_get : ∀ {cs : List Value} {vs : List AV}, absVL cs = some vs → ∀ (i : Nat) v, cs[i]? = some v → ∃ a, vs[i]? = some a ∧ absV v = some a
  | [], vs, h, i, v, hv => by simp at hv
  | u :: cs, vs, h, i, v, hv => by
    simp only [absVL] at h
    split at h
    · rename_i a as h1 h2
      cases h
      cases i with
      | zero => simp at hv; subst hv; exact ⟨a, rfl, h1⟩
      | succ i => simpa using absVL_get h2 i v (by simpa using hv)
    · cases h
/-- A slice of flat elements that came in. -/
theorem slf_open {r : Reach} {b0 n : Nat} {t e : TypeId} {ks : List Leaf} {v : Value} {d : DataW H} {p : List MemPlace} (ht : P.underlying t = some (.slice e)) (hk : flat P n e = some ks) (ce : P.cellsOf e = ks.length)
    (hval : Value.okWide P W r b0 t v) (hd : DataW.Trod enc P W base sp held t v d p) :
    ∃ (a : AV) (L : List (List AV)), ren [] a = some v ∧ Sl (roW W) ks.length a L ∧ ∀ x ∈ L, Shape ks x := by
  obtain ⟨fuel, hf⟩ := hd
  obtain ⟨sa, slen, scap, rfl⟩ := okWide_slice ht hval
  rcases open_slice ht hf with ⟨hc, _⟩ | ⟨a, len, cap, m, q, D, Pl, hc, hb, hl, hm, hmm, _, hx⟩
  · simp [Value.cells] at hc
    obtain ⟨rfl, rfl, rfl⟩ := hc
    exact ⟨.nilslice, [], rfl, .inl ⟨rfl, rfl⟩, by simp⟩
  · simp [Value.cells] at hc
    obtain ⟨rfl, rfl, rfl⟩ := hc
    have hspot := sl_spot ht hval
    obtain ⟨b, o, s⟩ := a
    simp only [Addr.mk.injEq, true_and] at hspot
    subst hspot
    have hlm : slen ≤ m := by rw [hmm]; split <;> omega
    have each : ∀ i, i < slen → ∃ vs : List AV, Shape ks vs ∧ vs.length = ks.length ∧ ∀ (j : Nat) x, vs[j]? = some x → roW W b (o + i * ks.length + j) = some x := by
      intro i hi
      obtain ⟨cs', h1, h2⟩ := hx i (by omega)
      obtain ⟨_, hlen, hcell⟩ := World.cells?_some h1
      have hlen' : cs'.length = ks.length := by rw [hlen, ce]
      obtain ⟨vs, h3, h4⟩ := flat_ok n e ks hk _ _ _ h2 hlen'
      refine ⟨vs, h4, h4.length, fun j x hj => ?_⟩
      have hjl : j < cs'.length := by have := (List.getElem?_eq_some_iff.1 hj).1; rw [absVL_len h3] at this; exact this
      obtain ⟨a, ha1, ha2⟩ := absVL_get h3 j _ (List.getElem?_eq_getElem hjl)
      rw [hj] at ha1; cases ha1
      have e0 := hcell j (by omega)
      rw [add_none, add_none, ce] at e0
      show (W.cell? ⟨b, o + i * ks.length + j, none⟩).bind absV = _
      rw [e0]
      simp [List.getElem?_eq_getElem hjl, ha2]
    obtain ⟨f, hf⟩ := choose_lt each
    refine ⟨.slice (.ro b) o slen (.known scap), (List.range slen).map f, by simp [ren, Loc.addr, Cap.num], .inr ⟨b, o, scap, by simp, by simpa using hl, hm, fun i x hx' => ?_⟩, fun x hx' => ?_⟩
    · simp only [List.getElem?_map, Option.map_eq_some_iff] at hx'
      obtain ⟨i', hi', rfl⟩ := hx'
      obtain ⟨hi, rfl⟩ : i < slen ∧ i' = i := by
        obtain ⟨h1, h2⟩ := List.getElem?_eq_some_iff.1 hi'
        simp at h1 h2
        exact ⟨h1, h2.symm⟩
      exact ⟨(hf i' hi).2.1, (hf i' hi).2.2⟩
    · simp at hx'
      obtain ⟨i, hi, rfl⟩ := hx'
      exact (hf i hi).1
/-- A struct that came in, by value. -/
theorem agg_open {r : Reach} {b0 n : Nat} {t : TypeId} {fs : Array Field} {ks : List Leaf} {v : Value} {d : DataW H} {p : List MemPlace} (ht : P.underlying t = some (.struct fs)) (hk : flat P n t = some ks)
    (hval : Value.okWide P W r b0 t v) (hd : DataW.Trod enc P W base sp held t v d p) : ∃ vs, ren [] (.agg vs) = some v ∧ Shape ks vs := by
  obtain ⟨fuel, hf⟩ := hd
  obtain ⟨cs, rfl, _⟩ := okWide_struct ht hval
  obtain ⟨xs, m', _, _, hl, _, _⟩ := DataW.trod_struct ht hf
  have hkl : P.cellsOf t = ks.length := by
    cases n with
    | zero => cases hk
    | succ n =>
      unfold flat at hk
      rw [ht] at hk
      simp only at hk
      split at hk
      · split at hk
        · cases hk; assumption
        · cases hk
      · cases hk
  obtain ⟨vs, h1, h2⟩ := flat_ok n t ks hk _ _ _ hf (by rw [hl, hkl])
  refine ⟨vs, ?_, h2⟩
  have := absVL_ren h1
  simp [ren, this, Value.cells]
/-- Lists of cells, read as what they are. -/
theorem typed {α : Type} {f : α → List AV} : ∀ {L : List (List AV)}, (∀ x ∈ L, ∃ y, x = f y) → ∃ ys : List α, L = ys.map f
  | [], _ => ⟨[], rfl⟩
  | x :: L, h => by
    obtain ⟨y, hy⟩ := h x (List.mem_cons_self ..)
    obtain ⟨ys, hys⟩ := typed (L := L) (fun z hz => h z (List.mem_cons_of_mem _ hz))
    exact ⟨y :: ys, by rw [hy, hys]; rfl⟩
end
end Am
