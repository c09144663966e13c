/- A slice of structs of three fields (a whole number, a whole number, a text) that came in. -/
import Derived.Test.YtbcfhiohdamcjaaAmSl
import Derived.Test.YtbcfhiohdamcjaaAmOpen
import Derived.Deep.SlicePairs
set_option linter.unusedSimpArgs false
set_option linter.unusedVariables false
set_option linter.unusedSectionVars false
set_option linter.unnecessarySimpa false
namespace Am
open Go Go.RowKit Go.Deep Go.ChangeShapes Go.WideShapes
section
variable {H : Type} {enc : TypeId × Value → H} {P : Program} {W : World} {base : Nat} {sp : Nat → Bool} {held : Bool}
theorem add_none (b o n : Nat) : (⟨b, o, none⟩ : Addr).add n = ⟨b, o + n, none⟩ := by unfold Addr.add; split <;> simp_all
theorem roW_int {b o : Nat} {k : IntKind} {n : Int} (h : W.cell? ⟨b, o, none⟩ = some (.int k n)) : roW W b o = some (.int k n) := by simp [roW, h, absV]
theorem roW_str {b o : Nat} {s : ByteArray} (h : W.cell? ⟨b, o, none⟩ = some (.string s)) : roW W b o = some (.str s.data.toList) := by simp [roW, h, absV]
theorem sl_spot {r : Reach} {b0 : Nat} {t e : TypeId} {a : Addr} {len cap : Nat} (ht : P.underlying t = some (.slice e)) (hval : Value.okWide P W r b0 t (.slice (some a) len cap)) : a = ⟨a.block, a.off, none⟩ := by
  obtain ⟨b, o, s⟩ := a
  simp only [Value.okWide, ht] at hval
  unfold Cell.okWide at hval
  simp only [ht] at hval
  unfold Cell.ok at hval
  rw [ht] at hval
  have h3 : World.has P W r b0 ⟨b, o, s⟩ e cap := hval.2.2
  have : s = none := h3.2.1
  rw [this]
theorem sl3_open {r : Reach} {b0 : Nat} {t e : TypeId} {f0 f1 f2 : Field} {v : Value} {d : DataW H} {p : List MemPlace} (ht : P.underlying t = some (.slice e)) (he : P.underlying e = some (.struct #[f0, f1, f2]))
    (ce : P.cellsOf e = 3) (o0 : f0.offset = 0) (o1 : f1.offset = 1) (o2 : f2.offset = 2) (c0 : P.cellsOf f0.type = 1) (c1 : P.cellsOf f1.type = 1) (c2 : P.cellsOf f2.type = 1)
    (k0 : P.underlying f0.type = some (.int .i64)) (k1 : P.underlying f1.type = some (.int .i64)) (k2 : P.underlying f2.type = some .string)
    (hval : Value.okWide P W r b0 t v) (hd : DataW.Trod enc P W base sp held t v d p) :
    ∃ (a : AV) (L : List (Int × Int × List UInt8)), ren [] a = some v ∧ Sl (roW W) 3 a (L.map fun x => [.int .i64 x.1, .int .i64 x.2.1, .str x.2.2]) ∧ ∀ x ∈ L, x.2.2.length ≤ maxLen := by
  obtain ⟨fuel, hf⟩ := hd
  obtain ⟨sa, slen, scap, rfl⟩ := okWide_slice ht hval
  rcases open_slice ht hf with ⟨hc, _⟩ | ⟨a, len, cap, m, n, D, Pl, hc, hb, hl, hm, hmm, _, hx⟩
  · simp [Value.cells] at hc
    obtain ⟨rfl, rfl, rfl⟩ := hc
    exact ⟨.nilslice, [], rfl, .inl ⟨rfl, rfl⟩, by simp⟩
  · simp [Value.cells] at hc
    obtain ⟨rfl, rfl, rfl⟩ := hc
    have hspot := sl_spot ht hval
    obtain ⟨b, o, s⟩ := a
    simp only [Addr.mk.injEq, true_and] at hspot
    subst hspot
    have hlm : slen ≤ m := by rw [hmm]; split <;> omega
    have each : ∀ i, i < slen → ∃ q : Int × Int × ByteArray, W.cell? ⟨b, o + i * 3, none⟩ = some (.int .i64 q.1) ∧ W.cell? ⟨b, o + i * 3 + 1, none⟩ = some (.int .i64 q.2.1) ∧ W.cell? ⟨b, o + i * 3 + 2, none⟩ = some (.string q.2.2) ∧ q.2.2.size ≤ maxLen := by
      intro i hi
      obtain ⟨cs', h1, h2⟩ := hx i (by omega)
      rw [ce] at h1
      obtain ⟨_, hlen, hcell⟩ := World.cells?_some h1
      obtain ⟨xs, k, hk, hxy, _, hxl, hff⟩ := DataW.trod_struct he h2
      match xs, hxl, cs', hlen with
      | [y0, y1, y2], _, [v0, v1, v2], _ =>
        have g0 := hff 0 f0 rfl
        have g1 := hff 1 f1 rfl
        have g2 := hff 2 f2 rfl
        simp [o0, o1, o2, c0, c1, c2] at g0 g1 g2
        have e0 := hcell 0 (by omega)
        have e1 := hcell 1 (by omega)
        have e2 := hcell 2 (by omega)
        obtain ⟨z0, rfl, _⟩ := trod_int1 k0 g0
        obtain ⟨z1, rfl, _⟩ := trod_int1 k1 g1
        obtain ⟨z2, rfl, hz⟩ := trod_str1 k2 g2
        exact ⟨(z0, z1, z2), by simpa [add_none, Nat.add_assoc] using e0, by simpa [add_none, Nat.add_assoc] using e1, by simpa [add_none, Nat.add_assoc] using e2, hz⟩
    obtain ⟨q, hq⟩ := choose_lt each
    refine ⟨.slice (.ro b) o slen (.known scap), (List.range slen).map fun i => ((q i).1, (q i).2.1, (q i).2.2.data.toList), ?_, .inr ⟨b, o, scap, ?_, ?_, hm, ?_⟩, ?_⟩
    · simp [ren, Loc.addr, Cap.num]
    · simp
    · simpa using hl
    · intro i x hx'
      simp only [List.getElem?_map, Option.map_eq_some_iff] at hx'
      obtain ⟨y, ⟨j, hj, rfl⟩, rfl⟩ := hx'
      have hji : j = i ∧ i < slen := by
        have := List.getElem?_eq_some_iff.1 hj
        obtain ⟨h1, h2⟩ := this
        simp at h1 h2
        exact ⟨h2.symm, h1⟩
      obtain ⟨rfl, hi⟩ := hji
      obtain ⟨a0, a1, a2, _⟩ := hq j hi
      refine ⟨rfl, ?_⟩
      intro t v hv
      match t, hv with
      | 0, hv => simp at hv; subst hv; exact roW_int a0
      | 1, hv => simp at hv; subst hv; exact roW_int a1
      | 2, hv => simp at hv; subst hv; exact roW_str a2
      | t + 3, hv => simp at hv
    · intro x hx'
      simp at hx'
      obtain ⟨i, hi, rfl⟩ := hx'
      exact (hq i hi).2.2.2
end
end Am
