/- A struct with a slice of whole numbers in it that came in, by value: a text, the numbers, three numbers, a text. -/
import Derived.Test.YthcpfmibcoeleaaDoorAmFlat
set_option linter.unusedSimpArgs false
set_option linter.unusedVariables false
set_option linter.unusedSectionVars false
set_option linter.unnecessarySimpa false
namespace Am
open Go Go.RowKit Go.Deep Go.ChangeShapes Go.WideShapes
section
variable {H : Type} {enc : TypeId × Value → H} {P : Program} {W : World} {base : Nat} {sp : Nat → Bool} {held : Bool}
theorem cmd_open {r : Reach} {b0 : Nat} {t e : TypeId} {f0 f1 f2 f3 : Field} {ts : List TypeId} {v : Value} {d : DataW H} {p : List MemPlace}
    (ht : P.underlying t = some (.struct #[f0, f1, f2, f3])) (ct : P.cellsOf t = 6) (o0 : f0.offset = 0) (o1 : f1.offset = 1) (o2 : f2.offset = 2) (o3 : f3.offset = 5)
    (c0 : P.cellsOf f0.type = 1) (c1 : P.cellsOf f1.type = 1) (c2 : P.cellsOf f2.type = 3) (c3 : P.cellsOf f3.type = 1) (k0 : P.underlying f0.type = some .string) (k1 : P.underlying f1.type = some (.slice e))
    (ke : flat P 5 e = some [.int .i64]) (ce : P.cellsOf e = 1) (k2 : flat P 5 f2.type = some [.int .i64, .int .i64, .int .i64]) (k3 : P.underlying f3.type = some .string)
    (hts : P.cellTypes P.depth t = some ts) (hl : ts.length = 6) (hu : ts[1]? = some f1.type)
    (hval : Value.okWide P W r b0 t v) (hd : DataW.Trod enc P W base sp held t v d p) :
    ∃ (s : List UInt8) (nv : AV) (L : List (List AV)) (vs : List AV) (x : List UInt8), ren [] (.agg (.str s :: nv :: (vs ++ [.str x]))) = some v ∧ Sl (roW W) 1 nv L ∧ (∀ y ∈ L, Shape [.int .i64] y) ∧ Shape [.int .i64, .int .i64, .int .i64] vs := by
  obtain ⟨fuel, hf⟩ := hd
  have hv := hval
  simp only [Value.okWide, ht] at hv
  obtain ⟨cs, rfl, hsz, ts', hts', _, hrow⟩ := hv
  rw [hts] at hts'
  cases hts'
  obtain ⟨xs, m', _, _, hlen, hxl, hff⟩ := DataW.trod_struct ht hf
  have h6 : cs.size = 6 := by rw [hsz, ct]
  obtain ⟨l, rfl⟩ : ∃ l : List Value, cs = l.toArray := ⟨cs.toList, by simp⟩
  have hl6 : l.length = 6 := by simpa using h6
  match l, hl6 with
  | [v0, v1, v2, v3, v4, v5], _ =>
    have e0 := hff 0 f0 rfl
    have e1 := hff 1 f1 rfl
    have e2 := hff 2 f2 rfl
    have e3 := hff 3 f3 rfl
    have hx4 : xs.length = 4 := hxl
    match xs, hx4 with
    | [y0, y1, y2, y3], _ =>
      simp [o0, o1, o2, o3, c0, c1, c2, c3, Value.cells] at e0 e1 e2 e3
      obtain ⟨s, rfl, _⟩ := trod_str1 k0 e0
      obtain ⟨x, rfl, _⟩ := trod_str1 k3 e3
      obtain ⟨vs, a2, s2⟩ := flat_ok 5 _ _ k2 _ _ _ e2 rfl
      have hw1 : Value.okWide P W r b0 f1.type v1 := by
        obtain ⟨u, g1, g2⟩ := hrow 1 v1 rfl
        rw [hl, show 1 % 6 = 1 from rfl, hu] at g1
        cases g1
        unfold Value.okWide
        rw [k1]
        exact g2
      have hcell : v1.cells = #[v1] := by
        obtain ⟨a, n, cp, hv1⟩ := okWide_slice k1 hw1
        rw [hv1]
        rfl
      obtain ⟨nv, L, g1, g2, g3⟩ := slf_open (n := 5) (ks := [.int .i64]) k1 ke ce hw1 (d := y1.1) (p := y1.2) ⟨m', by rw [hcell]; exact e1⟩
      refine ⟨s.data.toList, nv, L, vs, x.data.toList, ?_, g2, g3, s2⟩
      have hvs := absVL_ren a2
      obtain ⟨u0, r0, e0', ⟨a, rfl, _⟩, u1, r1, e1', ⟨b, rfl, _⟩, u2, r2, e2', ⟨c, rfl, _⟩, e3'⟩ := s2
      have e4' : r2 = [] := e3'
      subst e4' e2' e1' e0'
      simp [renL, ren] at hvs
      obtain ⟨h2, h3, h4⟩ := hvs
      subst h2 h3 h4
      have hall := renL_cons_mk (v := .str s.data.toList) (x := .string s) (ρ := []) (by simp [ren]) (renL_cons_mk g1 (renL_cons_mk (v := .int .i64 a) (x := .int .i64 a) (by simp [ren]) (renL_cons_mk (v := .int .i64 b) (x := .int .i64 b) (by simp [ren]) (renL_cons_mk (v := .int .i64 c) (x := .int .i64 c) (by simp [ren]) (renL_cons_mk (v := .str x.data.toList) (x := .string x) (vs := []) (xs := []) (by simp [ren]) rfl)))))
      show (renL [] _).map (fun l => Value.agg l.toArray) = _
      simp only [List.cons_append, List.nil_append]
      rw [hall]
      rfl
end
end Am
