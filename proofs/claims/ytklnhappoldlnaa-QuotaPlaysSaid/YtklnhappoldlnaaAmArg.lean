/- What came in: the world's own cells as abstract values. -/
import Derived.Test.YtklnhappoldlnaaAmFrame
set_option linter.unusedSimpArgs false
set_option linter.unusedVariables false
set_option linter.unusedSectionVars false
set_option linter.unnecessarySimpa false
namespace Am
open Go Go.RowKit
mutual
def absV : Value → Option AV
  | .bool b => some (.bool b)
  | .int k n => some (.int k n)
  | .string s => some (.str s.data.toList)
  | .pointer none => some .nilptr
  | .pointer (some ⟨b, o, none⟩) => some (.ptr (.ro b) o)
  | .slice none 0 0 => some .nilslice
  | .slice (some ⟨b, o, none⟩) n c => some (.slice (.ro b) o n (.known c))
  | .map none => some .nilmap
  | .nilFunc => some .nilfn
  | .nilIface => some .niface
  | .agg ⟨cs⟩ => (absVL cs).map .agg
  | _ => none
def absVL : List Value → Option (List AV)
  | [] => some []
  | v :: vs => match absV v, absVL vs with
    | some a, some as => some (a :: as)
    | _, _ => none
end
mutual
theorem absV_ren : ∀ {v : Value} {a : AV}, absV v = some a → ren [] a = some v
  | .bool b, a, h => by simp [absV] at h; subst h; rfl
  | .int k n, a, h => by simp [absV] at h; subst h; rfl
  | .string s, a, h => by simp [absV] at h; subst h; rfl
  | .pointer none, a, h => by simp [absV] at h; subst h; rfl
  | .pointer (some ⟨b, o, none⟩), a, h => by simp [absV] at h; subst h; rfl
  | .pointer (some ⟨b, o, some s⟩), a, h => by simp [absV] at h
  | .slice none 0 0, a, h => by simp [absV] at h; subst h; rfl
  | .slice none 0 (c + 1), a, h => by simp [absV] at h
  | .slice none (n + 1) c, a, h => by simp [absV] at h
  | .slice (some ⟨b, o, none⟩) n c, a, h => by simp [absV] at h; subst h; rfl
  | .slice (some ⟨b, o, some s⟩) n c, a, h => by simp [absV] at h
  | .map none, a, h => by simp [absV] at h; subst h; rfl
  | .map (some b), a, h => by simp [absV] at h
  | .nilFunc, a, h => by simp [absV] at h; subst h; rfl
  | .nilIface, a, h => by simp [absV] at h; subst h; rfl
  | .agg ⟨cs⟩, a, h => by
    simp only [absV, Option.map_eq_some_iff] at h
    obtain ⟨as, h1, rfl⟩ := h
    simp only [ren, absVL_ren h1, Option.map_some]
  | .float .., a, h => by simp [absV] at h
  | .iface .., a, h => by simp [absV] at h
  | .func .., a, h => by simp [absV] at h
  | .tuple .., a, h => by simp [absV] at h
  | .chan .., a, h => by simp [absV] at h
theorem absVL_ren : ∀ {vs : List Value} {as : List AV}, absVL vs = some as → renL [] as = some vs
  | [], as, h => by simp [absVL] at h; subst h; rfl
  | v :: vs, as, h => by
    simp only [absVL] at h
    split at h
    · rename_i a as' h1 h2
      cases h
      exact renL_cons_mk (absV_ren h1) (absVL_ren h2)
    · cases h
end
/-- All that can be read of a world's cells. -/
def roW (W : World) : Ro := fun b o => (W.cell? ⟨b, o, none⟩).bind absV
theorem roW_ok (W : World) : ROk (roW W) W := fun b o v h => by
  obtain ⟨x, h1, h2⟩ := Option.bind_eq_some_iff.1 h
  refine ⟨?_, x, absV_ren h2, h1⟩
  by_cases hs : b < W.heap.size
  · exact hs
  · have h0 : W.heap[b]? = none := Array.getElem?_eq_none (by omega)
    simp [World.cell?, h0] at h1
theorem ACalls.ro {P : Program} {R R' : Ro} {f : FuncId} {args : List AV} {H : AH} {K : AV → AH → Prop} (hR : ∀ b o v, R b o = some v → R' b o = some v) (h : ACalls P R f args H K) : ACalls P R' f args H K :=
  fun base hb => h base fun b o v hv => hb b o v (hR b o v hv)
end Am
