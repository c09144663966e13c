/- Slices that came in, element by element. -/
import Derived.Test.YtbcfhiohdamcjaaAmSym
import Derived.Test.YtbcfhiohdamcjaaAmArg
import Derived.Deep.Slices
set_option linter.unusedSimpArgs false
set_option linter.unusedVariables false
set_option linter.unusedSectionVars false
set_option linter.unnecessarySimpa false
namespace Am
open Go Go.RowKit
/-- A slice of elements of 'w' cells each. -/
def Sl (R : Ro) (w : Nat) (a : AV) (L : List (List AV)) : Prop := (a = .nilslice ∧ L = []) ∨ ∃ b off cap, a = .slice (.ro b) off L.length (.known cap) ∧ L.length ≤ cap ∧ cap ≤ maxLen ∧
  ∀ (i : Nat) x, L[i]? = some x → x.length = w ∧ ∀ (j : Nat) v, x[j]? = some v → R b (off + i * w + j) = some v
theorem Sl.len_le {R : Ro} {w : Nat} {a : AV} {L : List (List AV)} (h : Sl R w a L) : L.length ≤ maxLen := by
  rcases h with ⟨_, rfl⟩ | ⟨_, _, _, _, h1, h2, _⟩
  · exact Nat.zero_le _
  · exact Nat.le_trans h1 h2
/-- Its element's address, and what is read behind it. -/
theorem Sl.at {R : Ro} {w : Nat} {a : AV} {L : List (List AV)} (h : Sl R w a L) {i : Nat} (hi : i < L.length) : ∃ b off cap, a = .slice (.ro b) off L.length (.known cap) ∧ ∀ (j : Nat) v, L[i][j]? = some v → R b (off + i * w + j) = some v := by
  rcases h with ⟨_, rfl⟩ | ⟨b, off, cap, rfl, _, _, h3⟩
  · cases hi
  · exact ⟨b, off, cap, rfl, (h3 i _ (List.getElem?_eq_getElem hi)).2⟩
theorem Sl.lenEv {R : Ro} {w : Nat} {a : AV} {L : List (List AV)} (h : Sl R w a L) (P : Program) (R' : Ro) (e : Env) (H : AH) (t : Nat) (ht : e t = a) : (AOp.lenL (.t t)).eval P R' e H = some (.int .i64 L.length, H) := by
  rcases h with ⟨rfl, rfl⟩ | ⟨b, off, cap, rfl, _⟩
  · simp [AOp.eval, ht]
  · simp [AOp.eval, ht]
end Am
