/- Arguments: a pane, acts. -/
import Derived.Test.YtbcfhiohdamcjaaTrActC
namespace Go.Proofs.Ytbcfhiohdamcjaa.Tr
open Go Go.RowKit Am
set_option linter.unusedSimpArgs false
set_option linter.unusedVariables false
variable {R : Ro}
theorem pa_of {vs : List AV} (h : Shape [.int .i64, .int .i64, .int .i64] vs) : ∃ p : PA, vs = p.cells := by
  obtain ⟨v0, r0, rfl, ⟨a, rfl, _⟩, v1, r1, rfl, ⟨b, rfl, _⟩, v2, r2, rfl, ⟨c, rfl, _⟩, rfl⟩ := h
  exact ⟨⟨a, b, c⟩, rfl⟩
theorem act_of {vs : List AV} (h : Shape [.int .i64, .int .i64, .int .i64, .int .i64, .int .i64, .int .i64, .int .i64, .int .i64, .int .i64] vs) : ∃ a : TA, vs = a.cells := by
  obtain ⟨v0, r0, rfl, ⟨d, rfl, _⟩, v1, r1, rfl, ⟨p1, rfl, _⟩, v2, r2, rfl, ⟨p2, rfl, _⟩, v3, r3, rfl, ⟨p3, rfl, _⟩, v4, r4, rfl, ⟨q1, rfl, _⟩, v5, r5, rfl, ⟨q2, rfl, _⟩, v6, r6, rfl, ⟨q3, rfl, _⟩, v7, r7, rfl, ⟨m, rfl, _⟩, v8, r8, rfl, ⟨n, rfl, _⟩, rfl⟩ := h
  exact ⟨⟨d, ⟨p1, p2, p3⟩, ⟨q1, q2, q3⟩, m, n⟩, rfl⟩
theorem acts_of : ∀ {L : List (List AV)}, (∀ x ∈ L, Shape [.int .i64, .int .i64, .int .i64, .int .i64, .int .i64, .int .i64, .int .i64, .int .i64, .int .i64] x) → ∃ A : List TA, L = A.map TA.cells
  | [], _ => ⟨[], rfl⟩
  | x :: L, h => by
    obtain ⟨a, rfl⟩ := act_of (h x (List.mem_cons_self ..))
    obtain ⟨A, rfl⟩ := acts_of fun y hy => h y (List.mem_cons_of_mem _ hy)
    exact ⟨a :: A, rfl⟩
end Go.Proofs.Ytbcfhiohdamcjaa.Tr
