/- What AuditPlays computes, as the card asks for it. -/
import Derived.Test.YtkcddlpmekejkaaDoorAuLawP
import Derived.Test.YtkcddlpmekejkaaDoorAuHave
namespace Go.Proofs.YtkcddlpmekejkaaDoor.Au
open Go Go.RowKit Am Latt
set_option maxRecDepth 100000
set_option linter.unusedSimpArgs false
set_option linter.unusedVariables false
variable {R : Ro}
theorem plays_all (hle : ∀ b o v, Laid.ro b o = some v → R b o = some v) (tv : AV) (T : List (List Bool)) (hg : Grid R tv T) (a : AV) (L : List (List AV)) (hs : Sl R 4 a L) (hw : ∀ x ∈ L, Shape [.int .i64, .int .i64, .int .i64, .str] x)
    (x : Int) (_ : (Lit.int .i64 x).wf = true) :
    ACalls Tryd.prog R 3 [tv, a, .int .i64 x] [] fun v _ => v = .bool true := by
  obtain ⟨E, rfl⟩ := ents_of hw
  exact plays (tab_of hle) (awake_of hle) hg hs
end Go.Proofs.YtkcddlpmekejkaaDoor.Au
