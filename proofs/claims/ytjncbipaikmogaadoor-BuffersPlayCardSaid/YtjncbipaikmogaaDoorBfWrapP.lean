/- What BuffersPlay computes, as the card asks for it. -/
import Derived.Test.YtjncbipaikmogaaDoorBfLawP
import Derived.Test.YtjncbipaikmogaaDoorBfHave
namespace Go.Proofs.YtjncbipaikmogaaDoor.Bf
open Go Go.RowKit Am Latt
set_option maxRecDepth 100000
set_option linter.unusedSimpArgs false
set_option linter.unusedVariables false
variable {R : Ro}
theorem plays_all (hle : ∀ b o v, Laid.ro b o = some v → R b o = some v) (tv : AV) (T : List (List Bool)) (hg : Grid R tv T) (c : AV) (M : List (List AV)) (hc : Sl R 4 c M) (hm : ∀ x ∈ M, Shape [.int .i64, .int .i64, .int .i64, .str] x) :
    ACalls Tryd.prog R 3 [tv, c] [] fun v _ => v = .bool true := by
  obtain ⟨A, rfl⟩ := acts_of hm
  exact plays (tab_of hle) (wakes_of hle) hg hc
end Go.Proofs.YtjncbipaikmogaaDoor.Bf
