/- A tree's panes, as a row of cells. -/
import Derived.Test.YtbcfhiohdamcjaaTrLeaf
namespace Go.Proofs.Ytbcfhiohdamcjaa.Tr
open Go Go.RowKit Am
set_option maxRecDepth 100000
set_option maxHeartbeats 1000000
set_option linter.unusedSimpArgs false
set_option linter.unusedVariables false
attribute [-simp] Am.binEv Am.intBin Am.read1
attribute [local simp] binEv_lss binEv_leq binEv_gtr binEv_geq binEv_eql binEv_neq binEv_add binEv_sub binEv_mul read1_ro read1_mu
variable {R : Ro}
def paV : List ND → List AV
  | [] => []
  | x :: l => x.pane ++ paV l
theorem paV_len : ∀ l, (paV l).length = l.length * 3
  | [] => rfl
  | x :: l => by simp [paV, ND.pane, paV_len l]; omega
theorem paV_app (x : ND) : ∀ l, paV (l ++ [x]) = paV l ++ x.pane
  | [] => by simp [paV]
  | y :: l => by simp [paV, paV_app x l]
theorem renL_app_some {A B : List AV} (ha : (renL [] A).isSome = true) (hb : (renL [] B).isSome = true) : (renL [] (A ++ B)).isSome = true := by
  obtain ⟨a, ha⟩ := Option.isSome_iff_exists.1 ha
  obtain ⟨b, hb⟩ := Option.isSome_iff_exists.1 hb
  rw [renL_append ha hb]; rfl
theorem paV_ren : ∀ l, (renL [] (paV l)).isSome = true
  | [] => rfl
  | x :: l => renL_app_some (by simp [ND.pane, renL, ren]) (paV_ren l)
theorem take_succ {α : Type} {l : List α} {k : Nat} {x : α} (h : l[k]? = some x) : l.take (k + 1) = l.take k ++ [x] := by rw [List.take_add_one, h, Option.toList_some]
end Go.Proofs.Ytbcfhiohdamcjaa.Tr
