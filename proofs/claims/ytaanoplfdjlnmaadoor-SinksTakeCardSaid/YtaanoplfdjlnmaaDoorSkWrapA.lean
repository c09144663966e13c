/- What SinksApart computes, as the cards ask for it. -/
import Derived.Test.YtaanoplfdjlnmaaDoorSkLawA
import Derived.Test.YtaanoplfdjlnmaaDoorNobody
namespace Go.Proofs.YtaanoplfdjlnmaaDoor.Sk
open Go Go.RowKit Am Latt
set_option maxRecDepth 100000
set_option linter.unusedSimpArgs false
set_option linter.unusedVariables false
variable {R : Ro}
theorem hasTab : HasTab Laid.ro := by
  have h : ∀ j : Fin 64, Laid.zs[j.val]? = some ((Lib.deBruijn64tab.getD j.val 0 : Nat) : Int) := by decide
  intro j hj
  have := h ⟨j, hj⟩
  unfold Laid.ro
  rw [if_pos rfl, this]
  rfl
theorem tab_of (hle : ∀ b o v, Laid.ro b o = some v → R b o = some v) : HasTab R := fun j hj => hle _ _ _ (hasTab j hj)
theorem wakes_of (hle : ∀ b o v, Laid.ro b o = some v → R b o = some v) (H : AH) : ACalls Tryd.prog R 9 [] H fun v H' => H' = H ∧ v = .bool true := ACalls.ro hle (Nobody.wakes H)
theorem apart_all (hle : ∀ b o v, Laid.ro b o = some v → R b o = some v) (r : Int) (_ : (Lit.int .i64 r).wf = true) (s : Int) (_ : (Lit.int .i64 s).wf = true) (a : AV) (L : List (List AV)) (hs : Sl R 2 a L) (hw : ∀ x ∈ L, Shape [.int .i64, .int .i64] x)
    (c : AV) (M : List (List AV)) (hc : Sl R 3 c M) (hm : ∀ x ∈ M, Shape [.int .i64, .int .i64, .str] x) (x : Int) (_ : (Lit.int .i64 x).wf = true) :
    ACalls Tryd.prog R 5 [.int .i64 r, .int .i64 s, a, c, .int .i64 x] [] fun v _ => v = .bool true := by
  obtain ⟨P, rfl⟩ := pairs_of hw
  obtain ⟨A, rfl⟩ := acts_of hm
  exact apart (tab_of hle) (wakes_of hle) hs hc
end Go.Proofs.YtaanoplfdjlnmaaDoor.Sk
