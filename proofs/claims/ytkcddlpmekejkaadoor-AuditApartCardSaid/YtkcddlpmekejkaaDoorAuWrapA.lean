/- What AuditApart computes, as the card asks for it. -/
import Derived.Test.YtkcddlpmekejkaaDoorAuLawA
import Derived.Test.YtkcddlpmekejkaaDoorNobody
namespace Go.Proofs.YtkcddlpmekejkaaDoor.Au
open Go Go.RowKit Am Latt
set_option maxRecDepth 100000
set_option linter.unusedSimpArgs false
set_option linter.unusedVariables false
variable {R : Ro}
theorem hasTab : HasTab Laid.ro := by
  have h : ∀ j : Fin 64, Laid.zs[j.val]? = some ((Lib.deBruijn64tab.getD j.val 0 : Nat) : Int) := by decide
  intro j hj
  have := h ⟨j, hj⟩
  unfold Laid.ro
  rw [if_pos rfl, this]
  rfl
theorem tab_of (hle : ∀ b o v, Laid.ro b o = some v → R b o = some v) : HasTab R := fun j hj => hle _ _ _ (hasTab j hj)
theorem awake_of (hle : ∀ b o v, Laid.ro b o = some v → R b o = some v) (H : AH) : ACalls Tryd.prog R 7 [] H fun v H' => H' = H ∧ v = .bool true := ACalls.ro hle (Nobody.awake H)
theorem u8_of {r : Int} (w : (Lit.int .u8 r).wf = true) : ∃ n : Nat, r = n ∧ n < 256 := by
  have h1 : IntKind.u8.min ≤ r ∧ r ≤ IntKind.u8.max := by simpa [Lit.wf] using w
  have h2 : IntKind.u8.min = 0 := by decide
  have h3 : IntKind.u8.max = 255 := by decide
  rw [h2, h3] at h1
  exact ⟨r.toNat, by omega, by omega⟩
theorem apart_all (hle : ∀ b o v, Laid.ro b o = some v → R b o = some v) (r : Int) (wr : (Lit.int .u8 r).wf = true) (s : Int) (ws : (Lit.int .u8 s).wf = true) (a : AV) (L : List (List AV)) (hs : Sl R 4 a L) (hw : ∀ x ∈ L, Shape [.int .i64, .int .i64, .int .i64, .str] x)
    (x : Int) (_ : (Lit.int .i64 x).wf = true) :
    ACalls Tryd.prog R 5 [.int .u8 r, .int .u8 s, a, .int .i64 x] [] fun v _ => v = .bool true := by
  obtain ⟨E, rfl⟩ := ents_of hw
  obtain ⟨rn, rfl, hr⟩ := u8_of wr
  obtain ⟨sn, rfl, hs'⟩ := u8_of ws
  exact apart (tab_of hle) (awake_of hle) hr hs' hs
end Go.Proofs.YtkcddlpmekejkaaDoor.Au
