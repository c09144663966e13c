/- What BuffersApart computes, as the cards ask for it. -/
import Derived.Test.YtjncbipaikmogaaDoorBfLawA
namespace Go.Proofs.YtjncbipaikmogaaDoor.Bf
open Go Go.RowKit Am Latt
set_option maxRecDepth 100000
set_option linter.unusedSimpArgs false
set_option linter.unusedVariables false
variable {R : Ro}
theorem hasTab : HasTab Laid.ro := by
  have h : ∀ j : Fin 64, Laid.zs[j.val]? = some ((Lib.deBruijn64tab.getD j.val 0 : Nat) : Int) := by decide
  intro j hj
  have := h ⟨j, hj⟩
  unfold Laid.ro Laid.roF
  dsimp only
  rw [if_pos rfl, this]
  rfl
theorem tab_of (hle : ∀ b o v, Laid.ro b o = some v → R b o = some v) : HasTab R := fun j hj => hle _ _ _ (hasTab j hj)
theorem wakes_of (hle : ∀ b o v, Laid.ro b o = some v → R b o = some v) (H : AH) : ACalls Tryd.prog R 6 [] H fun v H' => H' = H ∧ v = .bool true := ACalls.ro hle (Fns.awake H)
theorem u8_of {a : Int} (h : (Lit.int .u8 a).wf = true) : 0 ≤ a ∧ a ≤ 255 := by
  simp [Lit.wf, IntKind.min, IntKind.max, IntKind.bits, IntKind.signed] at h
  omega
theorem apart_all (hle : ∀ b o v, Laid.ro b o = some v → R b o = some v) (r : Int) (wr : (Lit.int .u8 r).wf = true) (s : Int) (ws : (Lit.int .u8 s).wf = true)
    (c : AV) (M : List (List AV)) (hc : Sl R 4 c M) (hm : ∀ x ∈ M, Shape [.int .i64, .int .i64, .int .i64, .str] x) (x : Int) (_ : (Lit.int .i64 x).wf = true) :
    ACalls Tryd.prog R 4 [.int .u8 r, .int .u8 s, c, .int .i64 x] [] fun v _ => v = .bool true := by
  obtain ⟨A, rfl⟩ := acts_of hm
  exact apart (tab_of hle) (wakes_of hle) (u8_of wr) (u8_of ws) hc
end Go.Proofs.YtjncbipaikmogaaDoor.Bf
