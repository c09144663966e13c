/- What the listed table of the library holds, read off a row's list; a world for the witness. -/
import Derived.Test.YtjncbipaikmogaaDoorRows
import Derived.Test.YtjncbipaikmogaaDoorTab
import Derived.Test.YtjncbipaikmogaaDoorAmArg
import Derived.Lib.LaidTab
import Derived.Deep.DeepHandedRow
namespace Go.Proofs.YtjncbipaikmogaaDoor.Laid
open Go.ChangeShapes Go.WideShapes Go.ChangeAt Go.RowKit
set_option maxRecDepth 100000
theorem own : ownKnob Tryd.prog.godebug = none := by kernel_rfl
def zs : List Int := [0, 1, 56, 2, 57, 49, 28, 3, 61, 58, 42, 50, 38, 29, 17, 4, 62, 47, 59, 36, 45, 43, 51, 22, 53, 39, 33, 30, 24, 18, 12, 5, 63, 55, 48, 27, 60, 41, 37, 16, 46, 35, 44, 21, 52, 32, 23, 11, 54, 26, 40, 15, 34, 20, 31, 10, 25, 14, 19, 9, 13, 8, 7, 6]
theorem gTab : Tryd.prog.globalNamed "math/bits.deBruijn64tab" = some 0 := by kernel_rfl
theorem gTabType : (Tryd.prog.globals[0]?).map (·.type) = some 122 := by kernel_rfl
theorem cellsA : Tryd.prog.cellsOf 122 = 64 := by kernel_rfl
theorem cellsE : Tryd.prog.cellsOf 5 = 1 := by kernel_rfl
theorem table {W : World} (h : laidMetH Tryd.prog [("math/bits.deBruijn64tab", Rows.laid_math_bits_deBruijn64tab)] W) : Lib.TabIs Tryd.prog W "math/bits.deBruijn64tab" .u8 zs :=
  Lib.tabIs_of_head (rest := []) gTab gTabType Tryd.underlying122 Tryd.underlying5 cellsE cellsA h
def roF : Nat → Nat → Option Am.AV := fun b o => if b = 0 then (zs[o]?).map (fun z => Am.AV.int .u8 z) else none
def ro : Am.Ro := { f := roF }
theorem ro_ok {W : World} (h : laidMetH Tryd.prog [("math/bits.deBruijn64tab", Rows.laid_math_bits_deBruijn64tab)] W) : Am.ROk ro W := by
  refine ⟨fun b o v hv => ?_, trivial⟩
  change roF b o = some v at hv
  unfold roF at hv
  split at hv
  · rename_i hb
    subst hb
    obtain ⟨z, hz, rfl⟩ := Option.map_eq_some_iff.1 hv
    obtain ⟨ho, hz'⟩ := List.getElem?_eq_some_iff.1 hz
    have hc := (table h).cell gTab o ho
    have hg : zs.getD o 0 = z := by rw [List.getD_eq_getElem?_getD, hz]; rfl
    refine ⟨?_, _, rfl, by first | (rw [hc, hg]) | (rw [hc, hz']) | (simpa [hz, hz'] using hc)⟩
    by_cases hs : 0 < W.heap.size
    · exact hs
    · have h0 : W.heap[0]? = none := Array.getElem?_eq_none (by omega)
      simp [World.cell?, h0] at hc
  · cases hv
theorem ro_le {W : World} (h : Am.ROk ro W) : ∀ b o v, ro b o = some v → Am.roW W b o = some v := by
  intro b o v hv
  change roF b o = some v at hv
  obtain ⟨_, x, hx, hc⟩ := h b o v hv
  unfold roF at hv
  split at hv
  · obtain ⟨z, _, rfl⟩ := Option.map_eq_some_iff.1 hv
    simp only [Am.ren, Option.some.injEq] at hx
    subst hx
    simp [Am.roW, hc, Am.absV]
  · cases hv
/-- A world for the witness: the settled one, the table holding what its initialiser lays. -/
noncomputable def world (os : Os) : World :=
  { World.holding Tryd.prog os ⟨#[], #[], []⟩ with heap := (World.holding Tryd.prog os ⟨#[], #[], []⟩).heap.modify 0 fun
      | .cells _ t frozen => .cells (zs.map fun z => Value.int .u8 z).toArray t frozen
      | o => o }
theorem met (os : Os) (args : Array Value) : laidMet Tryd.prog [("math/bits.deBruijn64tab", Rows.laid_math_bits_deBruijn64tab)] ((world os).forCall (fun _ _ => 0) ⟨#[], args, []⟩).memory :=
  laidMet_of_run' 8 (by kernel_rfl) (by kernel_rfl)
end Go.Proofs.YtjncbipaikmogaaDoor.Laid
