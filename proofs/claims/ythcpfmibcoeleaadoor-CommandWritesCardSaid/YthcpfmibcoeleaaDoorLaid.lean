/- What the listed variables of the library hold, read off a row's list; a world for the witness. -/
import Derived.Test.YthcpfmibcoeleaaDoorRows
import Derived.Test.YthcpfmibcoeleaaDoorTab
import Derived.Lib.LaidTab
import Derived.Lib.AppendIntMem
import Derived.Deep.DeepHandedRow
import Derived.Stop.LaidErr
import Derived.Lay
import Derived.Shelf.Vars
import Derived.MakeChecks
namespace Go.Proofs.YthcpfmibcoeleaaDoor.Laid
open Go.ChangeShapes Go.WideShapes Go.ChangeAt Go.RowKit
set_option maxRecDepth 100000
theorem own : ownKnob Tryd.prog.godebug = none := by kernel_rfl
abbrev list : List (String × DataW Unit) := Rows.commandReadsRow.laid
def zs0 : List Int := [0, 1, 28, 2, 29, 14, 24, 3, 30, 22, 20, 15, 25, 17, 4, 8, 31, 27, 13, 23, 21, 19, 16, 7, 26, 12, 18, 6, 11, 5, 10, 9]
theorem g0 : Tryd.prog.globalNamed "math/bits.deBruijn32tab" = some 4 := by kernel_rfl
theorem gt0 : (Tryd.prog.globals[4]?).map (·.type) = some 133 := by kernel_rfl
theorem ca0 : Tryd.prog.cellsOf 133 = 32 := by kernel_rfl
theorem ce0 : Tryd.prog.cellsOf 5 = 1 := by kernel_rfl
theorem tab0 {W : World} (h : laidMet Tryd.prog list W) : Lib.TabIs Tryd.prog W "math/bits.deBruijn32tab" .u8 zs0 :=
  Lib.tabIs_of_head g0 gt0 Tryd.underlying133 Tryd.underlying5 ce0 ca0 h
def zs1 : List Int := [0, 1, 56, 2, 57, 49, 28, 3, 61, 58, 42, 50, 38, 29, 17, 4, 62, 47, 59, 36, 45, 43, 51, 22, 53, 39, 33, 30, 24, 18, 12, 5, 63, 55, 48, 27, 60, 41, 37, 16, 46, 35, 44, 21, 52, 32, 23, 11, 54, 26, 40, 15, 34, 20, 31, 10, 25, 14, 19, 9, 13, 8, 7, 6]
theorem g1 : Tryd.prog.globalNamed "math/bits.deBruijn64tab" = some 5 := by kernel_rfl
theorem gt1 : (Tryd.prog.globals[5]?).map (·.type) = some 134 := by kernel_rfl
theorem ca1 : Tryd.prog.cellsOf 134 = 64 := by kernel_rfl
theorem ce1 : Tryd.prog.cellsOf 5 = 1 := by kernel_rfl
theorem tab1 {W : World} (h : laidMet Tryd.prog list W) : Lib.TabIs Tryd.prog W "math/bits.deBruijn64tab" .u8 zs1 :=
  Lib.tabIs_of_head g1 gt1 Tryd.underlying134 Tryd.underlying5 ce1 ca1 h.tail
def zs2 : List Int := [1, 10, 100, 1000, 10000, 100000, 1000000, 10000000, 100000000, 1000000000, 10000000000, 100000000000, 1000000000000, 10000000000000, 100000000000000, 1000000000000000, 10000000000000000, 100000000000000000, 1000000000000000000, 10000000000000000000]
theorem g2 : Tryd.prog.globalNamed "internal/strconv.uint64pow10" = some 1 := by kernel_rfl
theorem gt2 : (Tryd.prog.globals[1]?).map (·.type) = some 113 := by kernel_rfl
theorem ca2 : Tryd.prog.cellsOf 113 = 20 := by kernel_rfl
theorem ce2 : Tryd.prog.cellsOf 96 = 1 := by kernel_rfl
theorem tab2 {W : World} (h : laidMet Tryd.prog list W) : Lib.TabIs Tryd.prog W "internal/strconv.uint64pow10" .u64 zs2 :=
  Lib.tabIs_of_head g2 gt2 Tryd.underlying113 Tryd.underlying96 ce2 ca2 h.tail.tail
theorem cte : Tryd.prog.cellsOf 132 = 1 := by kernel_rfl
theorem cts : Tryd.prog.cellsOf 9 = 1 := by kernel_rfl
theorem star : "*" ++ "errors.errorString" = "*errors.errorString" := by decide
theorem rowP (u : TypeId) (h : Tryd.prog.typeName? 3 u = some "*errors.errorString") : u = 130 :=
  typeName_ptr_named (nm := "errors.errorString") (by rw [star]; kernel_rfl) (by kernel_rfl) (by decide) u (by rw [star]; exact h)
theorem ge0 : Tryd.prog.globalNamed "strconv.ErrRange" = some 3 := by kernel_rfl
theorem get0 : (Tryd.prog.globals[3]?).map (·.type) = some 76 := by kernel_rfl
theorem err0 {W : World} (h : laidMet Tryd.prog list W) : ∃ a : Addr, W.cell? ⟨3, 0, none⟩ = some (.iface 130 (.pointer (some a))) ∧ (W.cell? a).isSome = true := by
  obtain ⟨a, s, hv, hc, -, -⟩ := laid_sentinel h.tail.tail.tail.tail ge0 get0 Tryd.underlying76 rowP Tryd.underlying130 Tryd.underlying132 rfl rfl Tryd.underlying9 cte cts
  exact ⟨a, by have h0 := World.var?_cell ge0 hv 0; simpa using h0, by rw [hc]; rfl⟩
theorem ge1 : Tryd.prog.globalNamed "strconv.ErrSyntax" = some 2 := by kernel_rfl
theorem get1 : (Tryd.prog.globals[2]?).map (·.type) = some 76 := by kernel_rfl
theorem err1 {W : World} (h : laidMet Tryd.prog list W) : ∃ a : Addr, W.cell? ⟨2, 0, none⟩ = some (.iface 130 (.pointer (some a))) ∧ (W.cell? a).isSome = true := by
  obtain ⟨a, s, hv, hc, -, -⟩ := laid_sentinel h.tail.tail.tail.tail.tail ge1 get1 Tryd.underlying76 rowP Tryd.underlying130 Tryd.underlying132 rfl rfl Tryd.underlying9 cte cts
  exact ⟨a, by have h0 := World.var?_cell ge1 hv 0; simpa using h0, by rw [hc]; rfl⟩
theorem maxLen {W : World} (h : W.ShapedOpen Tryd.prog) : ∃ m, W.cell? ⟨0, 0, none⟩ = some (.int .i64 m) :=
  Go.Proofs.cell_of_shapedOpen_int (zero := #[.int .i64 0]) (t := 3) h (of_decide_eq_true (by kernel_rfl)) (by kernel_rfl) rfl (by kernel_rfl) (by kernel_rfl) Tryd.underlying3
theorem lt_of_cell {W : World} {b o : Nat} {v : Value} (h : W.cell? ⟨b, o, none⟩ = some v) : b < W.heap.size := by
  by_cases hs : b < W.heap.size
  · exact hs
  · have h0 : W.heap[b]? = none := Array.getElem?_eq_none (by omega)
    simp [World.cell?, h0] at h
theorem spot_none {W : World} {a : Addr} (h : (W.cell? a).isSome = true) : a = ⟨a.block, a.off, none⟩ := by
  obtain ⟨b, o, sp⟩ := a
  cases sp with
  | none => rfl
  | some x =>
    exfalso
    unfold World.cell? at h
    revert h
    cases W.heap[b]? with
    | none => simp
    | some ob => cases ob <;> simp
def roF (m : Int) (l0 o0 : Nat) (l1 o1 : Nat) : Nat → Nat → Option Am.AV := fun b o => match b with
  | 4 => (zs0[o]?).map fun z => Am.AV.int .u8 z
  | 5 => (zs1[o]?).map fun z => Am.AV.int .u8 z
  | 1 => (zs2[o]?).map fun z => Am.AV.int .u64 z
  | 3 => if o = 0 then some (.iface 130 (.ptr (.ro l0) o0)) else none
  | 2 => if o = 0 then some (.iface 130 (.ptr (.ro l1) o1)) else none
  | 0 => if o = 0 then some (.int .i64 m) else none
  | _ => none
def good (W : World) : Prop := Lib.TabIs Tryd.prog W "math/bits.deBruijn32tab" .u8 zs0 ∧ Lib.TabIs Tryd.prog W "math/bits.deBruijn64tab" .u8 zs1 ∧ Lib.TabIs Tryd.prog W "internal/strconv.uint64pow10" .u64 zs2 ∧ True
theorem good_up : ∀ a b : World, RowKit.Below a.heap.size a b → good a → good b := fun _ b h ⟨h0, h1, h2, _⟩ => ⟨Lib.tabBelow_of_tabIs h0 b h, Lib.tabBelow_of_tabIs h1 b h, Lib.tabBelow_of_tabIs h2 b h, trivial⟩
def ro (m : Int) (l0 o0 : Nat) (l1 o1 : Nat) : Am.Ro := { f := roF m l0 o0 l1 o1, good := good, up := good_up }
theorem ro_ok {W : World} (hL : laidMetH Tryd.prog list W) (hs : W.ShapedOpen Tryd.prog) : ∃ m l0 o0 l1 o1, Am.ROk (ro m l0 o0 l1 o1) W := by
  have h : laidMet Tryd.prog list W := by rw [← Go.MakeChecks.laidMetH_plain Tryd.prog list W (by kernel_rfl)]; exact hL
  obtain ⟨m, hm⟩ := maxLen hs
  obtain ⟨a0, he0, hc0⟩ := err0 h
  obtain ⟨a1, he1, hc1⟩ := err1 h
  refine ⟨m, a0.block, a0.off, a1.block, a1.off, fun b o v hv => ?_, tab0 h, tab1 h, tab2 h, trivial⟩
  change roF m a0.block a0.off a1.block a1.off b o = some v at hv
  unfold roF at hv
  split at hv
  · obtain ⟨z, hz, rfl⟩ := Option.map_eq_some_iff.1 hv
    obtain ⟨ho, hz'⟩ := List.getElem?_eq_some_iff.1 hz
    have hc := (tab0 h).cell g0 o ho
    have hg : zs0.getD o 0 = z := by rw [List.getD_eq_getElem?_getD, hz]; rfl
    rw [hg] at hc
    exact ⟨lt_of_cell hc, _, rfl, hc⟩
  · obtain ⟨z, hz, rfl⟩ := Option.map_eq_some_iff.1 hv
    obtain ⟨ho, hz'⟩ := List.getElem?_eq_some_iff.1 hz
    have hc := (tab1 h).cell g1 o ho
    have hg : zs1.getD o 0 = z := by rw [List.getD_eq_getElem?_getD, hz]; rfl
    rw [hg] at hc
    exact ⟨lt_of_cell hc, _, rfl, hc⟩
  · obtain ⟨z, hz, rfl⟩ := Option.map_eq_some_iff.1 hv
    obtain ⟨ho, hz'⟩ := List.getElem?_eq_some_iff.1 hz
    have hc := (tab2 h).cell g2 o ho
    have hg : zs2.getD o 0 = z := by rw [List.getD_eq_getElem?_getD, hz]; rfl
    rw [hg] at hc
    exact ⟨lt_of_cell hc, _, rfl, hc⟩
  · split at hv
    · rename_i ho
      subst ho
      cases hv
      refine ⟨lt_of_cell he0, _, rfl, ?_⟩
      rw [he0]
      exact congrArg (fun x => some (Value.iface 130 (.pointer (some x)))) (spot_none hc0)
    · cases hv
  · split at hv
    · rename_i ho
      subst ho
      cases hv
      refine ⟨lt_of_cell he1, _, rfl, ?_⟩
      rw [he1]
      exact congrArg (fun x => some (Value.iface 130 (.pointer (some x)))) (spot_none hc1)
    · cases hv
  · split at hv
    · rename_i ho
      subst ho
      cases hv
      exact ⟨lt_of_cell hm, _, rfl, hm⟩
    · cases hv
  · cases hv
/-- A world for the witness: the listed variables laid. -/
noncomputable def world (os : Os) : World := World.laidAll Tryd.prog os list
theorem met (os : Os) (args : Array Value) : laidMetH Tryd.prog list ((world os).forCall (fun _ _ => 0) ⟨#[], args, []⟩).memory := by
  rw [Go.MakeChecks.laidMetH_plain _ _ _ (by kernel_rfl)]
  exact laidMet_laidAll _ (by kernel_rfl) (by kernel_rfl)
end Go.Proofs.YthcpfmibcoeleaaDoor.Laid
