/- What CommandBack computes, as the card asks for it. -/
import Derived.Test.YthcpfmibcoeleaaDoorCmLc
import Derived.Test.YthcpfmibcoeleaaDoorCmBack
import Derived.Test.YthcpfmibcoeleaaDoorAmCmd
namespace Go.Proofs.YthcpfmibcoeleaaDoor.CmReach
open Go Go.RowKit Am
set_option linter.unusedSimpArgs false
set_option linter.unusedVariables false
variable {w : World} {m : Int} {l0 o0 l1 o1 : Nat}
theorem i64_wf {z : Int} (h : (Lit.int .i64 z).wf = true) : -9223372036854775808 ≤ z ∧ z ≤ 9223372036854775807 := by
  have h1 : (IntKind.i64.min : Int) = -9223372036854775808 := by decide
  have h2 : (IntKind.i64.max : Int) = 9223372036854775807 := by decide
  simp [Lit.wf, h1, h2] at h
  omega
/-- A command that came in. -/
theorem cmd_of {R : Ro} {s : List UInt8} {nv : AV} {L : List (List AV)} {u : List AV} {x : List UInt8} (sl : Sl R 1 nv L) (ll : ∀ y ∈ L, Shape [.int .i64] y) (sh : Shape [.int .i64, .int .i64, .int .i64] u) :
    ∃ c : Cm.Cmd, (.agg (.str s :: nv :: (u ++ [.str x])) : AV) = .agg (Cm.cellsC c nv) ∧ Cm.RdS R [] nv c.nums ∧ ∀ n ∈ c.nums, -9223372036854775808 ≤ n ∧ n ≤ 9223372036854775807 := by
  obtain ⟨u0, r0, rfl, ⟨a, rfl, _⟩, u1, r1, rfl, ⟨b, rfl, _⟩, u2, r2, rfl, ⟨d, rfl, _⟩, h3⟩ := sh
  have h4 : r2 = [] := h3
  subst h4
  obtain ⟨N, hN⟩ : ∃ N : List { z : Int // (Lit.int .i64 z).wf = true }, L = N.map fun z => [.int .i64 z.1] := typed fun y hy => by
    obtain ⟨v, r, e, ⟨z, rfl, hz⟩, h⟩ := ll y hy
    have : r = [] := h
    subst this
    exact ⟨⟨z, hz⟩, e⟩
  refine ⟨⟨s, N.map (·.1), (a, b, d), x⟩, rfl, ?_, fun n hn => ?_⟩
  · rcases sl with ⟨rfl, hL⟩ | ⟨bk, off, cap, rfl, h1, _, h2⟩
    · refine .inl ⟨rfl, ?_⟩
      rw [hL] at hN
      have : N = [] := by
        cases N with
        | nil => rfl
        | cons y ys => cases hN
      rw [this]
      rfl
    · refine .inr (.inl ⟨.ro bk, off, cap, by rw [hN]; simp, by rw [hN] at h1; simpa using h1, fun i z hz => ?_⟩)
      show R bk (off + i) = _
      have hz' : (N.map (·.1))[i]? = some z := hz
      rw [List.getElem?_map] at hz'
      obtain ⟨y, hy, rfl⟩ := Option.map_eq_some_iff.1 hz'
      have := (h2 i [.int .i64 y.1] (by rw [hN, List.getElem?_map, hy]; rfl)).2 0 _ rfl
      simpa using this
  · obtain ⟨y, _, rfl⟩ := List.mem_map.1 hn
    exact i64_wf y.2
theorem back_all (hR : ROk (Laid.ro m l0 o0 l1 o1) w) (s : List UInt8) (nv : AV) (L : List (List AV)) (u : List AV) (x : List UInt8) (sl : Sl (roW w) 1 nv L) (ll : ∀ y ∈ L, Shape [.int .i64] y) (sh : Shape [.int .i64, .int .i64, .int .i64] u)
    (a : List UInt8) (_ : a.length ≤ 140737488351232) : ACalls Tryd.prog (roW w) 5 [.agg (.str s :: nv :: (u ++ [.str x])), .str a] [] fun v _ => v = .bool true := by
  obtain ⟨c, e, hr, hb⟩ := cmd_of (s := s) (x := x) sl ll sh
  rw [e]
  exact Cm.law_back (lc hR) (wakes hR) hr hb a
end Go.Proofs.YthcpfmibcoeleaaDoor.CmReach
