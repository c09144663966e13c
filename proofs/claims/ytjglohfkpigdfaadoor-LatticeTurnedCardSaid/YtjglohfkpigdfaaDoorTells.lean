/- Which tables make a lattice, and what is below what, joins and meets: what the law's code computes. -/
import Derived.Test.YtjglohfkpigdfaaDoorKnown
import Derived.Test.YtjglohfkpigdfaaDoorLatTells
import Derived.Test.YtjglohfkpigdfaaDoorLatGrid
namespace Go.Proofs.YtjglohfkpigdfaaDoor.Tells
open Go Go.RowKit Am Latt
set_option maxRecDepth 100000
set_option linter.unusedSimpArgs false
set_option linter.unusedVariables false
attribute [-simp] Am.binEv Am.intBin Am.read1
attribute [local simp] binEv_lss binEv_leq binEv_gtr binEv_geq binEv_eql binEv_neq binEv_add binEv_sub binEv_mul binEv_shr58 read1_ro read1_mu
variable {R : Ro}
theorem wide_ok {H : AH} {tv : AV} {T : List (List Bool)} (ht : TabIn R H tv T) : ACalls Tryd.prog R 17 [tv] H fun v H' => H' = H ∧ ∃ b, v = .bool b ∧ (b = false → T.length ≤ 100) := by
  refine ACalls.of_wpE Fns.ok17 (by simp [Fns.a17]) ?_
  rcases ht.lenEv with ⟨rfl, h0⟩ | ⟨l, off, cap, rfl⟩
  · simp [Fns.a17]
    refine AWp.loop_once (wpE_sound _ ?_)
    simp
    omega
  simp [Fns.a17]
  refine AWp.loop (fun e H' => H' = H ∧ e 0 = .slice l off T.length cap ∧ ∃ x : Nat, e 3 = .int .i64 x ∧ x ≤ T.length ∧ x ≤ 101)
    (fun e _ => match e 3 with | .int _ i => ((T.length : Int) - i).toNat | _ => 0) ⟨rfl, by simp, 0, by simp, by omega, by omega⟩ ?_
  rintro e H' ⟨rfl, h0, x, h3, hx, hx2⟩
  refine wpE_sound _ ?_
  by_cases hxl : x < T.length
  · have hxl' : (x : Int) < (T.length : Int) := by omega
    by_cases hx3 : x ≤ 100
    · have hx3' : (x : Int) ≤ 100 := by omega
      have hw1 : IntKind.i64.wrap ((x : Int) + 1) = (x : Int) + 1 := i64_small _ (by omega) (by omega)
      have hri : T[x]? = some T[x] := List.getElem?_eq_getElem hxl
      rcases ht.row hri with ⟨L, o, c, hrd, _⟩ | ⟨hn, hrd | ⟨A, c, hrd⟩⟩
      · by_cases hl : 100 < T[x].length
        · have hl' : (100 : Int) < (T[x].length : Int) := by omega
          simp [h0, h3, hxl, hxl', hx3, hx3', hrd, hl, hl']
        · have hl' : ¬ (100 : Int) < (T[x].length : Int) := by omega
          simp [h0, h3, hxl, hxl', hx3, hx3', hrd, hl, hl', hw1]
          exact ⟨⟨x + 1, by simp, by omega, by omega⟩, by omega⟩
      · simp [h0, h3, hxl, hxl', hx3, hx3', hrd, hw1]
        exact ⟨⟨x + 1, by simp, by omega, by omega⟩, by omega⟩
      · simp [h0, h3, hxl, hxl', hx3, hx3', hrd, hw1]
        exact ⟨⟨x + 1, by simp, by omega, by omega⟩, by omega⟩
    · have hx3' : ¬ (x : Int) ≤ 100 := by omega
      have hl : (100 : Int) < (T.length : Int) := by omega
      have hl' : 100 < T.length := by omega
      simp [h0, h3, hxl, hxl', hx3, hx3', hl, hl']
  · obtain rfl : x = T.length := by omega
    have hl : ¬ (101 : Int) < (T.length : Int) := by omega
    by_cases h4 : 100 < T.length
    · have h4' : (100 : Int) < (T.length : Int) := by omega
      simp [h0, h3, h4, h4']
    · have h4' : ¬ (100 : Int) < (T.length : Int) := by omega
      simp [h0, h3, h4, h4']
      omega
theorem tab_of (hle : ∀ b o v, Laid.ro b o = some v → R b o = some v) : HasTab R := fun j hj => hle _ _ _ (Known.hasTab j hj)
theorem tells (hle : ∀ b o v, Laid.ro b o = some v → R b o = some v) (tv : AV) (T : List (List Bool)) (hg : Grid R tv T) (a : Int) (_ : (Lit.int .i64 a).wf = true) (b : Int) (_ : (Lit.int .i64 b).wf = true) : ACalls Tryd.prog R 4 [tv, .int .i64 a, .int .i64 b] [] fun v _ => v = .bool true := by
  have hT := tab_of hle
  refine ACalls.of_wpE Fns.ok4 (by simp [Fns.a4]) ?_
  simp [Fns.a4]
  refine (ACalls.ro hle (Nobody.awake _)).mono ?_
  rintro v H' ⟨rfl, rfl⟩
  simp
  refine (wide_ok (grid_tab hg _)).mono ?_
  rintro v H' ⟨rfl, w, rfl, hw⟩
  cases w with
  | true => simp
  | false =>
    simp
    refine (new_ok hT _ tv T (grid_tab hg _) (grid_len hg)).mono ?_
    rintro v H1 ⟨k1, ⟨g, l, p, q, rfl, hin, _, _, _⟩ | ⟨ng, rfl⟩⟩
    · have S := hin.st
      have ha : ansT T = 0 := by unfold ansT; rw [if_pos g]
      simp
      refine (rnew_ok (grid_tab hg _)).mono ?_
      rintro v H2 ⟨rfl, rfl⟩
      simp [ha, eqEv]
      refine (tells_ok hT g S (grid_tab hg _) a b).mono ?_
      rintro v H3 rfl
      simp
    · have ha : ansT T = errT T := by unfold ansT; rw [if_neg ng]
      have hne := errT_ne T
      simp
      refine (rnew_ok (grid_tab hg _)).mono ?_
      rintro v H2 ⟨rfl, rfl⟩
      simp [ha, hne, eqEv]
end Go.Proofs.YtjglohfkpigdfaaDoor.Tells
