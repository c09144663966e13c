/- A tree, laid into a rectangle. -/
import Derived.Test.YtbcfhiohdamcjaaGeLay
namespace Go.Proofs.Ytbcfhiohdamcjaa.Ge
open Go Go.RowKit Am Tr
set_option maxRecDepth 100000
set_option maxHeartbeats 4000000
set_option linter.unusedSimpArgs false
set_option linter.unusedVariables false
attribute [-simp] Am.binEv Am.intBin Am.read1 Am.readN
attribute [local simp] binEv_lss binEv_leq binEv_gtr binEv_geq binEv_eql binEv_neq binEv_add binEv_sub binEv_mul read1_ro read1_mu
variable {R : Ro}
open PT
theorem ZOk.of_may {z : RE} (h : z.may = true) : ZOk z := by
  unfold RE.may at h
  obtain ⟨⟨a1, a2⟩, ⟨b1, b2⟩, ⟨c1, c2⟩, ⟨d1, d2⟩⟩ := of_decide_eq_true h
  unfold ZOk
  omega
theorem layT_ok {H : AH} {t j : Nat} {cp : Cap} {P : PT} {z : RE} (hT : TreM H t j cp (tell 0 P)) (g : Tr.Good P) (hz : z.may = true) :
    ACalls Try.prog R 7 [.ptr (.mu t) 0, z.av] H fun v G => ∃ pv bv, v = .tuple [pv, bv] ∧ Rw 36 7 G pv (plV (layP P z)) (layP P z).length ∧ Rw 29 4 G bv (rcV (layB P z)) (layB P z).length ∧ ∀ (m : Nat) (c : List AV) (ty : TypeId), H[m]? = some (.cells c ty) → G[m]? = some (.cells c ty) := by
  refine ACalls.of_wpE Fns.ok7 (by simp [Fns.a7]) ?_
  have mm := fun H => may_ok (R := R) z H
  rw [hz] at mm
  have hle := g.le
  simp only [RE.av, RE.cells] at mm
  simp [Fns.a7, RE.av, RE.cells, AO.content, readN_mu, eqEv]
  refine (mm _).mono ?_
  rintro v G ⟨rfl, rfl⟩
  simp [fillA, splice, AO.content, readN_mu]
  obtain ⟨F, hF⟩ : ∃ F, F = H ++ [AO.cells [AV.int .i64 z.x, .int .i64 z.y, .int .i64 z.w, .int .i64 z.h] 29, AO.cells [AV.ptr (.mu t) 0, .nilslice, .nilslice] 50] := ⟨_, rfl⟩
  have S : LS F (H.length + 1) t j cp (tell 0 P) [] [] := by
    refine ⟨by rw [hF]; exact hT.app _, .nilslice, .nilslice, by rw [hF]; simp, ⟨rfl, .inl ⟨rfl, rfl⟩⟩, ⟨rfl, .inl ⟨rfl, rfl⟩⟩⟩
  have kF : ∀ (m : Nat) (c : List AV) (ty : TypeId), H[m]? = some (.cells c ty) → F[m]? = some (.cells c ty) ∧ m ≠ H.length + 1 := fun m c ty hm => ⟨by rw [hF]; exact get_app hm, by have := (List.getElem?_eq_some_iff.1 hm).1; omega⟩
  rw [← hF]
  clear hF
  have hl := lay_ok (R := R) P (z := z) (i := 0) g.sides (sub_all P) rfl (ZOk.of_may hz) (by simp; omega) (by simp; omega) S
  simp only [RE.av, RE.cells, List.nil_append] at hl
  refine hl.mono ?_
  rintro v G ⟨S2, k2⟩
  obtain ⟨pv, bv, g2, g3, g4⟩ := S2.cell
  simp
  refine AWp.sched [0, 1, 2, 3, 4, 5, 6, 7, 8, 9] Fns.mixed (by decide +kernel) ?_
  simp [g2, AO.content]
  exact ⟨pv, bv, ⟨rfl, rfl⟩, g3, g4, fun m c ty hm => k2.cell (kF m c ty hm).1 (kF m c ty hm).2⟩
end Go.Proofs.Ytbcfhiohdamcjaa.Ge
