/- How the document's tree is told. -/
import Derived.Test.YtffmpomidfickaaTrRef
namespace Go.Proofs.Ytffmpomidfickaa.Tr
open Go Go.RowKit Am
set_option maxRecDepth 100000
set_option maxHeartbeats 1000000
set_option linter.unusedSimpArgs false
set_option linter.unusedVariables false
attribute [-simp] Am.binEv Am.intBin Am.read1
attribute [local simp] binEv_lss binEv_leq binEv_gtr binEv_geq binEv_eql binEv_neq binEv_add binEv_sub binEv_mul read1_ro read1_mu
variable {R : Ro}
open PT DT
theorem rtell_ok : ∀ {D : DT} {H : AH} {k : Nat}, D.shape.sides → HasD H D → k + D.shape.size ≤ 1000 → ACalls Try.prog R 40 [.ptr (.mu D.ad) 0, .int .i64 k] H fun v G => GRow 82 7 H v G (ndV (tell k D.shape)) D.shape.size
  | .leaf x p, H, k, _, h, _ => by
    refine ACalls.of_wpE Fns.ok40 (by simp [Fns.a40]) ?_
    simp only [HasD, rleaf] at h
    simp [Fns.a40, DT.ad, h, AO.content, readN, splice, zerosEv, fillA]
    exact ⟨fun i hi => List.getElem?_append_left hi, by simp, rfl, rfl, H.length, .known 1, rfl, Nat.le_refl _, .inr ⟨rfl, by simp [ndV, tell, leafN, ND.cells, DT.shape]⟩⟩
  | .split x sd sh a b, H, k, ⟨s1, _, _, sa, sb⟩, ⟨h, ha, hb⟩, hl => by
    refine ACalls.of_wpE Fns.ok40 (by simp [Fns.a40]) ?_
    have s0 : ¬ sd = 0 := by omega
    simp only [rsplit] at h
    simp only [DT.shape, PT.size] at hl ⊢
    have pa := size_pos a.shape
    have pb := size_pos b.shape
    have w1 : IntKind.i64.wrap ((k : Int) + 1) = ((k + 1 : Nat) : Int) := by rw [wrap_nat] <;> omega
    have w2 : IntKind.i64.wrap (((k + 1 : Nat) : Int) + (a.shape.size : Int)) = ((k + 1 + a.shape.size : Nat) : Int) := by rw [wrap_nat] <;> omega
    have ia := rtell_ok (k := k + 1) sa ha (by omega)
    simp [Fns.a40, DT.ad, h, AO.content, s0]
    rw [w1]
    refine ia.mono ?_
    intro v1 G1 q1
    obtain ⟨r1, hr1, z1⟩ := q1.rowA
    have hx := (List.getElem?_eq_some_iff.1 h).1
    have h1 : G1[x]? = _ := (q1.old x hx).trans h
    have hlen1 := z1.len (P := Try.prog) (R := R) (G' := G1)
    simp only [AOp.eval, X.ev] at hlen1
    simp [h1, AO.content, hlen1]
    rw [w1, w2]
    refine (rtell_ok (k := k + 1 + a.shape.size) sb (hb.frame fun m hm => q1.old m (hb.lt m hm)) (by omega)).mono ?_
    intro v2 G2 q2
    obtain ⟨r2, hr2, z2⟩ := q2.rowA
    have hl1 := q1.len
    have hl2 := q2.len
    have h2 : G2[x]? = _ := (q2.old x (by omega)).trans h1
    have z1' : RowA 82 7 G2 r1 v1 (ndV (tell (k + 1) a.shape)) a.shape.size := z1.keep (q2.old r1 z1.lt)
    have hlen2 := z1.len (P := Try.prog) (R := R) (G' := G2)
    simp only [AOp.eval, X.ev] at hlen2
    simp
    refine AWp.sched [0, 1, 2, 3, 4, 5, 6, 7, 8, 9, 10, 11, 12, 13, 14, 15, 16, 17] Fns.mixed (by decide +kernel) ?_
    have w3 : IntKind.i64.wrap ((k : Int) + 1) = (k : Int) + 1 := by rw [wrap_nat] <;> omega
    have w4 : IntKind.i64.wrap ((k : Int) + 1 + (a.shape.size : Int)) = (k : Int) + 1 + (a.shape.size : Int) := by rw [wrap_nat] <;> omega
    simp [h2, AO.content, readN, hlen2, fillA, splice, zerosEv, w3, w4]
    obtain ⟨x0, hx0⟩ : ∃ x0 : ND, x0 = ⟨sd, (k : Int) + 1, (k : Int) + 1 + a.shape.size, sh, 0, 0, 0⟩ := ⟨_, rfl⟩
    obtain ⟨G3, hG3⟩ : ∃ G3, G3 = G2 ++ [AO.cells x0.cells 82] := ⟨_, rfl⟩
    have hG3' : G2 ++ [AO.cells [AV.int .i64 sd, .int .i64 ((k : Int) + 1), .int .i64 ((k : Int) + 1 + a.shape.size), .int .i64 sh, .int .i64 0, .int .i64 0, .int .i64 0] 82] = G3 := by rw [hG3, hx0]; rfl
    have hl3 : G3.length = G2.length + 1 := by rw [hG3]; simp
    have zl : RowA 82 7 G3 G2.length (.slice (.mu G2.length) 0 1 (.known 1)) x0.cells 1 := ⟨rfl, rfl, .known 1, rfl, .inr ⟨rfl, by rw [hG3]; simp⟩⟩
    have k3 : ∀ i, i < G2.length → G3[i]? = G2[i]? := fun i hi => by rw [hG3, List.getElem?_append_left hi]
    have z13 := z1'.keep (k3 r1 z1'.lt)
    have z23 := z2.keep (k3 r2 z2.lt)
    obtain ⟨v4, G4, e4, z4, l4, k4⟩ := rowA_app (R := R) (by' := 56) zl z13 (by omega) (by decide) (by decide) (by omega)
    have z24 := z23.keep (k4 r2 (by have := z2.lt; omega) (by have := z2.lt; omega))
    obtain ⟨v5, G5, e5, z5, l5, k5⟩ := rowA_app (R := R) (by' := 56) z4 z24 (by omega) (by decide) (by decide) (by omega)
    rw [hG3']
    simp [e4, e5]
    obtain ⟨cp, q5, q6⟩ := z5.row
    have hlt2 := z2.lt
    refine ⟨fun i hi => ?_, by omega, ?_, ?_, G4.length, cp, q5, by omega, ?_⟩
    · rw [k5 i (by omega) (by omega), k4 i (by omega) (by omega), k3 i (by omega), q2.old i (by omega), q1.old i hi]
    · rw [ndV_len, tell_len]; rfl
    · exact ndV_one _
    · have : ndV (tell k (.split sd sh a.shape b.shape)) = x0.cells ++ ndV (tell (k + 1) a.shape) ++ ndV (tell (k + 1 + a.shape.size) b.shape) := by
        simp only [tell, ndV, ndV_app, hx0, List.append_assoc]
      rw [this]; exact q6
end Go.Proofs.Ytffmpomidfickaa.Tr
