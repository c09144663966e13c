/- TreeNobody: what the law's code computes. -/
import Derived.Test.YtffmpomidfickaaTrBare
import Derived.Test.YtffmpomidfickaaTrRDraw
import Derived.Test.YtffmpomidfickaaTrPure4
import Derived.Test.YtffmpomidfickaaTrWrapP
import Derived.Test.YtffmpomidfickaaCtrs
namespace Go.Proofs.Ytffmpomidfickaa.Tr
open Go Go.RowKit Am
set_option maxRecDepth 100000
set_option maxHeartbeats 4000000
set_option linter.unusedSimpArgs false
set_option linter.unusedVariables false
attribute [-simp] Am.binEv Am.intBin Am.read1
attribute [local simp] binEv_lss binEv_leq binEv_gtr binEv_geq binEv_eql binEv_neq binEv_add binEv_sub binEv_mul read1_ro read1_mu
variable {R : Ro}
open PT
theorem name_ok (n : Int) (H : AH) : ACalls Try.prog R 10 [.int .i64 n] H fun v G => G = H ∧ v = .agg [.int .i64 0, .int .i64 0, .int .i64 n] := by
  refine ACalls.gc ?_
  refine ACalls.of_wpE Fns.ok10 (by simp [Fns.a10]) ?_
  simp [Fns.a10, AO.content, AO.withContent, writeN, splice, readN, fillA, ren, renL]
/-- The tree that nobody made, and what lies beside it. -/
def NbS (G : AH) (rb ty : Nat) (p : PA) (P : PT) : Prop :=
  Good P ∧ ∃ j cp, TreM G 9 j cp (tell 0 P) ∧ G[0]? = some (.cells p.cells 25) ∧ G[2]? = some (.cells [.bool false] ty) ∧ G[5]? = some (.obj rb (.deferred (some [])) [] []) ∧ 10 ≤ j
theorem NbS.act {G G' : AH} {rb ty j : Nat} {p : PA} {P P' : PT} {cp : Cap} {v : AV} {x : Int} (hT : TreM G 9 j cp (tell 0 P)) (h1 : G[0]? = some (.cells p.cells 25)) (h2 : G[2]? = some (.cells [.bool false] ty)) (hr : G[5]? = some (.obj rb (.deferred (some [])) [] [])) (j3 : 10 ≤ j)
    (g : Good P') (o : ActOut G 9 j (x, tell 0 P') v G') : v = .int .i64 x ∧ NbS G' rb ty p P' := by
  obtain ⟨hv, l1, f1, j', cp', T1, hj'⟩ := o
  have htl := hT.tlt
  exact ⟨hv, g, j', cp', T1, by rw [f1 0 (by omega) (by omega) (by omega)]; exact h1, by rw [f1 2 (by omega) (by omega) (by omega)]; exact h2, by rw [f1 5 (by omega) (by omega) (by omega)]; exact hr, by omega⟩
theorem NbS.split {G : AH} {rb ty : Nat} {p : PA} {P : PT} (h : NbS G rb ty p P) (a b : PA) (sd sh : Int) :
    ACalls Try.prog R 11 [.ptr (.mu 9) 0, a.av, b.av, .int .i64 sd, .int .i64 sh] G fun v G' => v = .int .i64 (P.splitR a b sd sh).1 ∧ NbS G' rb ty p (P.splitR a b sd sh).2 := by
  obtain ⟨g, j, cp, hT, h1, h2, hr, j3⟩ := h
  exact (psplit hT g a b sd sh).mono fun v G' o => NbS.act hT h1 h2 hr j3 (good_split g a b sd sh) o
theorem NbS.close {G : AH} {rb ty : Nat} {p : PA} {P : PT} (h : NbS G rb ty p P) (a : PA) :
    ACalls Try.prog R 12 [.ptr (.mu 9) 0, a.av] G fun v G' => v = .int .i64 (P.closeR a).1 ∧ NbS G' rb ty p (P.closeR a).2 := by
  obtain ⟨g, j, cp, hT, h1, h2, hr, j3⟩ := h
  exact (pclose hT g a).mono fun v G' o => NbS.act hT h1 h2 hr j3 (good_close g a) o
theorem NbS.has {G : AH} {rb ty : Nat} {p : PA} {P : PT} (h : NbS G rb ty p P) (a : PA) :
    ACalls Try.prog R 18 [.ptr (.mu 9) 0, a.av] G fun v G' => G' = G ∧ v = .bool (decide (P.pos a ≠ none)) := by
  obtain ⟨g, j, cp, hT, _⟩ := h
  exact phas hT g a
theorem NbS.len {G : AH} {rb ty : Nat} {p : PA} {P : PT} (h : NbS G rb ty p P) :
    ACalls Try.prog R 15 [.ptr (.mu 9) 0] G fun v G' => G' = G ∧ v = .int .i64 P.panes.length := by
  obtain ⟨g, j, cp, hT, _⟩ := h
  exact plen hT g
theorem NbS.q0 {G : AH} {rb ty : Nat} {p : PA} {P : PT} (h : NbS G rb ty p P) : G[0]? = some (.cells p.cells 25) := by obtain ⟨g, j, cp, hT, h1, h2, hr, j3⟩ := h; exact h1
theorem NbS.q2 {G : AH} {rb ty : Nat} {p : PA} {P : PT} (h : NbS G rb ty p P) : G[2]? = some (.cells [.bool false] ty) := by obtain ⟨g, j, cp, hT, h1, h2, hr, j3⟩ := h; exact h2
theorem NbS.q5 {G : AH} {rb ty : Nat} {p : PA} {P : PT} (h : NbS G rb ty p P) : G[5]? = some (.obj rb (.deferred (some [])) [] []) := by obtain ⟨g, j, cp, hT, h1, h2, hr, j3⟩ := h; exact hr
theorem NbS.bare {H G : AH} {rb ty j : Nat} {p : PA} (h1 : H[0]? = some (.cells p.cells 25)) (h2 : H[2]? = some (.cells [.bool false] ty)) (hr : H[5]? = some (.obj rb (.deferred (some [])) [] [])) (hl : H.length = 10)
    (hf : ∀ m, m < H.length → m ≠ 9 → G[m]? = H[m]?) (hT : TreM G 9 j (.known 1) [zeroN]) (hj : H.length ≤ j) : NbS G rb ty p (.leaf ⟨0, 0, 0⟩) :=
  ⟨⟨trivial, by simp [PT.panes], by simp [PT.panes]⟩, j, .known 1, hT, by rw [hf 0 (by omega) (by omega)]; exact h1, by rw [hf 2 (by omega) (by omega)]; exact h2, by rw [hf 5 (by omega) (by omega)]; exact hr, by omega⟩
theorem nobody (p q : PA) (n : Int) : ACalls Try.prog R 6 [p.av, q.av, .int .i64 n] [] fun v _ => v = .bool true := by
  have hall := fun H => ACalls.no (Fns.awake H) R
  refine ACalls.of_wpR Fns.ok6 (by simp [Fns.a6]) ?_
  simp [Fns.a6, PA.av, PA.cells]
  refine (hall _).mono ?_
  rintro v H ⟨rfl, rfl⟩
  simp
  refine (panes_ok _ _ rfl rfl).mono ?_
  rintro v H ⟨rfl, rfl⟩
  simp [eqEv]
  refine (panes_ok _ _ rfl rfl).mono ?_
  rintro v H ⟨rfl, rfl⟩
  simp
  refine AWpR.rangeF (gf := 43) (cap := [.ptr (.mu 4) 0]) (by simp) rfl ?_
  intro rb OL hY
  refine (iter_nil (by simp)).mono ?_
  rintro v G rfl
  refine .inl ⟨by simp, ?_⟩
  simp [-eqEv]
  refine (node_nil _ _).mono ?_
  rintro v G ⟨rfl, rfl⟩
  simp [zeroN, ND.cells, AO.content, AO.withContent, writeN, splice, readN]
  refine (next_nil _ p _).mono ?_
  rintro v G ⟨rfl, rfl⟩
  simp [AO.content, AO.withContent, writeN, splice, readN]
  clear hY
  have hsp := fun (a b : Int) (H : AH) => split_nil (R := R) p q a b H
  have hcl := fun (H : AH) => close_nil (R := R) p H
  have hsw := fun (H : AH) => swap_nil (R := R) p q H
  have hsh := fun (a b : Int) (H : AH) => share_nil (R := R) p a b H
  have hln := fun (H : AH) => len_nil (R := R) H
  have hhs := fun (H : AH) => has_nil (R := R) p H
  simp only [PA.av, PA.cells] at hsp hcl hsw hsh hhs
  refine (hsp _ _ _).mono ?_
  rintro v G ⟨rfl, rfl⟩
  simp [AO.content, readN]
  refine (hcl _).mono ?_
  rintro v G ⟨rfl, rfl⟩
  simp [AO.content, readN]
  refine (hsw _).mono ?_
  rintro v G ⟨rfl, rfl⟩
  simp [AO.content, readN]
  refine (hsh _ _ _).mono ?_
  rintro v G ⟨rfl, rfl⟩
  simp [AO.content, readN]
  refine (hln _).mono ?_
  rintro v G ⟨rfl, rfl⟩
  simp [AO.content, readN]
  refine (hhs _).mono ?_
  rintro v G ⟨rfl, rfl⟩
  simp [AO.content, readN]
  refine AWpR.sched [0, 1, 2, 3, 4, 5, 6, 7, 8, 9, 10, 12, 13, 14, 11, 15, 16, 17, 18, 19, 20, 21, 22, 23, 24, 25, 26, 27, 28, 29, 30, 31, 32, 33, 34, 35] Fns.mixed (by decide +kernel) ?_
  simp
  refine (len_bare (t := 9) rfl).mono ?_
  rintro v G ⟨rfl, hlen, hfr, j, hT, hj⟩
  have S0 : NbS G rb _ p (.leaf ⟨0, 0, 0⟩) := NbS.bare rfl rfl rfl rfl hfr hT hj
  clear hlen hfr hT hj
  have q0 := S0.q0
  have hz := S0.has (R := R) ⟨0, 0, 0⟩
  have hp := S0.has (R := R) p
  simp only [PA.av, PA.cells] at q0 hz hp
  simp
  refine hz.mono ?_
  rintro v G' ⟨rfl, rfl⟩
  have he := eqP p.a p.b p.c 0 0 0
  simp only [fieldsP] at he
  have hpe : (p.a = 0 ∧ p.b = 0 ∧ p.c = 0) ↔ p = ⟨0, 0, 0⟩ := by
    obtain ⟨a, b, c⟩ := p
    simp
  simp only [hpe] at he
  simp [-eqEv, PT.pos, q0, AO.content, readN, fillA, he]
  refine hp.mono ?_
  rintro v G'' ⟨rfl, rfl⟩
  have hd : (decide (PT.pos p (.leaf ⟨0, 0, 0⟩) ≠ none)) = decide (p = ⟨0, 0, 0⟩) := by
    by_cases h : p = ⟨0, 0, 0⟩
    · subst h; simp [PT.pos]
    · have h' : ¬ (⟨0, 0, 0⟩ : PA) = p := fun e => h e.symm
      simp [PT.pos, h, h']
  have hc := S0.close (R := R) ⟨0, 0, 0⟩
  have hc2 : (PT.leaf ⟨0, 0, 0⟩).closeR ⟨0, 0, 0⟩ = (9, .leaf ⟨0, 0, 0⟩) := rfl
  rw [hc2] at hc
  simp only [PA.av, PA.cells] at hc
  rw [hd]
  simp [recheck, q0, AO.content, readN, fillA, he]
  refine hc.mono ?_
  rintro v G1 ⟨rfl, S1⟩
  simp
  refine (name_ok 7 _).mono ?_
  rintro v G2 ⟨rfl, rfl⟩
  have hs := S1.split (R := R) ⟨0, 0, 0⟩ ⟨0, 0, 7⟩ 2 9
  have hs2 : (PT.leaf ⟨0, 0, 0⟩).splitR ⟨0, 0, 0⟩ ⟨0, 0, 7⟩ 2 9 = (0, .split 2 9 (.leaf ⟨0, 0, 0⟩) (.leaf ⟨0, 0, 7⟩)) := rfl
  rw [hs2] at hs
  simp only [PA.av, PA.cells] at hs
  simp
  refine ⟨by simp [recheck, fillA], ?_⟩
  refine hs.mono ?_
  rintro v G3 ⟨rfl, S2⟩
  simp
  refine S2.len.mono ?_
  rintro v G4 ⟨rfl, rfl⟩
  have z2 := S2.q2
  have z5 := S2.q5
  have hset : ∀ o, (G4.set 2 o)[2]? = some o := fun o => List.getElem?_set_self (List.getElem?_eq_some_iff.1 z2).1
  simp [PT.panes, z2, z5, hset, AO.content, AO.withContent, writeN, splice]
theorem nobody_all (vs : List AV) (h : Shape [.int .i64, .int .i64, .int .i64] vs) (vs2 : List AV) (h2 : Shape [.int .i64, .int .i64, .int .i64] vs2) (n : Int) (_ : (Lit.int .i64 n).wf = true) :
    ACalls Try.prog R 6 [.agg vs, .agg vs2, .int .i64 n] [] fun v _ => v = .bool true := by
  obtain ⟨p, rfl⟩ := pa_of h
  obtain ⟨q, rfl⟩ := pa_of h2
  exact nobody p q n
end Go.Proofs.Ytffmpomidfickaa.Tr
