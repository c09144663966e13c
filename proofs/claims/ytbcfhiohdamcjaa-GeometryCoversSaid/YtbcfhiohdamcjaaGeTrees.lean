/- The trees that acts make, as the program and as the document have them. -/
import Derived.Test.YtbcfhiohdamcjaaTrActC
namespace Go.Proofs.Ytbcfhiohdamcjaa.Tr
open Go Go.RowKit Am
set_option maxRecDepth 100000
set_option maxHeartbeats 4000000
set_option linter.unusedSimpArgs false
set_option linter.unusedVariables false
attribute [-simp] Am.binEv Am.intBin Am.read1 Am.readN
attribute [local simp] binEv_lss binEv_leq binEv_gtr binEv_geq binEv_eql binEv_neq binEv_add binEv_sub binEv_mul read1_ro read1_mu
variable {R : Ro}
open PT DT
theorem trees_ok {H : AH} {p : PA} {c : AV} {A : List TA} (hA : Acts R c A) (hl : A.length ≤ 1000) : ACalls Try.prog R 16 [p.av, c] H fun v G => ∃ t w, v = .tuple [.ptr (.mu t) 0, .ptr (.mu w) 0] ∧ DD G t w (acts A (.leaf p)) ∧ KK H G := by
  refine ACalls.of_wpE Fns.ok16 (by simp [Fns.a16]) ?_
  have lens' : ∀ H : AH, (AOp.lenL (.t 0)).eval Try.prog R (fun _ => c) H = some (.int .i64 A.length, H) := fun H => by
    rcases hA.len with ⟨rfl, h0⟩ | ⟨b, off, cap, rfl⟩
    · simp [h0]
    · simp
  simp only [AOp.eval, X.ev] at lens'
  have kn := fun H => new_ok (R := R) p H
  have kr := fun H => rnew_ok (R := R) p H
  simp only [PA.av, PA.cells] at kn kr
  simp [Fns.a16, PA.av, PA.cells, AO.content, readN_mu]
  refine (kn _).mono ?_
  rintro v G ⟨rfl, rfl⟩
  simp [AO.content, readN_mu]
  refine (kr _).mono ?_
  rintro v G ⟨rfl, rfl⟩
  have hdd := dd_new p (H := H ++ [AO.cells p.cells 32]) _ rfl
  simp only [PA.cells, List.length_append, List.length_cons, List.length_nil, List.append_assoc, List.cons_append, List.nil_append] at hdd
  simp
  refine AWp.loop (fun e G => e 1 = c ∧ ∃ (t w i : Nat), e 6 = .ptr (.mu t) 0 ∧ e 7 = .ptr (.mu w) 0 ∧ e 8 = .int .i64 i ∧ i ≤ A.length ∧ DD G t w (acts (A.take i) (.leaf p)) ∧ KK H G) (fun e _ => match e 8 with | .int _ i => ((A.length : Int) - i).toNat | _ => 0)
    ⟨by simp, H.length + (0 + 1) + 2, H.length + (0 + 1) + 3 + 2, 0, by simp, by simp, by simp, by omega, by simpa [acts] using hdd, fun m c ty hm _ => get_app hm⟩ ?_
  clear hdd
  rintro e G ⟨h1, t, w, i, h6, h7, h8, hi, hd, hKK⟩
  refine wpE_sound _ ?_
  by_cases hlt : i < A.length
  · have hlt' : (i : Int) < (A.length : Int) := by omega
    have hw1 : IntKind.i64.wrap ((i : Int) + 1) = (i : Int) + 1 := by rw [wrap_nat] <;> omega
    obtain ⟨a, ha⟩ : ∃ a, A[i]? = some a := ⟨_, List.getElem?_eq_getElem hlt⟩
    obtain ⟨b, off, cap, hc', r9, _⟩ := hA.at ha
    have hnext : (actR a (acts (A.take i) (.leaf p))).2 = acts (A.take (i + 1)) (.leaf p) := by
      rw [List.take_add_one, ha, Option.toList_some, acts_snoc]
    have hg := good_act hd.good a
    generalize acts (A.take i) (.leaf p) = P at hd hnext hg
    rw [hc'] at h1
    obtain ⟨H1, hH1⟩ : ∃ H1, H1 = G ++ [AO.cells a.cells 66] := ⟨_, rfl⟩
    have hc : H1[G.length]? = some (.cells a.cells 66) := by rw [hH1]; simp
    have hK1 : KK H H1 := fun m c ty hm hy => by rw [hH1]; exact get_app (hKK m c ty hm hy)
    have hd1 : DD H1 t w P := by rw [hH1]; exact hd.app _
    obtain ⟨⟨j, cp, hT⟩, ⟨D, hR, rfl⟩, g⟩ := hd1
    obtain ⟨d, q, s, m, n⟩ := a
    simp only [TA.cells, PA.cells, List.cons_append, List.nil_append] at hc hH1 r9
    have fin : ∀ {r : Int × PT} {v1 v2 : AV} {G1 G2 : AH}, r = actR ⟨d, q, s, m, n⟩ D.shape → ActOut H1 t j (r.1, tell 0 r.2) v1 G1 → RefOut G1 w D r v2 G2 → DD G2 t w (acts (A.take (i + 1)) (.leaf p)) ∧ KK H G2 := by
      intro r v1 v2 G1 G2 hr o1 o2
      have hR1 := hR.act hT o1.2.2.1
      obtain ⟨_, _, hdd⟩ := DD.acted hT hR o1 o2 (by rw [hr]; exact hg)
      rw [← hnext, ← hr]
      exact ⟨hdd, fun m c ty hm ht => o2.cell hR1 (o1.cell hT (hK1 m c ty hm ht) ht.1 ht.2.1) ht.2.2⟩
    simp [h1, h6, h7, h8, hlt, hlt', r9, AO.content, AO.withContent, writeN, splice]
    rw [← hH1]
    by_cases d0 : d = 0
    · have k1 := psplit (R := R) hT g q s m n
      simp only [PA.av, PA.cells] at k1
      simp [d0, h6, h7, hc, AO.content, readN_mu]
      refine k1.mono ?_
      intro v1 G1 o1
      have hc1 := o1.cell hT hc (by decide) (by decide)
      have hR1 := hR.act hT o1.2.2.1
      have k2 := rsplit_ok (R := R) hR1 g q s m n
      simp only [PA.av, PA.cells] at k2
      simp [h7, hc1, AO.content, readN_mu]
      refine k2.mono ?_
      intro v2 G2 o2
      obtain ⟨f1, f2⟩ := fin (by unfold actR; rw [if_pos d0]) o1 o2
      simp [h1, h6, h7, h8, hw1]
      exact ⟨⟨hc'.symm, i + 1, by simp, by omega, f1, f2⟩, by omega⟩
    by_cases d1 : d = 1
    · have k1 := pclose (R := R) hT g q
      simp only [PA.av, PA.cells] at k1
      simp [d1, h6, h7, hc, AO.content, readN_mu]
      refine k1.mono ?_
      intro v1 G1 o1
      have hc1 := o1.cell hT hc (by decide) (by decide)
      have hR1 := hR.act hT o1.2.2.1
      have k2 := rclose_ok (R := R) hR1 g q
      simp only [PA.av, PA.cells] at k2
      simp [h7, hc1, AO.content, readN_mu]
      refine k2.mono ?_
      intro v2 G2 o2
      obtain ⟨f1, f2⟩ := fin (by unfold actR; rw [if_neg d0, if_pos d1]) o1 o2
      simp [h1, h6, h7, h8, hw1]
      exact ⟨⟨hc'.symm, i + 1, by simp, by omega, f1, f2⟩, by omega⟩
    by_cases d2 : d = 2
    · have k1 := pswap (R := R) hT g q s
      simp only [PA.av, PA.cells] at k1
      simp [d2, h6, h7, hc, AO.content, readN_mu]
      refine k1.mono ?_
      intro v1 G1 o1
      have hc1 := o1.cell hT hc (by decide) (by decide)
      have hR1 := hR.act hT o1.2.2.1
      have k2 := rswap_ok (R := R) hR1 g q s
      simp only [PA.av, PA.cells] at k2
      simp [h7, hc1, AO.content, readN_mu]
      refine k2.mono ?_
      intro v2 G2 o2
      obtain ⟨f1, f2⟩ := fin (by unfold actR; rw [if_neg d0, if_neg d1, if_pos d2]) o1 o2
      simp [h1, h6, h7, h8, hw1]
      exact ⟨⟨hc'.symm, i + 1, by simp, by omega, f1, f2⟩, by omega⟩
    by_cases d3 : d = 3
    · have k1 := pshare (R := R) hT g q m n
      simp only [PA.av, PA.cells] at k1
      simp [d3, h6, h7, hc, AO.content, readN_mu]
      refine k1.mono ?_
      intro v1 G1 o1
      have hc1 := o1.cell hT hc (by decide) (by decide)
      have hR1 := hR.act hT o1.2.2.1
      have k2 := rshare_ok (R := R) hR1 g q m n
      simp only [PA.av, PA.cells] at k2
      simp [h7, hc1, AO.content, readN_mu]
      refine k2.mono ?_
      intro v2 G2 o2
      obtain ⟨f1, f2⟩ := fin (by unfold actR; rw [if_neg d0, if_neg d1, if_neg d2, if_pos d3]) o1 o2
      simp [h1, h6, h7, h8, hw1]
      exact ⟨⟨hc'.symm, i + 1, by simp, by omega, f1, f2⟩, by omega⟩
    · have hn : actR ⟨d, q, s, m, n⟩ D.shape = (0, D.shape) := by unfold actR; rw [if_neg d0, if_neg d1, if_neg d2, if_neg d3]
      rw [hn] at hnext
      simp [d0, d1, d2, d3, h1, h6, h7, h8, hc, AO.content, hw1]
      exact ⟨⟨hc'.symm, i + 1, by simp, by omega, by rw [← hnext]; exact ⟨⟨j, cp, hT⟩, ⟨D, hR, rfl⟩, g⟩, hK1⟩, by omega⟩
  · obtain rfl : i = A.length := by omega
    rw [List.take_length] at hd
    simp [h1, h6, h7, h8, lens']
    exact ⟨t, w, ⟨rfl, rfl⟩, hd, hKK⟩
end Go.Proofs.Ytbcfhiohdamcjaa.Tr
