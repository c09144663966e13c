/- GeometryCovers: what the law's code computes. -/
import Derived.Test.YtbcfhiohdamcjaaGeLayT
import Derived.Test.YtbcfhiohdamcjaaGeCov
import Derived.Test.YtbcfhiohdamcjaaGeTrees
import Derived.Test.YtbcfhiohdamcjaaGeInL
import Derived.Test.YtbcfhiohdamcjaaTrWrapC
namespace Go.Proofs.Ytbcfhiohdamcjaa.Ge
open Go Go.RowKit Am Tr
set_option maxRecDepth 100000
set_option maxHeartbeats 4000000
set_option linter.unusedSimpArgs false
set_option linter.unusedVariables false
attribute [-simp] Am.binEv Am.intBin Am.read1 Am.readN
attribute [local simp] binEv_lss binEv_leq binEv_gtr binEv_geq binEv_eql binEv_neq binEv_add binEv_sub binEv_mul read1_ro read1_mu
variable {R : Ro}
open PT
theorem Sm.wf {z : RE} (h : Sm z) : z.wf := by
  obtain ⟨h1, h2, h3, h4, h5, h6, h7, h8⟩ := h
  exact ⟨⟨by omega, by omega⟩, ⟨by omega, by omega⟩, ⟨by omega, by omega⟩, ⟨by omega, by omega⟩⟩
theorem Rw.lens {ty sz : Nat} {G : AH} {v : AV} {C : List AV} {n : Nat} (h : Rw ty sz G v C n) (H : AH) : (AOp.lenL (.t 0)).eval Try.prog R (fun _ => v) H = some (.int .i64 n, H) := by
  rcases h.2 with ⟨h0, rfl⟩ | ⟨_, r, rfl, _⟩
  · subst h0; simp
  · simp
theorem Rw.at {ty sz : Nat} {G : AH} {v : AV} {C : List AV} {n i : Nat} (h : Rw ty sz G v C n) (hi : i < n) : ∃ r, v = .slice (.mu r) 0 n (.opn 0) ∧ G[r]? = some (.row C ty sz) := by
  rcases h.2 with ⟨h0, rfl⟩ | ⟨_, r, h1, h2⟩
  · omega
  · exact ⟨r, h1, h2⟩
theorem covers {p : PA} {c : AV} {A : List TA} {z : RE} (hA : Acts R c A) (hzw : z.wf) : ACalls Try.prog R 6 [p.av, c, z.av] [] fun v _ => v = .bool true := by
  have hall := fun H => ACalls.no (Fns.awake H) R
  have lens' : ∀ H : AH, (AOp.lenL (.t 0)).eval Try.prog R (fun _ => c) H = some (.int .i64 A.length, H) := fun H => by
    rcases hA.len with ⟨rfl, h0⟩ | ⟨b, off, cap, rfl⟩
    · simp [h0]
    · simp
  simp only [AOp.eval, X.ev] at lens'
  refine ACalls.of_wpE Fns.ok6 (by simp [Fns.a6]) ?_
  simp [Fns.a6, PA.av, PA.cells, RE.av, RE.cells]
  refine (hall _).mono ?_
  rintro v H ⟨rfl, rfl⟩
  simp [lens', AO.content]
  by_cases hlong : 100 < A.length
  · have : (100 : Int) < (A.length : Int) := by omega
    simp [hlong, this]
  have hlong' : ¬ (100 : Int) < (A.length : Int) := by omega
  by_cases a1 : z.x < 0
  · simp [hlong, hlong', a1, AO.content]
  by_cases a2 : z.y < 0
  · simp [hlong, hlong', a1, a2, AO.content]
  by_cases a3 : 300 < z.x
  · simp [hlong, hlong', a1, a2, a3, AO.content]
  by_cases a4 : 300 < z.y
  · simp [hlong, hlong', a1, a2, a3, a4, AO.content]
  by_cases a5 : z.w < 0
  · simp [hlong, hlong', a1, a2, a3, a4, a5, AO.content]
  by_cases a6 : z.h < 0
  · simp [hlong, hlong', a1, a2, a3, a4, a5, a6, AO.content]
  by_cases a7 : 60 < z.w
  · simp [hlong, hlong', a1, a2, a3, a4, a5, a6, a7, AO.content]
  by_cases a8 : 60 < z.h
  · simp [hlong, hlong', a1, a2, a3, a4, a5, a6, a7, a8, AO.content]
  simp [hlong, hlong', a1, a2, a3, a4, a5, a6, a7, a8, AO.content, readN_mu]
  have kt := fun H => trees_ok (R := R) (H := H) (p := p) hA (by omega)
  simp only [PA.av, PA.cells] at kt
  refine (kt _).mono ?_
  rintro v G ⟨t, w, rfl, ⟨⟨j, cp, hT⟩, _, g⟩, hKK⟩
  have fz := hKK 1 _ _ rfl ⟨by decide, by decide, by decide⟩
  clear hKK kt
  generalize acts A (.leaf p) = P at hT g
  have hmay : z.may = true := by unfold RE.may side; exact decide_eq_true ⟨⟨by omega, by omega⟩, ⟨by omega, by omega⟩, ⟨by omega, by omega⟩, ⟨by omega, by omega⟩⟩
  have hl := layT_ok (R := R) hT g hmay
  simp only [RE.av, RE.cells] at hl
  simp [fz, AO.content, readN_mu]
  refine hl.mono ?_
  rintro v F ⟨pv, bv, rfl, rp, rb, kc⟩
  have fz2 := kc _ _ _ fz
  clear kc fz hl hT
  have hle := g.le
  have hzo := ZOk.of_may hmay
  have hPl := layP_len P z
  have hBl := layB_len P z
  have hcov := fun x y => cov (P := P) (z := z) g.sides hzo x y
  have hPs := layP_sm (P := P) (z := z) g.sides hzo
  have hBs := layB_sm (P := P) (z := z) g.sides hzo
  generalize layP P z = PL at *
  generalize layB P z = BL at *
  obtain ⟨PR, hPR⟩ : ∃ PR, PR = PL.map (·.2) := ⟨_, rfl⟩
  rw [← hPR] at hPs
  have hcov' : ∀ x y, cntR x y PR + cntR x y BL = one z x y := fun x y => by rw [hPR]; exact hcov x y
  have hPRl : PR.length = PL.length := by rw [hPR]; simp
  have lp := fun H => rp.lens (R := R) H
  have lb := fun H => rb.lens (R := R) H
  simp only [AOp.eval, X.ev] at lp lb
  have p16 : ¬ 16 < PL.length := by omega
  have p16' : ¬ (16 : Int) < (PL.length : Int) := by omega
  have b15 : ¬ 15 < BL.length := by omega
  have b15' : ¬ (15 : Int) < (BL.length : Int) := by omega
  have wy0 : IntKind.i64.wrap (z.y - 1) = z.y - 1 := wrap_in ⟨by omega, by omega⟩
  have wx0 : IntKind.i64.wrap (z.x - 1) = z.x - 1 := wrap_in ⟨by omega, by omega⟩
  have wyh : IntKind.i64.wrap (z.y + z.h) = z.y + z.h := wrap_in ⟨by omega, by omega⟩
  have wxw : IntKind.i64.wrap (z.x + z.w) = z.x + z.w := wrap_in ⟨by omega, by omega⟩
  simp [lp, lb, p16, p16', b15, b15', fz2, AO.content, wy0]
  refine AWp.loop (fun e G => G = F ∧ e 5 = .ptr (.mu 1) 0 ∧ e 9 = pv ∧ e 10 = bv ∧ ∃ y : Int, e 11 = .int .i64 y ∧ z.y - 1 ≤ y ∧ y ≤ z.y + z.h + 1) (fun e _ => match e 11 with | .int _ y => (z.y + z.h + 1 - y).toNat | _ => 0)
    ⟨rfl, by simp, by simp, by simp, z.y - 1, by simp, by omega, by omega⟩ ?_
  rintro e G' ⟨hGG, h5, h9, h10, y, h11, y1, y2⟩
  rw [hGG]
  clear hGG G'
  refine wpE_sound _ ?_
  by_cases hy : y ≤ z.y + z.h
  · have wy1 : IntKind.i64.wrap (y + 1) = y + 1 := wrap_in ⟨by omega, by omega⟩
    simp [h5, h9, h10, h11, fz2, AO.content, wyh, hy, wx0]
    refine AWp.loop (fun e G => G = F ∧ e 5 = .ptr (.mu 1) 0 ∧ e 9 = pv ∧ e 10 = bv ∧ e 11 = .int .i64 y ∧ ∃ x : Int, e 12 = .int .i64 x ∧ z.x - 1 ≤ x ∧ x ≤ z.x + z.w + 1) (fun e _ => match e 12 with | .int _ x => (z.x + z.w + 1 - x).toNat | _ => 0)
      ⟨rfl, by simp [h5], by simp [h9], by simp [h10], by simp [h11], z.x - 1, by simp, by omega, by omega⟩ ?_
    clear h5 h9 h10 h11
    rintro e G' ⟨hGG, h5, h9, h10, h11, x, h12, x1, x2⟩
    rw [hGG]
    clear hGG G'
    refine wpE_sound _ ?_
    by_cases hx : x ≤ z.x + z.w
    · have wx1 : IntKind.i64.wrap (x + 1) = x + 1 := wrap_in ⟨by omega, by omega⟩
      simp [h5, h9, h10, h11, h12, fz2, AO.content, wxw, hx]
      refine AWp.loop (fun e G => G = F ∧ e 5 = .ptr (.mu 1) 0 ∧ e 9 = pv ∧ e 10 = bv ∧ e 11 = .int .i64 y ∧ e 12 = .int .i64 x ∧ ∃ i : Nat, e 14 = .int .i64 i ∧ i ≤ PL.length ∧ e 13 = .int .i64 (cntR x y (PR.take i))) (fun e _ => match e 14 with | .int _ i => ((PL.length : Int) - i).toNat | _ => 0)
        ⟨rfl, by simp [h5], by simp [h9], by simp [h10], by simp [h11], by simp [h12], 0, by simp, by omega, by simp [cntR]⟩ ?_
      clear h5 h9 h10 h11 h12
      rintro e G' ⟨hGG, h5, h9, h10, h11, h12, i, h14, hi, h13⟩
      rw [hGG]
      clear hGG G'
      refine wpE_sound _ ?_
      by_cases hlt : i < PL.length
      · have hlt' : (i : Int) < (PL.length : Int) := by omega
        have hw1 : IntKind.i64.wrap ((i : Int) + 1) = (i : Int) + 1 := by rw [wrap_nat] <;> omega
        obtain ⟨r, rfl, hr⟩ := rp.at hlt
        obtain ⟨q, hq⟩ : ∃ q, PL[i]? = some q := ⟨_, List.getElem?_eq_getElem hlt⟩
        have hqR : PR[i]? = some q.2 := by rw [hPR, List.getElem?_map, hq]; rfl
        have hin := in_ok (R := R) (hPs q.2 (List.mem_of_getElem? hqR)).wf x y F
        have hrd := plV_at _ i q hq
        have hfit : i * 7 + 3 + 4 ≤ (plV PL).length := by rw [plV_len]; omega
        have hsucc := cntR_succ (x := x) (y := y) hqR
        have hpos := cntR_pos x y (PR.take i)
        have hpl : (PR.take i).length ≤ 16 := by rw [List.length_take]; omega
        have hw2 : IntKind.i64.wrap (cntR x y (PR.take i) + 1) = cntR x y (PR.take i) + 1 := wrap_in ⟨by omega, by omega⟩
        simp only [RE.av, RE.cells] at hin hrd
        simp [h5, h9, h10, h11, h12, h13, h14, hlt, hlt', hr, AO.content, readN_mu, hfit, hrd]
        refine hin.mono ?_
        rintro v F' ⟨rfl, rfl⟩
        cases hI : inR q.2 x y with
        | true =>
          rw [hI, if_pos rfl] at hsucc
          simp [h5, h9, h10, h11, h12, h13, h14, hw1, hw2]
          exact ⟨⟨i + 1, by simp, by omega, hsucc.symm⟩, by omega⟩
        | false =>
          rw [hI, if_neg (by simp), Int.add_zero] at hsucc
          simp [h5, h9, h10, h11, h12, h13, h14, hw1, hw2]
          exact ⟨⟨i + 1, by simp, by omega, by rw [hsucc]⟩, by omega⟩
      · obtain rfl : i = PL.length := by omega
        rw [← hPRl, List.take_length] at h13
        simp [h9, h14, lp]
        refine AWp.loop (fun e G => G = F ∧ e 5 = .ptr (.mu 1) 0 ∧ e 9 = pv ∧ e 10 = bv ∧ e 11 = .int .i64 y ∧ e 12 = .int .i64 x ∧ ∃ i : Nat, e 15 = .int .i64 i ∧ i ≤ BL.length ∧ e 13 = .int .i64 (cntR x y PR + cntR x y (BL.take i))) (fun e _ => match e 15 with | .int _ i => ((BL.length : Int) - i).toNat | _ => 0)
          ⟨rfl, by simp [h5], by simp [h9], by simp [h10], by simp [h11], by simp [h12], 0, by simp, by omega, by simp [cntR, h13]⟩ ?_
        clear h5 h9 h10 h11 h12 h13 h14
        rintro e G' ⟨hGG, h5, h9, h10, h11, h12, i, h15, hi, h13⟩
        rw [hGG]
        clear hGG G'
        refine wpE_sound _ ?_
        by_cases hlt : i < BL.length
        · have hlt' : (i : Int) < (BL.length : Int) := by omega
          have hw1 : IntKind.i64.wrap ((i : Int) + 1) = (i : Int) + 1 := by rw [wrap_nat] <;> omega
          obtain ⟨r, rfl, hr⟩ := rb.at hlt
          obtain ⟨q, hq⟩ : ∃ q, BL[i]? = some q := ⟨_, List.getElem?_eq_getElem hlt⟩
          have hin := in_ok (R := R) (hBs q (List.mem_of_getElem? hq)).wf x y F
          have hrd := rcV_at _ i q hq
          have hfit : i * 4 + 4 ≤ (rcV BL).length := by rw [rcV_len]; omega
          have hsucc := cntR_succ (x := x) (y := y) hq
          have hpos := cntR_pos x y (BL.take i)
          have hpos2 := cntR_pos x y PR
          have hpl : (BL.take i).length ≤ 15 := by rw [List.length_take]; omega
          have hw2 : IntKind.i64.wrap (cntR x y PR + cntR x y (BL.take i) + 1) = cntR x y PR + cntR x y (BL.take i) + 1 := wrap_in ⟨by omega, by omega⟩
          simp only [RE.av, RE.cells] at hin hrd
          simp [h5, h9, h10, h11, h12, h13, h15, hlt, hlt', hr, AO.content, readN_mu, hfit, hrd]
          refine hin.mono ?_
          rintro v F' ⟨rfl, rfl⟩
          cases hI : inR q x y with
          | true =>
            rw [hI, if_pos rfl] at hsucc
            simp [h5, h9, h10, h11, h12, h13, h15, hw1, hw2]
            exact ⟨⟨i + 1, by simp, by omega, by omega⟩, by omega⟩
          | false =>
            rw [hI, if_neg (by simp), Int.add_zero] at hsucc
            simp [h5, h9, h10, h11, h12, h13, h15, hw1, hw2]
            exact ⟨⟨i + 1, by simp, by omega, by rw [hsucc]⟩, by omega⟩
        · obtain rfl : i = BL.length := by omega
          rw [List.take_length, hcov', ← one_eq hzo.sm] at h13
          have hin := in_ok (R := R) hzw x y F
          simp only [RE.av, RE.cells] at hin
          simp [h5, h10, h11, h12, h13, h15, lb, fz2, AO.content, readN_mu]
          refine hin.mono ?_
          rintro v F' ⟨rfl, rfl⟩
          cases hI : inR z x y with
          | true =>
            simp [hI, h5, h9, h10, h11, h12, h13, wx1, eqEv]
            exact ⟨⟨by omega, by omega⟩, by omega⟩
          | false =>
            simp [hI, h5, h9, h10, h11, h12, h13, wx1, eqEv]
            exact ⟨⟨by omega, by omega⟩, by omega⟩
    · simp [h5, h9, h10, h11, h12, fz2, AO.content, wxw, hx, wy1]
      exact ⟨⟨by omega, by omega⟩, by omega⟩
  · simp [h5, h9, h10, h11, fz2, AO.content, wyh, hy]
theorem covers_all (vs : List AV) (h : Shape [.int .i64, .int .i64, .int .i64] vs) (a : AV) (L : List (List AV)) (s : Sl R 9 a L) (w : ∀ x ∈ L, Shape [.int .i64, .int .i64, .int .i64, .int .i64, .int .i64, .int .i64, .int .i64, .int .i64, .int .i64] x) (ws : List AV) (h' : Shape [.int .i64, .int .i64, .int .i64, .int .i64] ws) :
    ACalls Try.prog R 6 [.agg vs, a, .agg ws] [] fun v _ => v = .bool true := by
  obtain ⟨p, rfl⟩ := pa_of h
  obtain ⟨A, rfl⟩ := acts_of w
  obtain ⟨z, rfl, hz⟩ := rect_of h'
  exact covers s hz
end Go.Proofs.Ytbcfhiohdamcjaa.Ge
