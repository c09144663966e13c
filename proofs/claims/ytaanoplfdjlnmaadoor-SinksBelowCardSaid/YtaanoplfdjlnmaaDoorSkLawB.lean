/- SinksBelow: what the law's code computes. -/
import Derived.Test.YtaanoplfdjlnmaaDoorSkLawA
import Derived.Test.YtaanoplfdjlnmaaDoorSkFlow
namespace Go.Proofs.YtaanoplfdjlnmaaDoor.Sk
open Go Go.RowKit Am Latt
set_option maxRecDepth 100000
set_option linter.unusedSimpArgs false
set_option linter.unusedVariables false
attribute [-simp] Am.binEv Am.intBin Am.read1
attribute [local simp] binEv_lss binEv_leq binEv_gtr binEv_geq binEv_eql binEv_neq binEv_add binEv_sub binEv_mul binEv_shr58 read1_ro read1_mu
variable {R : Ro}
def BInv (sa sb l p q : Nat) (T : List (List Bool)) (a c : AV) (x : Int) (A : List Act) (P : List (Int × Int)) (e : Env) (H : AH) : Prop :=
  ∃ (i : Nat) (Sa Sb : List SK), e 2 = a ∧ e 3 = c ∧ e 4 = .int .i64 x ∧ e 11 = .ptr (.mu l) 0 ∧ e 13 = .ptr (.mu sa) 0 ∧ e 15 = .ptr (.mu sb) 0 ∧ e 17 = .int .i64 i ∧ i ≤ A.length ∧ Two H sa sb l p q T Sa Sb (200 * i) ∧ Flow (upT T) x Sa Sb ∧ Sa.map SK.label = P.map Prod.fst
def CInv (sa sb l p q : Nat) (T : List (List Bool)) (a : AV) (x : Int) (Sa Sb : List SK) (n : Nat) (e : Env) (H : AH) : Prop :=
  ∃ (i : Nat) (k : Nat), e 2 = a ∧ e 4 = .int .i64 x ∧ e 11 = .ptr (.mu l) 0 ∧ e 13 = .ptr (.mu sa) 0 ∧ e 15 = .ptr (.mu sb) 0 ∧ e 18 = .int .i64 i ∧ i ≤ n ∧ Two H sa sb l p q T Sa Sb k
theorem mkS_label (P : List (Int × Int)) : (mkS P).map SK.label = P.map Prod.fst := by
  unfold mkS newK
  simp
theorem pair_at {a : AV} {P : List (Int × Int)} (hs : Sl R 2 a (P.map fun p => [.int .i64 p.1, .int .i64 p.2])) {i : Nat} (hi : i < P.length) : ∃ b off cap, a = .slice (.ro b) off P.length (.known cap) ∧ R b (off + i * 2) = some (.int .i64 P[i].1) ∧ R b (off + i * 2 + 1) = some (.int .i64 P[i].2) := by
  obtain ⟨b, off, cap, ha, hc⟩ := Sl.at hs (show i < (P.map fun p => [AV.int .i64 p.1, AV.int .i64 p.2]).length by simpa using hi)
  refine ⟨b, off, cap, by simpa using ha, ?_, ?_⟩
  · exact hc 0 _ (by simp)
  · exact hc 1 _ (by simp)
set_option maxHeartbeats 4000000 in
theorem below (hT : HasTab R) (haw : ∀ H, ACalls Tryd.prog R 9 [] H fun v H' => H' = H ∧ v = .bool true) {r s x : Int} {a c : AV} {P : List (Int × Int)} {A : List Act} (hs : Sl R 2 a (P.map fun p => [.int .i64 p.1, .int .i64 p.2])) (hA : Acts R c A) :
    ACalls Tryd.prog R 6 [.int .i64 r, .int .i64 s, a, c, .int .i64 x] [] fun v _ => v = .bool true := by
  have hlen : (a = .nilslice ∧ P.length = 0) ∨ ∃ b off cap, a = .slice (.ro b) off P.length (.known cap) := by
    rcases hs with ⟨h, hL⟩ | ⟨b, off, cap, h, _⟩
    · exact .inl ⟨h, by simpa using hL⟩
    · exact .inr ⟨b, off, cap, by simpa using h⟩
  refine ACalls.of_wpE Fns.ok6 (by simp [Fns.a6]) ?_
  simp [Fns.a6]
  refine (great_ok _ hA).mono ?_
  rintro v H' ⟨rfl, b, rfl, hb⟩
  cases b with
  | true =>
    simp
    refine (haw _).mono ?_
    rintro v H' ⟨rfl, rfl⟩
    simp
  | false =>
    obtain ⟨hA1, hA2⟩ := hb rfl
    have wk : ∀ (H : AH) (K : AV → AH → Prop), (∀ v, v = .bool true → K v H) → ACalls Tryd.prog R 9 [] H K := fun H K hK => (haw H).mono fun v H' h => by obtain ⟨rfl, e⟩ := h; exact hK v e
    refine (?_ : _ → _) hlen
    rintro (⟨ha, hP0⟩ | ⟨b0, off0, cap0, ha⟩) <;>
    · by_cases hP : 12 < P.length
      · have hP' : (12 : Int) < (P.length : Int) := by omega
        first
        | omega
        | (simp [ha, hP, hP']
           refine wk _ _ fun v hv => ?_
           subst hv
           simp)
      have hP' : ¬ (12 : Int) < (P.length : Int) := by omega
      by_cases hr : 64 < r
      · simp [ha, hP, hP', hr]
        refine wk _ _ fun v hv => ?_
        subst hv
        simp
      by_cases hs6 : 6 < s
      · simp [ha, hP, hP', hr, hs6]
        refine wk _ _ fun v hv => ?_
        subst hv
        simp
      by_cases hm : RankMay r s
      · have g : GoodT (rankT r.toNat (r.toNat * 2 ^ s.toNat)) := rank_good (by have := hm.1; omega) hm.2.2.2.2
        simp [ha, hP, hP', hr, hs6]
        refine (rank_sure hT _ r s hm).mono ?_
        rintro v H1 ⟨k1, l, p, q, rfl, hin, _, _, _⟩
        generalize rankT r.toNat (r.toNat * 2 ^ s.toNat) = T at *
        have g1 := g.lo
        have g2 := g.hi
        have tr := trans_of g
        have hall := latAll (R := R) hin g1 g2
        have hs' := hs
        rw [ha] at hs'
        simp
        refine (new_at (dn := dnT T) (fun H' hk => (hall H' hk).2) hs').mono ?_
        rintro v H2 ⟨k2, ⟨hok, sa, rva, Ca, csa, msa, rfl, hAa, hoa⟩ | ⟨hno, rfl⟩⟩
        · simp
          refine (new_at (dn := dnT T) (fun H' hk => (hall H' (k2.trans hk)).2) hs').mono ?_
          rintro v H3 ⟨k3, ⟨_, sb, rvb, Cb, csb, msb, rfl, hAb, hob⟩ | ⟨hno, rfl⟩⟩
          · have htwo : Two H3 sa sb l p q T (mkS P) (mkS P) (200 * 0) := ⟨(hall H3 (k2.trans k3)).1, ⟨_, _, _, _, _, _, _, _, hAa.frame fun i hi => k3.2 i (hAa.lt hi), hAb, fun j ha hb => by have := hAa.lt ha; have := hob j hb; omega⟩, mkS_good hok, mkS_good hok, mkS_short _ _, mkS_short _ _⟩
            have hlo := len_ok (R := R) (htwo.lat.at g1 g2)
            by_cases hx0 : x < 0
            · simp [hx0]
              refine wk _ _ fun v hv => ?_
              subst hv
              simp
            simp [hx0]
            refine hlo.mono ?_
            rintro v H4 ⟨rfl, rfl⟩
            by_cases hxn : ((upT T).length : Int) ≤ x
            · simp [hx0, hxn]
              refine wk _ _ fun v hv => ?_
              subst hv
              simp
            simp [hx0, hxn]
            refine AWp.loop (fun e H => BInv sa sb l p q T a c x A P e H) (fun e _ => match e 17 with | .int _ i => ((A.length : Int) - i).toNat | _ => 0) ⟨0, mkS P, mkS P, by rw [ha]; rfl, rfl, rfl, rfl, rfl, rfl, rfl, by omega, htwo, Flow.refl _ _ _, mkS_label P⟩ ?_
            rintro e H ⟨i, Sa, Sb, h2, h3, h4, h11, h13, h15, h17, hi, hW, hfl, hlab⟩
            refine wpE_sound _ ?_
            by_cases hlt : i < A.length
            · obtain ⟨b, off, cap, hc', r0, r1, r2⟩ := hA.at hlt
              have hlt' : (i : Int) < (A.length : Int) := by omega
              have hw1 := i64_small ((i : Int) + 1) (by omega) (by omega)
              have ht := hA2 _ (List.getElem_mem hlt)
              rw [hc'] at h3
              simp [h3, h4, h11, h13, h15, h17, hlt, hlt']
              refine AWp.sched [0, 1, 2, 3, 4, 5, 6, 7, 8, 9, 10, 11, 12, 13, 14, 15, 16] Fns.mixed (by decide +kernel) ?_
              simp [h3, h4, h11, h13, h15, h17, hlt, hlt', r0, r1, r2]
              refine (hW.write g1 g2 (by omega) _ _ ht).mono ?_
              rintro v H4 ⟨_, ⟨hmm, rfl, hW2⟩ | ⟨hmm, an, xx, ha2, hx, rfl, hW2⟩⟩
              · simp [h3, h4, h11, h13, h15, h17, hlt, hlt', r0, r1, r2, recheck]
                refine (below_ok (R := R) (hW2.lat.at g1 g2) _ _).mono ?_
                rintro v H5 ⟨rfl, rfl⟩
                cases hbx : bel (upT T) A[i].2.1 x with
                | false =>
                  simp [h3, h4, h11, h13, h15, h17, hlt, hlt', r0, r1, r2, hw1]
                  exact ⟨⟨i + 1, Sa, Sb, by simp [h2], by simp [h3, hc'], by simp [h4], by simp [h11], by simp [h13], by simp [h15], by simp, by omega, ⟨hW2.lat, hW2.ats, hW2.ga, hW2.gb, fun y hy => by have := hW2.ka y hy; omega, fun y hy => by have := hW2.kb y hy; omega⟩, hfl, hlab⟩, by omega⟩
                | true =>
                  simp [h3, h4, h11, h13, h15, h17, hlt, hlt', r0, r1, r2]
                  refine AWp.sched [0, 1, 2, 3, 4, 5, 6, 7, 8, 9, 10, 11, 12, 13, 14, 15, 16] Fns.mixed (by decide +kernel) ?_
                  simp [h3, h4, h11, h13, h15, h17, hlt, hlt', r0, r1, r2]
                  refine (hW2.swap.write g1 g2 (by omega) _ _ ht).mono ?_
                  rintro v H6 ⟨_, ⟨hmm2, rfl, hW3⟩ | ⟨hmm2, _⟩⟩
                  · simp [h3, h4, h11, h13, h15, h17, hlt, hlt', r0, r1, r2, recheck, hw1]
                    exact ⟨⟨i + 1, Sa, Sb, by simp [h2], by simp [h3, hc'], by simp [h4], by simp [h11], by simp [h13], by simp [h15], by simp, by omega, ⟨hW3.lat, hW3.swap.ats, hW3.gb, hW3.ga, fun y hy => by have := hW3.kb y hy; omega, fun y hy => by have := hW3.ka y hy; omega⟩, hfl, hlab⟩, by omega⟩
                  · rw [← hfl.may] at hmm2; exact absurd hmm2 hmm
              · simp [h3, h4, h11, h13, h15, h17, hlt, hlt', r0, r1, r2, recheck]
                have hl1 : (Sa.set an (takeK xx A[i].2.1 A[i].2.2)).map SK.label = P.map Prod.fst := by rw [map_set_label Sa hx]; exact hlab
                have hmn : mayF (upT T) Sa (an : Int) A[i].2.1 = 0 := by rw [← ha2]; exact hmm
                refine (below_ok (R := R) (hW2.lat.at g1 g2) _ _).mono ?_
                rintro v H5 ⟨rfl, rfl⟩
                cases hbx : bel (upT T) A[i].2.1 x with
                | false =>
                  simp [h3, h4, h11, h13, h15, h17, hlt, hlt', r0, r1, r2, hw1]
                  exact ⟨⟨i + 1, _, Sb, by simp [h2], by simp [h3, hc'], by simp [h4], by simp [h11], by simp [h13], by simp [h15], by simp, by omega, ⟨hW2.lat, hW2.ats, hW2.ga, hW2.gb, fun y hy => by have := hW2.ka y hy; omega, fun y hy => by have := hW2.kb y hy; omega⟩, hfl.one tr hmn (by rw [hbx]; simp) hx _, hl1⟩, by omega⟩
                | true =>
                  simp [h3, h4, h11, h13, h15, h17, hlt, hlt', r0, r1, r2]
                  refine AWp.sched [0, 1, 2, 3, 4, 5, 6, 7, 8, 9, 10, 11, 12, 13, 14, 15, 16] Fns.mixed (by decide +kernel) ?_
                  simp [h3, h4, h11, h13, h15, h17, hlt, hlt', r0, r1, r2]
                  refine (hW2.swap.write g1 g2 (by omega) _ _ ht).mono ?_
                  rintro v H6 ⟨_, ⟨hmm2, _⟩ | ⟨hmm2, an2, yy, ha3, hy, rfl, hW3⟩⟩
                  · rw [← hfl.may] at hmm2; exact absurd hmm hmm2
                  · obtain rfl : an = an2 := by omega
                    simp [h3, h4, h11, h13, h15, h17, hlt, hlt', r0, r1, r2, recheck, hw1]
                    exact ⟨⟨i + 1, _, _, by simp [h2], by simp [h3, hc'], by simp [h4], by simp [h11], by simp [h13], by simp [h15], by simp, by omega, ⟨hW3.lat, hW3.swap.ats, hW3.gb, hW3.ga, fun y hy => by have := hW3.kb y hy; omega, fun y hy => by have := hW3.ka y hy; omega⟩, hfl.both _ hx hy _, hl1⟩, by omega⟩
            · obtain rfl : i = A.length := by omega
              have hnl : ¬ (A.length : Int) < 0 := by omega
              have fin : ∀ (K : AV → AH → Prop), (∀ v H', v = .bool true → K v H') → True := fun _ _ => trivial
              rcases hA.len with ⟨hc0, hA0⟩ | ⟨b, off, cap, hc0⟩ <;>
              · rw [hc0] at h3
                try rw [hA0] at h17
                simp [h3, h17, hnl]
                refine AWp.loop (fun e H => CInv sa sb l p q T a x Sa Sb P.length e H) (fun e _ => match e 18 with | .int _ i => ((P.length : Int) - i).toNat | _ => 0) ⟨0, _, by simp [h2], by simp [h4], by simp [h11], by simp [h13], by simp [h15], rfl, by omega, hW⟩ ?_
                rintro e H ⟨j, kk, h2, h4, h11, h13, h15, h18, hj, hW⟩
                refine wpE_sound _ ?_
                by_cases hjl : j < P.length
                · obtain ⟨b, off, cap, hc', r0, r1⟩ := pair_at hs hjl
                  have hjl' : (j : Int) < (P.length : Int) := by omega
                  have hw1 := i64_small ((j : Int) + 1) (by omega) (by omega)
                  rw [hc'] at h2
                  simp [h2, h4, h11, h13, h15, h18, hjl, hjl', r0, r1]
                  refine (below_ok (R := R) (hW.lat.at g1 g2) _ _).mono ?_
                  rintro v H5 ⟨rfl, rfl⟩
                  cases hbx : bel (upT T) P[j].1 x with
                  | false =>
                    simp [h2, h4, h11, h13, h15, h18, hjl, hjl', r0, r1, hw1]
                    exact ⟨⟨j + 1, _, by simp [h2, hc'], by simp [h4], by simp [h11], by simp [h13], by simp [h15], by simp, by omega, hW⟩, by omega⟩
                  | true =>
                    have hcon := hfl.content (i := j) (c := P[j].1) (by rw [hlab]; simp [hjl]) hbx
                    simp [h2, h4, h11, h13, h15, h18, hjl, hjl', r0, r1]
                    refine (hW.content _).mono ?_
                    rintro v H6 ⟨rfl, rfl⟩
                    simp [h2, h4, h11, h13, h15, h18, hjl, hjl', r0, r1]
                    refine (hW.swap.content _).mono ?_
                    rintro v H6 ⟨rfl, rfl⟩
                    simp [h2, h4, h11, h13, h15, h18, hjl, hjl', r0, r1, hw1, hcon]
                    refine ⟨fun hq => ?_, fun _ => ?_⟩
                    · have hq' : (contentF Sb j == contentF Sb j) = true := by rw [beq_iff_eq]
                      rw [hq'] at hq
                      cases hq
                    · simp [h2, h4, h11, h13, h15, h18, hjl, hjl', r0, r1, hw1, hcon]
                      exact ⟨⟨j + 1, _, by simp [h2, hc'], by simp [h4], by simp [h11], by simp [h13], by simp [h15], by simp, by omega, hW⟩, by omega⟩
                · obtain rfl : j = P.length := by omega
                  have hnl : ¬ (P.length : Int) < 0 := by omega
                  simp [h2, ha, h18, hnl]
                  refine wk _ _ fun v hv => ?_
                  subst hv
                  simp
          · exact absurd hok hno
        · simp
          refine (new_at (dn := dnT T) (fun H' hk => (hall H' (k2.trans hk)).2) hs').mono ?_
          rintro v H3 ⟨k3, ⟨hok, _⟩ | ⟨_, rfl⟩⟩
          · exact absurd hok hno
          · simp
            refine wk _ _ fun v hv => ?_
            subst hv
            simp
      · simp [ha, hP, hP', hr, hs6]
        refine (rank_no hT _ r s hm).mono ?_
        rintro v H1 ⟨k1, rfl⟩
        simp
        refine wk _ _ fun v hv => ?_
        subst hv
        simp
end Go.Proofs.YtaanoplfdjlnmaaDoor.Sk
