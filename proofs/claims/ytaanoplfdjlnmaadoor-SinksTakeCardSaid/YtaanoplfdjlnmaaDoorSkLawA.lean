/- SinksApart: what the law's code computes. -/
import Derived.Test.YtaanoplfdjlnmaaDoorSkApart
namespace Go.Proofs.YtaanoplfdjlnmaaDoor.Sk
open Go Go.RowKit Am Latt
set_option maxRecDepth 100000
set_option linter.unusedSimpArgs false
set_option linter.unusedVariables false
attribute [-simp] Am.binEv Am.intBin Am.read1
attribute [local simp] binEv_lss binEv_leq binEv_gtr binEv_geq binEv_eql binEv_neq binEv_add binEv_sub binEv_mul binEv_shr58 read1_ro read1_mu
variable {R : Ro}
theorem latAll {H : AH} {l p q : Nat} {T : List (List Bool)} (h : LatIn H l p q (upT T) (dnT T)) (g1 : 1 ≤ T.length) (g2 : T.length ≤ 64) : ∀ H', Keeps H H' → LatIn H' l p q (upT T) (dnT T) ∧ LatAt R H' l (upT T) (dnT T) := fun H' hk => by
  have := h.frame (H' := H') fun i hi => hk.2 i (lat_lt h i hi)
  exact ⟨this, this.at g1 g2⟩
def AInv (sa sb l p q : Nat) (T : List (List Bool)) (c : AV) (x : Int) (A : List Act) (e : Env) (H : AH) : Prop :=
  ∃ (i : Nat) (Sa Sb : List SK), e 3 = c ∧ e 4 = .int .i64 x ∧ e 13 = .ptr (.mu sa) 0 ∧ e 15 = .ptr (.mu sb) 0 ∧ e 17 = .int .i64 i ∧ i ≤ A.length ∧ Two H sa sb l p q T Sa Sb (200 * i) ∧ Alike x Sa Sb
theorem mkS_short (P : List (Int × Int)) (k : Nat) : Short (mkS P) k := fun x hx => by
  obtain ⟨p, _, rfl⟩ := List.mem_map.1 hx
  exact Nat.zero_le _
theorem mkS_good {n : Nat} {P : List (Int × Int)} (h : okL n P) : Good (mkS P) := fun x hx => by
  obtain ⟨p, hp, rfl⟩ := List.mem_map.1 hx
  have := (h.2 p hp).2
  exact ⟨this, fun z => ⟨Int.le_refl _, this.1⟩⟩
set_option maxHeartbeats 4000000 in
theorem apart (hT : HasTab R) (haw : ∀ H, ACalls Tryd.prog R 9 [] H fun v H' => H' = H ∧ v = .bool true) {r s x : Int} {a c : AV} {P : List (Int × Int)} {A : List Act} (hs : Sl R 2 a (P.map fun p => [.int .i64 p.1, .int .i64 p.2])) (hA : Acts R c A) :
    ACalls Tryd.prog R 5 [.int .i64 r, .int .i64 s, a, c, .int .i64 x] [] fun v _ => v = .bool true := by
  have hlen : (a = .nilslice ∧ P.length = 0) ∨ ∃ b off cap, a = .slice (.ro b) off P.length (.known cap) := by
    rcases hs with ⟨h, hL⟩ | ⟨b, off, cap, h, _⟩
    · exact .inl ⟨h, by simpa using hL⟩
    · exact .inr ⟨b, off, cap, by simpa using h⟩
  refine ACalls.of_wpE Fns.ok5 (by simp [Fns.a5]) ?_
  simp [Fns.a5]
  refine (great_ok _ hA).mono ?_
  rintro v H' ⟨rfl, b, rfl, hb⟩
  cases b with
  | true =>
    simp
    refine (haw _).mono ?_
    rintro v H' ⟨rfl, rfl⟩
    simp
  | false =>
    obtain ⟨hA1, hA2⟩ := hb rfl
    have wk : ∀ (H : AH) (K : AV → AH → Prop), (∀ v, v = .bool true → K v H) → ACalls Tryd.prog R 9 [] H K := fun H K hK => (haw H).mono fun v H' h => by obtain ⟨rfl, e⟩ := h; exact hK v e
    refine (?_ : _ → _) hlen
    rintro (⟨ha, hP0⟩ | ⟨b0, off0, cap0, ha⟩) <;>
    · by_cases hP : 12 < P.length
      · have hP' : (12 : Int) < (P.length : Int) := by omega
        first
        | omega
        | (simp [ha, hP, hP']
           refine wk _ _ fun v hv => ?_
           subst hv
           simp)
      have hP' : ¬ (12 : Int) < (P.length : Int) := by omega
      by_cases hr : 64 < r
      · simp [ha, hP, hP', hr]
        refine wk _ _ fun v hv => ?_
        subst hv
        simp
      by_cases hs6 : 6 < s
      · simp [ha, hP, hP', hr, hs6]
        refine wk _ _ fun v hv => ?_
        subst hv
        simp
      by_cases hm : RankMay r s
      · have g : GoodT (rankT r.toNat (r.toNat * 2 ^ s.toNat)) := rank_good (by have := hm.1; omega) hm.2.2.2.2
        simp [ha, hP, hP', hr, hs6]
        refine (rank_sure hT _ r s hm).mono ?_
        rintro v H1 ⟨k1, l, p, q, rfl, hin, _, _, _⟩
        generalize rankT r.toNat (r.toNat * 2 ^ s.toNat) = T at *
        have g1 := g.lo
        have g2 := g.hi
        have hall := latAll (R := R) hin g1 g2
        have hs' := hs
        rw [ha] at hs'
        simp
        refine (new_at (dn := dnT T) (fun H' hk => (hall H' hk).2) hs').mono ?_
        rintro v H2 ⟨k2, ⟨hok, sa, rva, Ca, csa, msa, rfl, hAa, hoa⟩ | ⟨hno, rfl⟩⟩
        · simp
          refine (new_at (dn := dnT T) (fun H' hk => (hall H' (k2.trans hk)).2) hs').mono ?_
          rintro v H3 ⟨k3, ⟨_, sb, rvb, Cb, csb, msb, rfl, hAb, hob⟩ | ⟨hno, rfl⟩⟩
          · have htwo : Two H3 sa sb l p q T (mkS P) (mkS P) (200 * 0) := ⟨(hall H3 (k2.trans k3)).1, ⟨_, _, _, _, _, _, _, _, hAa.frame fun i hi => k3.2 i (hAa.lt hi), hAb, fun j ha hb => by have := hAa.lt ha; have := hob j hb; omega⟩, mkS_good hok, mkS_good hok, mkS_short _ _, mkS_short _ _⟩
            simp
            refine AWp.loop (fun e H => AInv sa sb l p q T c x A e H) (fun e _ => match e 17 with | .int _ i => ((A.length : Int) - i).toNat | _ => 0) ⟨0, mkS P, mkS P, rfl, rfl, rfl, rfl, rfl, by omega, htwo, rfl⟩ ?_
            rintro e H ⟨i, Sa, Sb, h3, h4, h13, h15, h17, hi, hW, hal⟩
            refine wpE_sound _ ?_
            by_cases hlt : i < A.length
            · obtain ⟨b, off, cap, hc', r0, r1, r2⟩ := hA.at hlt
              have hlt' : (i : Int) < (A.length : Int) := by omega
              have hw1 := i64_small ((i : Int) + 1) (by omega) (by omega)
              have ht := hA2 _ (List.getElem_mem hlt)
              rw [hc'] at h3
              simp [h3, h4, h13, h15, h17, hlt, hlt']
              refine AWp.sched [0, 1, 2, 3, 4, 5, 6, 7, 8, 9, 10, 11, 12, 13, 14, 15, 16, 17, 18, 19, 20, 21] Fns.mixed (by decide +kernel) ?_
              simp [h3, h4, h13, h15, h17, hlt, hlt', r0, r1, r2]
              refine (hW.write g1 g2 (by omega) _ _ ht).mono ?_
              rintro v H4 ⟨_, ⟨hmm, rfl, hW2⟩ | ⟨hmm, an, xx, ha2, hx, rfl, hW2⟩⟩
              · have hal2 := hal
                by_cases hx : A[i].2.1 = x
                · simp [h3, h4, h13, h15, h17, hlt, hlt', r0, r1, r2, recheck, hx]
                  refine AWp.sched [0, 1, 2, 3, 4, 5, 6, 7, 8, 9, 10, 11, 12, 13, 14, 15, 16, 17, 18, 19, 20, 21] Fns.mixed (by decide +kernel) ?_
                  simp [h3, h4, h13, h15, h17, hlt, hlt', r0, r1, r2, hx]
                  refine (hW2.swap.write g1 g2 (by omega) _ _ ht).mono ?_
                  rintro v H5 ⟨_, ⟨hmm2, rfl, hW3⟩ | ⟨hmm2, _⟩⟩
                  · have hmae := hal.may (upT T) A[i].1 x
                    have hlee := hal.left (upT T) A[i].1
                    simp [h3, h4, h13, h15, h17, hlt, hlt', r0, r1, r2, recheck, hx, hmae]
                    refine AWp.sched [0, 1, 2, 3, 4, 5, 6, 7, 8, 9, 10, 11, 12, 13, 14, 15, 17, 18, 19, 20, 21, 22, 23, 16, 24, 25, 26] Fns.mixed (by decide +kernel) ?_
                    simp [h3, h4, h13, h15, h17, hlt, hlt', r0, r1, r2, hx]
                    refine (hW3.swap.left g1 g2 _ _).mono ?_
                    rintro v H6 ⟨rfl, rfl⟩
                    simp [h3, h4, h13, h15, h17, hlt, hlt', r0, r1, r2, recheck, hx]
                    refine (hW3.left g1 g2 _ _).mono ?_
                    rintro v H6 ⟨rfl, rfl⟩
                    simp [h3, h4, h13, h15, h17, hlt, hlt', r0, r1, r2, recheck, hx, hlee, hw1]
                    exact ⟨⟨i + 1, Sa, Sb, by simp [h3, hc'], by simp [h4], by simp [h13], by simp [h15], by simp, by omega, ⟨hW3.lat, hW3.swap.ats, hW3.gb, hW3.ga, fun y hy => by have := hW3.kb y hy; omega, fun y hy => by have := hW3.ka y hy; omega⟩, hal⟩, by omega⟩
                  · rw [← hal.may] at hmm2; rw [hx] at hmm; exact absurd hmm2 hmm
                · simp [h3, h4, h13, h15, h17, hlt, hlt', r0, r1, r2, recheck, hx, hw1]
                  exact ⟨⟨i + 1, Sa, Sb, by simp [h3, hc'], by simp [h4], by simp [h13], by simp [h15], by simp, by omega, ⟨hW2.lat, hW2.ats, hW2.ga, hW2.gb, fun y hy => by have := hW2.ka y hy; omega, fun y hy => by have := hW2.kb y hy; omega⟩, hal⟩, by omega⟩
              · have hl1 : (Sa.set an (takeK xx A[i].2.1 A[i].2.2)).length = Sa.length := by simp
                by_cases hxx : A[i].2.1 = x
                · rw [hxx] at hmm hW2
                  simp [h3, h4, h13, h15, h17, hlt, hlt', r0, r1, r2, recheck, hxx]
                  refine AWp.sched [0, 1, 2, 3, 4, 5, 6, 7, 8, 9, 10, 11, 12, 13, 14, 15, 16, 17, 18, 19, 20, 21] Fns.mixed (by decide +kernel) ?_
                  simp [h3, h4, h13, h15, h17, hlt, hlt', r0, r1, r2, hxx]
                  refine (hW2.swap.write g1 g2 (by omega) _ _ ht).mono ?_
                  rintro v H5 ⟨_, ⟨hmm2, _⟩ | ⟨hmm2, an2, yy, ha3, hy, rfl, hW3⟩⟩
                  · rw [← hal.may] at hmm2; exact absurd hmm hmm2
                  · obtain rfl : an = an2 := by omega
                    obtain ⟨htn, hal2⟩ := hal.both hx hy A[i].2.2
                    have hlee := hal2.left (upT T) A[i].1
                    simp [h3, h4, h13, h15, h17, hlt, hlt', r0, r1, r2, recheck, hxx, htn]
                    refine AWp.sched [0, 1, 2, 3, 4, 5, 6, 7, 8, 9, 10, 11, 12, 13, 14, 15, 17, 18, 19, 20, 21, 22, 23, 16, 24, 25, 26] Fns.mixed (by decide +kernel) ?_
                    simp [h3, h4, h13, h15, h17, hlt, hlt', r0, r1, r2, hxx]
                    refine (hW3.swap.left g1 g2 _ _).mono ?_
                    rintro v H6 ⟨rfl, rfl⟩
                    simp [h3, h4, h13, h15, h17, hlt, hlt', r0, r1, r2, recheck, hxx]
                    refine (hW3.left g1 g2 _ _).mono ?_
                    rintro v H6 ⟨rfl, rfl⟩
                    simp [h3, h4, h13, h15, h17, hlt, hlt', r0, r1, r2, recheck, hxx, hlee, hw1]
                    exact ⟨⟨i + 1, _, _, by simp [h3, hc'], by simp [h4], by simp [h13], by simp [h15], by simp, by omega, ⟨hW3.lat, hW3.swap.ats, hW3.gb, hW3.ga, fun y hy => by have := hW3.kb y hy; omega, fun y hy => by have := hW3.ka y hy; omega⟩, hal2⟩, by omega⟩
                · simp [h3, h4, h13, h15, h17, hlt, hlt', r0, r1, r2, recheck, hxx, hw1]
                  exact ⟨⟨i + 1, _, Sb, by simp [h3, hc'], by simp [h4], by simp [h13], by simp [h15], by simp, by omega, ⟨hW2.lat, hW2.ats, hW2.ga, hW2.gb, fun y hy => by have := hW2.ka y hy; omega, fun y hy => by have := hW2.kb y hy; omega⟩, hal.other hxx hx _⟩, by omega⟩
            · obtain rfl : i = A.length := by omega
              have hnl : ¬ (A.length : Int) < 0 := by omega
              rcases hA.len with ⟨hc0, _⟩ | ⟨b, off, cap, hc0⟩
              · rw [hc0] at h3
                simp [h3, h17, hnl]
                refine wk _ _ fun v hv => ?_
                subst hv
                simp
              · rw [hc0] at h3
                simp [h3, h17]
                refine wk _ _ fun v hv => ?_
                subst hv
                simp
          · exact absurd hok hno
        · simp
          refine (new_at (dn := dnT T) (fun H' hk => (hall H' (k2.trans hk)).2) hs').mono ?_
          rintro v H3 ⟨k3, ⟨hok, _⟩ | ⟨_, rfl⟩⟩
          · exact absurd hok hno
          · simp
            refine wk _ _ fun v hv => ?_
            subst hv
            simp
      · simp [ha, hP, hP', hr, hs6]
        refine (rank_no hT _ r s hm).mono ?_
        rintro v H1 ⟨k1, rfl⟩
        simp
        refine wk _ _ fun v hv => ?_
        subst hv
        simp
end Go.Proofs.YtaanoplfdjlnmaaDoor.Sk
