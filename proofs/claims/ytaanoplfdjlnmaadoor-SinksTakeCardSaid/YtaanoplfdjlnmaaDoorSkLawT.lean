/- SinksTake: what the law's code computes. -/
import Derived.Test.YtaanoplfdjlnmaaDoorSkLawA
import Derived.Test.YtaanoplfdjlnmaaDoorSkTS
namespace Go.Proofs.YtaanoplfdjlnmaaDoor.Sk
open Go Go.RowKit Am Latt
set_option maxRecDepth 100000
set_option linter.unusedSimpArgs false
set_option linter.unusedVariables false
attribute [-simp] Am.binEv Am.intBin Am.read1
attribute [local simp] binEv_lss binEv_leq binEv_gtr binEv_geq binEv_eql binEv_neq binEv_add binEv_sub binEv_mul binEv_shr58 read1_ro read1_mu
variable {R : Ro}
theorem two45 : TwoInt Tryd.prog 45 3 := by
  have h : (Tryd.prog.info? 3).map (·.size) = some 1 := by kernel_rfl
  refine ⟨by kernel_rfl, by kernel_rfl, ?_⟩
  obtain ⟨i, h1, h2⟩ := Option.map_eq_some_iff.1 h
  exact ⟨i, h1, h2⟩
theorem mkS_len (P : List (Int × Int)) : (mkS P).length = P.length := by simp [mkS]
theorem sl_at {a : AV} {P : List (Int × Int)} (hs : Sl R 2 a (P.map fun p => [.int .i64 p.1, .int .i64 p.2])) {i : Nat} (hi : i < P.length) : ∃ b off cap, a = .slice (.ro b) off P.length (.known cap) ∧ R b (off + i * 2) = some (.int .i64 P[i].1) ∧ R b (off + i * 2 + 1) = some (.int .i64 P[i].2) := by
  obtain ⟨b, off, cap, ha, hc⟩ := Sl.at hs (show i < (P.map fun p => [AV.int .i64 p.1, AV.int .i64 p.2]).length by simpa using hi)
  refine ⟨b, off, cap, by simpa using ha, ?_, ?_⟩
  · exact hc 0 _ (by simp)
  · exact hc 1 _ (by simp)
structure TIn (H : AH) (s l p q k m : Nat) (T : List (List Bool)) (P : List (Int × Int)) (S : List SK) (n : Nat) : Prop where
  ts : TS H s l p q T S n [k, m]
  cont : H[k]? = some (.cells (S.map cstr) 9)
  came : ∃ es ck f, H[m]? = some (.map es ck) ∧ MapB es ck f ∧ ∀ (a : Nat) x b, S[a]? = some x → f (a, b) = x.came b
  lab : S.map lr = P
  ne : k ≠ m
theorem TIn.app {H : AH} {s l p q k m n n' : Nat} {T : List (List Bool)} {P : List (Int × Int)} {S : List SK} (h : TIn H s l p q k m T P S n) (o : AO) (hn : n ≤ n') : TIn (H ++ [o]) s l p q k m T P S n' := by
  have hk := h.ts.lt (i := k) (by simp)
  have hm := h.ts.lt (i := m) (by simp)
  exact ⟨(h.ts.app o).sub (by intro i hi; exact List.mem_cons_of_mem _ hi) hn, by rw [List.getElem?_append_left hk]; exact h.cont, by rw [List.getElem?_append_left hm]; exact h.came, h.lab, h.ne⟩
def TInv (s l p q k m : Nat) (T : List (List Bool)) (a c : AV) (P : List (Int × Int)) (A : List Act) (e : Env) (H : AH) : Prop :=
  ∃ (i : Nat) (S : List SK), e 2 = a ∧ e 3 = c ∧ e 9 = .ptr (.mu l) 0 ∧ e 13 = .ptr (.mu s) 0 ∧ e 17 = .slice (.mu k) 0 P.length (.known P.length) ∧ e 18 = .map m ∧ e 19 = .int .i64 i ∧ i ≤ A.length ∧ TIn H s l p q k m T P S (100 * i)
def okB (n : Nat) (p : Int × Int) : Bool := decide (0 ≤ p.1) && (decide (p.1 < n) && (decide (0 ≤ p.2) && decide (p.2 ≤ 65536)))
def rightB (n : Nat) (P : List (Int × Int)) (j : Nat) : Bool := decide (P.length ≤ 8) && (P.take j).all (okB n)
theorem rightB_succ (n : Nat) (P : List (Int × Int)) {j : Nat} (hj : j < P.length) : rightB n P (j + 1) = (rightB n P j && okB n P[j]) := by
  unfold rightB
  rw [List.take_add_one, List.getElem?_eq_getElem hj, List.all_append]
  simp [Bool.and_assoc]
theorem rightB_all (n : Nat) (P : List (Int × Int)) : rightB n P P.length = true ↔ okL n P := by
  unfold rightB okL okP okB
  simp [and_assoc]
def RInv (l : Nat) (a c vs : AV) (code : Int) (n : Nat) (P : List (Int × Int)) (H0 : AH) (e : Env) (H : AH) : Prop :=
  H = H0 ∧ ∃ j : Nat, e 2 = a ∧ e 3 = c ∧ e 9 = .ptr (.mu l) 0 ∧ e 13 = vs ∧ e 14 = .int .i64 code ∧ e 15 = .bool (rightB n P j) ∧ e 16 = .int .i64 j ∧ j ≤ P.length
set_option maxHeartbeats 8000000 in
theorem take (hT : HasTab R) (haw : ∀ H, ACalls Tryd.prog R 9 [] H fun v H' => H' = H ∧ v = .bool true) {r s x : Int} {a c : AV} {P : List (Int × Int)} {A : List Act} (hs : Sl R 2 a (P.map fun p => [.int .i64 p.1, .int .i64 p.2])) (hA : Acts R c A) :
    ACalls Tryd.prog R 3 [.int .i64 r, .int .i64 s, a, c] [] fun v _ => v = .bool true := by
  have hlen : (a = .nilslice ∧ P.length = 0) ∨ ∃ b off cap, a = .slice (.ro b) off P.length (.known cap) := by
    rcases hs with ⟨h, hL⟩ | ⟨b, off, cap, h, _⟩
    · exact .inl ⟨h, by simpa using hL⟩
    · exact .inr ⟨b, off, cap, by simpa using h⟩
  refine ACalls.of_wpE Fns.ok3 (by simp [Fns.a3]) ?_
  simp [Fns.a3]
  refine (great_ok _ hA).mono ?_
  rintro v H' ⟨rfl, b, rfl, hb⟩
  cases b with
  | true =>
    simp
    refine (haw _).mono ?_
    rintro v H' ⟨rfl, rfl⟩
    simp
  | false =>
    obtain ⟨hA1, hA2⟩ := hb rfl
    have wk : ∀ (H : AH) (K : AV → AH → Prop), (∀ v, v = .bool true → K v H) → ACalls Tryd.prog R 9 [] H K := fun H K hK => (haw H).mono fun v H' h => by obtain ⟨rfl, e⟩ := h; exact hK v e
    refine (?_ : _ → _) hlen
    rintro (⟨ha, hP0⟩ | ⟨b0, off0, cap0, ha⟩) <;>
    · by_cases hP : 12 < P.length
      · have hP' : (12 : Int) < (P.length : Int) := by omega
        first
        | omega
        | (simp [ha, hP, hP']
           refine wk _ _ fun v hv => ?_
           subst hv
           simp)
      have hP' : ¬ (12 : Int) < (P.length : Int) := by omega
      by_cases hr : 64 < r
      · simp [ha, hP, hP', hr]
        refine wk _ _ fun v hv => ?_
        subst hv
        simp
      by_cases hs6 : 6 < s
      · simp [ha, hP, hP', hr, hs6]
        refine wk _ _ fun v hv => ?_
        subst hv
        simp
      by_cases hm : RankMay r s
      · have g : GoodT (rankT r.toNat (r.toNat * 2 ^ s.toNat)) := rank_good (by have := hm.1; omega) hm.2.2.2.2
        simp [ha, hP, hP', hr, hs6]
        refine (rank_sure hT _ r s hm).mono ?_
        rintro v H1 ⟨k1, l, p, q, rfl, hin, _, _, _⟩
        generalize rankT r.toNat (r.toNat * 2 ^ s.toNat) = T at *
        have g1 := g.lo
        have g2 := g.hi
        have hall := latAll (R := R) hin g1 g2
        have hs' := hs
        rw [ha] at hs'
        simp
        refine (new_at (dn := dnT T) (fun H' hk => (hall H' hk).2) hs').mono ?_
        rintro v H2 ⟨k2, hcase⟩
        obtain ⟨vs, code, rfl, hcode⟩ : ∃ vs code, v = .tuple [vs, .int .i64 code] ∧ ((okL (upT T).length P ∧ code = 0 ∧ ∃ s rv C cs ms, vs = .ptr (.mu s) 0 ∧ At H2 s l rv C (mkS P) cs ms ∧ ∀ j, Own s rv cs ms j → H1.length ≤ j) ∨ (¬ okL (upT T).length P ∧ code = 1 ∧ vs = .nilptr)) := by
          rcases hcase with ⟨hok, sa, rva, Ca, csa, msa, rfl, hAa, hoa⟩ | ⟨hno, rfl⟩
          · exact ⟨_, _, rfl, .inl ⟨hok, rfl, sa, rva, Ca, csa, msa, rfl, hAa, hoa⟩⟩
          · exact ⟨_, _, rfl, .inr ⟨hno, rfl, rfl⟩⟩
        have hlo := len_ok (R := R) (hall H2 k2).2
        have h8 : rightB (upT T).length P 0 = decide ((P.length : Int) ≤ 8) := by unfold rightB; simp; omega
        simp
        refine AWp.loop (fun e H => RInv l a c vs code (upT T).length P H2 e H) (fun e _ => match e 16 with | .int _ i => ((P.length : Int) - i).toNat | _ => 0) ⟨rfl, 0, by rw [ha]; rfl, rfl, rfl, rfl, rfl, by first | (rw [h8]; rfl) | (rw [h8, hP0]; rfl), rfl, by omega⟩ ?_
        rintro e H ⟨rfl, j, h2, h3, h9, h13, h14, h15, h16, hj⟩
        refine wpE_sound _ ?_
        by_cases hjl : j < P.length
        · obtain ⟨b, off, cap, hc', r0, r1⟩ := sl_at hs hjl
          have hjl' : (j : Int) < (P.length : Int) := by omega
          have hw1 := i64_small ((j : Int) + 1) (by omega) (by omega)
          have hsu := rightB_succ (upT T).length P hjl
          rw [hc'] at h2
          simp [h2, h3, h9, h13, h14, h15, h16, hjl, hjl']
          refine AWp.sched [0, 1, 2, 3, 4, 5, 6, 7, 8, 9, 10, 11, 12, 13, 14, 15, 16, 17, 18, 19, 20, 21, 22, 23, 24, 25, 26, 27, 28, 29, 30, 31, 32, 33, 34, 35] Fns.mixed (by decide +kernel) ?_
          cases hbb : rightB (upT T).length P j with
          | false =>
            rw [hbb] at h15 hsu
            simp [h2, h3, h9, h13, h14, h15, h16, hjl, hjl', r0, r1, recheck, hw1]
            exact ⟨⟨rfl, j + 1, by simp [h2, hc'], by simp [h3], by simp [h9], by simp [h13], by simp [h14], by rw [hsu]; simp [okB], by simp, by omega⟩, by omega⟩
          | true =>
            rw [hbb] at h15 hsu
            by_cases q1 : 0 ≤ P[j].1
            · simp [h2, h3, h9, h13, h14, h15, h16, hjl, hjl', r0, r1, q1]
              refine hlo.mono ?_
              rintro v H4 ⟨rfl, rfl⟩
              by_cases q2 : P[j].1 < ((upT T).length : Int)
              · by_cases q3 : 0 ≤ P[j].2
                · by_cases q4 : P[j].2 ≤ 65536
                  · simp [h2, h3, h9, h13, h14, h15, h16, hjl, hjl', r0, r1, recheck, hw1, q1, q2, q3, q4]
                    exact ⟨⟨rfl, j + 1, by simp [h2, hc'], by simp [h3], by simp [h9], by simp [h13], by simp [h14], by rw [hsu]; simp [okB, q1, q2, q3, q4], by simp, by omega⟩, by omega⟩
                  · simp [h2, h3, h9, h13, h14, h15, h16, hjl, hjl', r0, r1, recheck, hw1, q1, q2, q3, q4]
                    exact ⟨⟨rfl, j + 1, by simp [h2, hc'], by simp [h3], by simp [h9], by simp [h13], by simp [h14], by rw [hsu]; simp [okB, q1, q2, q3, q4], by simp, by omega⟩, by omega⟩
                · simp [h2, h3, h9, h13, h14, h15, h16, hjl, hjl', r0, r1, recheck, hw1, q1, q2, q3]
                  exact ⟨⟨rfl, j + 1, by simp [h2, hc'], by simp [h3], by simp [h9], by simp [h13], by simp [h14], by rw [hsu]; simp [okB, q1, q2, q3], by simp, by omega⟩, by omega⟩
              · simp [h2, h3, h9, h13, h14, h15, h16, hjl, hjl', r0, r1, recheck, hw1, q1, q2]
                exact ⟨⟨rfl, j + 1, by simp [h2, hc'], by simp [h3], by simp [h9], by simp [h13], by simp [h14], by rw [hsu]; simp [okB, q1, q2], by simp, by omega⟩, by omega⟩
            · simp [h2, h3, h9, h13, h14, h15, h16, hjl, hjl', r0, r1, recheck, hw1, q1]
              exact ⟨⟨rfl, j + 1, by simp [h2, hc'], by simp [h3], by simp [h9], by simp [h13], by simp [h14], by rw [hsu]; simp [okB, q1], by simp, by omega⟩, by omega⟩
        · obtain rfl : j = P.length := by omega
          have hnl : ¬ (P.length : Int) < 0 := by omega
          rcases hcode with ⟨hok, rfl, sx, rv, C, cs, ms, rfl, hAt, hown⟩ | ⟨hno, rfl, rfl⟩
          · have hrt := (rightB_all (upT T).length P).2 hok
            rw [hrt] at h15
            have hts : TS H sx l p q T (mkS P) 0 [] := ⟨(hall H k2).1, ⟨_, _, _, _, hAt, fun i hi => by cases hi⟩, mkS_good hok, mkS_short _ _⟩
            have hPb : (P.length : Int) ≤ 8 := by have := hok.1; omega
            have hz := zeros_str P.length
            simp [h2, h3, h9, h13, h14, h15, h16, ha, hnl, eqEv]
            refine hts.len.mono ?_
            rintro v H4 ⟨rfl, rfl⟩
            have hts1 := (hts.app (.cells (List.replicate P.length (.str [])) 9)).app (.map [] 0)
            have htn : TIn ((H4 ++ [.cells (List.replicate P.length (.str [])) 9]) ++ [.map [] 0]) sx l p q H4.length (H4.length + 1) T P (mkS P) (100 * 0) :=
              ⟨hts1.sub (by simp) (by omega), by simp [mkS_cstr], ⟨[], 0, _, by simp, MapB.nil, fun a x b hx => by
                obtain ⟨pp, _, rfl⟩ := List.mem_map.1 (List.mem_of_getElem? hx)
                rfl⟩, mkS_lr P, by omega⟩
            have hmk : 16 * (P.length : Int) ≤ 281474976710656 := by omega
            have hmk2 : (P.length : Int) ≤ 9223372036854775807 := by omega
            have hz0 : zerosEv [AV.str []] 0 = [] := rfl
            first
            | simp [h2, h3, h9, h13, h14, h15, h16, ha, hnl, eqEv, mkS_len, List.length_eq_zero_iff.1 hP0, hz0]
            | simp [h2, h3, h9, h13, h14, h15, h16, ha, hnl, eqEv, mkS_len, hz, hz0, hmk, hmk2]
            refine AWp.loop (fun e H => TInv sx l p q H4.length (H4.length + 1) T a c P A e H) (fun e _ => match e 19 with | .int _ i => ((A.length : Int) - i).toNat | _ => 0) ⟨0, mkS P, by simp [h2, ha], by simp [h3], by simp [h9], by simp [h13], by first | simp [hP0] | simp, by simp, rfl, by omega, by first | simpa [hP0] using htn | simpa using htn⟩ ?_
            rintro e H ⟨i, S, h2, h3, h9, h13, h17, h18, h19, hi, hT⟩
            refine wpE_sound _ ?_
            by_cases hlt : i < A.length
            · obtain ⟨b, off, cap, hc', r0, r1, r2⟩ := hA.at hlt
              have hlt' : (i : Int) < (A.length : Int) := by omega
              have hw1 := i64_small ((i : Int) + 1) (by omega) (by omega)
              have ht := hA2 _ (List.getElem_mem hlt)
              have hSl : S.length = P.length := by have := congrArg List.length hT.lab; simpa using this
              rw [hc'] at h3
              generalize A[i] = act at *
              obtain ⟨za, zb, t⟩ := act
              dsimp only at r0 r1 r2 ht
              have hTS := hT.ts.app (.cells [.int .i64 za, .int .i64 zb, .str t] 39)
              have hTn := hT.app (.cells [.int .i64 za, .int .i64 zb, .str t] 39) (show 100 * i ≤ 100 * (i + 1) by omega)
              have hwr3 := writeN_last H (old := [.int .i64 0, .int .i64 0, .str []]) (new := [.int .i64 za, .int .i64 zb, .str t]) 39 rfl rfl
              have hrd : List.mapM (fun k => R b (off + i * 3 + k)) (List.range 3) = some [AV.int .i64 za, .int .i64 zb, .str t] := by
                rw [show List.range 3 = [0, 1, 2] from rfl]
                simp [r0, r1, r2]
              by_cases qab : 0 ≤ za ∧ za < (P.length : Int)
              · obtain ⟨an, rfl⟩ : ∃ n : Nat, za = n := ⟨za.toNat, by omega⟩
                have han : an < P.length := by omega
                have han2 : ¬ (P.length : Int) ≤ (an : Int) := by omega
                have hann : ¬ (an : Int) < 0 := by omega
                have han3 : (an : Int) < (P.length : Int) := by omega
                have han4 : ¬ P.length ≤ an := by omega
                obtain ⟨b2, off2, cap2, hc2, s0, s1⟩ := sl_at hs han
                rw [hc2] at h2
                obtain ⟨x, hx⟩ : ∃ x, S[an]? = some x := ⟨_, List.getElem?_eq_getElem (by omega)⟩
                have hxl : P[an] = lr x := by
                  have h1 : (S.map lr)[an]? = some (lr x) := by rw [List.getElem?_map, hx]; rfl
                  rw [hT.lab, List.getElem?_eq_getElem han] at h1
                  exact Option.some.inj h1
                rw [hxl] at s0 s1
                dsimp only [lr] at s0 s1
                have hmof := may_of (up := upT T) hx zb
                simp [h2, h3, h9, h13, h17, h18, h19, hlt, hlt', r0, r1, r2, hrd, hwr3, han, han2, hann, han3, han4]
                refine AWp.sched [0, 1, 2, 3, 4, 5, 6, 7, 8, 9, 10] Fns.mixed (by decide +kernel) ?_
                by_cases qc : ¬ zb < 0
                · simp [h2, h3, h9, h13, h17, h18, h19, hlt, hlt', r0, r1, r2, hrd, hwr3, han, han2, hann, han3, han4, qc]
                  refine (len_ok (R := R) (hTS.at g1 g2)).mono ?_
                  rintro v H5 ⟨rfl, rfl⟩
                  by_cases qd : ¬ ((upT T).length : Int) ≤ zb
                  · simp [h2, h3, h9, h13, h17, h18, h19, hlt, hlt', r0, r1, r2, hrd, hwr3, han, han2, hann, han3, han4, qc, qd, recheck]
                    refine AWp.sched [0, 1, 2, 3, 4, 5, 6, 7, 8, 9, 10, 11] Fns.mixed (by decide +kernel) ?_
                    simp [h2, h3, h9, h13, h17, h18, h19, hlt, hlt', r0, r1, r2, hrd, hwr3, han, han2, hann, han3, han4, qc, qd, s0, s1]
                    refine (below_ok (R := R) (hTS.at g1 g2) _ _).mono ?_
                    rintro v H5 ⟨rfl, rfl⟩
                    have hisl : isL (upT T).length zb = true := by simp [isL]; omega
                    cases hbx : bel (upT T) zb x.label with
                    | false =>
                      have hmay : mayF (upT T) S (an : Int) zb = 7 := by rw [hmof]; simp [hisl, hbx]
                      have hleft := left_none (up := upT T) (S := S) (a := an) (b := zb) (by rw [hmay]; decide)
                      simp [h2, h3, h9, h13, h17, h18, h19, hlt, hlt', r0, r1, r2, hrd, hwr3, han, han2, hann, han3, han4, qc, qd, s0, s1, hbx, recheck]
                      refine (hTS.may g1 g2 _ _).mono ?_
                      rintro v H5 ⟨rfl, rfl⟩
                      simp [h2, h3, h9, h13, h17, h18, h19, hlt, hlt', r0, r1, r2, hrd, hwr3, han, han2, hann, han3, han4, s0, s1, hmay]
                      refine (hTS.write g1 g2 (by omega) _ _ ht).mono ?_
                      rintro v H6 (⟨_, rfl, rfl⟩ | ⟨hm0, _⟩)
                      · simp [h2, h3, h9, h13, h17, h18, h19, hlt, hlt', r0, r1, r2, hrd, hwr3, han, han2, hann, han3, han4, s0, s1, hmay]
                        refine (hTS.left g1 g2 _ _).mono ?_
                        rintro v H7 ⟨rfl, rfl⟩
                        simp [h2, h3, h9, h13, h17, h18, h19, hlt, hlt', r0, r1, r2, hrd, hwr3, han, han2, hann, han3, han4, s0, s1, hmay, hleft, hw1]
                        exact ⟨⟨i + 1, S, by simp [h2, hc2], by simp [h3, hc'], by simp [h9], by simp [h13], by simp [h17], by simp [h18], by simp, by omega, hTn⟩, by omega⟩
                      · rw [hmay] at hm0
                        exact absurd hm0 (by decide)
                    | true =>
                      have hmay : mayF (upT T) S (an : Int) zb = 0 := by rw [hmof]; simp [hisl, hbx]
                      simp [h2, h3, h9, h13, h17, h18, h19, hlt, hlt', r0, r1, r2, hrd, hwr3, han, han2, hann, han3, han4, qc, qd, s0, s1, hbx, recheck]
                      refine (hTS.may g1 g2 _ _).mono ?_
                      rintro v H5 ⟨rfl, rfl⟩
                      simp [h2, h3, h9, h13, h17, h18, h19, hlt, hlt', r0, r1, r2, hrd, hwr3, han, han2, hann, han3, han4, hmay]
                      refine (hTS.write g1 g2 (by omega) _ _ ht).mono ?_
                      rintro v H6 (⟨hm0, _⟩ | ⟨_, an', x', han', hx', rfl, hW, hfr⟩)
                      · exact absurd hmay hm0
                      obtain rfl : an = an' := by omega
                      rw [hx] at hx'
                      cases hx'
                      obtain ⟨es, ck, f, fm0, hMB, hfS⟩ := hTn.came
                      have fk : H6[H4.length]? = some (.cells (S.map cstr) 9) := by rw [hfr _ (by simp)]; exact hTn.cont
                      have fm : H6[H4.length + 1]? = some (.map es ck) := by rw [hfr _ (by simp)]; exact fm0
                      have fa : H6[H.length]? = some (.cells [.int .i64 an, .int .i64 zb, .str t] 39) := by rw [hfr H.length (by simp)]; simp
                      have hwr2 := writeN_last H6 (old := [.int .i64 0, .int .i64 0]) (new := [.int .i64 an, .int .i64 zb]) 45 rfl rfl
                      have hW7 := hW.app (.cells [.int .i64 an, .int .i64 zb] 45)
                      have ek : (H6 ++ [AO.cells [.int .i64 an, .int .i64 zb] 45])[H4.length]? = some (.cells (S.map cstr) 9) := by rw [List.getElem?_append_left (hW.lt (by simp))]; exact fk
                      have em : (H6 ++ [AO.cells [.int .i64 an, .int .i64 zb] 45])[H4.length + 1]? = some (.map es ck) := by rw [List.getElem?_append_left (hW.lt (by simp))]; exact fm
                      have ea : (H6 ++ [AO.cells [.int .i64 an, .int .i64 zb] 45])[H.length]? = some (.cells [.int .i64 an, .int .i64 zb, .str t] 39) := by rw [List.getElem?_append_left (hW.lt (by simp))]; exact fa
                      have ee : (H6 ++ [AO.cells [.int .i64 an, .int .i64 zb] 45])[H6.length]? = some (.cells [.int .i64 an, .int .i64 zb] 45) := by simp
                      have hfill : fillA [(0, 1), (1, 1), (2, 1), (3, 1), (4, 1)] [AV.int .i64 0, AV.int .i64 0] [(0, AV.int .i64 an), (1, AV.int .i64 zb)] = some [AV.int .i64 an, AV.int .i64 zb] := rfl
                      simp [h2, h3, h9, h13, h17, h18, h19, hlt, hlt', r0, r1, r2, hrd, hwr3, han, han2, hann, han3, han4, fa, hfill, hwr2]
                      generalize H6 ++ [AO.cells [.int .i64 an, .int .i64 zb] 45] = H7 at *
                      have hgd := hT.ts.good x (List.mem_of_getElem? hx)
                      have hz1 := hgd.2 zb
                      have hz2 := hgd.1
                      have hfc := hfS an x zb hx
                      obtain ⟨n, hn⟩ : ∃ n, n = takeN x zb t := ⟨_, rfl⟩
                      have hnt : n ≤ t.length := by rw [hn]; unfold takeN; omega
                      have hn' : (n : Int) ≤ (t.length : Int) := by omega
                      have hnr : (n : Int) ≤ x.room - x.came zb := by rw [hn]; unfold takeN; omega
                      have hmin : (if x.room - x.came zb < (t.length : Int) then x.room - x.came zb else (t.length : Int)) = n := by
                        rw [hn]; unfold takeN
                        split <;> omega
                      have hsub := i64_small (x.room - x.came zb) (by omega) (by omega)
                      have hadd := i64_small (x.came zb + n) (by omega) (by omega)
                      have hsub2 := i64_small (x.room - (x.came zb + n)) (by omega) (by omega)
                      have hcn : (S.map cstr)[an]? = some (.str x.content) := by rw [List.getElem?_map, hx]; rfl
                      have hwrk := writeN_rows ek (i := an) (by simp; omega) (.str (x.content ++ t.take n)) rfl
                      have hsh := hT.ts.short x (List.mem_of_getElem? hx)
                      have hbadd : binEv .add (AV.str x.content) (AV.str (t.take n)) = some (.str (x.content ++ t.take n)) := by
                        show strBin .add _ _ = _
                        unfold strBin
                        rw [if_pos (by rw [List.length_take]; omega)]
                      have hS' : (S.set an (takeK x zb t))[an]? = some (takeK x zb t) := by rw [List.getElem?_set, if_pos rfl, if_pos (by omega)]
                      have hmay' : mayF (upT T) (S.set an (takeK x zb t)) (an : Int) zb = 0 := by
                        rw [may_of hS' zb, hisl, show (takeK x zb t).label = x.label from rfl, hbx]; rfl
                      have hcont' : contentF (S.set an (takeK x zb t)) (an : Int) = x.content ++ t.take n := by rw [content_of hS', hn]; rfl
                      have hleft' : leftF (upT T) (S.set an (takeK x zb t)) (an : Int) zb = x.room - (x.came zb + n) := by
                        rw [left_of hS' hmay', hn]
                        show x.room - updI x.came zb (x.came zb + takeN x zb t) zb = _
                        unfold updI
                        rw [if_pos rfl]
                      have hbe : ∀ l : List UInt8, (l == l) = true := fun l => by rw [beq_iff_eq]
                      have hcs : ((S.map cstr).set an (.str (x.content ++ t.take n))) = (S.set an (takeK x zb t)).map cstr := by rw [List.map_set, hn]; rfl
                      have hcs2 : ((S.set an (takeK x zb t)).map cstr)[an]? = some (.str (x.content ++ t.take n)) := by rw [List.getElem?_map, hS', hn]; rfl
                      have hlr' := set_lr S hx zb t
                      have hcs3 : ((S.map cstr).set an (cstr (takeK x zb t)))[an]? = some (.str (x.content ++ t.take n)) := by rw [← hcs2, List.map_set]
                      rw [hcs] at hwrk
                      obtain ⟨H8, hH8⟩ : ∃ X, X = H7.set H4.length (.cells ((S.set an (takeK x zb t)).map cstr) 9) := ⟨_, rfl⟩
                      rw [← hH8] at hwrk
                      have hW8 := hW7.set (i := H4.length) (by simp) (.cells ((S.set an (takeK x zb t)).map cstr) 9)
                      rw [← hH8] at hW8
                      have l7k := (List.getElem?_eq_some_iff.1 ek).1
                      have l7m := (List.getElem?_eq_some_iff.1 em).1
                      have hHk : H4.length < H.length := hT.ts.lt (by simp)
                      have hHm : H4.length + 1 < H.length := hT.ts.lt (by simp)
                      have h6l := hW.lt (i := H.length) (by simp)
                      have k8 : H8[H4.length]? = some (.cells ((S.set an (takeK x zb t)).map cstr) 9) := by rw [hH8, List.getElem?_set, if_pos rfl, if_pos l7k]
                      have m8 : H8[H4.length + 1]? = some (.map es ck) := by rw [hH8, List.getElem?_set, if_neg (by omega)]; exact em
                      have a8 : H8[H.length]? = some (.cells [.int .i64 an, .int .i64 zb, .str t] 39) := by rw [hH8, List.getElem?_set, if_neg (by omega)]; exact ea
                      have e8 : H8[H6.length]? = some (.cells [.int .i64 an, .int .i64 zb] 45) := by rw [hH8, List.getElem?_set, if_neg (by omega)]; exact ee
                      have l8m := (List.getElem?_eq_some_iff.1 m8).1
                      have hset8 : ∀ o, (H8.set (H4.length + 1) o)[H4.length + 1]? = some o := fun o => by rw [List.getElem?_set, if_pos rfl, if_pos l8m]
                      have out : ∀ es' ck', ∀ o, o = AO.map es' ck' → TS (H8.set (H4.length + 1) o) sx l p q T (S.set an (takeK x zb t)) (100 * i + 100) (H6.length :: H.length :: [H4.length, H4.length + 1]) ∧
                          (H8.set (H4.length + 1) o)[H4.length]? = some (.cells ((S.set an (takeK x zb t)).map cstr) 9) ∧ (H8.set (H4.length + 1) o)[H4.length + 1]? = some o ∧
                          (H8.set (H4.length + 1) o)[H.length]? = some (.cells [.int .i64 an, .int .i64 zb, .str t] 39) ∧ (H8.set (H4.length + 1) o)[H6.length]? = some (.cells [.int .i64 an, .int .i64 zb] 45) := fun es' ck' o ho => by
                        refine ⟨hW8.set (by simp) _, ?_, ?_, ?_, ?_⟩
                        · rw [List.getElem?_set, if_neg (by omega)]; exact k8
                        · rw [List.getElem?_set, if_pos rfl, if_pos l8m]
                        · rw [List.getElem?_set, if_neg (by omega)]; exact a8
                        · rw [List.getElem?_set, if_neg (by omega)]; exact e8
                      have hcame := came_set hfS hx zb t
                      rw [← hn] at hcame
                      rcases hMB.find two45 (an, zb) with ⟨hf, hf0, hfi, hup⟩ | ⟨j, en, hf, hjl, hen, hev, hek, heb, hfi, hup⟩
                      · have hg := found_new two45 hMB.map hf (.int .i64 0) ck
                        have hf' := found_new two45 hMB.map hf (.int .i64 n) ck
                        simp only [pairA] at hf hfi hup hg hf'
                        have hfn : List.findIdx? (fun x : AEntry => decide ((x.born : Int) = (ck : Int))) es = none := by
                          rw [List.findIdx?_eq_none_iff]
                          intro y hy
                          obtain ⟨i, hi, rfl⟩ := List.getElem_of_mem hy
                          have h1 := hMB.born i _ (List.getElem?_eq_getElem hi)
                          have h2 := hMB.clock
                          simp
                          omega
                        have hc0 : x.came zb = 0 := by rw [← hfc]; exact hf0
                        have hmb' := hup n
                        obtain ⟨hW9, k9, m9, a9, e9⟩ := out (es ++ [⟨AV.agg [AV.int .i64 an, AV.int .i64 zb], .int .i64 n, ck⟩]) (ck + 1) _ rfl
                        have hse : (es ++ [(⟨AV.agg [AV.int .i64 an, AV.int .i64 zb], .int .i64 0, ck⟩ : AEntry)]).set es.length ⟨AV.agg [AV.int .i64 an, AV.int .i64 zb], .int .i64 n, ck⟩ = es ++ [⟨AV.agg [AV.int .i64 an, AV.int .i64 zb], .int .i64 n, ck⟩] := by simp
                        have hadd0 : IntKind.i64.wrap (n : Int) = n := by have := hadd; rw [hc0, Int.zero_add] at this; exact this
                        have hsub0 : IntKind.i64.wrap x.room = x.room := by have := hsub; rw [hc0, Int.sub_zero] at this; exact this
                        have hsub3 : IntKind.i64.wrap (x.room - n) = x.room - n := by have := hsub2; rw [hc0, Int.zero_add] at this; exact this
                        have hmin0 := hmin
                        rw [hc0, Int.sub_zero] at hmin0
                        rw [hc0, Int.zero_add] at hleft' hsub2
                        refine AWp.sched [0, 1, 2, 3, 4, 5, 6, 7, 8, 9, 10, 11, 12, 13, 14] Fns.mixed (by decide +kernel) ?_
                        simp [h2, h3, h9, h13, h17, h18, h19, hlt, hlt', r0, r1, r2, hrd, hwr3, han, han2, hann, han3, han4, s0, s1, ea, ee, em, hf, foldI, hsub0, hmin0]
                        refine AWp.sched [0, 1, 2, 3, 4, 5, 6, 7, 8, 9, 10, 11, 12, 13, 14] Fns.mixed (by decide +kernel) ?_
                        simp [h2, h3, h9, h13, h17, h18, h19, hlt, hlt', r0, r1, r2, hrd, hwr3, han, han2, hann, han3, han4, ea, ek, hcn, boundEv, hn', hnt, hbadd, hwrk]
                        refine AWp.sched [0, 1, 2, 3, 4, 5, 6, 7] Fns.mixed (by decide +kernel) ?_
                        simp [h2, h3, h9, h13, h17, h18, h19, hlt, hlt', r0, r1, r2, hrd, hwr3, han, han2, hann, han3, han4, e8, m8, hf, hadd0, hfn, hset8, hse, hg, recheck]
                        generalize H8.set (H4.length + 1) (AO.map (es ++ [⟨AV.agg [AV.int .i64 an, AV.int .i64 zb], .int .i64 n, ck⟩]) (ck + 1)) = H9 at *
                        refine AWp.sched [0, 1, 2, 3, 4, 5, 6, 7, 8, 9, 10, 12, 13, 14, 15, 16, 11, 17, 18, 19, 20, 21, 22, 23, 24, 26, 27, 28, 29, 30, 31, 32, 33, 34, 35, 25, 36, 37] Fns.mixed (by decide +kernel) ?_
                        simp [h2, h3, h9, h13, h17, h18, h19, hlt, hlt', r0, r1, r2, hrd, hwr3, han, han2, hann, han3, han4, s0, s1, k9, m9, a9, e9, hcs3, hf', hse, ← hn]
                        refine (hW9.content _).mono ?_
                        rintro v H10 ⟨rfl, rfl⟩
                        simp [h2, h3, h9, h13, h17, h18, h19, hlt, hlt', r0, r1, r2, hrd, hwr3, han, han2, hann, han3, han4, s0, s1, k9, m9, a9, e9, hcs3, hf', hse, hcs2, hcont', neq_str, recheck]
                        refine (hW9.left g1 g2 _ _).mono ?_
                        rintro v H10 ⟨rfl, rfl⟩
                        simp [h2, h3, h9, h13, h17, h18, h19, hlt, hlt', r0, r1, r2, hrd, hwr3, han, han2, hann, han3, han4, s0, s1, k9, m9, a9, e9, hcs3, hf', hse, hleft', hsub2, hsub3, recheck, hw1]
                        exact ⟨⟨i + 1, S.set an (takeK x zb t), by simp [h2, hc2], by simp [h3, hc'], by simp [h9], by simp [h13], by simp [h17], by simp [h18], by simp, by omega,
                          ⟨hW9.sub (by simp) (by omega), k9, ⟨_, _, _, m9, hmb', by intro a y b hy; have := hcame a y b hy; rw [hc0, Int.zero_add] at this; exact this⟩, by rw [hlr']; exact hT.lab, by omega⟩⟩, by omega⟩
                      · have hg := found_set two45 hMB.map hf hen hek en.val j
                        have hf' := found_set two45 hMB.map hf hen hek (.int .i64 (x.came zb + n)) j
                        have hst : staysEv en.key (pairA (an, zb)) = true := by rw [hek]; exact stays_pair _
                        simp only [pairA] at hf hfi hup hg hf' hek hst
                        have hev2 : en.val = .int .i64 (x.came zb) := by rw [hev, hfc]
                        have hmb' := hup (x.came zb + n)
                        have hej := (List.getElem?_eq_some_iff.1 hen).2
                        obtain ⟨hW9, k9, m9, a9, e9⟩ := out (es.set j ⟨AV.agg [AV.int .i64 an, AV.int .i64 zb], .int .i64 (x.came zb + n), j⟩) ck _ rfl
                        have hse : ∀ y : AEntry, (es.set j y)[j]? = some y := fun y => by rw [List.getElem?_set, if_pos rfl, if_pos hjl]
                        rw [hev2] at hg
                        have hfi2 := hfi (.int .i64 (x.came zb))
                        simp at hfi2
                        refine AWp.sched [0, 1, 2, 3, 4, 5, 6, 7, 8, 9, 10, 11, 12, 13, 14] Fns.mixed (by decide +kernel) ?_
                        simp [h2, h3, h9, h13, h17, h18, h19, hlt, hlt', r0, r1, r2, hrd, hwr3, han, han2, hann, han3, han4, s0, s1, ea, ee, em, hf, hen, hev2, foldI, hsub, hmin]
                        refine AWp.sched [0, 1, 2, 3, 4, 5, 6, 7, 8, 9, 10, 11, 12, 13, 14] Fns.mixed (by decide +kernel) ?_
                        simp [h2, h3, h9, h13, h17, h18, h19, hlt, hlt', r0, r1, r2, hrd, hwr3, han, han2, hann, han3, han4, ea, ek, hcn, boundEv, hn', hnt, hbadd, hwrk]
                        refine AWp.sched [0, 1, 2, 3, 4, 5, 6, 7] Fns.mixed (by decide +kernel) ?_
                        simp [h2, h3, h9, h13, h17, h18, h19, hlt, hlt', r0, r1, r2, hrd, hwr3, han, han2, hann, han3, han4, e8, m8, hf, hen, hev2, heb, hst, hadd, hfi2, hset8, hse, hg, recheck]
                        generalize H8.set (H4.length + 1) (AO.map (es.set j ⟨AV.agg [AV.int .i64 an, AV.int .i64 zb], .int .i64 (x.came zb + n), j⟩) ck) = H9 at *
                        refine AWp.sched [0, 1, 2, 3, 4, 5, 6, 7, 8, 9, 10, 12, 13, 14, 15, 16, 11, 17, 18, 19, 20, 21, 22, 23, 24, 26, 27, 28, 29, 30, 31, 32, 33, 34, 35, 25, 36, 37] Fns.mixed (by decide +kernel) ?_
                        simp [h2, h3, h9, h13, h17, h18, h19, hlt, hlt', r0, r1, r2, hrd, hwr3, han, han2, hann, han3, han4, s0, s1, k9, m9, a9, e9, hcs3, hf', hse, ← hn]
                        refine (hW9.content _).mono ?_
                        rintro v H10 ⟨rfl, rfl⟩
                        simp [h2, h3, h9, h13, h17, h18, h19, hlt, hlt', r0, r1, r2, hrd, hwr3, han, han2, hann, han3, han4, s0, s1, k9, m9, a9, e9, hcs3, hf', hse, hcs2, hcont', neq_str, recheck]
                        refine (hW9.left g1 g2 _ _).mono ?_
                        rintro v H10 ⟨rfl, rfl⟩
                        simp [h2, h3, h9, h13, h17, h18, h19, hlt, hlt', r0, r1, r2, hrd, hwr3, han, han2, hann, han3, han4, s0, s1, k9, m9, a9, e9, hcs3, hf', hse, hleft', hsub2, hsub2, recheck, hw1]
                        exact ⟨⟨i + 1, S.set an (takeK x zb t), by simp [h2, hc2], by simp [h3, hc'], by simp [h9], by simp [h13], by simp [h17], by simp [h18], by simp, by omega,
                          ⟨hW9.sub (by simp) (by omega), k9, ⟨_, _, _, m9, hmb', by intro a y b hy; exact hcame a y b hy⟩, by rw [hlr']; exact hT.lab, by omega⟩⟩, by omega⟩
                  · have qd' : ((upT T).length : Int) ≤ zb := by omega
                    have hmay : mayF (upT T) S (an : Int) zb = 1 := by rw [hmof, show isL (upT T).length zb = false by simp [isL]; omega]; rfl
                    have hleft := left_none (up := upT T) (S := S) (a := an) (b := zb) (by rw [hmay]; decide)
                    simp [h2, h3, h9, h13, h17, h18, h19, hlt, hlt', r0, r1, r2, hrd, hwr3, han, han2, hann, han3, han4, qc, qd', recheck]
                    refine (hTS.may g1 g2 _ _).mono ?_
                    rintro v H5 ⟨rfl, rfl⟩
                    simp [h2, h3, h9, h13, h17, h18, h19, hlt, hlt', r0, r1, r2, hrd, hwr3, han, han2, hann, han3, han4, hmay]
                    refine (hTS.write g1 g2 (by omega) _ _ ht).mono ?_
                    rintro v H6 (⟨_, rfl, rfl⟩ | ⟨hm0, _⟩)
                    · simp [h2, h3, h9, h13, h17, h18, h19, hlt, hlt', r0, r1, r2, hrd, hwr3, han, han2, hann, han3, han4, hmay]
                      refine (hTS.left g1 g2 _ _).mono ?_
                      rintro v H7 ⟨rfl, rfl⟩
                      simp [h2, h3, h9, h13, h17, h18, h19, hlt, hlt', r0, r1, r2, hrd, hwr3, han, han2, hann, han3, han4, hmay, hleft, hw1]
                      exact ⟨⟨i + 1, S, by simp [h2, hc2], by simp [h3, hc'], by simp [h9], by simp [h13], by simp [h17], by simp [h18], by simp, by omega, hTn⟩, by omega⟩
                    · rw [hmay] at hm0
                      exact absurd hm0 (by decide)
                · have qc' : zb < 0 := by omega
                  have hmay : mayF (upT T) S (an : Int) zb = 1 := by rw [hmof, show isL (upT T).length zb = false by simp [isL]; omega]; rfl
                  have hleft := left_none (up := upT T) (S := S) (a := an) (b := zb) (by rw [hmay]; decide)
                  simp [h2, h3, h9, h13, h17, h18, h19, hlt, hlt', r0, r1, r2, hrd, hwr3, han, han2, hann, han3, han4, qc', recheck]
                  refine (hTS.may g1 g2 _ _).mono ?_
                  rintro v H5 ⟨rfl, rfl⟩
                  simp [h2, h3, h9, h13, h17, h18, h19, hlt, hlt', r0, r1, r2, hrd, hwr3, han, han2, hann, han3, han4, hmay]
                  refine (hTS.write g1 g2 (by omega) _ _ ht).mono ?_
                  rintro v H6 (⟨_, rfl, rfl⟩ | ⟨hm0, _⟩)
                  · simp [h2, h3, h9, h13, h17, h18, h19, hlt, hlt', r0, r1, r2, hrd, hwr3, han, han2, hann, han3, han4, hmay]
                    refine (hTS.left g1 g2 _ _).mono ?_
                    rintro v H7 ⟨rfl, rfl⟩
                    simp [h2, h3, h9, h13, h17, h18, h19, hlt, hlt', r0, r1, r2, hrd, hwr3, han, han2, hann, han3, han4, hmay, hleft, hw1]
                    exact ⟨⟨i + 1, S, by simp [h2, hc2], by simp [h3, hc'], by simp [h9], by simp [h13], by simp [h17], by simp [h18], by simp, by omega, hTn⟩, by omega⟩
                  · rw [hmay] at hm0
                    exact absurd hm0 (by decide)
              · have hmay : mayF (upT T) S za zb = 4 := may_none (by rw [hSl]; exact qab) zb
                have hleft := left_none (up := upT T) (S := S) (a := za) (b := zb) (by rw [hmay]; decide)
                by_cases qa : ¬ za < 0
                · have qb : (P.length : Int) ≤ za := by omega
                  have qb0 : (0 : Int) ≤ za := by omega
                  simp [h2, h3, h9, h13, h17, h18, h19, ha, hlt, hlt', r0, r1, r2, hrd, hwr3, qa, qb, qb0]
                  refine (hTS.may g1 g2 _ _).mono ?_
                  rintro v H5 ⟨rfl, rfl⟩
                  simp [h2, h3, h9, h13, h17, h18, h19, ha, hlt, hlt', r0, r1, r2, hrd, hwr3, hmay]
                  refine (hTS.write g1 g2 (by omega) _ _ ht).mono ?_
                  rintro v H6 (⟨_, rfl, rfl⟩ | ⟨hm0, _⟩)
                  · simp [h2, h3, h9, h13, h17, h18, h19, ha, hlt, hlt', r0, r1, r2, hrd, hwr3, hmay]
                    refine (hTS.left g1 g2 _ _).mono ?_
                    rintro v H7 ⟨rfl, rfl⟩
                    simp [h2, h3, h9, h13, h17, h18, h19, ha, hlt, hlt', r0, r1, r2, hrd, hwr3, hmay, hleft, hw1]
                    exact ⟨⟨i + 1, S, by simp [h2, ha], by simp [h3, hc'], by simp [h9], by simp [h13], by simp [h17], by simp [h18], by simp, by omega, hTn⟩, by omega⟩
                  · rw [hmay] at hm0
                    exact absurd hm0 (by decide)
                · have qa' : za < 0 := by omega
                  simp [h2, h3, h9, h13, h17, h18, h19, ha, hlt, hlt', r0, r1, r2, hrd, hwr3, qa']
                  refine (hTS.may g1 g2 _ _).mono ?_
                  rintro v H5 ⟨rfl, rfl⟩
                  simp [h2, h3, h9, h13, h17, h18, h19, ha, hlt, hlt', r0, r1, r2, hrd, hwr3, hmay]
                  refine (hTS.write g1 g2 (by omega) _ _ ht).mono ?_
                  rintro v H6 (⟨_, rfl, rfl⟩ | ⟨hm0, _⟩)
                  · simp [h2, h3, h9, h13, h17, h18, h19, ha, hlt, hlt', r0, r1, r2, hrd, hwr3, hmay]
                    refine (hTS.left g1 g2 _ _).mono ?_
                    rintro v H7 ⟨rfl, rfl⟩
                    simp [h2, h3, h9, h13, h17, h18, h19, ha, hlt, hlt', r0, r1, r2, hrd, hwr3, hmay, hleft, hw1]
                    exact ⟨⟨i + 1, S, by simp [h2, ha], by simp [h3, hc'], by simp [h9], by simp [h13], by simp [h17], by simp [h18], by simp, by omega, hTn⟩, by omega⟩
                  · rw [hmay] at hm0
                    exact absurd hm0 (by decide)
            · obtain rfl : i = A.length := by omega
              have hnl2 : ¬ (A.length : Int) < 0 := by omega
              have hSl : S.length = P.length := by have := congrArg List.length hT.lab; simpa using this
              have hcl : contentF S (P.length : Int) = [] := content_none (by omega)
              have hcm : contentF S (-1) = [] := content_none (by omega)
              have hcl0 : P.length = 0 → contentF S 0 = [] := fun h => content_none (by omega)
              rcases hA.len with ⟨hc0, hA0⟩ | ⟨b, off, cap, hc0⟩ <;>
              · rw [hc0] at h3
                simp [h3, h19, hnl2]
                refine AWp.loop (fun e H' => H' = H ∧ ∃ j : Nat, e 2 = a ∧ e 13 = .ptr (.mu sx) 0 ∧ e 17 = .slice (.mu H4.length) 0 P.length (.known P.length) ∧ e 26 = .int .i64 j ∧ j ≤ P.length) (fun e _ => match e 26 with | .int _ i => ((P.length : Int) - i).toNat | _ => 0) ⟨rfl, 0, by simp [h2], by simp [h13], by simp [h17], rfl, by omega⟩ ?_
                rintro e H' ⟨rfl, j, h2, h13, h17, h26, hj⟩
                refine wpE_sound _ ?_
                by_cases hjl : j < P.length
                · obtain ⟨b2, off2, cap2, hc2, s0, s1⟩ := sl_at hs hjl
                  rw [hc2] at h2
                  obtain ⟨x, hx⟩ : ∃ x, S[j]? = some x := ⟨_, List.getElem?_eq_getElem (by omega)⟩
                  have hcn : (S.map cstr)[j]? = some (.str x.content) := by rw [List.getElem?_map, hx]; rfl
                  have hco := content_of hx
                  have hk := hT.cont
                  have hjl' : (j : Int) < (P.length : Int) := by omega
                  have hw1 := i64_small ((j : Int) + 1) (by omega) (by omega)
                  simp [h2, h13, h17, h26, hjl, hjl']
                  refine AWp.sched [0, 1, 3, 4, 5, 6, 2, 7] Fns.mixed (by decide +kernel) ?_
                  simp [h2, h13, h17, h26, hjl, hjl', hk, hcn, hx]
                  refine (hT.ts.content _).mono ?_
                  rintro v H5 ⟨rfl, rfl⟩
                  simp [h2, h13, h17, h26, hjl, hjl', hk, hcn, hx, cstr, recheck, hco, neq_str, hw1]
                  exact ⟨⟨hc2.symm, j + 1, by simp, by omega⟩, by omega⟩
                · obtain rfl : j = P.length := by omega
                  simp [h2, ha, h13, h17, h26, hnl]
                  refine (hT.ts.content _).mono ?_
                  rintro v H5 ⟨rfl, rfl⟩
                  simp [h2, ha, h13, h17, h26, hcm, eql_str]
                  refine (hT.ts.content _).mono ?_
                  rintro v H5 ⟨rfl, rfl⟩
                  first
                  | simp [hcl0 hP0, eql_str]
                  | simp [hcl, eql_str]
                  refine wk _ _ fun v hv => ?_
                  subst hv
                  simp
          · have hrt : rightB (upT T).length P P.length = false := by
              cases hq : rightB (upT T).length P P.length with
              | false => rfl
              | true => exact absurd ((rightB_all _ _).1 hq) hno
            rw [hrt] at h15
            simp [h2, h3, h9, h13, h14, h15, h16, ha, hnl, eqEv]
            refine wk _ _ fun v hv => ?_
            subst hv
            simp
      · simp [ha, hP, hP', hr, hs6]
        refine (rank_no hT _ r s hm).mono ?_
        rintro v H1 ⟨k1, rfl⟩
        simp
        refine (new_nil _ _).mono ?_
        rintro v H1 ⟨rfl, rfl⟩
        simp [eqEv]
        refine wk _ _ fun v hv => ?_
        subst hv
        simp
end Go.Proofs.YtaanoplfdjlnmaaDoor.Sk
