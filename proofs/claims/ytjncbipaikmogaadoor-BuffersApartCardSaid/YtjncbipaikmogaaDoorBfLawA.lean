/- BuffersApart: what the law's code computes. -/
import Derived.Test.YtjncbipaikmogaaDoorBfTwo
namespace Go.Proofs.YtjncbipaikmogaaDoor.Bf
open Go Go.RowKit Am Latt
set_option maxRecDepth 100000
set_option linter.unusedSimpArgs false
set_option linter.unusedVariables false
attribute [-simp] Am.binEv Am.intBin Am.read1
attribute [local simp] binEv_lss binEv_leq binEv_gtr binEv_geq binEv_eql binEv_neq binEv_add binEv_sub binEv_mul binEv_shr58 read1_ro read1_mu
variable {R : Ro}
theorem binEv_rem {k : IntKind} {a b : Int} (h : b ≠ 0) : binEv .rem (.int k a) (.int k b) = some (.int k (a.tmod b)) := by simp [binEv, intBin, h]
theorem latAll {H : AH} {l p q : Nat} {T : List (List Bool)} (h : LatIn H l p q (upT T) (dnT T)) (g1 : 1 ≤ T.length) (g2 : T.length ≤ 64) : ∀ H', Keeps H H' → LatIn H' l p q (upT T) (dnT T) ∧ LatAt R H' l (upT T) (dnT T) := fun H' hk => by
  have := h.frame (H' := H') fun i hi => hk.2 i (lat_lt h i hi)
  exact ⟨this, this.at g1 g2⟩
def AInv (ba bb l p q : Nat) (T : List (List Bool)) (c : AV) (x : Int) (A : List Act) (e : Env) (H : AH) : Prop :=
  ∃ (i : Nat) (Sa Sb : List LB), e 2 = c ∧ e 3 = .int .i64 x ∧ e 9 = .ptr (.mu l) 0 ∧ e 11 = .ptr (.mu ba) 0 ∧ e 12 = .ptr (.mu bb) 0 ∧ e 13 = .int .i64 i ∧ i ≤ A.length ∧ Two H ba bb l p q T Sa Sb (2 * i) ∧ Alike (upT T) x Sa Sb
theorem binEv_sneq (a b : List UInt8) : binEv .neq (.str a) (.str b) = some (.bool (a != b)) := rfl
set_option maxHeartbeats 4000000 in
theorem apart (hT : HasTab R) (haw : ∀ H, ACalls Tryd.prog R 6 [] H fun v H' => H' = H ∧ v = .bool true) {r s x : Int} {c : AV} {A : List Act} (hr : 0 ≤ r ∧ r ≤ 255) (hs : 0 ≤ s ∧ s ≤ 255) (hA : Acts R c A) :
    ACalls Tryd.prog R 4 [.int .u8 r, .int .u8 s, c, .int .i64 x] [] fun v _ => v = .bool true := by
  obtain ⟨r4, hr4⟩ : ∃ z, r.tmod 4 = z := ⟨_, rfl⟩
  obtain ⟨s3, hs3⟩ : ∃ z, s.tmod 3 = z := ⟨_, rfl⟩
  have b1 : 0 ≤ r4 ∧ r4 ≤ 3 := by rw [← hr4]; exact ⟨Int.tmod_nonneg _ hr.1, by have := Int.tmod_lt_of_pos r (show (0 : Int) < 4 by decide); omega⟩
  have b2 : 0 ≤ s3 ∧ s3 ≤ 2 := by rw [← hs3]; exact ⟨Int.tmod_nonneg _ hs.1, by have := Int.tmod_lt_of_pos s (show (0 : Int) < 3 by decide); omega⟩
  have hm : RankMay (1 + r4) s3 := by
    have h1 : ∀ a : Nat, a ≤ 3 → ∀ b : Nat, b ≤ 2 → (1 + a) * 2 ^ b ≤ 64 := by decide
    have h2 := h1 r4.toNat (by omega) s3.toNat (by omega)
    rw [show 1 + r4.toNat = (1 + r4).toNat by omega] at h2
    exact ⟨by omega, by omega, by omega, by omega, h2⟩
  have w1 := i64_small r4 (by omega) (by omega)
  have w2 := i64_small s3 (by omega) (by omega)
  have w3 := i64_small (1 + r4) (by omega) (by omega)
  refine ACalls.of_wpE Fns.ok4 (by simp [Fns.a4]) ?_
  simp [Fns.a4]
  refine (haw _).mono ?_
  rintro v H ⟨rfl, rfl⟩
  simp
  refine (great_nil _ hA).mono ?_
  rintro v H ⟨rfl, b, rfl, hb⟩
  cases b with
  | true => simp
  | false =>
    have hA1 := hb rfl
    simp [binEv_rem, hr4, hs3, w1, w2, w3]
    refine (rank_sure hT _ _ _ hm).mono ?_
    have g : GoodT (rankT (1 + r4).toNat ((1 + r4).toNat * 2 ^ s3.toNat)) := rank_good (by have := hm.1; omega) hm.2.2.2.2
    rintro v H1 ⟨k1, l, p, q, rfl, hin, _, _, _⟩
    generalize rankT (1 + r4).toNat ((1 + r4).toNat * 2 ^ s3.toNat) = T at *
    have g1 := g.lo
    have g2 := g.hi
    have hall := latAll (R := R) hin g1 g2
    simp
    refine (new_ok (hall _ (Keeps.refl _)).2).mono ?_
    rintro v H2 ⟨rfl, hAa, k2, _⟩
    simp
    refine (new_ok (hall _ k2).2).mono ?_
    rintro v H3 ⟨rfl, hAb, k3, hob⟩
    have htwo : Two H3 (H1.length + 1) (H2.length + 1) l p q T (S0 (upT T).length) (S0 (upT T).length) 0 := ⟨(hall H3 (k2.trans k3)).1, ⟨_, _, _, _, _, _, Own.keeps hAa k3, hAb, fun j ha hb => by have := hAa.lt ha; have := hob j hb; omega⟩, S0_ok _, S0_ok _⟩
    generalize H1.length + 1 = ba at htwo
    generalize H2.length + 1 = bb at htwo
    have hlike : Alike (upT T) x (S0 (upT T).length) (S0 (upT T).length) := ⟨by simp [S0], by simp [S0], fun _ _ => rfl⟩
    simp
    refine AWp.loop (fun e H => AInv ba bb l p q T c x A e H) (fun e _ => match e 13 with | .int _ i => ((A.length : Int) - i).toNat | _ => 0) ⟨0, _, _, rfl, rfl, rfl, rfl, rfl, rfl, by omega, htwo, hlike⟩ ?_
    rintro e H ⟨i, Sa, Sb, h2, h3, h9, h11, h12, h13, hi, hW, hal⟩
    refine wpE_sound _ ?_
    by_cases hlt : i < A.length
    · obtain ⟨b, off, cap, hc', r0, r1, r2, r3⟩ := hA.at hlt
      have hlt' : (i : Int) < (A.length : Int) := by omega
      have hw1 := i64_small ((i : Int) + 1) (by omega) (by omega)
      rw [hc'] at h2
      have hload : List.mapM (fun k => R b (off + i * 4 + k)) (List.range 4) = some [.int .i64 A[i].1, .int .i64 A[i].2.1, .int .i64 A[i].2.2.1, .str A[i].2.2.2] := by
        simp [List.range, List.range.loop, r0, r1, r2, r3]
      have hW0 := hW.keeps (Keeps.app H [AO.cells [.int .i64 A[i].1, .int .i64 A[i].2.1, .int .i64 A[i].2.2.1, .str A[i].2.2.2] 38])
      have hc0 : (H ++ [AO.cells [.int .i64 A[i].1, .int .i64 A[i].2.1, .int .i64 A[i].2.2.1, .str A[i].2.2.2] 38])[H.length]? = some (.cells [.int .i64 A[i].1, .int .i64 A[i].2.1, .int .i64 A[i].2.2.1, .str A[i].2.2.2] 38) := by simp
      simp [h2, h3, h9, h11, h12, h13, hlt, hlt', hload, writeN, AO.content, AO.withContent, splice, AV.oneCell]
      refine (hW0.below g1 g2 _ _).mono ?_
      rintro v H4 ⟨rfl, rfl⟩
      generalize hH4 : H ++ [AO.cells [.int .i64 A[i].1, .int .i64 A[i].2.1, .int .i64 A[i].2.2.1, .str A[i].2.2.2] 38] = H4 at hW0 hc0 ⊢
      have fin : ∀ (H' : AH) (Sa' Sb' : List LB) (k : Nat), k ≤ 2 * (i + 1) → Two H' ba bb l p q T Sa' Sb' k → Alike (upT T) x Sa' Sb' → ∀ e' : Env, e' 2 = c → e' 3 = .int .i64 x → e' 9 = .ptr (.mu l) 0 → e' 11 = .ptr (.mu ba) 0 → e' 12 = .ptr (.mu bb) 0 → e' 13 = .int .i64 ((i : Int) + 1) → AInv ba bb l p q T c x A e' H' :=
        fun H' Sa' Sb' k hk hW' ha' e' g2 g3 g9 g11 g12 g13 => ⟨i + 1, Sa', Sb', g2, g3, g9, g11, g12, by rw [g13]; simp, by omega, hW'.more hk, ha'⟩
      by_cases hd0 : A[i].1 = 0
      · cases hlow : bel (upT T) A[i].2.1 x with
        | true =>
          obtain ⟨he, ha2⟩ := hal.put hlow A[i].2.2.2
          simp [h2, h3, h9, h11, h12, h13, hc0, hd0, hlow]
          refine (hW0.put (by omega) _ _).mono ?_
          rintro v H5 ⟨rfl, hW1, hst⟩
          have hc1 := hst _ _ _ (by decide) (by decide) hc0
          simp [h2, h3, h9, h11, h12, h13, hc0, hc1, hd0, hlow]
          refine (hW1.swap.put (by omega) _ _).mono ?_
          rintro v H6 ⟨rfl, hW2, hst2⟩
          have hc2 := hst2 _ _ _ (by decide) (by decide) hc1
          rw [he]
          simp [h2, h3, h9, h11, h12, h13, hc0, hc1, hc2, hd0, hlow]
          refine (hW2.swap.get _ _).mono ?_
          rintro v H7 ⟨rfl, rfl⟩
          have hfin := fin H7 _ _ _ (by omega) hW2.swap ha2
          by_cases hcode : (putS Sa A[i].2.1 A[i].2.2.2).1.2 = 0
          · have hg := get_put hcode
            simp [h2, h3, h9, h11, h12, h13, hc0, hc1, hc2, hd0, hlow, hcode, hg, binEv_sneq, hw1]
            exact ⟨hfin _ (by simp [h2, hc']) (by simp [h3]) (by simp [h9]) (by simp [h11]) (by simp [h12]) (by simp), by omega⟩
          · simp [h2, h3, h9, h11, h12, h13, hc0, hc1, hc2, hd0, hlow, hcode, hw1]
            exact ⟨hfin _ (by simp [h2, hc']) (by simp [h3]) (by simp [h9]) (by simp [h11]) (by simp [h12]) (by simp), by omega⟩
        | false =>
          have ha2 := hal.putL hlow A[i].2.2.2
          simp [h2, h3, h9, h11, h12, h13, hc0, hd0, hlow]
          refine (hW0.put (by omega) _ _).mono ?_
          rintro v H5 ⟨rfl, hW1, hst⟩
          have hc1 := hst _ _ _ (by decide) (by decide) hc0
          simp [h2, h3, h9, h11, h12, h13, hc0, hc1, hd0, hlow]
          refine (hW1.get _ _).mono ?_
          rintro v H7 ⟨rfl, rfl⟩
          have hfin := fin H7 _ _ _ (by omega) hW1 ha2
          by_cases hcode : (putS Sa A[i].2.1 A[i].2.2.2).1.2 = 0
          · have hg := get_put hcode
            simp [h2, h3, h9, h11, h12, h13, hc0, hc1, hd0, hlow, hcode, hg, binEv_sneq, hw1]
            exact ⟨hfin _ (by simp [h2, hc']) (by simp [h3]) (by simp [h9]) (by simp [h11]) (by simp [h12]) (by simp), by omega⟩
          · simp [h2, h3, h9, h11, h12, h13, hc0, hc1, hd0, hlow, hcode, hw1]
            exact ⟨hfin _ (by simp [h2, hc']) (by simp [h3]) (by simp [h9]) (by simp [h11]) (by simp [h12]) (by simp), by omega⟩
      · by_cases hd1 : A[i].1 = 1
        · have hgn := get_drop hW0.oa A[i].2.1 A[i].2.2.1
          cases hlow : bel (upT T) A[i].2.1 x with
          | true =>
            obtain ⟨he, ha2⟩ := hal.drop hlow A[i].2.2.1
            simp [h2, h3, h9, h11, h12, h13, hc0, hd1, hlow]
            refine (hW0.drop _ _).mono ?_
            rintro v H5 ⟨rfl, hW1, hst⟩
            have hc1 := hst _ _ _ (by decide) (by decide) hc0
            simp [h2, h3, h9, h11, h12, h13, hc0, hc1, hd1, hlow]
            refine (hW1.swap.drop _ _).mono ?_
            rintro v H6 ⟨rfl, hW2, hst2⟩
            have hc2 := hst2 _ _ _ (by decide) (by decide) hc1
            rw [he]
            simp [h2, h3, h9, h11, h12, h13, hc0, hc1, hc2, hd1, hlow]
            refine (hW2.swap.get _ _).mono ?_
            rintro v H7 ⟨rfl, rfl⟩
            have hfin := fin H7 _ _ _ (by omega) hW2.swap ha2
            simp [h2, h3, h9, h11, h12, h13, hc0, hc1, hc2, hd1, hlow, hgn, hw1]
            exact ⟨hfin _ (by simp [h2, hc']) (by simp [h3]) (by simp [h9]) (by simp [h11]) (by simp [h12]) (by simp), by omega⟩
          | false =>
            have ha2 := hal.dropL hlow A[i].2.2.1
            simp [h2, h3, h9, h11, h12, h13, hc0, hd1, hlow]
            refine (hW0.drop _ _).mono ?_
            rintro v H5 ⟨rfl, hW1, hst⟩
            have hc1 := hst _ _ _ (by decide) (by decide) hc0
            simp [h2, h3, h9, h11, h12, h13, hc0, hc1, hd1, hlow]
            refine (hW1.get _ _).mono ?_
            rintro v H7 ⟨rfl, rfl⟩
            have hfin := fin H7 _ _ _ (by omega) hW1 ha2
            simp [h2, h3, h9, h11, h12, h13, hc0, hc1, hd1, hlow, hgn, hw1]
            exact ⟨hfin _ (by simp [h2, hc']) (by simp [h3]) (by simp [h9]) (by simp [h11]) (by simp [h12]) (by simp), by omega⟩
        · have hfin := fin H4 _ _ _ (by omega) hW0 hal
          simp [h2, h3, h9, h11, h12, h13, hc0, hd0, hd1, hw1]
          exact ⟨hfin _ (by simp [h2, hc']) (by simp [h3]) (by simp [h9]) (by simp [h11]) (by simp [h12]) (by simp), by omega⟩
    · obtain rfl : i = A.length := by omega
      have hend : ∀ (e : Env), e 3 = .int .i64 x → e 9 = .ptr (.mu l) 0 → e 11 = .ptr (.mu ba) 0 → e 12 = .ptr (.mu bb) 0 → True := fun _ _ _ _ _ => trivial
      have hseen := hal.seen
      have hls := hal.ls
      have hlt2 := hal.lt
      have hsg : ∀ pn ∈ seenS Sa (downs (upT T) x (upT T).length), bel (upT T) pn.1 x = true ∧ ∃ s, getS Sa pn.1 pn.2 = some s := fun pn hp => seen_get hls hp
      have hnl : (seenS Sa (downs (upT T) x (upT T).length)).length ≤ 10000 := by
        have h1 := seen_len hW.oa.len (downs (upT T) x (upT T).length)
        have h2 := downs_le (upT T) x (upT T).length
        rw [upT_len] at h1 h2
        rw [upT_len]; omega
      have hroom := hal.room g
      have hc2 : (c = .nilslice ∧ ¬ (A.length : Int) < 0) ∨ ∃ b off cap, c = .slice (.ro b) off A.length (.known cap) := by
        rcases hA.len with ⟨h1, _⟩ | h1
        · exact .inl ⟨h1, by omega⟩
        · exact .inr h1
      rcases hc2 with ⟨hc3, hz⟩ | ⟨b, off, cap, hc3⟩
      all_goals
        rw [hc3] at h2
        first
        | simp [h2, h3, h9, h11, h12, h13, hz]
        | simp [h2, h3, h9, h11, h12, h13]
        refine (hW.seen g1 g2 hls x).mono ?_
        rintro v1 H5 hv1
        simp [h2, h3, h9, h11, h12, h13]
        have hW5 := hW.keeps hv1.keeps
        refine (hW5.swap.seen g1 g2 hlt2 x).mono ?_
        rintro v2 H6 hv2
        rw [hseen] at hv2
        have hW6 := hW5.keeps hv2.keeps
        have hr1 := (hv1.more hv2.keeps).row
        have hr2 := hv2.row
        generalize seenS Sa (downs (upT T) x (upT T).length) = N at hv1 hv2 hsg hnl hr1 hr2
        have lens : ∀ v, RowAt H6 v N.length 2 53 (nmsV N) → (AOp.lenL (.t 0)).eval Tryd.prog R (fun _ => v) H6 = some (.int .i64 N.length, H6) := fun v hv => by
          rcases hv with ⟨rfl, h0, _⟩ | ⟨j, rfl, _⟩
          · simp [h0]
          · simp
        have l1 := lens v1 hr1
        have l2 := lens v2 hr2
        simp only [AOp.eval, X.ev] at l1 l2
        simp [h2, h3, h9, h11, h12, h13, l1, l2]
        refine AWp.loop (fun e' H' => H' = H6 ∧ e' 3 = .int .i64 x ∧ e' 9 = .ptr (.mu l) 0 ∧ e' 11 = .ptr (.mu ba) 0 ∧ e' 12 = .ptr (.mu bb) 0 ∧ e' 25 = v1 ∧ e' 26 = v2 ∧ ∃ j : Nat, e' 27 = .int .i64 j ∧ j ≤ N.length) (fun e _ => match e 27 with | .int _ i => ((N.length : Int) - i).toNat | _ => 0)
          ⟨rfl, by simp [h3], by simp [h9], by simp [h11], by simp [h12], by simp, by simp, 0, by simp, by omega⟩ ?_
        rintro e' H' ⟨rfl, g3, g9, g11, g12, g25, g26, j, g27, hj⟩
        refine wpE_sound _ ?_
        by_cases hjl : j < N.length
        · have hjl' : (j : Int) < (N.length : Int) := by omega
          have hw1 := i64_small ((j : Int) + 1) (by omega) (by omega)
          obtain ⟨j1, rfl, hj1⟩ : ∃ q, v1 = .slice (.mu q) 0 N.length (.opn 0) ∧ H'[q]? = some (.row (nmsV N) 53 2) := by
            rcases hr1 with ⟨_, h0, _⟩ | ⟨q, h1, h2, _⟩
            · omega
            · exact ⟨q, h1, h2⟩
          obtain ⟨j2, rfl, hj2⟩ : ∃ q, v2 = .slice (.mu q) 0 N.length (.opn 0) ∧ H'[q]? = some (.row (nmsV N) 53 2) := by
            rcases hr2 with ⟨_, h0, _⟩ | ⟨q, h1, h2, _⟩
            · omega
            · exact ⟨q, h1, h2⟩
          have hp : N[j]? = some N[j] := List.getElem?_eq_getElem hjl
          obtain ⟨t0, t1⟩ := nmsV_get N j _ hp
          obtain ⟨hbl, st, hst⟩ := hsg _ (List.getElem_mem hjl)
          have hst2 : getS Sb N[j].1 N[j].2 = some st := by rw [hal.get hbl]; exact hst
          have hnlen : ∀ M : List NM, (nmsV M).length = M.length * 2 := fun M => by
            induction M with
            | nil => rfl
            | cons q M ih => simp [nmsV, ih]; omega
          have hfit : j * 2 + 2 ≤ (nmsV N).length := by rw [hnlen]; omega
          have hrd : ((nmsV N).drop (j * 2)).take 2 = [.int .i64 N[j].1, .int .i64 N[j].2] := by
            have e1 : j * 2 < (nmsV N).length := by omega
            have e2 : j * 2 + 1 < (nmsV N).length := by omega
            rw [List.drop_eq_getElem_cons e1, List.drop_eq_getElem_cons e2]
            rw [List.getElem?_eq_getElem e1] at t0
            rw [List.getElem?_eq_getElem e2] at t1
            simp only [Option.some.injEq] at t0 t1
            simp [t0, t1]
          have heq := eqP N[j].1 N[j].2 N[j].1 N[j].2
          simp only [fieldsP, and_self, decide_true] at heq
          have hge := hW6.get (R := R) N[j].1 N[j].2
          have hge2 := hW6.swap.get (R := R) N[j].1 N[j].2
          have hbe := hW6.below (R := R) g1 g2 N[j].1 x
          rw [hst] at hge
          rw [hst2] at hge2
          rw [hbl] at hbe
          generalize N[j].1 = p1 at hbl t0 t1 hst hst2 hrd heq hge hge2 hbe
          generalize N[j].2 = p2 at hbl t0 t1 hst hst2 hrd heq hge hge2 hbe
          simp [g3, g9, g11, g12, g25, g26, g27, hjl, hjl']
          refine AWp.sched [0, 1, 2, 3, 4, 5, 6, 7, 8, 9, 10, 11, 12, 13, 14, 15, 16] Fns.mixed (by decide +kernel) ?_
          simp [g3, g9, g11, g12, g25, g26, g27, hjl, hjl', hj1, hj2, t0, t1]
          refine hge.mono ?_
          rintro v H'' ⟨rfl, rfl⟩
          simp [g3, g9, g11, g12, g25, g26, g27, hjl, hjl', hj1, hj2, t0, t1, recheck]
          refine AWp.sched [0, 1, 2, 3, 4, 5, 6, 7, 8, 9, 10, 11, 12, 13, 14, 15, 16] Fns.mixed (by decide +kernel) ?_
          simp [g3, g9, g11, g12, g25, g26, g27, hjl, hjl', hj1, hj2, t0, t1]
          refine hge2.mono ?_
          rintro v H'' ⟨rfl, rfl⟩
          simp [g3, g9, g11, g12, g25, g26, g27, hjl, hjl', hj1, hj2, t0, t1, recheck]
          refine AWp.sched [0, 1, 2, 3, 4, 5, 6, 7, 8, 9, 10, 11, 12, 13, 14, 15, 16, 17, 18, 19, 20, 21, 22, 23, 24, 25, 26, 27, 28, 29, 30, 31, 32] Fns.mixed (by decide +kernel) ?_
          simp [-Am.eqEv, g3, g9, g11, g12, g25, g26, g27, hjl, hjl', hj1, hj2, t0, t1, hrd, hfit, heq, binEv_sneq]
          refine hbe.mono ?_
          rintro v H'' ⟨rfl, rfl⟩
          simp [g3, g9, g11, g12, g25, g26, g27, hjl, hjl', hj1, hj2, t0, t1, recheck, hw1]
          exact ⟨⟨j + 1, by simp, by omega⟩, by omega⟩
        · obtain rfl : j = N.length := by omega
          simp [g3, g9, g11, g12, g25, g26, g27, l1]
          refine (hW6.room x).mono ?_
          rintro v H'' ⟨rfl, rfl⟩
          simp [g3, g9, g11, g12, g25, g26, g27]
          refine (hW6.swap.room x).mono ?_
          rintro v H'' ⟨rfl, rfl⟩
          rw [hroom]
          simp [g3, g9, g11, g12, g25, g26, g27]
end Go.Proofs.YtjncbipaikmogaaDoor.Bf
