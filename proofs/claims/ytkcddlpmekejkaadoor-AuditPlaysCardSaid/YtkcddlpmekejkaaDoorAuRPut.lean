/- One entry put into the document's log; the same entries. -/
import Derived.Test.YtkcddlpmekejkaaDoorAuRef
import Derived.Test.YtkcddlpmekejkaaDoorAuEq
namespace Go.Proofs.YtkcddlpmekejkaaDoor.Au
open Go Go.RowKit Am Latt
set_option maxRecDepth 100000
set_option linter.unusedSimpArgs false
set_option linter.unusedVariables false
attribute [-simp] Am.binEv Am.intBin Am.read1
attribute [local simp] binEv_lss binEv_leq binEv_gtr binEv_geq binEv_eql binEv_neq binEv_add binEv_sub binEv_mul binEv_shr58 read1_ro read1_mu
variable {R : Ro}
theorem under42 : Tryd.prog.underlying 42 = some (.struct fields40) := by kernel_rfl
theorem guard42 : Tryd.prog.eqGuardType Tryd.prog.depth 42 = false := by kernel_rfl
theorem stood42 : Tryd.prog.stoodInHeld 42 = false := by kernel_rfl
theorem equal_self42 (x : Ent) : pureRun Tryd.prog (Op.equal 42 (valE x) (valE x)) = some true := by
  have q2 : ∀ z, pureRun Tryd.prog (Op.equalIn 9999 3 (.int .i64 z) (.int .i64 z)) = some true := fun z => by
    rw [show (9999 : Nat) = 9998 + 1 from rfl, Op.equalIn]
    simp only [prb, pureRun_under under3, Option.bind_some, if_true, prp, beq_self_eq_true]
  have q3 : ∀ z, pureRun Tryd.prog (Op.equalIn 9999 9 (.string z) (.string z)) = some true := fun z => by
    rw [show (9999 : Nat) = 9998 + 1 from rfl, Op.equalIn]
    simp only [prb, pureRun_under under9, Option.bind_some, if_true, prp, bytes_self]
  have p0 := part_int #[.int .i64 x.1, .int .i64 x.2.1, .int .i64 x.2.2.1, .string ⟨⟨x.2.2.2⟩⟩] 0 _ rfl
  have p1 := part_int #[.int .i64 x.1, .int .i64 x.2.1, .int .i64 x.2.2.1, .string ⟨⟨x.2.2.2⟩⟩] 1 _ rfl
  have p2 := part_int #[.int .i64 x.1, .int .i64 x.2.1, .int .i64 x.2.2.1, .string ⟨⟨x.2.2.2⟩⟩] 2 _ rfl
  have p3 := part_str #[.int .i64 x.1, .int .i64 x.2.1, .int .i64 x.2.2.1, .string ⟨⟨x.2.2.2⟩⟩] 3 _ rfl
  unfold Op.equal Op.maxDepth valE
  rw [show (10000 : Nat) = 9999 + 1 from rfl, Op.equalIn]
  simp only [prb, pureRun_under under42, Option.bind_some, program, pureRun, stood42, fields40]
  simp [prb, prp, p0, p1, p2, p3, q2, q3, pureRun]
theorem eq_self42 (x : Ent) : eqEv Tryd.prog 42 (.struct fields40) (.agg (cellsE x)) (.agg (cellsE x)) = some true := by
  have hc : conc (.agg (cellsE x)) = some (valE x) := rfl
  have hg : pureRun Tryd.prog (eqGuard .eql 42 (.tmp 0) (.tmp 0) (valE x) (valE x)) = some () := by
    unfold eqGuard valE
    simp only [prb, program, pureRun, Option.bind_some]
    simp [prb, prp, pureRun, guard42, program]
  unfold eqEv
  simp only [hc]
  simp only [prb, hg, Option.bind_some, equal_self42]
theorem same_ok {H : AH} {va vb : AV} {F : List Ent} {t1 t2 : TypeId} (ha : RowAt H va F.length 4 t1 (flat F)) (hb : RowAt H vb F.length 4 t2 (flat F)) (hF : F.length ≤ 1000) : ACalls Tryd.prog R 18 [va, vb] H fun v H' => v = .bool true ∧ H' = H := by
  refine ACalls.of_wpE Fns.ok18 (by simp [Fns.a18]) ?_
  rcases ha with ⟨rfl, e0, _⟩ | ⟨j1, rfl, hj1, _⟩
  · obtain rfl := List.length_eq_zero_iff.1 e0
    rcases hb with ⟨rfl, _, _⟩ | ⟨j2, rfl, _, _⟩ <;>
    · simp [Fns.a18]
      refine AWp.loop_once (wpE_sound _ ?_)
      simp
  rcases hb with ⟨rfl, e1, _⟩ | ⟨j2, rfl, hj2, _⟩
  · obtain rfl := List.length_eq_zero_iff.1 e1
    simp [Fns.a18]
    refine AWp.loop_once (wpE_sound _ ?_)
    simp
  · simp [Fns.a18]
    refine AWp.loop (fun e H' => H' = H ∧ e 0 = .slice (.mu j1) 0 F.length (.opn 0) ∧ e 1 = .slice (.mu j2) 0 F.length (.opn 0) ∧ ∃ j : Nat, e 5 = .int .i64 j ∧ j ≤ F.length) (fun e _ => match e 5 with | .int _ i => ((F.length : Int) - i).toNat | _ => 0) ⟨rfl, rfl, rfl, 0, rfl, by omega⟩ ?_
    rintro e H' ⟨rfl, h0, h1, j, h5, hj⟩
    refine wpE_sound _ ?_
    by_cases hjl : j < F.length
    · have hjl' : (j : Int) < (F.length : Int) := by omega
      have hw1 := i64_small ((j : Int) + 1) (by omega) (by omega)
      obtain ⟨y, hy⟩ : ∃ y, F[j]? = some y := ⟨_, List.getElem?_eq_getElem hjl⟩
      have hf4 := flat_at hy
      have hfl := flat_len F
      have hfi : j * 4 + 4 ≤ F.length * 4 := by omega
      have hself := eq_self42 y
      simp only [cellsE, fields40] at hself
      simp only [eqEv] at hself
      simp only [cellsE] at hf4
      simp [h0, h1, h5, hjl, hjl']
      refine AWp.sched [0, 1, 2, 3, 4, 5, 6, 7, 8] Fns.mixed (by decide +kernel) ?_
      simp [h0, h1, h5, hjl, hjl', hj1, hj2, hf4, hfl, hfi, hself, hw1]
      exact ⟨⟨j + 1, by simp, by omega⟩, by omega⟩
    · obtain rfl : j = F.length := by omega
      simp [h0, h1, h5]
set_option maxHeartbeats 4000000 in
theorem rput_at {H : AH} {w : Nat} {tv rv : AV} {E : List Ent} {T : List (List Bool)} (h : WAt H w tv rv E) (ht : ∀ H, TabIn R H tv T) (g : GoodT T) (hE : E.length ≤ 1000) (x : Ent) :
    ACalls Tryd.prog R 13 [.ptr (.mu w) 0, .agg (cellsE x)] H fun v H' => v = .int .i64 (putF (upT T) T.length E x) ∧ ((putF (upT T) T.length E x ≠ 0 ∧ Keeps H H') ∨ (putF (upT T) T.length E x = 0 ∧ ∃ rv', WAt H' w tv rv' (E ++ [x]) ∧ H.length ≤ H'.length ∧
      (∀ i, OwnW w rv' i → OwnW w rv i ∨ H.length ≤ i) ∧ ∀ i, i < H.length → ¬ OwnW w rv i → H'[i]? = H[i]?)) := by
  have hsq : SqT T := g.rows
  have hb := h.box
  obtain ⟨by', fr, to, t⟩ := x
  have hgl := h.lt (.inl rfl)
  obtain ⟨H2, hH2⟩ : ∃ X, X = H ++ [AO.cells (cellsE (by', fr, to, t)) 42] := ⟨_, rfl⟩
  have hk2 : Keeps H H2 := by rw [hH2]; exact Keeps.app _ _
  have h2 := h.keeps hk2
  have hb2 := h2.box
  have hx2 : H2[H.length]? = some (.cells (cellsE (by', fr, to, t)) 42) := by rw [hH2]; simp
  have hlen2 : H2.length = H.length + 1 := by rw [hH2]; simp
  have lab := fun z => label_at (R := R) h2 (ht _) z
  have rbl := fun a b => rbelow_ok (R := R) (ht H2) hsq a b
  simp only [tbI_bel] at rbl
  have s1 := bel_self g by'
  have s2 := bel_self g fr
  have s3 := bel_self g to
  refine ACalls.of_wpE Fns.ok13 (by simp [Fns.a13]) ?_
  simp only [cellsE] at hH2 hx2 ⊢
  simp [Fns.a13, AV.oneCell]
  rw [← hH2]
  refine (lab by').mono ?_
  rintro v H3 ⟨rfl, rfl⟩
  cases l1 : isL T.length by' with
  | false =>
    have hp : putF (upT T) T.length E (by', fr, to, t) = 1 := by unfold putF; simp [s1, l1]
    simp [hx2, hp]
    exact hk2
  | true =>
  simp [hx2]
  refine (lab fr).mono ?_
  rintro v H3 ⟨rfl, rfl⟩
  cases l2 : isL T.length fr with
  | false =>
    have hp : putF (upT T) T.length E (by', fr, to, t) = 1 := by unfold putF; simp [s1, l1, s2, l2]
    simp [hx2, hp]
    exact hk2
  | true =>
  simp [hx2]
  refine (lab to).mono ?_
  rintro v H3 ⟨rfl, rfl⟩
  cases l3 : isL T.length to with
  | false =>
    have hp : putF (upT T) T.length E (by', fr, to, t) = 1 := by unfold putF; simp [s1, l1, s2, l2, s3, l3]
    simp [hx2, hp]
    exact hk2
  | true =>
    simp [hx2]
    refine AWp.sched [0, 1, 2, 3, 4, 5, 6, 7, 8, 9, 10, 11, 12, 13, 14, 15, 16, 17, 18, 19, 20, 21, 22, 23, 24, 25, 26, 27, 28, 29, 30, 31, 32] Fns.mixed (by decide +kernel) ?_
    simp [hb2, hx2, eqEv]
    refine (rbl _ _).mono ?_
    rintro v H3 ⟨rfl, rfl⟩
    cases c1 : bel (upT T) fr by' with
    | false =>
      have hp : putF (upT T) T.length E (by', fr, to, t) = 7 := by unfold putF; simp [s1, l1, s2, l2, s3, l3, c1]
      simp [hb2, hx2, eqEv, recheck, c1, hp]
      exact hk2
    | true =>
      simp [hb2, hx2, eqEv, recheck]
      refine (rbl _ _).mono ?_
      rintro v H3 ⟨rfl, rfl⟩
      cases c2 : bel (upT T) to by' with
      | false =>
        have hp : putF (upT T) T.length E (by', fr, to, t) = 7 := by unfold putF; simp [s1, l1, s2, l2, s3, l3, c1, c2]
        simp [hb2, hx2, eqEv, recheck, hp]
        exact hk2
      | true =>
        simp [hb2, hx2, eqEv, recheck]
        refine (rbl _ _).mono ?_
        rintro v H3 ⟨rfl, rfl⟩
        cases c3 : bel (upT T) fr to with
        | true =>
          have hp : putF (upT T) T.length E (by', fr, to, t) = 7 := by unfold putF; simp [s1, l1, s2, l2, s3, l3, c1, c2, c3]
          simp [hb2, hx2, eqEv, recheck, hp]
          exact hk2
        | false =>
          by_cases hlt : 4096 < t.length
          · have hlt' : (4096 : Int) < (t.length : Int) := by omega
            have hp : putF (upT T) T.length E (by', fr, to, t) = 3 := by unfold putF; simp [s1, l1, s2, l2, s3, l3, c1, c2, c3, hlt]
            simp [hb2, hx2, eqEv, recheck, hlt, hlt', hp]
            exact hk2
          have hlt' : ¬ (4096 : Int) < (t.length : Int) := by omega
          simp [hb2, hx2, eqEv, recheck, hlt, hlt']
          refine (rroom_at h2 (ht _) hE by').mono ?_
          rintro v H3 ⟨rfl, rfl⟩
          by_cases hr : roomF T.length E by' = 0
          · have hp : putF (upT T) T.length E (by', fr, to, t) = 6 := by unfold putF; simp [s1, l1, s2, l2, s3, l3, c1, c2, c3, hlt, hr]
            simp [hr, hp]
            exact hk2
          · have hp : putF (upT T) T.length E (by', fr, to, t) = 0 := by unfold putF; simp [s1, l1, s2, l2, s3, l3, c1, c2, c3, hlt, hr]
            have hrg : ∀ o ln c, rv ≠ .slice (.mu w) o ln c := fun o ln c e => by
              rcases h2.row with ⟨e', _⟩ | ⟨j, e', hj, _⟩
              · rw [e] at e'; cases e'
              · rw [e] at e'; cases e'; rw [hb2] at hj; cases hj
            obtain ⟨H5, hH5⟩ : ∃ X, X = H3 ++ [AO.cells (cellsE (by', fr, to, t)) 42] := ⟨_, rfl⟩
            have hl6 : H5.length = H3.length + 1 := by rw [hH5]; simp
            have hk5 : Keeps H3 H5 := by rw [hH5]; exact Keeps.app _ _
            have hrow5 := (h2.keeps hk5).row
            obtain ⟨G, hap, hGl, hGr, hGf⟩ := append_row (R := R) (by' := 40) hrow5 (src_cells (s := H3.length) (m := 1) (sz := 4) (c := cellsE (by', fr, to, t)) (t := 42) (cap := .known 1) (by rw [hH5]; simp) rfl) (by decide) (by decide) (by decide) (by omega) rfl rfl
            have hb5 : (H3 ++ [AO.cells (cellsE (by', fr, to, t)) 42])[w]? = some (.cells [tv, rv] 37) := by rw [List.getElem?_append_left (by omega)]; exact hb2
            have hbG : G[w]? = some (.cells [tv, rv] 37) := by
              rw [hGf w (by omega) hrg, hH5]; exact hb5
            have hwg := writeN_cells' hbG (i := 1) (by simp) (.slice (.mu H5.length) 0 (E.length + 1) (.opn 0)) rfl
            rw [hl6] at hap hwg hGr
            rw [hH5] at hap
            simp only [cellsE] at hap hb5
            simp only [List.set_cons_succ, List.set_cons_zero] at hwg
            simp [hr]
            refine AWp.sched [0, 1, 2, 3, 4, 5, 6, 7, 8, 9, 10] Fns.mixed (by decide +kernel) ?_
            simp [hb2, hx2, hb5, fillA, splice, zerosEv, AV.oneCell, hap, hwg, recheck, hp]
            have hrow6 : RowAt (G.set w (.cells [tv, .slice (.mu (H3.length + 1)) 0 (E.length + 1) (.opn 0)] 37)) (.slice (.mu (H3.length + 1)) 0 (E.length + 1) (.opn 0)) (E ++ [(by', fr, to, t)]).length 4 42 (flat (E ++ [(by', fr, to, t)])) := by
              rw [flat_app, flat_one]
              simp only [List.length_append, List.length_cons, List.length_nil, Nat.zero_add]
              refine hGr.frame fun j hj => ?_
              cases hj
              rw [List.getElem?_set, if_neg (by omega)]
            refine ⟨_, ⟨?_, hrow6⟩, ?_, ?_, ?_⟩
            · rw [List.getElem?_set, if_pos rfl, if_pos (List.getElem?_eq_some_iff.1 hbG).1]
            · omega
            · rintro i (rfl | ⟨o, ln, c, e⟩)
              · exact .inl (.inl rfl)
              · cases e; exact .inr (by omega)
            · intro i hi ho
              rw [List.getElem?_set, if_neg (fun e => ho (.inl e.symm)), hGf i (by omega) (fun o ln c e => ho (.inr ⟨_, _, _, e⟩))]
              exact (hk2.trans hk5).2 i hi
end Go.Proofs.YtkcddlpmekejkaaDoor.Au
