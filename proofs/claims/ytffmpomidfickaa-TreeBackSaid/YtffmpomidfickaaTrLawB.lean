/- TreeBack: what the law's code computes. -/
import Derived.Test.YtffmpomidfickaaTrBackS
namespace Go.Proofs.Ytffmpomidfickaa.Tr
open Go Go.RowKit Am
set_option maxRecDepth 100000
set_option maxHeartbeats 4000000
set_option linter.unusedSimpArgs false
set_option linter.unusedVariables false
attribute [-simp] Am.binEv Am.intBin Am.read1 Am.readN
attribute [local simp] binEv_lss binEv_leq binEv_gtr binEv_geq binEv_eql binEv_neq binEv_add binEv_sub binEv_mul read1_ro read1_mu
variable {R : Ro}
open PT DT
def _root_.Am.AC.fst : AC → AC | .seq a _ => a | x => x
def _root_.Am.AC.snd : AC → AC | .seq _ b => b | x => x
def b0 : AC := Fns.a7.body.fst
def b1 : AC := Fns.a7.body.snd.fst
def b2 : AC := Fns.a7.body.snd.snd.fst
def b3 : AC := Fns.a7.body.snd.snd.snd.fst
def b4 : AC := Fns.a7.body.snd.snd.snd.snd.fst
def b5 : AC := Fns.a7.body.snd.snd.snd.snd.snd.fst
def b6 : AC := Fns.a7.body.snd.snd.snd.snd.snd.snd.fst
def b7 : AC := Fns.a7.body.snd.snd.snd.snd.snd.snd.snd.fst
def b8 : AC := Fns.a7.body.snd.snd.snd.snd.snd.snd.snd.snd.fst
def b9 : AC := Fns.a7.body.snd.snd.snd.snd.snd.snd.snd.snd.snd.fst
def b10 : AC := Fns.a7.body.snd.snd.snd.snd.snd.snd.snd.snd.snd.snd.fst
def b11 : AC := Fns.a7.body.snd.snd.snd.snd.snd.snd.snd.snd.snd.snd.snd
theorem bodyB : Fns.a7.body = .seq b0 (.seq b1 (.seq b2 (.seq b3 (.seq b4 (.seq b5 (.seq b6 (.seq b7 (.seq b8 (.seq b9 (.seq b10 b11)))))))))) := rfl
/-- What stands in the function's names from there on. -/
def BkE (e : Env) (t r n : Nat) (sd sh : Int) : Prop := e 4 = .int .i64 sd ∧ e 5 = .int .i64 sh ∧ e 8 = .ptr (.mu 1) 0 ∧ e 9 = .ptr (.mu 2) 0 ∧ e 13 = .ptr (.mu t) 0 ∧ e 14 = .slice (.mu r) 0 n (.opn 0)
/-- The split, and the close behind it. -/
theorem back_split {nt : Nat} {t r n : Nat} {p q : PA} {N : List ND} {P : PT} {sd sh : Int} {e : Env} {G : AH} (hE : BkE e t r n sd sh) (h15 : e 15 = .int .i64 P.panes.length) (hG : BkS G t r p q N P) :
    AWp Try.prog R nt b10 (fun ex e' G' => ex = .normal ∧ BkE e' t r n sd sh ∧ BkS G' t r p q N P) e G := by
  obtain ⟨h4, h5, h8, h9, h13, h14⟩ := hE
  refine wpE_sound _ ?_
  have q1 := hG.q1
  have q2 := hG.q2
  have hs := hG.split (R := R) p q sd sh
  have hle := hG.1.le
  simp only [PA.cells] at q1 q2
  simp only [PA.av, PA.cells] at hs
  simp [b10, Fns.a7, AC.fst, AC.snd, h4, h5, h8, h9, h13, q1, q2, AO.content, readN_mu]
  refine hs.mono ?_
  rintro v G1 ⟨rfl, hG1⟩
  by_cases h0 : (P.splitR p q sd sh).1 = 0
  · obtain ⟨e1, e2, e3⟩ := split_back h0
    have hl := hG1.len (R := R)
    rw [e1] at hl
    have hh := hG1.has (R := R) q
    rw [decide_eq_true e2] at hh
    have hc := hG1.close (R := R) q
    rw [e3] at hc
    have q1' := hG1.q1
    have q2' := hG1.q2
    simp only [PA.cells] at q1' q2'
    simp only [PA.av, PA.cells] at hh hc
    have hw1 : IntKind.i64.wrap ((P.panes.length : Int) + 1) = (P.panes.length : Int) + 1 := by rw [wrap_nat] <;> omega
    simp [h0, h13]
    refine hl.mono ?_
    rintro v G2 ⟨rfl, rfl⟩
    simp [h9, h13, h15, hw1, q2', AO.content, readN_mu]
    refine hh.mono ?_
    rintro v G3 ⟨rfl, rfl⟩
    simp [h9, h13, h15, hw1, q2', AO.content, readN_mu]
    refine hc.mono ?_
    rintro v G4 ⟨rfl, hG4⟩
    simp
    exact ⟨⟨by simpa using h4, by simpa using h5, by simpa using h8, by simpa using h9, by simpa using h13, by simpa using h14⟩, hG4⟩
  · rw [splitR_keep h0] at hG1
    simp [h0]
    exact ⟨⟨by simpa using h4, by simpa using h5, by simpa using h8, by simpa using h9, by simpa using h13, by simpa using h14⟩, hG1⟩
/-- The two swaps, and the nodes told again. -/
theorem back_rest {nt : Nat} {t r : Nat} {p q : PA} {P : PT} {sd sh : Int} {e : Env} {G : AH} (hE : BkE e t r P.size sd sh) (hG : BkS G t r p q (tell 0 P) P) :
    AWp Try.prog R nt b11 (QRet R Fns.a7.res fun v _ => v = .bool true) e G := by
  obtain ⟨h4, h5, h8, h9, h13, h14⟩ := hE
  refine wpE_sound _ ?_
  have q1 := hG.q1
  have q2 := hG.q2
  have hs := hG.swap (R := R) p q
  obtain ⟨e1, e2⟩ := swap_back (P := P) p q
  have hz := hG.1.size
  simp only [PA.cells] at q1 q2
  simp only [PA.av, PA.cells] at hs
  simp [b11, Fns.a7, AC.fst, AC.snd]
  refine AWp.sched [0, 1, 2, 4, 5, 6, 3, 7, 8] Fns.mixed (by decide +kernel) ?_
  simp [h8, h9, h13, q1, q2, AO.content, readN_mu]
  refine hs.mono ?_
  rintro v G1 ⟨rfl, hG1⟩
  have hs2 := hG1.swap (R := R) p q
  rw [e1, e2] at hs2
  simp only [PA.av, PA.cells] at hs2
  have q1' := hG1.q1
  have q2' := hG1.q2
  simp only [PA.cells] at q1' q2'
  simp
  refine ⟨⟨by simp [recheck, h9, q2', AO.content, readN_mu], by simp [recheck, h8, q1', AO.content, readN_mu]⟩, ?_⟩
  refine hs2.mono ?_
  rintro v G2 ⟨rfl, hG2⟩
  simp [h13]
  refine hG2.nodes.mono ?_
  rintro v G3 ⟨rfl, rfl⟩
  have hr2 := hG2.qr
  have hrl := (List.getElem?_eq_some_iff.1 hr2).1
  obtain ⟨F, hF⟩ : ∃ F, F = G2 ++ [AO.row (ndV (tell 0 P)) 54 7] := ⟨_, rfl⟩
  have f1 : F[G2.length]? = some (.row (ndV (tell 0 P)) 54 7) := by rw [hF]; simp
  have f2 : F[r]? = some (.row (ndV (tell 0 P)) 54 7) := by rw [hF]; exact get_app hr2
  rw [← hF]
  clear hF
  simp [h14]
  refine AWp.loop (fun e G => G = F ∧ e 14 = .slice (.mu r) 0 P.size (.opn 0) ∧ e 20 = .slice (.mu G2.length) 0 P.size (.opn 0) ∧ ∃ i : Nat, e 21 = .int .i64 i ∧ i ≤ P.size) (fun e _ => match e 21 with | .int _ i => ((P.size : Int) - i).toNat | _ => 0)
    ⟨rfl, by simpa using h14, by simp, 0, by simp, by omega⟩ ?_
  clear h4 h5 h8 h9 h13 h14
  rintro e G ⟨rfl, h14, h20, i, h21, hi⟩
  refine wpE_sound _ ?_
  have heN := eqN
  simp only [fieldsN] at heN
  by_cases hlt : i < P.size
  · have hlt' : (i : Int) < (P.size : Int) := by omega
    have hw1 : IntKind.i64.wrap ((i : Int) + 1) = (i : Int) + 1 := by rw [wrap_nat] <;> omega
    obtain ⟨x, hx⟩ : ∃ x, (tell 0 P)[i]? = some x := ⟨_, List.getElem?_eq_getElem (by rw [tell_len]; exact hlt)⟩
    have hrd := ndV_at _ i x hx
    have hfit : i * 7 + 7 ≤ (ndV (tell 0 P)).length := by rw [ndV_len, tell_len]; omega
    simp only [ND.cells] at hrd heN
    simp [h14, h20, h21, hlt, hlt']
    refine AWp.sched [0, 1, 2, 3, 4, 5, 6, 7, 8] Fns.mixed (by decide +kernel) ?_
    simp [-eqEv, h14, h20, h21, hlt, hlt', readN_mu, f1, f2, AO.content, hfit, hrd, heN, hw1]
    exact ⟨⟨i + 1, by simp, by omega⟩, by omega⟩
  · obtain rfl : i = P.size := by omega
    simp [h14, h20, h21]
theorem back {p q s : PA} {c : AV} {A : List TA} (hA : Acts R c A) (sd sh : Int) : ACalls Try.prog R 7 [p.av, c, q.av, s.av, .int .i64 sd, .int .i64 sh] [] fun v _ => v = .bool true := by
  have hall := fun H => ACalls.no (Fns.awake H) R
  have lens' : ∀ H : AH, (AOp.lenL (.t 0)).eval Try.prog R (fun _ => c) H = some (.int .i64 A.length, H) := fun H => by
    rcases hA.len with ⟨rfl, h0⟩ | ⟨b, off, cap, rfl⟩
    · simp [h0]
    · simp
  simp only [AOp.eval, X.ev] at lens'
  refine ACalls.of_body Fns.ok7 (by simp [Fns.a7]) ?_
  rw [bodyB]
  refine AWp.seq (wpE_sound _ ?_)
  simp [b0, Fns.a7, AC.fst, AC.snd, PA.av, PA.cells]
  refine AWp.seq (wpE_sound _ ?_)
  simp [b1, Fns.a7, AC.fst, AC.snd]
  refine (hall _).mono ?_
  rintro v H ⟨rfl, rfl⟩
  simp
  refine AWp.seq (wpE_sound _ ?_)
  by_cases hlong : 100 < A.length
  · have : (100 : Int) < (A.length : Int) := by omega
    simp [b2, Fns.a7, AC.fst, AC.snd, lens', hlong, this]
  have hlong' : ¬ (100 : Int) < (A.length : Int) := by omega
  have km := fun H => made_ok (R := R) (H := H) (p := p) hA (by omega)
  simp only [PA.av, PA.cells] at km
  simp [b2, Fns.a7, AC.fst, AC.snd, lens', hlong, hlong']
  refine AWp.seq (wpE_sound _ ?_)
  simp [b3, Fns.a7, AC.fst, AC.snd, AO.content, readN_mu]
  refine (km _).mono ?_
  rintro v G ⟨t, j, cp, rfl, hT, hk, ht3, hj3⟩
  have g := good_acts A (good_leaf p)
  generalize acts A (.leaf p) = P at hT g
  have hz := g.size
  have hle := g.le
  have hzp := size_pos P
  have hps := panes_size P
  have hll := lv_len g.sides 0
  have hlt9 := lv_tell g.sides 0
  have hnd := g.nodup
  simp
  refine AWp.seq (wpE_sound _ ?_)
  simp [b4, Fns.a7, AC.fst, AC.snd]
  refine (nodes2_ok hT (by rw [tell_len]; omega)).mono ?_
  rintro v G1 ⟨rfl, rfl⟩
  have htl := tell_len 0 P
  have hT1 := hT.app [AO.row (ndV (tell 0 P)) 54 7]
  have htlt := hT.tlt
  have hjlt := hT.jlt
  simp only [List.length_cons, List.length_nil] at ht3 hj3
  have c1 := hk.2 1 (by simp)
  have c2 := hk.2 2 (by simp)
  simp at c1 c2
  simp
  refine AWp.seq (wpE_sound _ ?_)
  simp [b5, Fns.a7, AC.fst, AC.snd]
  refine AWp.seq (wpE_sound _ ?_)
  simp [b6, Fns.a7, AC.fst, AC.snd]
  refine (lpanes_ok hT1.tre (by omega) (by omega)).mono ?_
  rintro v G2 ⟨rfl, rfl⟩
  obtain ⟨F, hF⟩ : ∃ F, F = (G ++ [AO.row (ndV (tell 0 P)) 54 7]) ++ [AO.row (paV (lv (tell 0 P))) 25 3] := ⟨_, rfl⟩
  have f1 : F[G.length]? = some (.row (ndV (tell 0 P)) 54 7) := by rw [hF]; simp
  have f2 : F[G.length + 1]? = some (.row (paV (lv (tell 0 P))) 25 3) := by rw [hF]; simp
  have hS : BkS F t G.length q s (tell 0 P) P := by
    refine ⟨g, j, cp, by rw [hF]; exact hT1.app _, ?_, ?_, f1, ht3, hj3, by omega, by omega⟩
    · rw [hF]; exact get_app (get_app c1)
    · rw [hF]; exact get_app (get_app c2)
  rw [← hF]
  clear hF
  rw [htl, hll]
  obtain ⟨N, hN⟩ : ∃ N, N = tell 0 P := ⟨_, rfl⟩
  rw [← hN] at f1 f2 hll hlt9 htl
  simp
  refine AWp.seq (wpE_sound _ ?_)
  simp [b7, Fns.a7, AC.fst, AC.snd]
  refine AWp.loop (fun e G' => G' = F ∧ BkE e t G.length P.size sd sh ∧ e 16 = .slice (.mu (G.length + 1)) 0 P.panes.length (.opn 0) ∧ ∃ i : Nat, e 17 = .int .i64 i ∧ i ≤ P.size ∧ e 15 = .int .i64 (lv (N.take i)).length) (fun e _ => match e 17 with | .int _ i => ((P.size : Int) - i).toNat | _ => 0)
    ⟨rfl, ⟨by simp, by simp, by simp, by simp, by simp, by simp⟩, by simp, 0, by simp, by omega, by simp [lv]⟩ ?_
  rintro e G' ⟨hGG, ⟨h4, h5, h8, h9, h13, h14⟩, h16, i, h17, hi, h15⟩
  rw [hGG]
  clear hGG G'
  refine wpE_sound _ ?_
  by_cases hlt : i < P.size
  · have hlt' : (i : Int) < (P.size : Int) := by omega
    have hw1 : IntKind.i64.wrap ((i : Int) + 1) = (i : Int) + 1 := by rw [wrap_nat] <;> omega
    obtain ⟨x, hx⟩ : ∃ x, N[i]? = some x := ⟨_, List.getElem?_eq_getElem (by rw [htl]; exact hlt)⟩
    have hself := ndV_get hx 0 (by omega)
    simp only [Nat.add_zero, ND.cells, List.getElem?_cons_zero] at hself
    have hls := lv_succ hx
    have hlv : (lv (N.take i)).length ≤ 31 := by
      unfold lv
      have := List.length_filter_le (fun x : ND => decide (x.side = 0)) (N.take i)
      rw [List.length_take] at this
      omega
    have hw2 : IntKind.i64.wrap (((lv (N.take i)).length : Int) + 1) = ((lv (N.take i)).length : Int) + 1 := by rw [wrap_nat] <;> omega
    by_cases hs0 : x.side = 0
    · have hl1 : (lv (N.take (i + 1))).length = (lv (N.take i)).length + 1 := by rw [hls, if_pos hs0]; simp
      simp [h14, h15, h17, hlt, hlt', f1, AO.content, hself, hs0, hw1, hw2, eqEv]
      exact ⟨⟨⟨by simpa using h4, by simpa using h5, by simpa using h8, by simpa using h9, by simpa using h13, by simpa using h14⟩, by simpa using h16, i + 1, by simp, by omega, by rw [hl1]; simp⟩, by omega⟩
    · have hl1 : (lv (N.take (i + 1))).length = (lv (N.take i)).length := by rw [hls, if_neg hs0]; simp
      simp [h14, h15, h17, hlt, hlt', f1, AO.content, hself, hs0, hw1, eqEv]
      exact ⟨⟨⟨by simpa using h4, by simpa using h5, by simpa using h8, by simpa using h9, by simpa using h13, by simpa using h14⟩, by simpa using h16, i + 1, by simp, by omega, by rw [hl1]⟩, by omega⟩
  · obtain rfl : i = P.size := by omega
    rw [← htl, List.take_length, hll] at h15
    simp [h14, h17]
    refine AWp.seq (wpE_sound _ ?_)
    have hw2 : IntKind.i64.wrap (2 * (P.panes.length : Int)) = (P.size : Int) + 1 := by
      have : (2 * (P.panes.length : Int)) = (P.size : Int) + 1 := by omega
      rw [this, wrap_nat] <;> omega
    have hw3 : IntKind.i64.wrap ((P.size : Int) + 1) = (P.size : Int) + 1 := by rw [wrap_nat] <;> omega
    have h16a : ¬ 16 < P.panes.length := by omega
    have h16b : ¬ (16 : Int) < (P.panes.length : Int) := by omega
    simp [b8, Fns.a7, AC.fst, AC.snd, h14, h15, h16, hw2, hw3, h16a, h16b]
    refine AWp.seq (wpE_sound _ ?_)
    simp [b9, Fns.a7, AC.fst, AC.snd]
    refine AWp.loop (fun e G' => G' = F ∧ BkE e t G.length P.size sd sh ∧ e 15 = .int .i64 P.panes.length ∧ e 16 = .slice (.mu (G.length + 1)) 0 P.panes.length (.opn 0) ∧ ∃ i : Nat, e 18 = .int .i64 i ∧ i ≤ P.panes.length) (fun e _ => match e 18 with | .int _ i => ((P.panes.length : Int) - i).toNat | _ => 0)
      ⟨rfl, ⟨by simpa using h4, by simpa using h5, by simpa using h8, by simpa using h9, by simpa using h13, by simpa using h14⟩, by simpa using h15, by simpa using h16, 0, by simp, by omega⟩ ?_
    clear h4 h5 h8 h9 h13 h14 h15 h16 h17
    rintro e G' ⟨hGG, hE, h15, h16, i, h18, hi⟩
    rw [hGG]
    clear hGG G'
    refine wpE_sound _ ?_
    by_cases hlt : i < P.panes.length
    · have hlt' : (i : Int) < (P.panes.length : Int) := by omega
      have hw1 : IntKind.i64.wrap ((i : Int) + 1) = (i : Int) + 1 := by rw [wrap_nat] <;> omega
      obtain ⟨x, hx⟩ : ∃ x, (lv N)[i]? = some x := ⟨_, List.getElem?_eq_getElem (by rw [hll]; exact hlt)⟩
      have hrd := paV_at _ i x hx
      have hfit : i * 3 + 3 ≤ (paV (lv N)).length := by rw [paV_len, hll]; omega
      simp [h16, h18, hlt, hlt']
      refine AWp.loop (fun e G' => G' = F ∧ BkE e t G.length P.size sd sh ∧ e 15 = .int .i64 P.panes.length ∧ e 16 = .slice (.mu (G.length + 1)) 0 P.panes.length (.opn 0) ∧ e 18 = .int .i64 i ∧ ∃ k : Nat, e 19 = .int .i64 k ∧ k ≤ i) (fun e _ => match e 19 with | .int _ k => ((i : Int) - k).toNat | _ => 0)
        ⟨rfl, ⟨by simpa using hE.1, by simpa using hE.2.1, by simpa using hE.2.2.1, by simpa using hE.2.2.2.1, by simpa using hE.2.2.2.2.1, by simpa using hE.2.2.2.2.2⟩, by simpa using h15, by simpa using h16, by simpa using h18, 0, by simp, by omega⟩ ?_
      clear hE h15 h16 h18
      rintro e G' ⟨hGG, hE, h15, h16, h18, k, h19, hk⟩
      rw [hGG]
      clear hGG G'
      refine wpE_sound _ ?_
      by_cases hkl : k < i
      · have hkl' : (k : Int) < (i : Int) := by omega
        have hw2 : IntKind.i64.wrap ((k : Int) + 1) = (k : Int) + 1 := by rw [wrap_nat] <;> omega
        obtain ⟨y, hy⟩ : ∃ y, (lv N)[k]? = some y := ⟨_, List.getElem?_eq_getElem (by rw [hll]; omega)⟩
        have hrk := paV_at _ k y hy
        have hfk : k * 3 + 3 ≤ (paV (lv N)).length := by rw [paV_len, hll]; omega
        have hkp : k < P.panes.length := by omega
        have hkp' : (k : Int) < (P.panes.length : Int) := by omega
        have hne := pa_diff (by rw [hlt9]; exact hnd) hx hy hkl
        have he := eqP x.a x.b x.c y.a y.b y.c
        rw [decide_eq_false hne] at he
        simp only [ND.pane] at hrd hrk
        simp only [fieldsP] at he
        simp [h18, h19, hkl, hkl']
        refine AWp.sched [0, 1, 2, 3, 4, 5, 6, 7, 8] Fns.mixed (by decide +kernel) ?_
        simp [-eqEv, h16, h18, h19, hlt, hlt', hkp, hkp', readN_mu, f2, AO.content, hfit, hfk, hrd, hrk, he, hw2]
        exact ⟨⟨⟨by simpa using hE.1, by simpa using hE.2.1, by simpa using hE.2.2.1, by simpa using hE.2.2.2.1, by simpa using hE.2.2.2.2.1, by simpa using hE.2.2.2.2.2⟩, h15, k + 1, by simp, by omega⟩, by omega⟩
      · obtain rfl : k = i := by omega
        simp [h18, h19, hw1]
        exact ⟨⟨⟨by simpa using hE.1, by simpa using hE.2.1, by simpa using hE.2.2.1, by simpa using hE.2.2.2.1, by simpa using hE.2.2.2.2.1, by simpa using hE.2.2.2.2.2⟩, by simpa using h15, by simpa using h16, k + 1, by simp, by omega⟩, by omega⟩
    · obtain rfl : i = P.panes.length := by omega
      simp [h16, h18]
      refine AWp.seq (AWp.mono (back_split (n := P.size) (N := tell 0 P) (P := P) (p := q) (q := s) (sd := sd) (sh := sh) (t := t) (r := G.length) ⟨by simpa using hE.1, by simpa using hE.2.1, by simpa using hE.2.2.1, by simpa using hE.2.2.2.1, by simpa using hE.2.2.2.2.1, by simpa using hE.2.2.2.2.2⟩ (by simpa using h15) hS) ?_)
      rintro ex e2 G2 ⟨rfl, hE2, hS2⟩
      exact back_rest hE2 hS2
theorem back_all (vs : List AV) (h : Shape [.int .i64, .int .i64, .int .i64] vs) (a : AV) (L : List (List AV)) (s : Sl R 9 a L) (w : ∀ x ∈ L, Shape [.int .i64, .int .i64, .int .i64, .int .i64, .int .i64, .int .i64, .int .i64, .int .i64, .int .i64] x)
    (vs2 : List AV) (h2 : Shape [.int .i64, .int .i64, .int .i64] vs2) (vs3 : List AV) (h3 : Shape [.int .i64, .int .i64, .int .i64] vs3) (sd : Int) (_ : (Lit.int .i64 sd).wf = true) (sh : Int) (_ : (Lit.int .i64 sh).wf = true) :
    ACalls Try.prog R 7 [.agg vs, a, .agg vs2, .agg vs3, .int .i64 sd, .int .i64 sh] [] fun v _ => v = .bool true := by
  obtain ⟨p, rfl⟩ := pa_of h
  obtain ⟨q, rfl⟩ := pa_of h2
  obtain ⟨r, rfl⟩ := pa_of h3
  obtain ⟨A, rfl⟩ := acts_of w
  exact back s sd sh
end Go.Proofs.Ytffmpomidfickaa.Tr
