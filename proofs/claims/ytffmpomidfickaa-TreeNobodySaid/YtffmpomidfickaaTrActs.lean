/- An act, on the program's tree and on the document's. -/
import Derived.Test.YtffmpomidfickaaTrRefH
import Derived.Test.YtffmpomidfickaaTrEqN
import Derived.Test.YtffmpomidfickaaTrLPan
import Derived.Test.YtffmpomidfickaaAmFlat
namespace Go.Proofs.Ytffmpomidfickaa.Tr
open Go Go.RowKit Am
set_option maxRecDepth 100000
set_option maxHeartbeats 2000000
set_option linter.unusedSimpArgs false
set_option linter.unusedVariables false
attribute [-simp] Am.binEv Am.intBin Am.read1 Am.readN
attribute [local simp] binEv_lss binEv_leq binEv_gtr binEv_geq binEv_eql binEv_neq binEv_add binEv_sub binEv_mul read1_ro read1_mu
variable {R : Ro}
open PT DT
theorem readN_mu (H : AH) (n i off : Nat) : readN R H n (.mu i) off = match (H[i]?).bind AO.content with
    | some c => if off + n ≤ c.length then some ((c.drop off).take n) else none
    | none => none := rfl
/-- An act. -/
structure TA where
  d : Int
  p : PA
  q : PA
  m : Int
  n : Int
def TA.cells (a : TA) : List AV := .int .i64 a.d :: (a.p.cells ++ (a.q.cells ++ [.int .i64 a.m, .int .i64 a.n]))
def actR (a : TA) (P : PT) : Int × PT :=
  if a.d = 0 then P.splitR a.p a.q a.m a.n
  else if a.d = 1 then P.closeR a.p
  else if a.d = 2 then P.swapR a.p a.q
  else if a.d = 3 then P.shareR a.p a.m a.n
  else (0, P)
theorem good_act {P : PT} (h : Good P) (a : TA) : Good (actR a P).2 := by
  unfold actR
  split
  · exact good_split h _ _ _ _
  · split
    · exact good_close h _
    · split
      · exact good_swap h _ _
      · split
        · exact good_share h _ _ _
        · exact h
def acts : List TA → PT → PT
  | [], P => P
  | a :: l, P => acts l (actR a P).2
theorem acts_snoc (P : PT) : ∀ (l : List TA) (a : TA), acts (l ++ [a]) P = (actR a (acts l P)).2
  | [], a => rfl
  | b :: l, a => acts_snoc (actR b P).2 l a
theorem good_acts : ∀ (l : List TA) {P : PT}, Good P → Good (acts l P)
  | [], P, h => h
  | a :: l, P, h => good_acts l (good_act h a)
theorem good_leaf (p : PA) : Good (.leaf p) := ⟨trivial, by simp [panes], by simp [panes]⟩
/-- Acts that lie in memory. -/
def Acts (R : Ro) (a : AV) (A : List TA) : Prop := Sl R 9 a (A.map TA.cells)
theorem Acts.len {a : AV} {A : List TA} (h : Acts R a A) : (a = .nilslice ∧ A.length = 0) ∨ ∃ b off cap, a = .slice (.ro b) off A.length (.known cap) := by
  rcases h with ⟨h1, h2⟩ | ⟨b, off, cap, h1, _⟩
  · exact .inl ⟨h1, by simpa using h2⟩
  · exact .inr ⟨b, off, cap, by simpa using h1⟩
theorem Acts.at {a : AV} {A : List TA} (h : Acts R a A) {i : Nat} {x : TA} (hi : A[i]? = some x) : ∃ b off cap, a = .slice (.ro b) off A.length (.known cap) ∧ (∀ H, readN R H 9 (.ro b) (off + i * 9) = some x.cells) ∧ (∀ H, readN R H 3 (.ro b) (off + i * 9 + 1) = some x.p.cells) ∧ (∀ H, readN R H 3 (.ro b) (off + i * 9 + 4) = some x.q.cells) ∧
    R b (off + i * 9) = some (.int .i64 x.d) ∧ R b (off + i * 9 + 7) = some (.int .i64 x.m) ∧ R b (off + i * 9 + 8) = some (.int .i64 x.n) := by
  have hil := (List.getElem?_eq_some_iff.1 hi).1
  rcases h with ⟨_, h2⟩ | ⟨b, off, cap, h1, _, _, h4⟩
  · rw [List.map_eq_nil_iff.1 h2] at hi; simp at hi
  · have hx := (h4 i x.cells (by rw [List.getElem?_map, hi]; rfl)).2
    have g : ∀ j v, x.cells[j]? = some v → R b (off + i * 9 + j) = some v := hx
    have g0 := g 0 _ rfl
    have g1 := g 1 _ rfl
    have g2 := g 2 _ rfl
    have g3 := g 3 _ rfl
    have g4 := g 4 _ rfl
    have g5 := g 5 _ rfl
    have g6 := g 6 _ rfl
    have g7 := g 7 _ rfl
    have g8 := g 8 _ rfl
    refine ⟨b, off, cap, by simpa using h1, fun H => ?_, fun H => ?_, fun H => ?_, g0, g7, g8⟩
    · simp only [readN]
      show (List.map (fun k => k) [0, 1, 2, 3, 4, 5, 6, 7, 8]).mapM _ = _
      have g0' : R b (off + i * 9) = some (.int .i64 x.d) := g0
      simp [g0', g1, g2, g3, g4, g5, g6, g7, g8, TA.cells, PA.cells]
    · simp only [readN]
      show (List.map (fun k => k) [0, 1, 2]).mapM _ = _
      have e1 : off + i * 9 + 1 + 1 = off + i * 9 + 2 := by omega
      have e2 : off + i * 9 + 1 + 2 = off + i * 9 + 3 := by omega
      simp [g1, g2, g3, PA.cells]
    · simp only [readN]
      show (List.map (fun k => k) [0, 1, 2]).mapM _ = _
      simp [g4, g5, g6, PA.cells]
/-- Both have acted. -/
theorem DD.acted {H G1 G2 : AH} {t w j : Nat} {cp : Cap} {P : PT} {D : DT} {r : Int × PT} {v1 v2 : AV} (hT : TreM H t j cp (tell 0 P)) (hR : RT H w D) (h1 : ActOut H t j (r.1, tell 0 r.2) v1 G1) (h2 : RefOut G1 w D r v2 G2) (g : Good r.2) :
    v1 = .int .i64 r.1 ∧ v2 = .int .i64 r.1 ∧ DD G2 t w r.2 := by
  obtain ⟨e1, l1, f1, j', cp', T1, _⟩ := h1
  obtain ⟨e2, l2, f2, D', R2, s2, _⟩ := h2
  have R1 := hR.act hT f1
  exact ⟨e1, e2, ⟨j', cp', T1.ract R1 f2⟩, ⟨D', R2, s2⟩, g⟩
theorem ActOut.cell {H G : AH} {t j : Nat} {cp : Cap} {N : List ND} {r : Int × List ND} {v : AV} (hT : TreM H t j cp N) (h : ActOut H t j r v G) {m : Nat} {c : List AV} {ty : TypeId} (hm : H[m]? = some (.cells c ty)) (h1 : ty ≠ 60) (h2 : ty ≠ 54) : G[m]? = some (.cells c ty) := by
  have hn := hT.kinds hm h1 h2
  rw [h.2.2.1 m (List.getElem?_eq_some_iff.1 hm).1 hn.1 hn.2]; exact hm
theorem RefOut.cell {H G : AH} {w : Nat} {D : DT} {r : Int × PT} {v : AV} (hR : RT H w D) (h : RefOut H w D r v G) {m : Nat} {c : List AV} {ty : TypeId} (hm : H[m]? = some (.cells c ty)) (h1 : ty ≠ 75) : G[m]? = some (.cells c ty) := by
  rw [h.2.2.1 m (List.getElem?_eq_some_iff.1 hm).1 fun hd => ?_]; · exact hm
  obtain ⟨c', hc⟩ := hR.has.kind m hd
  rw [hc] at hm
  cases hm
  exact h1 rfl
/-- What is of another kind stays. -/
def KK (H G : AH) : Prop := ∀ (m : Nat) (c : List AV) (ty : TypeId), H[m]? = some (.cells c ty) → (ty ≠ 60 ∧ ty ≠ 54 ∧ ty ≠ 75) → G[m]? = some (.cells c ty)
theorem does_okK {H : AH} {t w : Nat} {P : PT} (h : DD H t w P) (a : TA) : ACalls Try.prog R 17 [.ptr (.mu t) 0, .ptr (.mu w) 0, .agg a.cells] H fun v G => v = .bool true ∧ DD G t w (actR a P).2 ∧ KK H G := by
  have hg := good_act h.good a
  obtain ⟨H1, hH1⟩ : ∃ H1, H1 = H ++ [AO.cells a.cells 38] := ⟨_, rfl⟩
  have hc : H1[H.length]? = some (.cells a.cells 38) := by rw [hH1]; simp
  have hKK : KK H H1 := fun m c ty hm _ => by rw [hH1]; exact get_app hm
  have h1 : DD H1 t w P := by rw [hH1]; exact h.app _
  obtain ⟨⟨j, cp, hT⟩, ⟨D, hR, rfl⟩, g⟩ := h1
  obtain ⟨d, p, q, m, n⟩ := a
  simp only [TA.cells, PA.cells, List.cons_append, List.nil_append] at hc hH1
  have fc : ∀ {G v r}, ActOut H1 t j r v G → G[H.length]? = _ := fun ho => ho.cell hT hc (by decide) (by decide)
  refine ACalls.of_wpE Fns.ok17 (by simp [Fns.a17]) ?_
  simp [Fns.a17, TA.cells, PA.cells]
  rw [← hH1]
  by_cases d0 : d = 0
  · have ha : actR ⟨d, p, q, m, n⟩ D.shape = D.shape.splitR p q m n := by unfold actR; rw [if_pos d0]
    rw [ha] at hg ⊢
    have k1 := psplit (R := R) hT g p q m n
    simp only [PA.av, PA.cells] at k1
    simp [d0]
    refine AWp.sched [0, 1, 2, 3, 4, 5, 6, 7, 8, 10, 11, 12, 13, 14, 15, 16, 17, 18, 9, 19, 20, 21] Fns.mixed (by decide +kernel) ?_
    simp [hc, AO.content, readN_mu]
    refine k1.mono ?_
    intro v1 G1 o1
    have hc1 := fc o1
    have hR1 := hR.act hT o1.2.2.1
    have k2 := rsplit_ok (R := R) hR1 g p q m n
    simp only [PA.av, PA.cells] at k2
    have e1 := o1.1
    subst e1
    simp [recheck, hc, hc1, AO.content, readN_mu]
    refine k2.mono ?_
    intro v2 G2 o2
    obtain ⟨e1, e2, hd⟩ := DD.acted hT hR o1 o2 hg
    subst e2
    simp [recheck, hc, hc1, AO.content, readN_mu]
    exact ⟨hd, fun m c ty hm ht => o2.cell hR1 (o1.cell hT (hKK m c ty hm ht) ht.1 ht.2.1) ht.2.2⟩
  by_cases d1 : d = 1
  · have ha : actR ⟨d, p, q, m, n⟩ D.shape = D.shape.closeR p := by unfold actR; rw [if_neg d0, if_pos d1]
    rw [ha] at hg ⊢
    have k1 := pclose (R := R) hT g p
    simp only [PA.av, PA.cells] at k1
    simp [d1]
    refine AWp.sched [0, 1, 2, 4, 5, 6, 3, 7, 8, 9] Fns.mixed (by decide +kernel) ?_
    simp [hc, AO.content, readN_mu]
    refine k1.mono ?_
    intro v1 G1 o1
    have hc1 := fc o1
    have hR1 := hR.act hT o1.2.2.1
    have k2 := rclose_ok (R := R) hR1 g p
    simp only [PA.av, PA.cells] at k2
    have e1 := o1.1
    subst e1
    simp [recheck, hc, hc1, AO.content, readN_mu]
    refine k2.mono ?_
    intro v2 G2 o2
    obtain ⟨e1, e2, hd⟩ := DD.acted hT hR o1 o2 hg
    subst e2
    simp [recheck, hc, hc1, AO.content, readN_mu]
    exact ⟨hd, fun m c ty hm ht => o2.cell hR1 (o1.cell hT (hKK m c ty hm ht) ht.1 ht.2.1) ht.2.2⟩
  by_cases d2 : d = 2
  · have ha : actR ⟨d, p, q, m, n⟩ D.shape = D.shape.swapR p q := by unfold actR; rw [if_neg d0, if_neg d1, if_pos d2]
    rw [ha] at hg ⊢
    have k1 := pswap (R := R) hT g p q
    simp only [PA.av, PA.cells] at k1
    simp [d2]
    refine AWp.sched [0, 1, 2, 3, 4, 6, 7, 8, 9, 10, 5, 11, 12, 13] Fns.mixed (by decide +kernel) ?_
    simp [hc, AO.content, readN_mu]
    refine k1.mono ?_
    intro v1 G1 o1
    have hc1 := fc o1
    have hR1 := hR.act hT o1.2.2.1
    have k2 := rswap_ok (R := R) hR1 g p q
    simp only [PA.av, PA.cells] at k2
    have e1 := o1.1
    subst e1
    simp [recheck, hc, hc1, AO.content, readN_mu]
    refine k2.mono ?_
    intro v2 G2 o2
    obtain ⟨e1, e2, hd⟩ := DD.acted hT hR o1 o2 hg
    subst e2
    simp [recheck, hc, hc1, AO.content, readN_mu]
    exact ⟨hd, fun m c ty hm ht => o2.cell hR1 (o1.cell hT (hKK m c ty hm ht) ht.1 ht.2.1) ht.2.2⟩
  by_cases d3 : d = 3
  · have ha : actR ⟨d, p, q, m, n⟩ D.shape = D.shape.shareR p m n := by unfold actR; rw [if_neg d0, if_neg d1, if_neg d2, if_pos d3]
    rw [ha] at hg ⊢
    have k1 := pshare (R := R) hT g p m n
    simp only [PA.av, PA.cells] at k1
    simp [d3]
    refine AWp.sched [0, 1, 2, 3, 4, 5, 6, 8, 9, 10, 11, 12, 13, 14, 7, 15, 16, 17] Fns.mixed (by decide +kernel) ?_
    simp [hc, AO.content, readN_mu]
    refine k1.mono ?_
    intro v1 G1 o1
    have hc1 := fc o1
    have hR1 := hR.act hT o1.2.2.1
    have k2 := rshare_ok (R := R) hR1 g p m n
    simp only [PA.av, PA.cells] at k2
    have e1 := o1.1
    subst e1
    simp [recheck, hc, hc1, AO.content, readN_mu]
    refine k2.mono ?_
    intro v2 G2 o2
    obtain ⟨e1, e2, hd⟩ := DD.acted hT hR o1 o2 hg
    subst e2
    simp [recheck, hc, hc1, AO.content, readN_mu]
    exact ⟨hd, fun m c ty hm ht => o2.cell hR1 (o1.cell hT (hKK m c ty hm ht) ht.1 ht.2.1) ht.2.2⟩
  · have ha : actR ⟨d, p, q, m, n⟩ D.shape = (0, D.shape) := by unfold actR; rw [if_neg d0, if_neg d1, if_neg d2, if_neg d3]
    rw [ha]
    simp [d0, d1, d2, d3]
    exact ⟨⟨⟨j, cp, hT⟩, ⟨D, hR, rfl⟩, g⟩, hKK⟩
theorem does_ok {H : AH} {t w : Nat} {P : PT} (h : DD H t w P) (a : TA) : ACalls Try.prog R 17 [.ptr (.mu t) 0, .ptr (.mu w) 0, .agg a.cells] H fun v G => v = .bool true ∧ DD G t w (actR a P).2 :=
  (does_okK h a).mono fun v G h => ⟨h.1, h.2.1⟩
end Go.Proofs.Ytffmpomidfickaa.Tr
