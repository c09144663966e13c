/- TreeBack: the tree and what lies beside it, act by act; what a split that was done comes to. -/
import Derived.Test.YtffmpomidfickaaTrMade
namespace Go.Proofs.Ytffmpomidfickaa.Tr
open Go Go.RowKit Am
set_option maxRecDepth 100000
set_option maxHeartbeats 2000000
set_option linter.unusedSimpArgs false
set_option linter.unusedVariables false
variable {R : Ro}
open PT
theorem splitR_zero {P : PT} {p q : PA} {sd sh : Int} (h : (P.splitR p q sd sh).1 = 0) : ∃ i, P.pos p = some i ∧ P.pos q = none ∧ (P.splitR p q sd sh).2 = P.splitA p q sd sh := by
  unfold PT.splitR at h ⊢
  by_cases h1 : P.pos p = none
  · rw [if_pos h1] at h; simp at h
  rw [if_neg h1] at h ⊢
  by_cases h2 : P.pos q ≠ none
  · rw [if_pos h2] at h; simp at h
  rw [if_neg h2] at h ⊢
  by_cases h3 : ¬ (sd = 1 ∨ sd = 2) ∨ sh < 1 ∨ 99 < sh
  · rw [if_pos h3] at h; simp at h
  rw [if_neg h3] at h ⊢
  by_cases h4 : P.panes.length = 16
  · rw [if_pos h4] at h; simp at h
  rw [if_neg h4]
  obtain ⟨i, hi⟩ : ∃ i, P.pos p = some i := by
    cases hp : P.pos p with
    | none => exact absurd hp h1
    | some i => exact ⟨i, rfl⟩
  exact ⟨i, hi, Classical.not_not.1 h2, rfl⟩
theorem splitR_keep {P : PT} {p q : PA} {sd sh : Int} (h : ¬ (P.splitR p q sd sh).1 = 0) : (P.splitR p q sd sh).2 = P := by
  unfold PT.splitR at h ⊢
  by_cases h1 : P.pos p = none
  · rw [if_pos h1]
  rw [if_neg h1] at h ⊢
  by_cases h2 : P.pos q ≠ none
  · rw [if_pos h2]
  rw [if_neg h2] at h ⊢
  by_cases h3 : ¬ (sd = 1 ∨ sd = 2) ∨ sh < 1 ∨ 99 < sh
  · rw [if_pos h3]
  rw [if_neg h3] at h ⊢
  by_cases h4 : P.panes.length = 16
  · rw [if_pos h4]
  rw [if_neg h4] at h
  exact absurd rfl h
/-- A split that was done: one pane more, the new one among them; closed again, the tree is as it was. -/
theorem split_back {P : PT} {p q : PA} {sd sh : Int} (h : (P.splitR p q sd sh).1 = 0) :
    (P.splitR p q sd sh).2.panes.length = P.panes.length + 1 ∧ (P.splitR p q sd sh).2.pos q ≠ none ∧ (P.splitR p q sd sh).2.closeR q = (0, P) := by
  obtain ⟨i, hi, hq, e⟩ := splitR_zero h
  rw [e]
  have hp := splitA_panes q sd sh hi
  have hq' : (P.splitA p q sd sh).pos q ≠ none := fun hn => (pos_none.1 hn) (hp.symm.subset (by simp))
  refine ⟨by rw [hp.length_eq]; simp, hq', ?_⟩
  unfold PT.closeR
  rw [if_neg hq', splitA_isS q sd sh hi, if_neg (by simp), split_close sd sh hi hq]
/-- Swapped twice: the answer is the same, and the tree is as it was. -/
theorem swap_back {P : PT} (p q : PA) : ((P.swapR p q).2.swapR p q).2 = P ∧ ((P.swapR p q).2.swapR p q).1 = (P.swapR p q).1 := by
  by_cases h : P.pos p = none ∨ P.pos q = none
  · have e : P.swapR p q = (4, P) := by unfold PT.swapR; rw [if_pos h]
    rw [e]; simp only []; rw [e]; exact ⟨rfl, rfl⟩
  · have e : P.swapR p q = (0, P.mapP (swp p q)) := by unfold PT.swapR; rw [if_neg h]
    rw [e]; simp only []
    have mm : ∀ r s : PA, P.pos r ≠ none → swp p q r = s → (P.mapP (swp p q)).pos s ≠ none := by
      intro r s hr hs hn
      have := pos_none.1 hn
      rw [mapP_panes] at this
      refine this (List.mem_map.2 ⟨r, Classical.not_not.1 fun hh => hr (pos_none.2 hh), hs⟩)
    have hp : P.pos p ≠ none := fun hh => h (.inl hh)
    have hq : P.pos q ≠ none := fun hh => h (.inr hh)
    have e2 : (P.mapP (swp p q)).swapR p q = (0, (P.mapP (swp p q)).mapP (swp p q)) := by
      unfold PT.swapR
      rw [if_neg]
      rintro (hh | hh)
      · exact mm q p hq (by unfold swp; by_cases h1 : q = p <;> simp [h1]) hh
      · exact mm p q hp (by unfold swp; simp) hh
    rw [e2]
    exact ⟨by rw [mapP_map]; exact mapP_id (swp_swp p q) P, rfl⟩
/-- The tree, the two panes' boxes, and the nodes told before. -/
def BkS (G : AH) (t r : Nat) (p q : PA) (N : List ND) (P : PT) : Prop :=
  Good P ∧ ∃ j cp, TreM G t j cp (tell 0 P) ∧ G[1]? = some (.cells p.cells 25) ∧ G[2]? = some (.cells q.cells 25) ∧ G[r]? = some (.row (ndV N) 54 7) ∧ 3 ≤ t ∧ 3 ≤ j ∧ r ≠ t ∧ r ≠ j
theorem BkS.act {G G' : AH} {t r j : Nat} {p q : PA} {N : List ND} {P P' : PT} {cp : Cap} {v : AV} {x : Int} (hT : TreM G t j cp (tell 0 P)) (h1 : G[1]? = some (.cells p.cells 25)) (h2 : G[2]? = some (.cells q.cells 25)) (hr : G[r]? = some (.row (ndV N) 54 7)) (t3 : 3 ≤ t) (j3 : 3 ≤ j) (rt : r ≠ t) (rj : r ≠ j)
    (g : Good P') (o : ActOut G t j (x, tell 0 P') v G') : v = .int .i64 x ∧ BkS G' t r p q N P' := by
  obtain ⟨hv, l1, f1, j', cp', T1, hj'⟩ := o
  have a1 := (List.getElem?_eq_some_iff.1 h1).1
  have a2 := (List.getElem?_eq_some_iff.1 h2).1
  have ar := (List.getElem?_eq_some_iff.1 hr).1
  exact ⟨hv, g, j', cp', T1, by rw [f1 1 a1 (by omega) (by omega)]; exact h1, by rw [f1 2 a2 (by omega) (by omega)]; exact h2, by rw [f1 r ar rt rj]; exact hr, t3, by omega, rt, by omega⟩
theorem BkS.split {G : AH} {t r : Nat} {p q : PA} {N : List ND} {P : PT} (h : BkS G t r p q N P) (a b : PA) (sd sh : Int) :
    ACalls Try.prog R 11 [.ptr (.mu t) 0, a.av, b.av, .int .i64 sd, .int .i64 sh] G fun v G' => v = .int .i64 (P.splitR a b sd sh).1 ∧ BkS G' t r p q N (P.splitR a b sd sh).2 := by
  obtain ⟨g, j, cp, hT, h1, h2, hr, t3, j3, rt, rj⟩ := h
  exact (psplit hT g a b sd sh).mono fun v G' o => BkS.act hT h1 h2 hr t3 j3 rt rj (good_split g a b sd sh) o
theorem BkS.close {G : AH} {t r : Nat} {p q : PA} {N : List ND} {P : PT} (h : BkS G t r p q N P) (a : PA) :
    ACalls Try.prog R 12 [.ptr (.mu t) 0, a.av] G fun v G' => v = .int .i64 (P.closeR a).1 ∧ BkS G' t r p q N (P.closeR a).2 := by
  obtain ⟨g, j, cp, hT, h1, h2, hr, t3, j3, rt, rj⟩ := h
  exact (pclose hT g a).mono fun v G' o => BkS.act hT h1 h2 hr t3 j3 rt rj (good_close g a) o
theorem BkS.swap {G : AH} {t r : Nat} {p q : PA} {N : List ND} {P : PT} (h : BkS G t r p q N P) (a b : PA) :
    ACalls Try.prog R 25 [.ptr (.mu t) 0, a.av, b.av] G fun v G' => v = .int .i64 (P.swapR a b).1 ∧ BkS G' t r p q N (P.swapR a b).2 := by
  obtain ⟨g, j, cp, hT, h1, h2, hr, t3, j3, rt, rj⟩ := h
  exact (pswap hT g a b).mono fun v G' o => BkS.act hT h1 h2 hr t3 j3 rt rj (good_swap g a b) o
theorem BkS.has {G : AH} {t r : Nat} {p q : PA} {N : List ND} {P : PT} (h : BkS G t r p q N P) (a : PA) :
    ACalls Try.prog R 18 [.ptr (.mu t) 0, a.av] G fun v G' => G' = G ∧ v = .bool (decide (P.pos a ≠ none)) := by
  obtain ⟨g, j, cp, hT, _⟩ := h
  exact phas hT g a
theorem BkS.len {G : AH} {t r : Nat} {p q : PA} {N : List ND} {P : PT} (h : BkS G t r p q N P) :
    ACalls Try.prog R 15 [.ptr (.mu t) 0] G fun v G' => G' = G ∧ v = .int .i64 P.panes.length := by
  obtain ⟨g, j, cp, hT, _⟩ := h
  exact plen hT g
theorem BkS.q1 {G : AH} {t r : Nat} {p q : PA} {N : List ND} {P : PT} (h : BkS G t r p q N P) : G[1]? = some (.cells p.cells 25) := h.2.choose_spec.choose_spec.2.1
theorem BkS.q2 {G : AH} {t r : Nat} {p q : PA} {N : List ND} {P : PT} (h : BkS G t r p q N P) : G[2]? = some (.cells q.cells 25) := h.2.choose_spec.choose_spec.2.2.1
theorem BkS.qr {G : AH} {t r : Nat} {p q : PA} {N : List ND} {P : PT} (h : BkS G t r p q N P) : G[r]? = some (.row (ndV N) 54 7) := h.2.choose_spec.choose_spec.2.2.2.1
theorem BkS.nodes {G : AH} {t r : Nat} {p q : PA} {N : List ND} {P : PT} (h : BkS G t r p q N P) :
    ACalls Try.prog R 27 [.ptr (.mu t) 0] G fun v G' => v = .slice (.mu G.length) 0 P.size (.opn 0) ∧ G' = G ++ [.row (ndV (tell 0 P)) 54 7] := by
  obtain ⟨g, j, cp, hT, _⟩ := h
  have hz := g.size
  have := nodes2_ok (R := R) hT (by rw [tell_len]; omega)
  rw [tell_len] at this
  exact this
theorem pa_diff {L : List ND} (hn : (L.map ND.pa).Nodup) {i k : Nat} {x y : ND} (hx : L[i]? = some x) (hy : L[k]? = some y) (hk : k < i) : ¬ (x.a = y.a ∧ x.b = y.b ∧ x.c = y.c) := by
  rintro ⟨h1, h2, h3⟩
  have e : x.pa = y.pa := by simp only [ND.pa, h1, h2, h3]
  have hil := (List.getElem?_eq_some_iff.1 hx).1
  have hxi := (List.getElem?_eq_some_iff.1 hx).2
  have hyk := (List.getElem?_eq_some_iff.1 hy).2
  have := (List.pairwise_iff_getElem.1 hn) k i (by simp; omega) (by simpa using hil) hk
  rw [List.getElem_map, List.getElem_map, hxi, hyk] at this
  exact this e.symm
end Go.Proofs.Ytffmpomidfickaa.Tr
