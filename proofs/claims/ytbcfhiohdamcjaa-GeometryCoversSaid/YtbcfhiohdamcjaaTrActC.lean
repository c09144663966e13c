/- Acts, as they lie in memory; what they come to; both trees, acted on. -/
import Derived.Test.YtbcfhiohdamcjaaTrRefH
import Derived.Test.YtbcfhiohdamcjaaAmFlat
namespace Go.Proofs.Ytbcfhiohdamcjaa.Tr
open Go Go.RowKit Am
set_option maxRecDepth 100000
set_option maxHeartbeats 2000000
set_option linter.unusedSimpArgs false
set_option linter.unusedVariables false
attribute [-simp] Am.binEv Am.intBin Am.read1 Am.readN
attribute [local simp] binEv_lss binEv_leq binEv_gtr binEv_geq binEv_eql binEv_neq binEv_add binEv_sub binEv_mul read1_ro read1_mu
variable {R : Ro}
open PT DT
theorem readN_mu (H : AH) (n i off : Nat) : readN R H n (.mu i) off = match (H[i]?).bind AO.content with
    | some c => if off + n ≤ c.length then some ((c.drop off).take n) else none
    | none => none := rfl
/-- An act. -/
structure TA where
  d : Int
  p : PA
  q : PA
  m : Int
  n : Int
def TA.cells (a : TA) : List AV := .int .i64 a.d :: (a.p.cells ++ (a.q.cells ++ [.int .i64 a.m, .int .i64 a.n]))
def actR (a : TA) (P : PT) : Int × PT :=
  if a.d = 0 then P.splitR a.p a.q a.m a.n
  else if a.d = 1 then P.closeR a.p
  else if a.d = 2 then P.swapR a.p a.q
  else if a.d = 3 then P.shareR a.p a.m a.n
  else (0, P)
theorem good_act {P : PT} (h : Good P) (a : TA) : Good (actR a P).2 := by
  unfold actR
  split
  · exact good_split h _ _ _ _
  · split
    · exact good_close h _
    · split
      · exact good_swap h _ _
      · split
        · exact good_share h _ _ _
        · exact h
def acts : List TA → PT → PT
  | [], P => P
  | a :: l, P => acts l (actR a P).2
theorem acts_snoc (P : PT) : ∀ (l : List TA) (a : TA), acts (l ++ [a]) P = (actR a (acts l P)).2
  | [], a => rfl
  | b :: l, a => acts_snoc (actR b P).2 l a
theorem good_acts : ∀ (l : List TA) {P : PT}, Good P → Good (acts l P)
  | [], P, h => h
  | a :: l, P, h => good_acts l (good_act h a)
theorem good_leaf (p : PA) : Good (.leaf p) := ⟨trivial, by simp [panes], by simp [panes]⟩
/-- Acts that lie in memory. -/
def Acts (R : Ro) (a : AV) (A : List TA) : Prop := Sl R 9 a (A.map TA.cells)
theorem Acts.len {a : AV} {A : List TA} (h : Acts R a A) : (a = .nilslice ∧ A.length = 0) ∨ ∃ b off cap, a = .slice (.ro b) off A.length (.known cap) := by
  rcases h with ⟨h1, h2⟩ | ⟨b, off, cap, h1, _⟩
  · exact .inl ⟨h1, by simpa using h2⟩
  · exact .inr ⟨b, off, cap, by simpa using h1⟩
theorem Acts.at {a : AV} {A : List TA} (h : Acts R a A) {i : Nat} {x : TA} (hi : A[i]? = some x) : ∃ b off cap, a = .slice (.ro b) off A.length (.known cap) ∧ (∀ H, readN R H 9 (.ro b) (off + i * 9) = some x.cells) ∧ (∀ H, readN R H 3 (.ro b) (off + i * 9 + 1) = some x.p.cells) ∧ (∀ H, readN R H 3 (.ro b) (off + i * 9 + 4) = some x.q.cells) ∧
    R b (off + i * 9) = some (.int .i64 x.d) ∧ R b (off + i * 9 + 7) = some (.int .i64 x.m) ∧ R b (off + i * 9 + 8) = some (.int .i64 x.n) := by
  have hil := (List.getElem?_eq_some_iff.1 hi).1
  rcases h with ⟨_, h2⟩ | ⟨b, off, cap, h1, _, _, h4⟩
  · rw [List.map_eq_nil_iff.1 h2] at hi; simp at hi
  · have hx := (h4 i x.cells (by rw [List.getElem?_map, hi]; rfl)).2
    have g : ∀ j v, x.cells[j]? = some v → R b (off + i * 9 + j) = some v := hx
    have g0 := g 0 _ rfl
    have g1 := g 1 _ rfl
    have g2 := g 2 _ rfl
    have g3 := g 3 _ rfl
    have g4 := g 4 _ rfl
    have g5 := g 5 _ rfl
    have g6 := g 6 _ rfl
    have g7 := g 7 _ rfl
    have g8 := g 8 _ rfl
    refine ⟨b, off, cap, by simpa using h1, fun H => ?_, fun H => ?_, fun H => ?_, g0, g7, g8⟩
    · simp only [readN]
      show (List.map (fun k => k) [0, 1, 2, 3, 4, 5, 6, 7, 8]).mapM _ = _
      have g0' : R b (off + i * 9) = some (.int .i64 x.d) := g0
      simp [g0', g1, g2, g3, g4, g5, g6, g7, g8, TA.cells, PA.cells]
    · simp only [readN]
      show (List.map (fun k => k) [0, 1, 2]).mapM _ = _
      have e1 : off + i * 9 + 1 + 1 = off + i * 9 + 2 := by omega
      have e2 : off + i * 9 + 1 + 2 = off + i * 9 + 3 := by omega
      simp [g1, g2, g3, PA.cells]
    · simp only [readN]
      show (List.map (fun k => k) [0, 1, 2]).mapM _ = _
      simp [g4, g5, g6, PA.cells]
/-- Both have acted. -/
theorem DD.acted {H G1 G2 : AH} {t w j : Nat} {cp : Cap} {P : PT} {D : DT} {r : Int × PT} {v1 v2 : AV} (hT : TreM H t j cp (tell 0 P)) (hR : RT H w D) (h1 : ActOut H t j (r.1, tell 0 r.2) v1 G1) (h2 : RefOut G1 w D r v2 G2) (g : Good r.2) :
    v1 = .int .i64 r.1 ∧ v2 = .int .i64 r.1 ∧ DD G2 t w r.2 := by
  obtain ⟨e1, l1, f1, j', cp', T1, _⟩ := h1
  obtain ⟨e2, l2, f2, D', R2, s2, _⟩ := h2
  have R1 := hR.act hT f1
  exact ⟨e1, e2, ⟨j', cp', T1.ract R1 f2⟩, ⟨D', R2, s2⟩, g⟩
theorem ActOut.cell {H G : AH} {t j : Nat} {cp : Cap} {N : List ND} {r : Int × List ND} {v : AV} (hT : TreM H t j cp N) (h : ActOut H t j r v G) {m : Nat} {c : List AV} {ty : TypeId} (hm : H[m]? = some (.cells c ty)) (h1 : ty ≠ 58) (h2 : ty ≠ 55) : G[m]? = some (.cells c ty) := by
  have hn := hT.kinds hm h1 h2
  rw [h.2.2.1 m (List.getElem?_eq_some_iff.1 hm).1 hn.1 hn.2]; exact hm
theorem RefOut.cell {H G : AH} {w : Nat} {D : DT} {r : Int × PT} {v : AV} (hR : RT H w D) (h : RefOut H w D r v G) {m : Nat} {c : List AV} {ty : TypeId} (hm : H[m]? = some (.cells c ty)) (h1 : ty ≠ 86) : G[m]? = some (.cells c ty) := by
  rw [h.2.2.1 m (List.getElem?_eq_some_iff.1 hm).1 fun hd => ?_]; · exact hm
  obtain ⟨c', hc⟩ := hR.has.kind m hd
  rw [hc] at hm
  cases hm
  exact h1 rfl
/-- What is of another kind stays. -/
def KK (H G : AH) : Prop := ∀ (m : Nat) (c : List AV) (ty : TypeId), H[m]? = some (.cells c ty) → (ty ≠ 58 ∧ ty ≠ 55 ∧ ty ≠ 86) → G[m]? = some (.cells c ty)
theorem dd_new (p : PA) {H : AH} (H2 : AH) (hH2 : H2 = (H ++ [.cells p.cells 32, .cells (ndV [leafN p]) 55, .cells [.slice (.mu (H.length + 1)) 0 1 (.known 1)] 58]) ++ [.cells p.cells 32, .cells (rleaf p) 86, .cells [.ptr (.mu (H.length + 3 + 1)) 0] 88]) : DD H2 (H.length + 2) (H.length + 3 + 2) (.leaf p) := by
  have h1 := new_tre p H
  have h2 := rnew_rt p (H ++ [.cells p.cells 32, .cells (ndV [leafN p]) 55, .cells [.slice (.mu (H.length + 1)) 0 1 (.known 1)] 58])
  simp only [List.length_append, List.length_cons, List.length_nil] at h2
  rw [hH2]
  exact ⟨⟨_, _, h1.app _⟩, ⟨_, h2, rfl⟩, good_leaf p⟩
end Go.Proofs.Ytbcfhiohdamcjaa.Tr
