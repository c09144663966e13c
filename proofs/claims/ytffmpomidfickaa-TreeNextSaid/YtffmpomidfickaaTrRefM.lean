/- The document's tree, written: New, Split, Swap. -/
import Derived.Test.YtffmpomidfickaaTrRTell
namespace Go.Proofs.Ytffmpomidfickaa.Tr
open Go Go.RowKit Am
set_option maxRecDepth 100000
set_option maxHeartbeats 1000000
set_option linter.unusedSimpArgs false
set_option linter.unusedVariables false
attribute [-simp] Am.binEv Am.intBin Am.read1
attribute [local simp] binEv_lss binEv_leq binEv_gtr binEv_geq binEv_eql binEv_neq binEv_add binEv_sub binEv_mul read1_ro read1_mu
variable {R : Ro}
open PT DT
def RefOut (H : AH) (w : Nat) (D : DT) (r : Int × PT) (v : AV) (G : AH) : Prop :=
  v = .int .i64 r.1 ∧ H.length ≤ G.length ∧ (∀ m, m < H.length → m ∉ D.ads → G[m]? = H[m]?) ∧ ∃ D', RT G w D' ∧ D'.shape = r.2 ∧ ∀ m ∈ D'.ads, m ∈ D.ads ∨ H.length ≤ m
theorem RT.out {H : AH} {w : Nat} {D : DT} (h : RT H w D) : w ∉ D.ads := fun hm => by
  obtain ⟨c, hc⟩ := h.has.kind w hm
  rw [h.hw] at hc
  simp at hc
theorem RefOut.same {H G : AH} {w : Nat} {D : DT} {c : Int} (h : RT H w D) (hl : H.length ≤ G.length) (hk : ∀ m, m < H.length → G[m]? = H[m]?) : RefOut H w D (c, D.shape) (.int .i64 c) G :=
  ⟨rfl, hl, fun m hm _ => hk m hm, D, ⟨by rw [hk w (List.getElem?_eq_some_iff.1 h.hw).1]; exact h.hw, h.has.frame fun m hm => hk m (h.has.lt m hm), h.nodup⟩, rfl, fun m hm => .inl hm⟩
theorem rnew_ok (p : PA) (H : AH) : ACalls Try.prog R 16 [p.av] H fun v G => v = .ptr (.mu (H.length + 2)) 0 ∧ G = H ++ [.cells p.cells 25, .cells (rleaf p) 75, .cells [.ptr (.mu (H.length + 1)) 0] 45] := by
  refine ACalls.of_wpE Fns.ok16 (by simp [Fns.a16]) ?_
  simp [Fns.a16, PA.av, PA.cells, AO.content, readN, fillA, splice, zerosEv, rleaf]
theorem rnew_rt (p : PA) (H : AH) : RT (H ++ [.cells p.cells 25, .cells (rleaf p) 75, .cells [.ptr (.mu (H.length + 1)) 0] 45]) (H.length + 2) (.leaf (H.length + 1) p) :=
  ⟨by simp [DT.ad], by simp [HasD], by simp [DT.ads]⟩
/-! ### A leaf put in -/
def DT.putF (p : PA) : DT → DT → DT
  | .leaf x r, E => if r = p then E else .leaf x r
  | .split x s h a b, E => match a.find p with
    | some _ => .split x s h (a.putF p E) b
    | none => .split x s h a (b.putF p E)
theorem nodup_split {x : Nat} {A B : List Nat} (h : (x :: (A ++ B)).Nodup) : x ∉ A ∧ x ∉ B ∧ A.Nodup ∧ B.Nodup ∧ ∀ m ∈ A, m ∉ B := by
  rw [List.nodup_cons, List.nodup_append] at h
  obtain ⟨h1, h2, h3, h4⟩ := h
  rw [List.mem_append, not_or] at h1
  exact ⟨h1.1, h1.2, h2, h3, fun m hm hb => h4 m hm m hb rfl⟩
theorem putF_ad {p : PA} {E : DT} : ∀ {D : DT} {y : Nat}, D.find p = some y → E.ad = y → (D.putF p E).ad = D.ad
  | .leaf x r, y, hf, hE => by
    simp only [DT.find] at hf
    split at hf
    · rename_i e; cases hf; simp only [DT.putF, e, if_true]; exact hE
    · cases hf
  | .split x s h a b, y, hf, hE => by
    simp only [DT.putF]; split <;> rfl
theorem putF_ads {p : PA} {E : DT} : ∀ {D : DT}, ∀ m ∈ (D.putF p E).ads, m ∈ D.ads ∨ m ∈ E.ads
  | .leaf x r, m, hm => by
    simp only [DT.putF] at hm
    split at hm
    · exact .inr hm
    · exact .inl hm
  | .split x s h a b, m, hm => by
    simp only [DT.putF] at hm
    split at hm
    · simp only [DT.ads, List.mem_cons, List.mem_append] at hm ⊢
      rcases hm with hm | hm | hm
      · exact .inl (.inl hm)
      · rcases putF_ads m hm with h | h
        · exact .inl (.inr (.inl h))
        · exact .inr h
      · exact .inl (.inr (.inr hm))
    · simp only [DT.ads, List.mem_cons, List.mem_append] at hm ⊢
      rcases hm with hm | hm | hm
      · exact .inl (.inl hm)
      · exact .inl (.inr (.inl hm))
      · rcases putF_ads m hm with h | h
        · exact .inl (.inr (.inr h))
        · exact .inr h
theorem putF_has {H G : AH} {p : PA} {E : DT} : ∀ {D : DT} {y : Nat}, HasD H D → D.ads.Nodup → D.find p = some y → E.ad = y → HasD G E → (∀ m ∈ D.ads, m ≠ y → G[m]? = H[m]?) → HasD G (D.putF p E)
  | .leaf x r, y, h, hn, hf, hE, hG, hk => by
    simp only [DT.find] at hf
    split at hf
    · rename_i e; simp only [DT.putF, e, if_true]; exact hG
    · cases hf
  | .split x s hh a b, y, ⟨h1, h2, h3⟩, hn, hf, hE, hG, hk => by
    simp only [DT.ads] at hn hk
    obtain ⟨n1, n2, n3, n4, n5⟩ := nodup_split hn
    simp only [DT.find] at hf
    cases ha : a.find p with
    | some z =>
      rw [ha] at hf
      cases hf
      have hya := find_ads ha
      simp only [DT.putF, ha]
      refine ⟨?_, putF_has h2 n3 ha hE hG fun m hm hne => hk m (by simp [hm]) hne, h3.frame fun m hm => hk m (by simp [hm]) fun e => n5 y hya (e ▸ hm)⟩
      rw [putF_ad ha hE, hk x (by simp) fun e => n1 (by rw [e]; exact hya)]; exact h1
    | none =>
      rw [ha] at hf
      have hyb := find_ads hf
      simp only [DT.putF, ha]
      refine ⟨?_, h2.frame fun m hm => hk m (by simp [hm]) fun e => n5 m hm (e ▸ hyb), putF_has h3 n4 hf hE hG fun m hm hne => hk m (by simp [hm]) hne⟩
      rw [putF_ad hf hE, hk x (by simp) fun e => n2 (by rw [e]; exact hyb)]; exact h1
theorem putF_nodup {p : PA} {E : DT} : ∀ {D : DT} {y : Nat}, D.ads.Nodup → D.find p = some y → E.ads.Nodup → (∀ m ∈ E.ads, m ∈ D.ads → m = y) → (D.putF p E).ads.Nodup
  | .leaf x r, y, hn, hf, hE, hd => by
    simp only [DT.find] at hf
    split at hf
    · rename_i e; simp only [DT.putF, e, if_true]; exact hE
    · cases hf
  | .split x s hh a b, y, hn, hf, hE, hd => by
    simp only [DT.ads] at hn hd
    obtain ⟨n1, n2, n3, n4, n5⟩ := nodup_split hn
    simp only [DT.find] at hf
    cases ha : a.find p with
    | some z =>
      rw [ha] at hf
      cases hf
      have hya := find_ads ha
      have ih := putF_nodup n3 ha hE fun m hm hma => hd m hm (by simp [hma])
      simp only [DT.putF, ha, DT.ads]
      rw [List.nodup_cons, List.nodup_append, List.mem_append, not_or]
      refine ⟨⟨fun hm => ?_, n2⟩, ih, n4, fun m hm m' hm' e => ?_⟩
      · rcases putF_ads x hm with h | h
        · exact n1 h
        · have := hd x h (by simp); exact n1 (by rw [this]; exact hya)
      · subst e
        rcases putF_ads m hm with h | h
        · exact n5 m h hm'
        · have := hd m h (by simp [hm']); subst this; exact n5 m hya hm'
    | none =>
      rw [ha] at hf
      have hyb := find_ads hf
      have ih := putF_nodup n4 hf hE fun m hm hma => hd m hm (by simp [hma])
      simp only [DT.putF, ha, DT.ads]
      rw [List.nodup_cons, List.nodup_append, List.mem_append, not_or]
      refine ⟨⟨n1, fun hm => ?_⟩, n3, ih, fun m hm m' hm' e => ?_⟩
      · rcases putF_ads x hm with h | h
        · exact n2 h
        · have := hd x h (by simp); exact n2 (by rw [this]; exact hyb)
      · subst e
        rcases putF_ads m hm' with h | h
        · exact n5 m hm h
        · have := hd m h (by simp [hm]); subst this; exact n5 m hm hyb
theorem putF_shape {p q : PA} {sd sh : Int} {x y z : Nat} : ∀ {D : DT}, (D.putF p (.split x sd sh (.leaf y p) (.leaf z q))).shape = D.shape.splitA p q sd sh
  | .leaf w r => by
    simp only [DT.putF, DT.shape, PT.splitA]
    split <;> rfl
  | .split w s h a b => by
    have := find_pos (p := p) (D := a)
    simp only [DT.putF, DT.shape, PT.splitA]
    cases ha : a.find p with
    | some u =>
      cases hp : a.shape.pos p with
      | some i => simp only [DT.shape]; rw [putF_shape]
      | none => rw [this.2 hp] at ha; cases ha
    | none => rw [this.1 ha]; simp only [DT.shape]; rw [putF_shape]
theorem find_leaf {H : AH} {p : PA} : ∀ {D : DT} {y : Nat}, HasD H D → D.find p = some y → H[y]? = some (.cells (rleaf p) 75)
  | .leaf x r, y, h, hf => by
    simp only [DT.find] at hf
    split at hf
    · rename_i e; cases hf; subst e; exact h
    · cases hf
  | .split x s hh a b, y, ⟨h1, h2, h3⟩, hf => by
    simp only [DT.find] at hf
    split at hf
    · rename_i z hz; cases hf; exact find_leaf h2 hz
    · exact find_leaf h3 hf
theorem rsplit_ok {H : AH} {w : Nat} {D : DT} (h : RT H w D) (g : Good D.shape) (p q : PA) (side share : Int) :
    ACalls Try.prog R 35 [.ptr (.mu w) 0, p.av, q.av, .int .i64 side, .int .i64 share] H (RefOut H w D (D.shape.splitR p q side share)) := by
  refine ACalls.of_wpE Fns.ok35 (by simp [Fns.a35]) ?_
  obtain ⟨H1, hH1⟩ : ∃ H1, H1 = H ++ [AO.cells p.cells 25, AO.cells q.cells 25] := ⟨_, rfl⟩
  have hp : H1[H.length]? = some (.cells p.cells 25) := by rw [hH1]; simp
  have hq : H1[H.length + 1]? = some (.cells q.cells 25) := by rw [hH1]; simp
  have hT : RT H1 w D := by rw [hH1]; exact h.app _
  have hl1 : H1.length = H.length + 2 := by rw [hH1]; simp
  have hk1 : ∀ m, m < H.length → H1[m]? = H[m]? := fun m hm => by rw [hH1]; exact List.getElem?_append_left hm
  have hfn := find_ok (R := R) p g.sides hT.has
  have hhs := rhas_ok (R := R) hT g.sides q
  have hpn := rpanes_ok (R := R) g.sides hT.has (by have := g.le; omega)
  have hw := hT.hw
  have hle := g.le
  have hwo := h.out
  simp only [PA.av, PA.cells] at hfn hhs hp hq hH1
  simp [Fns.a35, PA.av, PA.cells]
  rw [← hH1]
  refine AWp.sched [0, 1, 2, 3, 4, 5, 6] Fns.mixed (by decide +kernel) ?_
  simp [hw, hp, AO.content, readN]
  refine hfn.mono ?_
  rintro v G ⟨rfl, rfl⟩
  have hfp := find_pos (p := p) (D := D)
  have same : ∀ c G', D.shape.splitR p q side share = (c, D.shape) → G.length ≤ G'.length → (∀ m, m < G.length → G'[m]? = G[m]?) → RefOut H w D (D.shape.splitR p q side share) (.int .i64 c) G' := fun c G' hc hl hk => by
    rw [hc]; exact RefOut.same h (by omega) fun m hm => by rw [hk m (by omega), hk1 m hm]
  cases hf : D.find p with
  | none =>
    simp [recheck, hw, hp, AO.content, readN, optP, eqEv]
    exact same 4 G (by unfold PT.splitR; rw [if_pos (hfp.1 hf)]) (Nat.le_refl _) fun _ _ => rfl
  | some y =>
  have hn : D.shape.pos p ≠ none := fun e => by rw [hfp.2 e] at hf; cases hf
  have s0 : D.shape.splitR p q side share = if D.shape.pos q ≠ none then (5, D.shape) else if ¬ (side = 1 ∨ side = 2) ∨ share < 1 ∨ 99 < share then (1, D.shape) else if D.shape.panes.length = 16 then (6, D.shape) else (0, D.shape.splitA p q side share) := by
    unfold PT.splitR; rw [if_neg hn]
  simp [recheck, hw, hp, hq, AO.content, readN, optP, eqEv]
  refine hhs.mono ?_
  rintro v G ⟨rfl, rfl⟩
  by_cases c1 : D.shape.pos q = none
  case neg =>
    rw [if_pos c1] at s0
    simp [c1]
    exact same 5 G s0 (Nat.le_refl _) fun _ _ => rfl
  rw [if_neg (by simpa using c1)] at s0
  by_cases hc : ¬ (side = 1 ∨ side = 2) ∨ share < 1 ∨ 99 < share
  · rw [if_pos hc] at s0
    have r0 := same 1 G s0 (Nat.le_refl _) fun _ _ => rfl
    by_cases d1 : side < 1
    · simp [c1, d1]; exact r0
    · by_cases d2 : 2 < side
      · simp [c1, d1, d2]; exact r0
      · by_cases d3 : share < 1
        · simp [c1, d1, d2, d3]; exact r0
        · have d4 : 99 < share := by omega
          simp [c1, d1, d2, d3, d4]; exact r0
  rw [if_neg hc] at s0
  have d1 : ¬ side < 1 := by omega
  have d2 : ¬ 2 < side := by omega
  have d3 : ¬ share < 1 := by omega
  have d4 : ¬ 99 < share := by omega
  simp [c1, d1, d2, d3, d4, hw, AO.content]
  refine hpn.mono ?_
  intro v1 G1 q1
  obtain ⟨r1, hr1, z1⟩ := q1.rowA
  have hlen1 := z1.len (P := Try.prog) (R := R) (G' := G1)
  simp only [AOp.eval, X.ev] at hlen1
  have hl2 := q1.len
  by_cases c2 : D.shape.panes.length = 16
  · rw [if_pos c2] at s0
    simp [hlen1, c2]
    exact same 6 G1 s0 hl2 fun m hm => q1.old m hm
  rw [if_neg c2] at s0
  have c3 : ¬ (D.shape.panes.length : Int) = 16 := by omega
  have hp1 : G1[H.length]? = _ := (q1.old _ (by omega)).trans hp
  have hq1 : G1[H.length + 1]? = _ := (q1.old _ (by omega)).trans hq
  have hy := find_leaf hT.has hf
  have hylt := hT.has.lt y (find_ads hf)
  have hylt' := h.has.lt y (find_ads hf)
  have hy1 : G1[y]? = _ := (q1.old y hylt).trans hy
  rw [s0]
  simp only [rleaf] at hy1
  have fp : ∀ X : AH, (G1 ++ X)[H.length]? = _ := fun X => get_app hp1
  have fq : ∀ X : AH, (G1 ++ X)[H.length + 1]? = _ := fun X => get_app hq1
  have fy : ∀ X : AH, (G1 ++ X)[y]? = _ := fun X => get_app hy1
  simp [hlen1, c3, fp, fq, fy, hp1, hq1, hy1, AO.content, AO.withContent, readN, writeN, fillA, splice]
  obtain ⟨E, hE⟩ : ∃ E : DT, E = .split y side share (.leaf G1.length p) (.leaf (G1.length + 1) q) := ⟨_, rfl⟩
  obtain ⟨G2, hG2⟩ : ∃ G2, G2 = (G1 ++ [AO.cells (rleaf p) 75, AO.cells (rleaf q) 75]).set y (.cells (rsplit side share G1.length (G1.length + 1)) 75) := ⟨_, rfl⟩
  have hk2 : ∀ m, m < G.length → m ≠ y → G2[m]? = G[m]? := fun m hm hne => by
    rw [hG2, List.getElem?_set_ne (Ne.symm hne), List.getElem?_append_left (by omega)]; exact q1.old m hm
  have hl3 : G2.length = G1.length + 2 := by rw [hG2]; simp
  have hEh : HasD G2 E := by
    rw [hE]
    refine ⟨?_, ?_, ?_⟩
    · rw [hG2]; simp only [DT.ad]; rw [List.getElem?_set_self (by simp; omega)]
    · simp only [HasD]; rw [hG2, List.getElem?_set_ne (by omega)]; simp
    · simp only [HasD]; rw [hG2, List.getElem?_set_ne (by omega)]; simp
  have hEa : E.ad = y := by rw [hE]; rfl
  have hEm : ∀ m ∈ E.ads, m = y ∨ m = G1.length ∨ m = G1.length + 1 := fun m hm => by
    rw [hE] at hm; simpa [DT.ads] using hm
  have hgoal : RefOut H w D (0, D.shape.splitA p q side share) (.int .i64 0) G2 := by
    refine ⟨rfl, by omega, fun m hm hnm => by rw [hk2 m (by omega) fun e => hnm (e ▸ find_ads hf), hk1 m hm], D.putF p E, ⟨?_, putF_has hT.has h.nodup hf hEa hEh fun m hm hne => hk2 m (hT.has.lt m hm) hne, putF_nodup h.nodup hf ?_ fun m hm hmd => ?_⟩, by rw [hE]; exact putF_shape, fun m hm => ?_⟩
    · rw [putF_ad hf hEa, hk2 w (List.getElem?_eq_some_iff.1 hw).1 fun e => hwo (e ▸ find_ads hf)]; exact hw
    · rw [hE]; simp [DT.ads]; omega
    · rcases hEm m hm with e | e | e
      · exact e
      · have := hT.has.lt m hmd; omega
      · have := hT.has.lt m hmd; omega
    · rcases putF_ads m hm with e | e
      · exact .inl e
      · rcases hEm m e with e | e | e
        · exact .inl (e ▸ find_ads hf)
        · exact .inr (by omega)
        · exact .inr (by omega)
  have hlast : (G1 ++ [AO.cells [.int .i64 0, .int .i64 0, .nilptr, .nilptr, .int .i64 p.a, .int .i64 p.b, .int .i64 p.c] 75, AO.cells [.int .i64 0, .int .i64 0, .nilptr, .nilptr, .int .i64 q.a, .int .i64 q.b, .int .i64 q.c] 75]).set y (.cells [.int .i64 side, .int .i64 share, .ptr (.mu G1.length) 0, .ptr (.mu (G1.length + 1)) 0, .int .i64 0, .int .i64 0, .int .i64 0] 75) = G2 := by rw [hG2]; rfl
  rw [hlast]
  exact hgoal
end Go.Proofs.Ytffmpomidfickaa.Tr
