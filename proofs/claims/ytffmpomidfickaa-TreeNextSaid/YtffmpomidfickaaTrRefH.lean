/- The document's tree, written: Share. -/
import Derived.Test.YtffmpomidfickaaTrRefS
namespace Go.Proofs.Ytffmpomidfickaa.Tr
open Go Go.RowKit Am
set_option maxRecDepth 100000
set_option maxHeartbeats 2000000
set_option linter.unusedSimpArgs false
set_option linter.unusedVariables false
attribute [-simp] Am.binEv Am.intBin Am.read1
attribute [local simp] binEv_lss binEv_leq binEv_gtr binEv_geq binEv_eql binEv_neq binEv_add binEv_sub binEv_mul read1_ro read1_mu
variable {R : Ro}
open PT DT
def DT.shareD (side : Int) (p : PA) (d : Int) : DT → Option DT
  | .leaf _ _ => none
  | .split x s h a b => match a.find p with
    | some _ => match a.shareD side p d with
      | some a' => some (.split x s h a' b)
      | none => if s = side then some (.split x s (clamp 1 99 (h + d)) a b) else none
    | none => match b.shareD side p d with
      | some b' => some (.split x s h a b')
      | none => if s = side then some (.split x s (clamp 1 99 (h - d)) a b) else none
theorem shareD_shape (side : Int) (p : PA) (d : Int) : ∀ D : DT, (D.shareD side p d).map DT.shape = D.shape.shareA side p d
  | .leaf _ _ => rfl
  | .split x s h a b => by
    have ia := shareD_shape side p d a
    have ib := shareD_shape side p d b
    have hp := find_pos (p := p) (D := a)
    simp only [DT.shareD, DT.shape, PT.shareA]
    cases ha : a.find p with
    | some y =>
      cases hq : a.shape.pos p with
      | none => rw [hp.2 hq] at ha; cases ha
      | some i =>
        cases hs : a.shareD side p d with
        | some a' => rw [hs] at ia; simp only [Option.map_some] at ia; rw [← ia]; rfl
        | none =>
          rw [hs] at ia; simp only [Option.map_none] at ia; rw [← ia]
          simp only
          split <;> rfl
    | none =>
      rw [hp.1 ha]
      cases hs : b.shareD side p d with
      | some b' => rw [hs] at ib; simp only [Option.map_some] at ib; rw [← ib]; rfl
      | none =>
        rw [hs] at ib; simp only [Option.map_none] at ib; rw [← ib]
        simp only
        split <;> rfl
theorem shareD_keep {side : Int} {p : PA} {d : Int} : ∀ {D D' : DT}, D.shareD side p d = some D' → D'.ad = D.ad ∧ D'.ads = D.ads
  | .leaf _ _, D', h => by cases h
  | .split x s h a b, D', hp => by
    simp only [DT.shareD] at hp
    split at hp
    · split at hp
      · rename_i a' ha; cases hp; exact ⟨rfl, by simp [DT.ads, (shareD_keep ha).2]⟩
      · split at hp <;> cases hp; exact ⟨rfl, rfl⟩
    · split at hp
      · rename_i b' hb; cases hp; exact ⟨rfl, by simp [DT.ads, (shareD_keep hb).2]⟩
      · split at hp <;> cases hp; exact ⟨rfl, rfl⟩
def ShareOut (H : AH) (D : DT) (r : Option DT) (v : AV) (G : AH) : Prop := H.length ≤ G.length ∧ (∀ m, m < H.length → m ∉ D.ads → G[m]? = H[m]?) ∧ match r with
  | some D' => v = .bool true ∧ HasD G D'
  | none => v = .bool false ∧ HasD G D
theorem clamp_def (z : Int) : clamp 1 99 z = if z < 1 then 1 else if 99 < z then 99 else z := by
  unfold clamp mnI mxI; split <;> split <;> omega
theorem rshare1_ok (side : Int) (p : PA) {d : Int} (hd1 : -99 ≤ d) (hd2 : d ≤ 99) : ∀ {D : DT} {H : AH}, D.shape.sides → HasD H D → D.ads.Nodup → D.find p ≠ none → ACalls Try.prog R 52 [.ptr (.mu D.ad) 0, p.av, .int .i64 side, .int .i64 d] H (ShareOut H D (D.shareD side p d))
  | .leaf x r, H, _, h, _, _ => by
    refine ACalls.of_wpE Fns.ok52 (by simp [Fns.a52]) ?_
    have h' := h
    simp only [HasD, rleaf] at h'
    have f := get_app (X := [AO.cells [AV.int .i64 p.a, .int .i64 p.b, .int .i64 p.c] 25]) h'
    simp [Fns.a52, PA.av, PA.cells, DT.ad, f, AO.content]
    exact ⟨by simp, fun m hm _ => List.getElem?_append_left hm, rfl, HasD.app h _⟩
  | .split x s hh a b, H, ⟨s1, s2, s3, sa, sb⟩, h, hn, hne => by
    obtain ⟨h1, h2, h3⟩ := h
    have s0 : ¬ s = 0 := by omega
    obtain ⟨n1, n2, n3, n4, n5⟩ := nodup_split hn
    obtain ⟨H1, hH1⟩ : ∃ H1, H1 = H ++ [AO.cells p.cells 25] := ⟨_, rfl⟩
    have hp : H1[H.length]? = some (.cells p.cells 25) := by rw [hH1]; simp
    have hk1 : ∀ m, m < H.length → H1[m]? = H[m]? := fun m hm => by rw [hH1]; exact List.getElem?_append_left hm
    have hl1 : H1.length = H.length + 1 := by rw [hH1]; simp
    have hx : H1[x]? = some (.cells (rsplit s hh a.ad b.ad) 75) := by rw [hH1]; exact get_app h1
    have ha : HasD H1 a := by rw [hH1]; exact h2.app _
    have hb : HasD H1 b := by rw [hH1]; exact h3.app _
    have hxl := (List.getElem?_eq_some_iff.1 h1).1
    have fa := find_ok (R := R) p sa ha
    have fb := find_ok (R := R) p sb hb
    have hpa : H.length ∉ a.ads := fun hm => by have := h2.lt _ hm; omega
    have hpb : H.length ∉ b.ads := fun hm => by have := h3.lt _ hm; omega
    -- the share itself is written
    have finW : ∀ (G2 : AH) (z : Int), H1.length ≤ G2.length → (∀ m, m < H1.length → m ∉ a.ads → m ∉ b.ads → G2[m]? = H1[m]?) → HasD G2 a → HasD G2 b → ShareOut H (.split x s hh a b) (some (.split x s z a b)) (.bool true) (G2.set x (.cells (rsplit s z a.ad b.ad) 75)) := fun G2 z q1 q2 qa qb => by
      refine ⟨by simp; omega, fun m hm hnm => ?_, rfl, ?_⟩
      · simp only [DT.ads, List.mem_cons, List.mem_append, not_or] at hnm
        rw [List.getElem?_set_ne (Ne.symm hnm.1), q2 m (by omega) hnm.2.1 hnm.2.2, hk1 m hm]
      · exact ⟨List.getElem?_set_self (by omega), qa.frame fun m hm => List.getElem?_set_ne (fun e => n1 (by rw [e]; exact hm)), qb.frame fun m hm => List.getElem?_set_ne (fun e => n2 (by rw [e]; exact hm))⟩
    refine ACalls.of_wpE Fns.ok52 (by simp [Fns.a52]) ?_
    simp only [PA.av, PA.cells] at hp hH1 fa fb
    simp only [rsplit] at hx
    simp [Fns.a52, PA.av, PA.cells, DT.ad]
    rw [← hH1]
    simp [hx, AO.content, s0]
    refine AWp.sched [0, 1, 2, 3, 4, 5, 6, 7] Fns.mixed (by decide +kernel) ?_
    simp [hx, hp, AO.content, readN]
    refine fa.mono ?_
    rintro v G ⟨rfl, rfl⟩
    have hwr : ∀ (G2 : AH) (z : Int), G2[x]? = some (.cells (rsplit s hh a.ad b.ad) 75) → ∀ y : Int, (G2.set x (.cells (rsplit s y a.ad b.ad) 75))[x]? = some (.cells (rsplit s y a.ad b.ad) 75) := fun G2 z hz y => List.getElem?_set_self (List.getElem?_eq_some_iff.1 hz).1
    cases hfa : a.find p with
    | some y =>
      have ia := rshare1_ok side p hd1 hd2 sa ha n3 (by rw [hfa]; simp)
      simp only [PA.av, PA.cells] at ia
      simp [recheck, hx, hp, AO.content, readN, optP, eqEv]
      refine AWp.sched [0, 1, 2, 3, 4, 5, 6, 7, 8, 9, 10] Fns.mixed (by decide +kernel) ?_
      simp [hx, hp, AO.content, readN]
      refine AWp.sched [0, 1, 2, 3, 4, 5, 6, 7, 8, 9, 10, 11, 12, 13, 14, 15, 16, 17, 18, 19, 20, 21, 22, 23, 24] Fns.mixed (by decide +kernel) ?_
      simp [hx, hp, AO.content, readN]
      refine ia.mono ?_
      rintro v G2 ⟨q1, q2, q3⟩
      have hx2 : G2[x]? = _ := (q2 x (by omega) n1).trans hx
      have hp2 : G2[H.length]? = _ := (q2 _ (by omega) hpa).trans hp
      have hb2 : HasD G2 b := hb.frame fun m hm => q2 m (hb.lt m hm) fun h => n5 m h hm
      cases hsd : a.shareD side p d with
      | some a' =>
        rw [hsd] at q3
        obtain ⟨rfl, q3⟩ := q3
        simp [recheck, hx, hx2, hp, hp2, AO.content, readN]
        have hD : DT.shareD side p d (.split x s hh a b) = some (.split x s hh a' b) := by simp only [DT.shareD, hfa, hsd]
        rw [hD]
        refine ⟨by omega, fun m hm hnm => ?_, rfl, ?_, q3, hb2⟩
        · simp only [DT.ads, List.mem_cons, List.mem_append, not_or] at hnm
          rw [q2 m (by omega) hnm.2.1, hk1 m hm]
        · rw [(shareD_keep hsd).1]; exact hx2
      | none =>
        rw [hsd] at q3
        obtain ⟨rfl, q3⟩ := q3
        simp [recheck, hx, hx2, hp, hp2, AO.content, readN]
        by_cases hss : s = side
        · have hD : DT.shareD side p d (.split x s hh a b) = some (.split x s (clamp 1 99 (hh + d)) a b) := by simp only [DT.shareD, hfa, hsd, if_pos hss]
          rw [hD]
          have hf := finW G2 (clamp 1 99 (hh + d)) q1 (fun m hm hma _ => q2 m hm hma) q3 hb2
          have ws : IntKind.i64.wrap (hh + d) = hh + d := by simp only [IntKind.wrap, IntKind.bits, IntKind.signed]; simp; omega
          have hw2 := hwr G2 0 hx2
          simp only [rsplit] at hw2
          rw [clamp_def] at hf ⊢
          rw [hss] at hf hx2 hw2 ⊢
          by_cases c1 : hh + d < 1
          · rw [if_pos c1] at hf ⊢
            have c2 : ¬ (99 : Int) < 1 := by omega
            simp [hss, hx2, hw2, ws, c1, AO.content, AO.withContent, writeN, splice]
            exact hf
          · rw [if_neg c1] at hf ⊢
            by_cases c2 : 99 < hh + d
            · rw [if_pos c2] at hf ⊢
              simp [hss, hx2, hw2, ws, c1, c2, AO.content, AO.withContent, writeN, splice]
              exact hf
            · rw [if_neg c2] at hf ⊢
              simp [hss, hx2, hw2, ws, c1, c2, AO.content, AO.withContent, writeN, splice]
              exact hf
        · have hD : DT.shareD side p d (.split x s hh a b) = none := by simp only [DT.shareD, hfa, hsd, if_neg hss]
          rw [hD]
          simp [hx2, hss, AO.content]
          refine ⟨by omega, fun m hm hnm => ?_, rfl, hx2, q3, hb2⟩
          simp only [DT.ads, List.mem_cons, List.mem_append, not_or] at hnm
          rw [q2 m (by omega) hnm.2.1, hk1 m hm]
    | none =>
      have hfb : b.find p ≠ none := fun e => hne (by simp only [DT.find, hfa, e])
      have ib := rshare1_ok side p hd1 hd2 sb hb n4 hfb
      simp only [PA.av, PA.cells] at ib
      simp [recheck, hx, hp, AO.content, readN, optP, eqEv]
      refine AWp.sched [0, 1, 2, 3, 4, 5, 6, 7, 8, 9, 10] Fns.mixed (by decide +kernel) ?_
      simp [hx, hp, AO.content, readN]
      refine fb.mono ?_
      rintro v G ⟨rfl, rfl⟩
      obtain ⟨y, hfb'⟩ : ∃ y, b.find p = some y := Option.ne_none_iff_exists'.1 hfb
      rw [hfb']
      simp [recheck, hx, hp, AO.content, readN, optP, eqEv]
      refine AWp.sched [0, 1, 2, 3, 4, 5, 6, 7, 8, 9, 10, 11, 12, 13, 14, 15, 16, 17, 18, 19, 20, 21, 22, 23, 24] Fns.mixed (by decide +kernel) ?_
      simp [hx, hp, AO.content, readN]
      refine ib.mono ?_
      rintro v G2 ⟨q1, q2, q3⟩
      have hx2 : G2[x]? = _ := (q2 x (by omega) n2).trans hx
      have hp2 : G2[H.length]? = _ := (q2 _ (by omega) hpb).trans hp
      have ha2 : HasD G2 a := ha.frame fun m hm => q2 m (ha.lt m hm) fun h => n5 m hm h
      cases hsd : b.shareD side p d with
      | some b' =>
        rw [hsd] at q3
        obtain ⟨rfl, q3⟩ := q3
        simp [recheck, hx, hx2, hp, hp2, AO.content, readN]
        have hD : DT.shareD side p d (.split x s hh a b) = some (.split x s hh a b') := by simp only [DT.shareD, hfa, hsd]
        rw [hD]
        refine ⟨by omega, fun m hm hnm => ?_, rfl, ?_, ha2, q3⟩
        · simp only [DT.ads, List.mem_cons, List.mem_append, not_or] at hnm
          rw [q2 m (by omega) hnm.2.2, hk1 m hm]
        · rw [(shareD_keep hsd).1]; exact hx2
      | none =>
        rw [hsd] at q3
        obtain ⟨rfl, q3⟩ := q3
        simp [recheck, hx, hx2, hp, hp2, AO.content, readN]
        by_cases hss : s = side
        · have hD : DT.shareD side p d (.split x s hh a b) = some (.split x s (clamp 1 99 (hh - d)) a b) := by simp only [DT.shareD, hfa, hsd, if_pos hss]
          rw [hD]
          have hf := finW G2 (clamp 1 99 (hh - d)) q1 (fun m hm _ hmb => q2 m hm hmb) ha2 q3
          have wn : IntKind.i64.wrap (-d) = -d := by simp only [IntKind.wrap, IntKind.bits, IntKind.signed]; simp; omega
          have ws : IntKind.i64.wrap (hh + -d) = hh - d := by simp only [IntKind.wrap, IntKind.bits, IntKind.signed]; simp; omega
          have hw2 := hwr G2 0 hx2
          simp only [rsplit] at hw2
          rw [clamp_def] at hf ⊢
          rw [hss] at hf hx2 hw2 ⊢
          by_cases c1 : hh - d < 1
          · rw [if_pos c1] at hf ⊢
            have c2 : ¬ (99 : Int) < 1 := by omega
            simp [hss, hx2, hw2, ws, wn, c1, AO.content, AO.withContent, writeN, splice]
            exact hf
          · rw [if_neg c1] at hf ⊢
            by_cases c2 : 99 < hh - d
            · rw [if_pos c2] at hf ⊢
              simp [hss, hx2, hw2, ws, wn, c1, c2, AO.content, AO.withContent, writeN, splice]
              exact hf
            · rw [if_neg c2] at hf ⊢
              simp [hss, hx2, hw2, ws, wn, c1, c2, AO.content, AO.withContent, writeN, splice]
              exact hf
        · have hD : DT.shareD side p d (.split x s hh a b) = none := by simp only [DT.shareD, hfa, hsd, if_neg hss]
          rw [hD]
          simp [hx2, hss, AO.content]
          refine ⟨by omega, fun m hm hnm => ?_, rfl, hx2, ha2, q3⟩
          simp only [DT.ads, List.mem_cons, List.mem_append, not_or] at hnm
          rw [q2 m (by omega) hnm.2.2, hk1 m hm]
theorem clamp99 (d : Int) : clamp (-99) 99 d = if 99 < d then 99 else if d < -99 then -99 else d := by
  unfold clamp mnI mxI; split <;> split <;> (try split) <;> (try split) <;> omega
theorem rshare_ok {H : AH} {w : Nat} {D : DT} (h : RT H w D) (g : Good D.shape) (p : PA) (side d : Int) :
    ACalls Try.prog R 38 [.ptr (.mu w) 0, p.av, .int .i64 side, .int .i64 d] H (RefOut H w D (D.shape.shareR p side d)) := by
  refine ACalls.of_wpE Fns.ok38 (by simp [Fns.a38]) ?_
  obtain ⟨H1, hH1⟩ : ∃ H1, H1 = H ++ [AO.cells p.cells 25] := ⟨_, rfl⟩
  have hp : H1[H.length]? = some (.cells p.cells 25) := by rw [hH1]; simp
  have hT : RT H1 w D := by rw [hH1]; exact h.app _
  have hl1 : H1.length = H.length + 1 := by rw [hH1]; simp
  have hk1 : ∀ m, m < H.length → H1[m]? = H[m]? := fun m hm => by rw [hH1]; exact List.getElem?_append_left hm
  have hhs := rhas_ok (R := R) hT g.sides p
  have hw := hT.hw
  have hwo := h.out
  have hcl := clamp_le (show (-99 : Int) ≤ 99 by omega) d
  simp only [PA.av, PA.cells] at hhs hp hH1
  simp [Fns.a38, PA.av, PA.cells]
  rw [← hH1]
  refine hhs.mono ?_
  rintro v G ⟨rfl, rfl⟩
  have same : ∀ c, D.shape.shareR p side d = (c, D.shape) → RefOut H w D (D.shape.shareR p side d) (.int .i64 c) G := fun c hc => by
    rw [hc]; exact RefOut.same h (by omega) fun m hm => hk1 m hm
  by_cases c1 : D.shape.pos p = none
  · simp [c1]
    exact same 4 (by unfold PT.shareR; rw [if_pos c1])
  by_cases c2 : ¬ (side = 1 ∨ side = 2)
  · have r0 := same 1 (by unfold PT.shareR; rw [if_neg c1, if_pos c2])
    by_cases d1 : side < 1
    · simp [c1, d1]; exact r0
    · have d2 : 2 < side := by omega
      simp [c1, d1, d2]; exact r0
  have d1 : ¬ side < 1 := by omega
  have d2 : ¬ 2 < side := by omega
  have hfn : D.find p ≠ none := fun e => c1 (find_pos.1 e)
  have s0 : D.shape.shareR p side d = match D.shape.shareA side p (clamp (-99) 99 d) with | some P' => (0, P') | none => (9, D.shape) := by
    unfold PT.shareR; rw [if_neg c1, if_neg c2]; rfl
  have hsh := rshare1_ok (R := R) side p hcl.1 hcl.2 g.sides hT.has h.nodup hfn
  have hss := shareD_shape side p (clamp (-99) 99 d) D
  simp only [PA.av, PA.cells] at hsh
  have key : ∀ v G1, ShareOut G D (D.shareD side p (clamp (-99) 99 d)) v G1 → (v = .bool true ∧ RefOut H w D (D.shape.shareR p side d) (.int .i64 0) G1) ∨ (v = .bool false ∧ RefOut H w D (D.shape.shareR p side d) (.int .i64 9) G1) := by
    rintro v G1 ⟨q1, q2, q3⟩
    have hw2 : G1[w]? = _ := (q2 w (List.getElem?_eq_some_iff.1 hw).1 hwo).trans hw
    cases hd : D.shareD side p (clamp (-99) 99 d) with
    | some D' =>
      rw [hd] at q3 hss
      simp only [Option.map_some] at hss
      rw [← hss] at s0
      rw [s0]
      refine .inl ⟨q3.1, rfl, by omega, fun m hm hnm => by rw [q2 m (by omega) hnm, hk1 m hm], D', ⟨by rw [(shareD_keep hd).1]; exact hw2, q3.2, by rw [(shareD_keep hd).2]; exact h.nodup⟩, rfl, fun m hm => .inl ?_⟩
      rw [(shareD_keep hd).2] at hm; exact hm
    | none =>
      rw [hd] at q3 hss
      simp only [Option.map_none] at hss
      rw [← hss] at s0
      rw [s0]
      exact .inr ⟨q3.1, rfl, by omega, fun m hm hnm => by rw [q2 m (by omega) hnm, hk1 m hm], D, ⟨hw2, q3.2, h.nodup⟩, rfl, fun m hm => .inl hm⟩
  rw [clamp99] at hsh key
  by_cases e1 : 99 < d
  · rw [if_pos e1] at hsh key
    simp [c1, d1, d2, e1]
    refine AWp.sched [0, 1, 2, 3, 4, 5, 6, 7, 8] Fns.mixed (by decide +kernel) ?_
    simp [hw, hp, AO.content, readN]
    refine hsh.mono ?_
    intro v G1 hv
    have hp2 : G1[H.length]? = _ := (hv.2.1 _ (by omega) fun hm => by have := h.has.lt _ hm; omega).trans hp
    have hw2 : G1[w]? = _ := (hv.2.1 w (List.getElem?_eq_some_iff.1 hw).1 hwo).trans hw
    rcases key v G1 hv with ⟨rfl, hr⟩ | ⟨rfl, hr⟩
    · simp [recheck, hw2, hp2, AO.content, readN]; exact hr
    · simp [recheck, hw2, hp2, AO.content, readN]; exact hr
  · rw [if_neg e1] at hsh key
    by_cases e2 : d < -99
    · rw [if_pos e2] at hsh key
      simp [c1, d1, d2, e1, e2]
      refine AWp.sched [0, 1, 2, 3, 4, 5, 6, 7, 8] Fns.mixed (by decide +kernel) ?_
      simp [hw, hp, AO.content, readN]
      refine hsh.mono ?_
      intro v G1 hv
      have hp2 : G1[H.length]? = _ := (hv.2.1 _ (by omega) fun hm => by have := h.has.lt _ hm; omega).trans hp
      have hw2 : G1[w]? = _ := (hv.2.1 w (List.getElem?_eq_some_iff.1 hw).1 hwo).trans hw
      rcases key v G1 hv with ⟨rfl, hr⟩ | ⟨rfl, hr⟩
      · simp [recheck, hw2, hp2, AO.content, readN]; exact hr
      · simp [recheck, hw2, hp2, AO.content, readN]; exact hr
    · rw [if_neg e2] at hsh key
      simp [c1, d1, d2, e1, e2]
      refine AWp.sched [0, 1, 2, 3, 4, 5, 6, 7, 8] Fns.mixed (by decide +kernel) ?_
      simp [hw, hp, AO.content, readN]
      refine hsh.mono ?_
      intro v G1 hv
      have hp2 : G1[H.length]? = _ := (hv.2.1 _ (by omega) fun hm => by have := h.has.lt _ hm; omega).trans hp
      have hw2 : G1[w]? = _ := (hv.2.1 w (List.getElem?_eq_some_iff.1 hw).1 hwo).trans hw
      rcases key v G1 hv with ⟨rfl, hr⟩ | ⟨rfl, hr⟩
      · simp [recheck, hw2, hp2, AO.content, readN]; exact hr
      · simp [recheck, hw2, hp2, AO.content, readN]; exact hr
/-! ### Both, in one heap -/
/-- The program's tree and the document's, alike. -/
structure DD (H : AH) (t w : Nat) (P : PT) : Prop where
  prog : ∃ j cp, TreM H t j cp (tell 0 P)
  ref : ∃ D, RT H w D ∧ D.shape = P
  good : Good P
theorem DD.app {H : AH} {t w : Nat} {P : PT} (h : DD H t w P) (X : AH) : DD (H ++ X) t w P := by
  obtain ⟨⟨j, cp, h1⟩, ⟨D, h2, h3⟩, h4⟩ := h
  exact ⟨⟨j, cp, h1.app X⟩, ⟨D, h2.app X, h3⟩, h4⟩
theorem TreM.kinds {H : AH} {t j : Nat} {cp : Cap} {N : List ND} (h : TreM H t j cp N) {m : Nat} {c : List AV} {ty : TypeId} (hm : H[m]? = some (.cells c ty)) (h1 : ty ≠ 60) (h2 : ty ≠ 54) : m ≠ t ∧ m ≠ j := by
  refine ⟨fun e => ?_, fun e => ?_⟩
  · subst e; rw [h.ht] at hm; cases hm; exact h1 rfl
  · subst e
    obtain ⟨o, ho, hc⟩ := h.obj
    rw [ho] at hm
    rcases hc with ⟨_, rfl⟩ | ⟨_, _, rfl⟩
    · cases hm
    · cases hm; exact h2 rfl
theorem RT.frame {H G : AH} {w : Nat} {D : DT} (h : RT H w D) (hw : G[w]? = H[w]?) (hk : ∀ m ∈ D.ads, G[m]? = H[m]?) : RT G w D := ⟨hw.trans h.hw, h.has.frame hk, h.nodup⟩
/-- The program has acted. -/
theorem RT.act {H G : AH} {w t j : Nat} {cp : Cap} {N : List ND} {D : DT} (h : RT H w D) (hT : TreM H t j cp N) (hf : Fr H G t j) : RT G w D := by
  have hw := hT.kinds h.hw (by decide) (by decide)
  refine h.frame (hf w (List.getElem?_eq_some_iff.1 h.hw).1 hw.1 hw.2) fun m hm => ?_
  obtain ⟨c, hc⟩ := h.has.kind m hm
  have hm' := hT.kinds hc (by decide) (by decide)
  exact hf m (h.has.lt m hm) hm'.1 hm'.2
/-- The document has acted. -/
theorem TreM.ract {H G : AH} {t j : Nat} {cp : Cap} {N : List ND} {w : Nat} {D : DT} (h : TreM H t j cp N) (hR : RT H w D) (hk : ∀ m, m < H.length → m ∉ D.ads → G[m]? = H[m]?) : TreM G t j cp N := by
  have key : ∀ m, m ∈ D.ads → m ≠ t ∧ m ≠ j := fun m hm => by
    obtain ⟨c, hc⟩ := hR.has.kind m hm
    exact h.kinds hc (by decide) (by decide)
  exact h.frame (hk t h.tlt fun hm => (key t hm).1 rfl) (hk j h.jlt fun hm => (key j hm).2 rfl)
end Go.Proofs.Ytffmpomidfickaa.Tr
