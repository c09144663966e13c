/- The document's tree, written: Swap, Close. -/
import Derived.Test.YtffmpomidfickaaTrRefM
namespace Go.Proofs.Ytffmpomidfickaa.Tr
open Go Go.RowKit Am
set_option maxRecDepth 100000
set_option maxHeartbeats 1000000
set_option linter.unusedSimpArgs false
set_option linter.unusedVariables false
attribute [-simp] Am.binEv Am.intBin Am.read1
attribute [local simp] binEv_lss binEv_leq binEv_gtr binEv_geq binEv_eql binEv_neq binEv_add binEv_sub binEv_mul read1_ro read1_mu
variable {R : Ro}
open PT DT
/-! ### Swap -/
def DT.setA (y : Nat) (q : PA) : DT → DT
  | .leaf x r => .leaf x (if x = y then q else r)
  | .split x s h a b => .split x s h (a.setA y q) (b.setA y q)
def DT.lvs : DT → List (Nat × PA)
  | .leaf x r => [(x, r)]
  | .split _ _ _ a b => a.lvs ++ b.lvs
theorem setA_ad (y : Nat) (q : PA) (D : DT) : (D.setA y q).ad = D.ad := by cases D <;> rfl
theorem setA_ads (y : Nat) (q : PA) : ∀ D : DT, (D.setA y q).ads = D.ads
  | .leaf _ _ => rfl
  | .split _ _ _ a b => by simp [DT.setA, DT.ads, setA_ads y q a, setA_ads y q b]
theorem lvs_panes : ∀ D : DT, D.lvs.map (·.2) = D.shape.panes
  | .leaf _ _ => rfl
  | .split _ _ _ a b => by simp [DT.lvs, DT.shape, panes, lvs_panes a, lvs_panes b]
theorem lvs_ads : ∀ D : DT, (D.lvs.map (·.1)).Sublist D.ads
  | .leaf _ _ => List.Sublist.refl _
  | .split x _ _ a b => by
    simp only [DT.lvs, DT.ads, List.map_append]
    exact ((lvs_ads a).append (lvs_ads b)).cons x
theorem find_lvs {p : PA} : ∀ {D : DT} {y : Nat}, D.find p = some y → (y, p) ∈ D.lvs
  | .leaf x r, y, h => by
    simp only [DT.find] at h
    split at h
    · rename_i e; cases h; subst e; simp [DT.lvs]
    · cases h
  | .split x _ _ a b, y, h => by
    simp only [DT.find] at h
    split at h
    · rename_i z hz; cases h; simp [DT.lvs, find_lvs hz]
    · simp [DT.lvs, find_lvs h]
theorem inj_nodup {α β : Type} (f : α → β) : ∀ {l : List α}, (l.map f).Nodup → ∀ {a b : α}, a ∈ l → b ∈ l → f a = f b → a = b
  | [], _, a, b, h, _, _ => by cases h
  | x :: l, hn, a, b, ha, hb, he => by
    rw [List.map_cons, List.nodup_cons] at hn
    rcases List.mem_cons.1 ha with h1 | h1
    · rcases List.mem_cons.1 hb with h2 | h2
      · rw [h1, h2]
      · exact absurd (show f x ∈ l.map f from List.mem_map.2 ⟨b, h2, by rw [← he, h1]⟩) hn.1
    · rcases List.mem_cons.1 hb with h2 | h2
      · exact absurd (show f x ∈ l.map f from List.mem_map.2 ⟨a, h1, by rw [he, h2]⟩) hn.1
      · exact inj_nodup f hn.2 h1 h2 he
theorem setA_shape {p q : PA} {ya yb : Nat} : ∀ {D : DT}, (∀ x r, (x, r) ∈ D.lvs → (x = ya ↔ r = p) ∧ (x = yb ↔ r = q)) → ((D.setA ya q).setA yb p).shape = D.shape.mapP (swp p q)
  | .leaf x r, h => by
    obtain ⟨h1, h2⟩ := h x r (by simp [DT.lvs])
    simp only [DT.setA, DT.shape, PT.mapP, swp]
    congr 1
    by_cases e1 : x = ya
    · have r1 := h1.1 e1
      by_cases e2 : x = yb
      · have r2 := h2.1 e2
        rw [if_pos e2, if_pos r1, ← r1, r2]
      · rw [if_neg e2, if_pos e1, if_pos r1]
    · have r1 : ¬ r = p := fun e => e1 (h1.2 e)
      by_cases e2 : x = yb
      · have r2 := h2.1 e2
        rw [if_pos e2, if_neg r1, if_pos r2]
      · have r2 : ¬ r = q := fun e => e2 (h2.2 e)
        rw [if_neg e2, if_neg e1, if_neg r1, if_neg r2]
  | .split x s hh a b, h => by
    simp only [DT.setA, DT.shape, PT.mapP]
    rw [setA_shape fun x r hx => h x r (by simp [DT.lvs, hx]), setA_shape fun x r hx => h x r (by simp [DT.lvs, hx])]
theorem lvs_leaf {H : AH} : ∀ {D : DT}, HasD H D → ∀ {y : Nat} {r : PA}, (y, r) ∈ D.lvs → H[y]? = some (.cells (rleaf r) 75)
  | .leaf x s, h, y, r, hm => by
    simp [DT.lvs] at hm
    obtain ⟨rfl, rfl⟩ := hm
    exact h
  | .split x s hh a b, ⟨_, h2, h3⟩, y, r, hm => by
    simp only [DT.lvs, List.mem_append] at hm
    rcases hm with hm | hm
    · exact lvs_leaf h2 hm
    · exact lvs_leaf h3 hm
theorem setA_has {H G : AH} {y : Nat} {r0 q : PA} (hy : H[y]? = some (.cells (rleaf r0) 75)) (hg : G[y]? = some (.cells (rleaf q) 75)) : ∀ {D : DT}, HasD H D → (∀ m ∈ D.ads, m ≠ y → G[m]? = H[m]?) → HasD G (D.setA y q)
  | .leaf x r, h, hk => by
    simp only [DT.setA, HasD] at h ⊢
    by_cases e : x = y
    · rw [if_pos e, e]; exact hg
    · rw [if_neg e, hk x (by simp [DT.ads]) e]; exact h
  | .split x s hh a b, ⟨h1, h2, h3⟩, hk => by
    refine ⟨?_, setA_has hy hg h2 fun m hm => hk m (by simp [DT.ads, hm]), setA_has hy hg h3 fun m hm => hk m (by simp [DT.ads, hm])⟩
    have hne : x ≠ y := fun e => by
      rw [e, hy] at h1
      simp [rleaf, rsplit] at h1
    rw [setA_ad, setA_ad, hk x (by simp [DT.ads]) hne]; exact h1
theorem rswap_ok {H : AH} {w : Nat} {D : DT} (h : RT H w D) (g : Good D.shape) (p q : PA) :
    ACalls Try.prog R 37 [.ptr (.mu w) 0, p.av, q.av] H (RefOut H w D (D.shape.swapR p q)) := by
  refine ACalls.of_wpE Fns.ok37 (by simp [Fns.a37]) ?_
  obtain ⟨H1, hH1⟩ : ∃ H1, H1 = H ++ [AO.cells p.cells 25, AO.cells q.cells 25] := ⟨_, rfl⟩
  have hp : H1[H.length]? = some (.cells p.cells 25) := by rw [hH1]; simp
  have hq : H1[H.length + 1]? = some (.cells q.cells 25) := by rw [hH1]; simp
  have hT : RT H1 w D := by rw [hH1]; exact h.app _
  have hl1 : H1.length = H.length + 2 := by rw [hH1]; simp
  have hk1 : ∀ m, m < H.length → H1[m]? = H[m]? := fun m hm => by rw [hH1]; exact List.getElem?_append_left hm
  have hfp := find_ok (R := R) p g.sides hT.has
  have hfq := find_ok (R := R) q g.sides hT.has
  have hw := hT.hw
  have hwo := h.out
  simp only [PA.av, PA.cells] at hfp hfq hp hq hH1
  simp [Fns.a37, PA.av, PA.cells]
  rw [← hH1]
  refine AWp.sched [0, 1, 2, 3, 4, 6, 7, 8, 9, 10, 5, 11, 12, 13] Fns.mixed (by decide +kernel) ?_
  simp [hw, hp, hq, AO.content, readN]
  refine hfp.mono ?_
  rintro v G ⟨rfl, rfl⟩
  simp [recheck, hw, hp, hq, AO.content, readN]
  refine hfq.mono ?_
  rintro v G ⟨rfl, rfl⟩
  have hnp := find_pos (p := p) (D := D)
  have hnq := find_pos (p := q) (D := D)
  have same : D.shape.swapR p q = (4, D.shape) → RefOut H w D (D.shape.swapR p q) (.int .i64 4) G := fun hc => by
    rw [hc]; exact RefOut.same h (by omega) fun m hm => hk1 m hm
  cases hf : D.find p with
  | none =>
    simp [recheck, hw, hp, hq, AO.content, readN, optP, eqEv]
    exact same (by unfold PT.swapR; rw [if_pos (.inl (hnp.1 hf))])
  | some ya =>
  cases hf2 : D.find q with
  | none =>
    simp [recheck, hw, hp, hq, AO.content, readN, optP, eqEv]
    exact same (by unfold PT.swapR; rw [if_pos (.inr (hnq.1 hf2))])
  | some yb =>
  have n1 : D.shape.pos p ≠ none := fun e => by rw [hnp.2 e] at hf; cases hf
  have n2 : D.shape.pos q ≠ none := fun e => by rw [hnq.2 e] at hf2; cases hf2
  have s0 : D.shape.swapR p q = (0, D.shape.mapP (swp p q)) := by unfold PT.swapR; rw [if_neg (by simp [n1, n2])]
  rw [s0]
  have hya := hT.has.lt ya (find_ads hf)
  have hyb := hT.has.lt yb (find_ads hf2)
  have hya' := h.has.lt ya (find_ads hf)
  have hyb' := h.has.lt yb (find_ads hf2)
  have la := find_leaf hT.has hf
  have lb := find_leaf hT.has hf2
  obtain ⟨G1, hG1⟩ : ∃ G1, G1 = G.set ya (.cells (rleaf q) 75) := ⟨_, rfl⟩
  have a1 : G1[ya]? = some (.cells (rleaf q) 75) := by rw [hG1, List.getElem?_set_self hya]
  have k1 : ∀ m, m ≠ ya → G1[m]? = G[m]? := fun m hm => by rw [hG1, List.getElem?_set_ne (Ne.symm hm)]
  have hasG1 : HasD G1 (D.setA ya q) := setA_has la a1 hT.has fun m hm hne => k1 m hne
  have lb1 : ∃ r0, G1[yb]? = some (.cells (rleaf r0) 75) := by
    by_cases e : yb = ya
    · exact ⟨q, by rw [e]; exact a1⟩
    · exact ⟨q, by rw [k1 yb e]; exact lb⟩
  obtain ⟨r0, lb1⟩ := lb1
  obtain ⟨G2, hG2⟩ : ∃ G2, G2 = G1.set yb (.cells (rleaf p) 75) := ⟨_, rfl⟩
  have hl1' : G1.length = G.length := by rw [hG1]; simp
  have a2 : G2[yb]? = some (.cells (rleaf p) 75) := by rw [hG2, List.getElem?_set_self (by omega)]
  have k2 : ∀ m, m ≠ yb → G2[m]? = G1[m]? := fun m hm => by rw [hG2, List.getElem?_set_ne (Ne.symm hm)]
  have hasG2 : HasD G2 ((D.setA ya q).setA yb p) := setA_has lb1 a2 hasG1 fun m hm hne => k2 m hne
  have hp1 : G1[H.length]? = _ := (k1 _ (by omega)).trans hp
  simp only [rleaf] at la lb1
  simp [recheck, hw, hp, hq, AO.content, AO.withContent, readN, writeN, splice, optP, eqEv, la]
  have e1 : G.set ya (.cells [.int .i64 0, .int .i64 0, .nilptr, .nilptr, .int .i64 q.a, .int .i64 q.b, .int .i64 q.c] 75) = G1 := by rw [hG1]; rfl
  rw [e1]
  simp [hp1, lb1, AO.content, AO.withContent, readN, writeN, splice]
  have e2 : G1.set yb (.cells [.int .i64 0, .int .i64 0, .nilptr, .nilptr, .int .i64 p.a, .int .i64 p.b, .int .i64 p.c] 75) = G2 := by rw [hG2]; rfl
  rw [e2]
  have hl2 : G2.length = G1.length := by rw [hG2]; simp
  have hk : ∀ m, m ∉ D.ads → G2[m]? = G[m]? := fun m hm => by
    rw [k2 m fun e => hm (e ▸ find_ads hf2), k1 m fun e => hm (e ▸ find_ads hf)]
  refine ⟨rfl, by omega, fun m hm hnm => by rw [hk m hnm, hk1 m hm], (D.setA ya q).setA yb p, ⟨?_, hasG2, by rw [setA_ads, setA_ads]; exact h.nodup⟩, setA_shape fun x r hx => ?_, fun m hm => ?_⟩
  · rw [setA_ad, setA_ad, hk w hwo]; exact hw
  · have nf := (lvs_ads D).nodup h.nodup
    have np : (D.lvs.map (·.2)).Nodup := by rw [lvs_panes]; exact g.nodup
    have ma := find_lvs hf
    have mb := find_lvs hf2
    refine ⟨⟨fun e => ?_, fun e => ?_⟩, ⟨fun e => ?_, fun e => ?_⟩⟩
    · have := inj_nodup (·.1) nf hx ma e; exact (Prod.mk.inj this).2
    · have := inj_nodup (·.2) np hx ma e; exact (Prod.mk.inj this).1
    · have := inj_nodup (·.1) nf hx mb e; exact (Prod.mk.inj this).2
    · have := inj_nodup (·.2) np hx mb e; exact (Prod.mk.inj this).1
  · rw [setA_ads, setA_ads] at hm; exact .inl hm
/-! ### Close -/
def DT.node : DT → List AV
  | .leaf _ r => rleaf r
  | .split _ s h a b => rsplit s h a.ad b.ad
theorem HasD.at {H : AH} {D : DT} (h : HasD H D) : H[D.ad]? = some (.cells D.node 75) := by
  cases D with
  | leaf x r => exact h
  | split x s hh a b => exact h.1
def DT.rebase (x : Nat) : DT → DT
  | .leaf _ r => .leaf x r
  | .split _ s h a b => .split x s h a b
def DT.isLd (p : PA) : DT → Bool
  | .leaf _ r => decide (r = p)
  | _ => false
def DT.closeD (p : PA) : DT → DT
  | .leaf x r => .leaf x r
  | .split x s h a b => if a.isLd p then b.rebase x else if b.isLd p then a.rebase x else .split x s h (a.closeD p) (b.closeD p)
theorem isLd_shape (p : PA) (D : DT) : D.isLd p = D.shape.isL p := by cases D <;> rfl
theorem rebase_shape (x : Nat) (D : DT) : (D.rebase x).shape = D.shape := by cases D <;> rfl
theorem closeD_shape (p : PA) : ∀ D : DT, (D.closeD p).shape = D.shape.closeA p
  | .leaf _ _ => rfl
  | .split x s h a b => by
    simp only [DT.closeD, DT.shape, PT.closeA, isLd_shape]
    split
    · exact rebase_shape x b
    · split
      · exact rebase_shape x a
      · simp only [DT.shape, closeD_shape p a, closeD_shape p b]
theorem rebase_ad (x : Nat) (D : DT) : (D.rebase x).ad = x := by cases D <;> rfl
theorem closeD_ad (p : PA) (D : DT) : (D.closeD p).ad = D.ad := by
  cases D with
  | leaf _ _ => rfl
  | split x s h a b =>
    simp only [DT.closeD]
    split
    · rw [rebase_ad]; rfl
    · split
      · rw [rebase_ad]; rfl
      · rfl
theorem rebase_ads (x : Nat) (D : DT) : (D.rebase x).ads.Sublist (x :: D.ads) := by
  cases D with
  | leaf y r => exact (List.Sublist.refl [x]).trans (by simp [DT.ads])
  | split y s h a b =>
    simp only [DT.rebase, DT.ads]
    exact (List.sublist_cons_self y (a.ads ++ b.ads)).cons_cons x
theorem closeD_ads (p : PA) : ∀ D : DT, (D.closeD p).ads.Sublist D.ads
  | .leaf _ _ => List.Sublist.refl _
  | .split x s h a b => by
    simp only [DT.closeD]
    split
    · exact (rebase_ads x b).trans ((List.sublist_append_right a.ads b.ads).cons_cons x)
    · split
      · exact (rebase_ads x a).trans ((List.sublist_append_left a.ads b.ads).cons_cons x)
      · simp only [DT.ads]
        exact ((closeD_ads p a).append (closeD_ads p b)).cons_cons x
theorem HasD.rebase {H G : AH} {x : Nat} {D : DT} (h : HasD H D) (hx : G[x]? = some (.cells D.node 75)) (hk : ∀ m ∈ D.ads, m ≠ x → G[m]? = H[m]?) (hn : x ∉ D.ads) : HasD G (D.rebase x) := by
  cases D with
  | leaf y r => exact hx
  | split y s hh a b =>
    refine ⟨hx, h.2.1.frame fun m hm => hk m (by simp [DT.ads, hm]) fun e => hn (by simp [DT.ads, ← e, hm]), h.2.2.frame fun m hm => hk m (by simp [DT.ads, hm]) fun e => hn (by simp [DT.ads, ← e, hm])⟩
def sndC : AC → AC | .seq _ b => b | x => x
def CloseOut (H : AH) (p : PA) (D : DT) (v : AV) (G : AH) : Prop := v = .tuple [] ∧ H.length ≤ G.length ∧ (∀ m, m < H.length → m ∉ D.ads → G[m]? = H[m]?) ∧ HasD G (D.closeD p)
theorem rclose1_ok (p : PA) : ∀ {D : DT} {H : AH}, D.shape.sides → HasD H D → D.ads.Nodup → ACalls Try.prog R 51 [.ptr (.mu D.ad) 0, p.av] H (CloseOut H p D)
  | .leaf x r, H, _, h, _ => by
    refine ACalls.of_wpE Fns.ok51 (by simp [Fns.a51]) ?_
    have h' := h
    simp only [HasD, rleaf] at h'
    have f := get_app (X := [AO.cells [AV.int .i64 p.a, .int .i64 p.b, .int .i64 p.c] 25]) h'
    simp [Fns.a51, PA.av, PA.cells, DT.ad, f, AO.content]
    exact ⟨rfl, by simp, fun m hm _ => List.getElem?_append_left hm, HasD.app h _⟩
  | .split x s hh a b, H, ⟨s1, _, _, sa, sb⟩, h, hn => by
    obtain ⟨h1, h2, h3⟩ := h
    have s0 : ¬ s = 0 := by omega
    obtain ⟨n1, n2, n3, n4, n5⟩ := nodup_split hn
    obtain ⟨H1, hH1⟩ : ∃ H1, H1 = H ++ [AO.cells p.cells 25] := ⟨_, rfl⟩
    have hp : H1[H.length]? = some (.cells p.cells 25) := by rw [hH1]; simp
    have hk1 : ∀ m, m < H.length → H1[m]? = H[m]? := fun m hm => by rw [hH1]; exact List.getElem?_append_left hm
    have hl1 : H1.length = H.length + 1 := by rw [hH1]; simp
    have hx : H1[x]? = some (.cells (rsplit s hh a.ad b.ad) 75) := by rw [hH1]; exact get_app h1
    have ha : HasD H1 a := by rw [hH1]; exact h2.app _
    have hb : HasD H1 b := by rw [hH1]; exact h3.app _
    have aa := ha.at
    have bb := hb.at
    have hxl := (List.getElem?_eq_some_iff.1 h1).1
    have he := fun r : PA => eqP r.a r.b r.c p.a p.b p.c
    simp only [fieldsP] at he
    have hdd : ∀ r : PA, (decide (r.a = p.a) && (decide (r.b = p.b) && decide (r.c = p.c))) = decide (r = p) := fun r => by
      rw [Bool.eq_iff_iff]; simp [PA.eq]
    have ia := rclose1_ok p sa ha n3
    have ib := fun (G : AH) (hG : HasD G b) => rclose1_ok p sb hG n4
    -- one child stays
    have fin1 : ∀ E : DT, (E = a ∨ E = b) → DT.closeD p (.split x s hh a b) = E.rebase x → CloseOut H p (.split x s hh a b) (.tuple []) (H1.set x (.cells E.node 75)) := fun E hE hc => by
      have hEn : x ∉ E.ads := by rcases hE with rfl | rfl <;> assumption
      have hEh : HasD H1 E := by rcases hE with rfl | rfl <;> assumption
      refine ⟨rfl, by simp; omega, fun m hm hnm => ?_, ?_⟩
      · rw [List.getElem?_set_ne (fun e => hnm (by simp [DT.ads, e])), hk1 m hm]
      · rw [hc]
        exact hEh.rebase (List.getElem?_set_self (by omega)) (fun m hm hne => List.getElem?_set_ne (Ne.symm hne)) hEn
    -- both are gone into
    have fin2 : a.isLd p = false → b.isLd p = false → ∀ G2 G3, CloseOut H1 p a (.tuple []) G2 → CloseOut G2 p b (.tuple []) G3 → CloseOut H p (.split x s hh a b) (.tuple []) G3 := fun la lb G2 G3 ⟨_, q1, q2, q3⟩ ⟨_, r1, r2, r3⟩ => by
      have hax : ∀ m ∈ a.ads, m < H1.length := ha.lt
      have hbx : ∀ m ∈ b.ads, m < H1.length := hb.lt
      refine ⟨rfl, by omega, fun m hm hnm => ?_, ?_⟩
      · simp only [DT.ads, List.mem_cons, List.mem_append, not_or] at hnm
        rw [r2 m (by omega) hnm.2.2, q2 m (by omega) hnm.2.1, hk1 m hm]
      · simp only [DT.closeD, la, lb, Bool.false_eq_true, if_false]
        refine ⟨?_, q3.frame fun m hm => ?_, r3⟩
        · rw [closeD_ad, closeD_ad, r2 x (by omega) n2, q2 x (by omega) n1, hx]
        · have hma := (closeD_ads p a).subset hm
          exact r2 m (by have := hax m hma; omega) (n5 m hma)
    have hpa : H.length ∉ a.ads := fun hm => by have := h2.lt _ hm; omega
    have hpb : H.length ∉ b.ads := fun hm => by have := h3.lt _ hm; omega
    refine ACalls.of_wpE Fns.ok51 (by simp [Fns.a51]) ?_
    simp only [PA.cells] at hp hH1
    simp only [rsplit] at hx
    simp only [PA.av, PA.cells] at ia ib
    -- what is left where neither child is the leaf
    have tail : ∀ e : Env, e 0 = .ptr (.mu x) 0 → e 3 = .ptr (.mu H.length) 0 → a.isLd p = false → b.isLd p = false →
        wpE Try.prog R Fns.a51.nt (sndC (sndC (sndC (sndC Fns.a51.body)))) (QRet R Fns.a51.res (CloseOut H p (.split x s hh a b))) e H1 := fun e e0 e3 la lb => by
      simp [Fns.a51, sndC]
      refine AWp.sched [0, 1, 2, 3, 4, 5] Fns.mixed (by decide +kernel) ?_
      simp [e0, e3, hx, hp, AO.content, readN]
      refine ia.mono ?_
      rintro v G2 ⟨rfl, q1, q2, q3⟩
      have hx2 : G2[x]? = _ := (q2 x (by omega) n1).trans hx
      have hp2 : G2[H.length]? = _ := (q2 _ (by omega) hpa).trans hp
      have hb2 : HasD G2 b := hb.frame fun m hm => q2 m (hb.lt m hm) fun h => n5 m h hm
      simp [recheck, hx, hx2, hp, hp2, AO.content, readN]
      refine AWp.sched [0, 1, 2, 3, 4, 5] Fns.mixed (by decide +kernel) ?_
      simp [e0, e3, hx2, hp2, AO.content, readN]
      refine (ib G2 hb2).mono ?_
      rintro v G3 ⟨rfl, r⟩
      simp [recheck]
      exact fin2 la lb G2 G3 ⟨rfl, q1, q2, q3⟩ ⟨rfl, r⟩
    simp [Fns.a51, PA.av, PA.cells, DT.ad]
    rw [← hH1]
    simp [hx, AO.content, s0]
    refine AWp.sched [0, 1, 2, 3, 4, 5, 6, 7, 8, 9, 10, 11, 12, 13, 14, 15, 16, 17, 18] Fns.mixed (by decide +kernel) ?_
    have second : ∀ e : Env, e 0 = .ptr (.mu x) 0 → e 3 = .ptr (.mu H.length) 0 → a.isLd p = false →
        wpE Try.prog R Fns.a51.nt (sndC (sndC (sndC Fns.a51.body))) (QRet R Fns.a51.res (CloseOut H p (.split x s hh a b))) e H1 := fun e e0 e3 la => by
      simp [Fns.a51, sndC]
      refine AWp.sched [0, 1, 2, 3, 4, 5, 6, 7, 8, 9, 10, 11, 12, 13, 14, 15, 16, 17, 18] Fns.mixed (by decide +kernel) ?_
      cases b with
      | leaf xb rb =>
        simp only [DT.node, rleaf, DT.ad] at bb hx
        simp [-eqEv, e0, e3, hx, hp, bb, AO.content, readN, he, DT.ad]
        rw [hdd]
        by_cases e : rb = p
        · have hc : DT.closeD p (.split x s hh a (.leaf xb rb)) = a.rebase x := by simp [DT.closeD, la]; simp [DT.isLd, e]
          have hf := fin1 a (.inl rfl) hc
          cases a with
          | leaf xa ra =>
            simp only [DT.node, rleaf, DT.ad] at aa hf hx
            rw [e] at hf
            simp [e, e0, e3, hx, aa, AO.content, AO.withContent, readN, writeN, splice]
            exact hf
          | split xa sda sha a1 a2 =>
            simp only [DT.node, rsplit, DT.ad] at aa hf hx
            rw [e] at hf
            simp [e, e0, e3, hx, aa, AO.content, AO.withContent, readN, writeN, splice]
            exact hf
        · simp [e]
          exact tail _ (by simp [e0]) (by simp [e3]) la (by simp [DT.isLd, e])
      | split xb sdb shb b1 b2 =>
        have sb0 : ¬ sdb = 0 := by have := sb.1; omega
        simp only [DT.node, rsplit, DT.ad] at bb hx
        simp [e0, e3, hx, hp, bb, AO.content, readN, DT.ad, sb0]
        exact tail _ (by simp [e0]) (by simp [e3]) la rfl
    cases a with
    | leaf xa ra =>
      simp only [DT.node, rleaf, DT.ad] at aa hx
      simp [-eqEv, hx, hp, aa, AO.content, readN, he, DT.ad]
      rw [hdd]
      by_cases e : ra = p
      · have hc : DT.closeD p (.split x s hh (.leaf xa ra) b) = b.rebase x := by simp [DT.closeD, DT.isLd, e]
        have hf := fin1 b (.inr rfl) hc
        cases b with
        | leaf xb rb =>
          simp only [DT.node, rleaf, DT.ad] at bb hf hx
          rw [e] at hf
          simp [e, hx, bb, AO.content, AO.withContent, readN, writeN, splice]
          exact hf
        | split xb sdb shb b1 b2 =>
          simp only [DT.node, rsplit, DT.ad] at bb hf hx
          rw [e] at hf
          simp [e, hx, bb, AO.content, AO.withContent, readN, writeN, splice]
          exact hf
      · simp [e]
        exact second _ (by simp) (by simp) (by simp [DT.isLd, e])
    | split xa sda sha a1 a2 =>
      have sa0 : ¬ sda = 0 := by have := sa.1; omega
      simp only [DT.node, rsplit, DT.ad] at aa hx
      simp [hx, hp, aa, AO.content, readN, DT.ad, sa0]
      exact second _ (by simp) (by simp) rfl
theorem rclose_ok {H : AH} {w : Nat} {D : DT} (h : RT H w D) (g : Good D.shape) (p : PA) :
    ACalls Try.prog R 36 [.ptr (.mu w) 0, p.av] H (RefOut H w D (D.shape.closeR p)) := by
  refine ACalls.of_wpE Fns.ok36 (by simp [Fns.a36]) ?_
  obtain ⟨H1, hH1⟩ : ∃ H1, H1 = H ++ [AO.cells p.cells 25] := ⟨_, rfl⟩
  have hp : H1[H.length]? = some (.cells p.cells 25) := by rw [hH1]; simp
  have hT : RT H1 w D := by rw [hH1]; exact h.app _
  have hl1 : H1.length = H.length + 1 := by rw [hH1]; simp
  have hk1 : ∀ m, m < H.length → H1[m]? = H[m]? := fun m hm => by rw [hH1]; exact List.getElem?_append_left hm
  have hhs := rhas_ok (R := R) hT g.sides p
  have hcl := rclose1_ok (R := R) p g.sides hT.has h.nodup
  have hw := hT.hw
  have hwo := h.out
  have hat := hT.has.at
  simp only [PA.av, PA.cells] at hhs hcl hp hH1
  simp [Fns.a36, PA.av, PA.cells]
  rw [← hH1]
  refine hhs.mono ?_
  rintro v G ⟨rfl, rfl⟩
  have same : ∀ c, D.shape.closeR p = (c, D.shape) → RefOut H w D (D.shape.closeR p) (.int .i64 c) G := fun c hc => by
    rw [hc]; exact RefOut.same h (by omega) fun m hm => hk1 m hm
  by_cases c1 : D.shape.pos p = none
  · simp [c1]
    exact same 4 (by unfold PT.closeR; rw [if_pos c1])
  simp [c1, hw, AO.content]
  cases D with
  | leaf x r =>
    simp only [DT.node, rleaf] at hat
    simp [hat, AO.content]
    exact same 9 (by unfold PT.closeR; rw [if_neg c1, if_pos (show (DT.leaf x r).shape.isS = false from rfl)])
  | split x s hh a b =>
    have s0 : ¬ s = 0 := by have := g.sides.1; omega
    have sR : (DT.split x s hh a b).shape.closeR p = (0, (DT.split x s hh a b).shape.closeA p) := by
      unfold PT.closeR; rw [if_neg c1, if_neg (by simp [DT.shape, PT.isS])]
    simp only [DT.node, rsplit] at hat
    simp [hat, AO.content, s0]
    refine AWp.sched [0, 1, 2, 3, 4, 5] Fns.mixed (by decide +kernel) ?_
    simp [hw, hp, AO.content, readN]
    refine hcl.mono ?_
    rintro v G1 ⟨rfl, q1, q2, q3⟩
    have hp2 : G1[H.length]? = _ := (q2 _ (by omega) fun hm => by have := h.has.lt _ hm; omega).trans hp
    have hw2 : G1[w]? = _ := (q2 _ (List.getElem?_eq_some_iff.1 hw).1 hwo).trans hw
    simp [recheck, hw, hw2, hp, hp2, AO.content, readN]
    rw [sR]
    refine ⟨rfl, by omega, fun m hm hnm => by rw [q2 m (by omega) hnm, hk1 m hm], _, ⟨by rw [closeD_ad]; exact hw2, q3, (closeD_ads p _).nodup h.nodup⟩, closeD_shape p _, fun m hm => .inl ((closeD_ads p _).subset hm)⟩
end Go.Proofs.Ytffmpomidfickaa.Tr
