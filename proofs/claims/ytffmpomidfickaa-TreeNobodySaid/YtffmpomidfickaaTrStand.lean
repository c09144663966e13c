/- Is the program's tree the document's, told node by node? -/
import Derived.Test.YtffmpomidfickaaTrActs
import Derived.Test.YtffmpomidfickaaTrColl
namespace Go.Proofs.Ytffmpomidfickaa.Tr
open Go Go.RowKit Am
set_option maxRecDepth 100000
set_option maxHeartbeats 2000000
set_option linter.unusedSimpArgs false
set_option linter.unusedVariables false
attribute [-simp] Am.binEv Am.intBin Am.read1 Am.readN
attribute [local simp] binEv_lss binEv_leq binEv_gtr binEv_geq binEv_eql binEv_neq binEv_add binEv_sub binEv_mul read1_ro read1_mu
variable {R : Ro}
open PT DT
/-- All that was there is there. -/
def Kp (H G : AH) : Prop := H.length ≤ G.length ∧ ∀ m, m < H.length → G[m]? = H[m]?
theorem Kp.refl (H : AH) : Kp H H := ⟨Nat.le_refl _, fun _ _ => rfl⟩
theorem Kp.trans {H G F : AH} (h : Kp H G) (k : Kp G F) : Kp H F := ⟨by have := h.1; have := k.1; omega, fun m hm => by rw [k.2 m (by have := h.1; omega), h.2 m hm]⟩
theorem Kp.app (H X : AH) : Kp H (H ++ X) := ⟨by simp, fun m hm => List.getElem?_append_left hm⟩
theorem Kp.get {H G : AH} (h : Kp H G) {m : Nat} {o : AO} (hm : H[m]? = some o) : G[m]? = some o := by
  rw [h.2 m (List.getElem?_eq_some_iff.1 hm).1]; exact hm
theorem GRow.kp {ty sz : Nat} {H G : AH} {v : AV} {C : List AV} {n : Nat} (h : GRow ty sz H v G C n) : Kp H G := ⟨h.len, h.old⟩
theorem TreM.kp {H G : AH} {t j : Nat} {cp : Cap} {N : List ND} (h : TreM H t j cp N) (k : Kp H G) : TreM G t j cp N := h.frame (k.2 t h.tlt) (k.2 j h.jlt)
theorem RT.kp {H G : AH} {w : Nat} {D : DT} (h : RT H w D) (k : Kp H G) : RT G w D := h.frame (k.2 w (List.getElem?_eq_some_iff.1 h.hw).1) fun m hm => k.2 m (h.has.lt m hm)
theorem RowA.kp {ty sz : Nat} {G G' : AH} {r : Nat} {v : AV} {C : List AV} {n : Nat} (h : RowA ty sz G r v C n) (k : Kp G G') : RowA ty sz G' r v C n := h.keep (k.2 r h.lt)
theorem RowA.bind {ty sz : Nat} {G : AH} {r : Nat} {v : AV} {C : List AV} {n : Nat} (h : RowA ty sz G r v C n) : (G[r]?).bind AO.content = some C ∧ ∃ cp, v = .slice (.mu r) 0 n cp := by
  obtain ⟨cp, h1, h2⟩ := h.row
  rcases h2 with ⟨_, h⟩ | ⟨_, h⟩ <;> exact ⟨by rw [h]; rfl, cp, h1⟩
theorem paL_len : ∀ L : List PA, (paL L).length = L.length * 3
  | [] => rfl
  | p :: L => by simp [paL, PA.cells, paL_len L]; omega
theorem paL_at : ∀ (L : List PA) (i : Nat) (p : PA), L[i]? = some p → ((paL L).drop (i * 3)).take 3 = p.cells
  | [], i, p, h => by simp at h
  | q :: L, 0, p, h => by simp at h; subst h; simp [paL, PA.cells]
  | q :: L, i + 1, p, h => by
    have := paL_at L i p (by simpa using h)
    have e1 : (i + 1) * 3 = 3 + i * 3 := by omega
    rw [e1, ← List.drop_drop]
    simpa [paL, PA.cells] using this
theorem same_ok {H : AH} {r1 r2 : Nat} {c1 c2 : Cap} {L : List PA} (h1 : (H[r1]?).bind AO.content = some (paL L)) (h2 : (H[r2]?).bind AO.content = some (paL L)) (hl : L.length ≤ 1000) :
    ACalls Try.prog R 34 [.slice (.mu r1) 0 L.length c1, .slice (.mu r2) 0 L.length c2] H fun v G => G = H ∧ v = .bool true := by
  refine ACalls.of_wpE Fns.ok34 (by simp [Fns.a34]) ?_
  simp [Fns.a34]
  have he := fun (p : PA) => eqP p.a p.b p.c p.a p.b p.c
  simp only [fieldsP] at he
  refine AWp.loop (fun e G => G = H ∧ e 0 = .slice (.mu r1) 0 L.length c1 ∧ e 1 = .slice (.mu r2) 0 L.length c2 ∧ ∃ i : Nat, e 5 = .int .i64 i ∧ i ≤ L.length) (fun e _ => match e 5 with | .int _ i => ((L.length : Int) - i).toNat | _ => 0)
    ⟨rfl, by simp, by simp, 0, by simp, by omega⟩ ?_
  rintro e G ⟨rfl, h0, h1', i, h5, hi⟩
  refine wpE_sound _ ?_
  by_cases hlt : i < L.length
  · have hlt' : (i : Int) < (L.length : Int) := by omega
    have hw1 : IntKind.i64.wrap ((i : Int) + 1) = (i : Int) + 1 := by rw [wrap_nat] <;> omega
    obtain ⟨p, hp⟩ : ∃ p, L[i]? = some p := ⟨_, List.getElem?_eq_getElem hlt⟩
    have hrd := paL_at L i p hp
    have hfit : i * 3 + 3 ≤ (paL L).length := by rw [paL_len]; omega
    simp only [PA.cells] at hrd
    simp [h0, h1', h5, hlt, hlt']
    refine AWp.sched [0, 1, 2, 3, 4, 5, 6, 7, 8] Fns.mixed (by decide +kernel) ?_
    simp [-eqEv, h0, h1', h5, hlt, hlt', readN_mu, h1, h2, hfit, hrd, he, hw1]
    exact ⟨⟨i + 1, by simp, by omega⟩, by omega⟩
  · obtain rfl : i = L.length := by omega
    simp [h0, h5]
theorem nodeV_some {N : List ND} {i : Nat} {x : ND} (h : N[i]? = some x) : nodeV N (i : Int) = .tuple [.agg x.cells, .bool true] := by
  unfold nodeV; rw [if_neg (by omega)]; simp [h]
theorem nodeV_none {N : List ND} {i : Nat} (h : N.length ≤ i) : nodeV N (i : Int) = .tuple [.agg zeroN.cells, .bool false] := by
  unfold nodeV; rw [if_neg (by omega)]
  have : N[(i : Int).toNat]? = none := List.getElem?_eq_none (by simpa using h)
  rw [this]
theorem nodeV_neg (N : List ND) : nodeV N (-1) = .tuple [.agg zeroN.cells, .bool false] := by
  unfold nodeV; rw [if_pos (by omega)]
theorem stands_ok {H : AH} {t w : Nat} {P : PT} (h : DD H t w P) : ACalls Try.prog R 20 [.ptr (.mu t) 0, .ptr (.mu w) 0] H fun v _ => v = .bool true := by
  obtain ⟨⟨j, cp, hT⟩, ⟨D, hR, rfl⟩, g⟩ := h
  have hz := g.size
  have hle := g.le
  have hw := hR.hw
  have hps := panes_size D.shape
  have hsp := size_pos D.shape
  have hpos : 0 < (lv (tell 0 D.shape)).length := by rw [lv_len g.sides]; omega
  have hl100 : (lv (tell 0 D.shape)).length ≤ 100 := by rw [lv_len g.sides]; omega
  refine ACalls.of_wpE Fns.ok20 (by simp [Fns.a20]) ?_
  simp [Fns.a20, hw, AO.content]
  refine (rtell_ok (k := 0) g.sides hR.has (by omega)).mono ?_
  intro v1 G1 q1
  obtain ⟨r1, hr1, z1⟩ := q1.rowA
  have k1 := q1.kp
  obtain ⟨b1, c1, rfl⟩ := z1.bind
  have hT1 := hT.kp k1
  have hR1 := hR.kp k1
  simp
  refine AWp.loop (fun e G => Kp G1 G ∧ e 0 = .ptr (.mu t) 0 ∧ e 1 = .ptr (.mu w) 0 ∧ e 5 = .slice (.mu r1) 0 D.shape.size c1 ∧ ∃ i : Nat, e 6 = .int .i64 i ∧ i ≤ D.shape.size) (fun e _ => match e 6 with | .int _ i => ((D.shape.size : Int) - i).toNat | _ => 0)
    ⟨Kp.refl _, by simp, by simp, by simp, 0, by simp, by omega⟩ ?_
  rintro e G ⟨kG, h0, h1, h5, i, h6, hi⟩
  refine wpE_sound _ ?_
  have hTG := hT1.kp kG
  have hRG := hR1.kp kG
  have hnd := fun (i : Int) => node_ok (R := R) hTG.tre i
  have heN := eqN
  simp only [fieldsN] at heN
  have bG : (G[r1]?).bind AO.content = some (ndV (tell 0 D.shape)) := by rw [kG.2 r1 z1.lt]; exact b1
  by_cases hlt : i < D.shape.size
  · have hlt' : (i : Int) < (D.shape.size : Int) := by omega
    have hw1 : IntKind.i64.wrap ((i : Int) + 1) = (i : Int) + 1 := by rw [wrap_nat] <;> omega
    obtain ⟨x, hx⟩ : ∃ x, (tell 0 D.shape)[i]? = some x := ⟨_, List.getElem?_eq_getElem (by rw [tell_len]; exact hlt)⟩
    have hrd := ndV_at _ i x hx
    have hfit : i * 7 + 7 ≤ (ndV (tell 0 D.shape)).length := by rw [ndV_len, tell_len]; omega
    have hni := hnd i
    rw [nodeV_some hx] at hni
    simp only [ND.cells] at hni hrd heN
    simp [h0, h1, h5, h6, hlt, hlt']
    refine hni.mono ?_
    rintro v G' ⟨rfl, rfl⟩
    have bX : ∀ X : AH, ((G' ++ X)[r1]?).bind AO.content = some (ndV (tell 0 D.shape)) := fun X => by rw [List.getElem?_append_left (by have := z1.lt; have := kG.1; omega)]; exact bG
    simp [AO.content, AO.withContent, writeN, splice]
    refine AWp.sched [0, 1, 2, 3, 4, 5, 6, 7, 8, 9] Fns.mixed (by decide +kernel) ?_
    simp [-eqEv, h0, h1, h5, h6, hlt, hlt', readN_mu, AO.content, bX, hfit, hrd, heN, hw1]
    exact ⟨⟨kG.trans (Kp.app _ _), i + 1, by simp, by omega⟩, by omega⟩
  · obtain rfl : i = D.shape.size := by omega
    have hn2 := hnd D.shape.size
    rw [nodeV_none (by rw [tell_len]; exact Nat.le_refl _)] at hn2
    simp only [ND.cells, zeroN] at hn2
    simp [h0, h1, h5, h6]
    refine hn2.mono ?_
    rintro v G' ⟨rfl, rfl⟩
    simp [h0, h1, AO.content, AO.withContent, writeN, splice]
    obtain ⟨F, hF⟩ : ∃ F, F = G' ++ [AO.cells [AV.int .i64 0, .int .i64 0, .int .i64 0, .int .i64 0, .int .i64 0, .int .i64 0, .int .i64 0] 54] := ⟨_, rfl⟩
    have c9 : F[G'.length]? = some (.cells [AV.int .i64 0, .int .i64 0, .int .i64 0, .int .i64 0, .int .i64 0, .int .i64 0, .int .i64 0] 54) := by rw [hF]; simp
    have kF : Kp G' F := by rw [hF]; exact Kp.app _ _
    have hTF := hTG.kp kF
    have hRF := hRG.kp kF
    rw [← hF]
    have hn3 := node_ok (R := R) hTF.tre (-1)
    rw [nodeV_neg] at hn3
    simp only [ND.cells, zeroN] at hn3
    refine hn3.mono ?_
    rintro v F' ⟨rfl, rfl⟩
    have hwF := hRF.hw
    have fw : ∀ X : AH, (F' ++ X)[w]? = _ := fun X => get_app hwF
    simp [h0, h1, AO.content, AO.withContent, writeN, splice, fw]
    obtain ⟨E, hE⟩ : ∃ E, E = F' ++ [AO.cells [AV.int .i64 0, .int .i64 0, .int .i64 0, .int .i64 0, .int .i64 0, .int .i64 0, .int .i64 0] 54] := ⟨_, rfl⟩
    have kE : Kp F' E := by rw [hE]; exact Kp.app _ _
    have hTE := hTF.kp kE
    have hRE := hRF.kp kE
    rw [← hE]
    refine (rpanes_ok g.sides hRE.has (by omega)).mono ?_
    intro v2 E2 q2
    obtain ⟨r2, hr2, z2⟩ := q2.rowA
    obtain ⟨b2, c2, rfl⟩ := z2.bind
    have hTE2 := hTE.kp q2.kp
    have c9' : E2[G'.length]? = _ := q2.kp.get (kE.get c9)
    have hz0 := heN zeroN zeroN
    simp only [ND.cells, zeroN] at hz0
    simp [-eqEv, h0, h1, AO.content, readN_mu, c9', fillA, hz0]
    refine (plen hTE2 g).mono ?_
    rintro v E3 ⟨rfl, rfl⟩
    simp [-eqEv, h0, h1]
    have hlp := lpanes_ok (R := R) hTE2.tre hpos hl100
    rw [lv_len g.sides, paV_paL, lv_tell g.sides] at hlp
    refine hlp.mono ?_
    rintro v E4 ⟨rfl, rfl⟩
    simp [-eqEv, h0, h1]
    refine (same_ok (L := D.shape.panes) (by simp [AO.content]) (by rw [List.getElem?_append_left z2.lt]; exact b2) (by omega)).mono ?_
    rintro v E5 ⟨rfl, rfl⟩
    simp
end Go.Proofs.Ytffmpomidfickaa.Tr
