/- A tree's panes gathered: by the library, by the law; the next one. -/
import Derived.Test.YtffmpomidfickaaTrPanes
import Derived.Test.YtffmpomidfickaaTrNil
namespace Go.Proofs.Ytffmpomidfickaa.Tr
open Go Go.RowKit Am
set_option maxRecDepth 100000
set_option maxHeartbeats 1000000
set_option linter.unusedSimpArgs false
set_option linter.unusedVariables false
attribute [-simp] Am.binEv Am.intBin Am.read1
attribute [local simp] binEv_lss binEv_leq binEv_gtr binEv_geq binEv_eql binEv_neq binEv_add binEv_sub binEv_mul read1_ro read1_mu
variable {R : Ro}
theorem collect_ok {H : AH} {t j n q : Nat} {cp : Cap} {C : List AV} {N : List ND} (h : Tre H t j n cp C N) (hq : H[q]? = some (.cells [.ptr (.mu t) 0] 22)) (hpos : 0 < (lv N).length) :
    ACalls Try.prog R 41 [.fn (.func 43) [] [.ptr (.mu q) 0]] H fun v G => v = .slice (.mu H.length) 0 (lv N).length (.opn 0) ∧ G = H ++ [.row (paV (lv N)) 25 3] := by
  refine ACalls.of_wpE Fns.ok41 (by simp [Fns.a41]) ?_
  simp [Fns.a41]
  refine (aseq_ok h hq hpos).mono ?_
  rintro v G ⟨rfl, rfl⟩
  simp
/-- The iterator over no tree. -/
theorem iter_nil {H : AH} {l q : Nat} (hq : H[q]? = some (.cells [.nilptr] 22)) :
    ACalls Try.prog R 43 [.raw (.func (.yield l) #[] #[]), .ptr (.mu q) 0] H fun v G => G = H := by
  refine ACalls.of_wpR Fns.ok43 (by simp [Fns.a43]) ?_
  simp [Fns.a43, hq]
  refine (nodes_nil _).mono ?_
  rintro v H ⟨rfl, rfl⟩
  simp
  have hc : ACalls Try.prog R 44 [.nilslice] H fun v G => v = .nilslice ∧ G = H := by
    refine ACalls.of_wpE Fns.ok44 (by simp [Fns.a44]) ?_
    simp [Fns.a44, eqEv]
  refine hc.mono ?_
  rintro v H ⟨rfl, rfl⟩
  simp
  refine AWpR.loop (fun ms e G => ms = [] ∧ G = H ∧ e 8 = .int .i64 0 ∧ e 9 = .int .i64 0) (fun e _ => 0) ⟨rfl, rfl, by simp, by simp⟩ ?_
  rintro ms e G ⟨rfl, rfl, h8, h9⟩
  refine wpR_sound _ ?_
  simp [h8, h9]
  exact rfl
theorem set_app2 {H : AH} {a b c : AO} : (H ++ [a, b]).set (H.length + 1) c = H ++ [a, c] := by
  rw [List.set_append, if_neg (by omega)]; simp
theorem collect_nil {H : AH} {q : Nat} (hq : H[q]? = some (.cells [.nilptr] 22)) :
    ACalls Try.prog R 41 [.fn (.func 43) [] [.ptr (.mu q) 0]] H fun v G => G = H ∧ v = .nilslice := by
  refine ACalls.gc ?_
  refine ACalls.of_wpE Fns.ok41 (by simp [Fns.a41]) ?_
  simp [Fns.a41]
  have hs : ACalls Try.prog R 53 [.nilslice, .fn (.func 43) [] [.ptr (.mu q) 0]] H fun v G => G = H ∧ v = .nilslice := by
    refine ACalls.gc ?_
    refine ACalls.of_wpR Fns.ok53 (by simp [Fns.a53]) ?_
    simp [Fns.a53]
    obtain ⟨H1, hH1⟩ : ∃ H1, H1 = H ++ [AO.cells [AV.nilslice] 42] := ⟨_, rfl⟩
    have hv0 : H1[H.length]? = some (.cells [.nilslice] 42) := by rw [hH1]; simp
    have hq1 : H1[q]? = some (.cells [.nilptr] 22) := by rw [hH1]; exact get_app hq
    rw [← hH1]
    refine AWpR.rangeF (gf := 43) (cap := [.ptr (.mu q) 0]) (by simp) rfl ?_
    intro rb OL hY
    refine (iter_nil (get_app hq1)).mono ?_
    rintro v G rfl
    refine .inl ⟨by simp, ?_⟩
    have hv1 := get_app (X := [.obj rb (.deferred (some [])) [] [], .dead]) hv0
    rw [set_app2]
    simp [ren, AO.content, hv1]
    exact ⟨_, by rw [hH1, List.append_assoc]⟩
  refine hs.mono ?_
  rintro v G ⟨rfl, rfl⟩
  simp [ren]
theorem len_nil (H : AH) : ACalls Try.prog R 15 [.nilptr] H fun v G => G = H ∧ v = .int .i64 0 := by
  refine ACalls.gc ?_
  refine ACalls.of_wpR Fns.ok15 (by simp [Fns.a15]) ?_
  simp [Fns.a15, AO.withContent, writeN, splice, AO.content]
  refine (panes_ok _ _ rfl rfl).mono ?_
  rintro v H1 ⟨rfl, rfl⟩
  simp
  obtain ⟨H1, hH1⟩ : ∃ H1, H1 = H ++ [AO.cells [AV.int .i64 0] 3, AO.cells [AV.nilptr] 22] := ⟨_, rfl⟩
  have hv0 : H1[H.length]? = some (.cells [.int .i64 0] 3) := by rw [hH1]; simp
  have hq1 : H1[H.length + 1]? = some (.cells [.nilptr] 22) := by rw [hH1]; simp
  rw [← hH1]
  refine AWpR.rangeF (gf := 43) (cap := [.ptr (.mu (H.length + 1)) 0]) (by simp) rfl ?_
  intro rb OL hY
  refine (iter_nil (get_app hq1)).mono ?_
  rintro v G rfl
  refine .inl ⟨by simp, ?_⟩
  have hv1 := get_app (X := [.obj rb (.deferred (some [])) [] [], .dead]) hv0
  rw [set_app2]
  simp [ren, AO.content, hv1]
  exact ⟨_, by rw [hH1, List.append_assoc]⟩
def pidx (p : PA) (L : List ND) : Int := if L.findIdx (fun x => decide (p = x.pa)) < L.length then (L.findIdx (fun x => decide (p = x.pa)) : Int) else -1
theorem paV_at : ∀ (l : List ND) (i : Nat) (x : ND), l[i]? = some x → ((paV l).drop (i * 3)).take 3 = x.pane
  | [], i, x, h => by simp at h
  | y :: l, 0, x, h => by simp at h; subst h; simp [paV, ND.pane]
  | y :: l, i + 1, x, h => by
    have := paV_at l i x (by simpa using h)
    have e1 : (i + 1) * 3 = 3 + i * 3 := by omega
    rw [e1, ← List.drop_drop]
    simpa [paV, ND.pane] using this
theorem index_ok {H : AH} {r : Nat} {L : List ND} (hr : H[r]? = some (.row (paV L) 25 3)) (hb : L.length ≤ 1000) (p : PA) :
    ACalls Try.prog R 42 [.slice (.mu r) 0 L.length (.opn 0), p.av] H fun v G => G = H ∧ v = .int .i64 (pidx p L) := by
  refine ACalls.gc ?_
  refine ACalls.of_wpE Fns.ok42 (by simp [Fns.a42]) ?_
  simp [Fns.a42, PA.av, PA.cells]
  obtain ⟨H1, hH1⟩ : ∃ H1, H1 = H ++ [AO.cells [AV.int .i64 p.a, .int .i64 p.b, .int .i64 p.c] 25] := ⟨_, rfl⟩
  have hv0 : H1[H.length]? = some (.cells [AV.int .i64 p.a, .int .i64 p.b, .int .i64 p.c] 25) := by rw [hH1]; simp
  have hr1 : H1[r]? = some (.row (paV L) 25 3) := by rw [hH1]; exact get_app hr
  rw [← hH1]
  have he := fun a b c => eqP p.a p.b p.c a b c
  simp only [fieldsP] at he
  refine AWp.loop (fun e G => G = H1 ∧ e 0 = .slice (.mu r) 0 L.length (.opn 0) ∧ e 3 = .ptr (.mu H.length) 0 ∧ e 7 = .int .i64 L.length ∧ ∃ i : Nat, e 8 = .int .i64 i ∧ i ≤ L.length ∧ ∀ x ∈ L.take i, decide (p = x.pa) = false) (fun e _ => match e 8 with | .int _ i => ((L.length : Int) - i).toNat | _ => 0)
    ⟨rfl, by simp, by simp, by simp, 0, by simp, by omega, by simp⟩ ?_
  rintro e G ⟨rfl, h0, h3, h7, i, h8, hi, hpre⟩
  refine wpE_sound _ ?_
  by_cases hlt : i < L.length
  · have hlt' : (i : Int) < (L.length : Int) := by omega
    have hw1 : IntKind.i64.wrap ((i : Int) + 1) = (i : Int) + 1 := by rw [wrap_nat] <;> omega
    obtain ⟨x, hx⟩ : ∃ x, L[i]? = some x := ⟨_, List.getElem?_eq_getElem hlt⟩
    have hrd := paV_at L i _ hx
    have hfit : i * 3 + 3 ≤ (paV L).length := by rw [paV_len]; omega
    simp only [ND.pane] at hrd
    simp [h0, h3, h7, h8, hlt, hlt']
    refine AWp.sched [0, 1, 2, 3, 4, 5] Fns.mixed (by decide +kernel) ?_
    simp [-eqEv, h0, h3, h7, h8, hlt, hlt', hr1, hfit, hrd, hv0, readN, AO.content, he]
    have hd : (decide (p.a = x.a) && (decide (p.b = x.b) && decide (p.c = x.c))) = decide (p = x.pa) := by
      rw [Bool.eq_iff_iff]; simp [PA.eq, ND.pa]
    rw [hd]
    cases hp : decide (p = x.pa) with
    | true =>
      simp [ren]
      refine ⟨⟨_, hH1⟩, ?_⟩
      have hfi : L.findIdx (fun x => decide (p = x.pa)) = i := by
        rw [List.findIdx_eq hlt]
        have hxe : L[i] = x := by rw [List.getElem?_eq_getElem hlt] at hx; exact Option.some.inj hx
        refine ⟨by rw [hxe]; exact hp, fun k hk => ?_⟩
        exact hpre _ (List.mem_take_iff_getElem.2 ⟨k, by omega, rfl⟩)
      unfold pidx
      rw [hfi, if_pos hlt]
    | false =>
      simp [h0, h3, h7, h8, hw1]
      refine ⟨⟨i + 1, by simp, by omega, ?_⟩, by omega⟩
      rw [take_succ hx]
      intro y hy
      rw [List.mem_append] at hy
      rcases hy with hy | hy
      · exact of_decide_eq_false (hpre y hy)
      · simp at hy; rw [hy]; exact of_decide_eq_false hp
  · obtain rfl : i = L.length := by omega
    rw [List.take_length] at hpre
    simp [h7, h8, ren]
    refine ⟨⟨_, hH1⟩, ?_⟩
    unfold pidx
    rw [if_neg]
    rw [List.findIdx_lt_length]
    rintro ⟨x, hx, hfx⟩
    rw [hpre x hx] at hfx; cases hfx
theorem pidx_some {p : PA} {L : List ND} {i : Nat} (h : pidx p L = (i : Int)) : ∃ x, L[i]? = some x ∧ x.pa = p := by
  unfold pidx at h
  split at h
  · rename_i hlt
    have hi : L.findIdx (fun x => decide (p = x.pa)) = i := by omega
    have := List.findIdx_getElem (w := hlt)
    simp only [decide_eq_true_eq] at this
    subst hi
    exact ⟨_, List.getElem?_eq_getElem hlt, this.symm⟩
  · omega
theorem pidx_cases (p : PA) (L : List ND) : pidx p L = -1 ∨ ∃ i : Nat, i < L.length ∧ pidx p L = (i : Int) := by
  unfold pidx
  split
  · rename_i h; exact .inr ⟨_, h, rfl⟩
  · exact .inl rfl
/-- Where the pane some places behind stands. -/
def nextI (i : Nat) (n : Nat) (d : Int) : Nat := (((i : Int) + d.tmod n + n).tmod n).toNat
theorem nextI_lt {i n : Nat} (h : i < n) (d : Int) : nextI i n d < n ∧ ((i : Int) + d.tmod n + n).tmod n = (nextI i n d : Int) ∧ 0 ≤ (i : Int) + d.tmod n + n ∧ (i : Int) + d.tmod n + n < 3 * n ∧ -(n : Int) < d.tmod n ∧ d.tmod n < n := by
  have h1 : d.tmod n < n := Int.tmod_lt_of_pos d (by omega)
  have h2 : -(n : Int) < d.tmod n := by
    have := Int.lt_tmod_of_pos d (b := (n : Int)) (by omega)
    omega
  have h3 : 0 ≤ (i : Int) + d.tmod n + n := by omega
  have h4 : ((i : Int) + d.tmod n + n).tmod n < n := Int.tmod_lt_of_pos _ (by omega)
  have h5 : 0 ≤ ((i : Int) + d.tmod n + n).tmod n := Int.tmod_nonneg _ h3
  unfold nextI
  refine ⟨by omega, by omega, h3, by omega, h2, h1⟩
theorem binEv_rem0 {a b : Int} (hb : ¬ b = 0) : binEv .rem (.int .i64 a) (.int .i64 b) = some (.int .i64 (a.tmod b)) := by simp [binEv, intBin, hb]
def nextV (p : PA) (d : Int) (L : List ND) : AV := match pidx p L with
  | .ofNat i => match L[nextI i L.length d]? with
    | some x => .tuple [.agg x.pane, .bool true]
    | none => .tuple [.agg [.int .i64 0, .int .i64 0, .int .i64 0], .bool false]
  | .negSucc _ => .tuple [.agg [.int .i64 0, .int .i64 0, .int .i64 0], .bool false]
theorem next_ok {H : AH} {t j n : Nat} {cp : Cap} {C : List AV} {N : List ND} (h : Tre H t j n cp C N) (hpos : 0 < (lv N).length) (p : PA) (d : Int) :
    ACalls Try.prog R 22 [.ptr (.mu t) 0, p.av, .int .i64 d] H fun v G => G = H ∧ v = nextV p d (lv N) := by
  refine ACalls.gc ?_
  refine ACalls.of_wpE Fns.ok22 (by simp [Fns.a22]) ?_
  have hlen := h.lvle
  simp [Fns.a22, PA.av, PA.cells]
  obtain ⟨H1, hH1⟩ : ∃ H1, H1 = H ++ [AO.cells [AV.int .i64 p.a, .int .i64 p.b, .int .i64 p.c] 25, .cells [.int .i64 0, .int .i64 0, .int .i64 0] 25] := ⟨_, rfl⟩
  have hv0 : H1[H.length]? = some (.cells [AV.int .i64 p.a, .int .i64 p.b, .int .i64 p.c] 25) := by rw [hH1]; simp
  have hv1 : H1[H.length + 1]? = some (.cells [.int .i64 0, .int .i64 0, .int .i64 0] 25) := by rw [hH1]; simp
  have hT : Tre H1 t j n cp C N := by rw [hH1]; exact h.app _
  have hl1 : H1.length = H.length + 2 := by rw [hH1]; simp
  rw [← hH1]
  refine (panes_ok _ _ rfl rfl).mono ?_
  rintro v G ⟨rfl, rfl⟩
  simp
  refine (collect_ok (hT.app _) (by simp) hpos).mono ?_
  rintro v G ⟨rfl, rfl⟩
  have hv2 : ∀ X : AH, (H1 ++ X)[H.length]? = _ := fun X => get_app hv0
  have hv3 : ∀ X : AH, (H1 ++ X)[H.length + 1]? = _ := fun X => get_app hv1
  simp [AO.content, readN, hv2]
  have hi := index_ok (R := R) (H := H1 ++ [.cells [.ptr (.mu t) 0] 22, .row (paV (lv N)) 25 3]) (r := H1.length + 1) (L := lv N) (by simp) hlen p
  simp only [PA.av, PA.cells] at hi
  refine hi.mono ?_
  rintro v G ⟨rfl, rfl⟩
  have hrow : (H1 ++ [AO.cells [.ptr (.mu t) 0] 22, .row (paV (lv N)) 25 3])[H1.length + 1]? = some (.row (paV (lv N)) 25 3) := by simp
  have hcell : (H1 ++ [AO.cells [.ptr (.mu t) 0] 22, .row (paV (lv N)) 25 3])[H.length + 1]? = _ := hv3 _
  have hpre : H1 ++ [AO.cells [.ptr (.mu t) 0] 22, .row (paV (lv N)) 25 3] = H ++ ([AO.cells [AV.int .i64 p.a, .int .i64 p.b, .int .i64 p.c] 25, .cells [.int .i64 0, .int .i64 0, .int .i64 0] 25] ++ [AO.cells [.ptr (.mu t) 0] 22, .row (paV (lv N)) 25 3]) := by rw [hH1, List.append_assoc]
  generalize H1 ++ [AO.cells [.ptr (.mu t) 0] 22, .row (paV (lv N)) 25 3] = G at hrow hcell hpre
  have hset : ∀ o, ∃ X, G.set (H.length + 1) o = H ++ X := fun o => by rw [hpre, List.set_append, if_neg (by omega)]; exact ⟨_, rfl⟩
  have hself : ∀ o, (G.set (H.length + 1) o)[H.length + 1]? = some o := fun o => List.getElem?_set_self (List.getElem?_eq_some_iff.1 hcell).1
  rcases pidx_cases p (lv N) with e | ⟨i, hil, e⟩
  · have hnv : nextV p d (lv N) = .tuple [.agg [.int .i64 0, .int .i64 0, .int .i64 0], .bool false] := by unfold nextV; rw [e]; rfl
    simp [e, hnv, hcell, hself, AO.content, AO.withContent, writeN, splice, readN, fillA, ren, renL, hset]
  · obtain ⟨q1, q2, q3, q4, q5, q6⟩ := nextI_lt hil d
    obtain ⟨x, hx⟩ : ∃ x, (lv N)[nextI i (lv N).length d]? = some x := ⟨_, List.getElem?_eq_getElem q1⟩
    have hnv : nextV p d (lv N) = .tuple [.agg x.pane, .bool true] := by unfold nextV; rw [e]; simp [hx]
    have hrd := paV_at _ _ _ hx
    have hfit : nextI i (lv N).length d * 3 + 3 ≤ (paV (lv N)).length := by rw [paV_len]; omega
    have hw1 : IntKind.i64.wrap ((i : Int) + d.tmod (lv N).length) = (i : Int) + d.tmod (lv N).length := by
      simp only [IntKind.wrap, IntKind.bits, IntKind.signed]; simp; omega
    have hw2 : IntKind.i64.wrap ((i : Int) + d.tmod (lv N).length + (lv N).length) = (i : Int) + d.tmod (lv N).length + (lv N).length := by
      simp only [IntKind.wrap, IntKind.bits, IntKind.signed]; simp; omega
    have hnz : ¬ ((lv N).length : Int) = 0 := by omega
    have hi0 : ¬ (i : Int) < 0 := by omega
    simp only [ND.pane] at hrd hnv
    generalize nextI i (lv N).length d = y at *
    simp [e, hi0, binEv_rem0 hnz, hw1, hw2, q2, q1, hrow, hfit, hrd, hnv, hcell, hself, AO.content, AO.withContent, writeN, splice, readN, fillA, ren, renL, hset]
theorem next_nil (H : AH) (p : PA) (d : Int) : ACalls Try.prog R 22 [.nilptr, p.av, .int .i64 d] H fun v G => G = H ∧ v = .tuple [.agg [.int .i64 0, .int .i64 0, .int .i64 0], .bool false] := by
  refine ACalls.gc ?_
  refine ACalls.of_wpE Fns.ok22 (by simp [Fns.a22]) ?_
  simp [Fns.a22, PA.av, PA.cells]
  obtain ⟨H1, hH1⟩ : ∃ H1, H1 = H ++ [AO.cells [AV.int .i64 p.a, .int .i64 p.b, .int .i64 p.c] 25, .cells [.int .i64 0, .int .i64 0, .int .i64 0] 25] := ⟨_, rfl⟩
  have hv0 : H1[H.length]? = some (.cells [AV.int .i64 p.a, .int .i64 p.b, .int .i64 p.c] 25) := by rw [hH1]; simp
  have hv1 : H1[H.length + 1]? = some (.cells [.int .i64 0, .int .i64 0, .int .i64 0] 25) := by rw [hH1]; simp
  have hl1 : H1.length = H.length + 2 := by rw [hH1]; simp
  rw [← hH1]
  refine (panes_ok _ _ rfl rfl).mono ?_
  rintro v G ⟨rfl, rfl⟩
  simp
  refine (collect_nil (by simp)).mono ?_
  rintro v G ⟨rfl, rfl⟩
  have hv2 : ∀ X : AH, (H1 ++ X)[H.length]? = _ := fun X => get_app hv0
  have hv3 : ∀ X : AH, (H1 ++ X)[H.length + 1]? = _ := fun X => get_app hv1
  simp [AO.content, readN, hv2]
  have hi : ACalls Try.prog R 42 [.nilslice, p.av] (H1 ++ [.cells [.nilptr] 22]) fun v G => G = H1 ++ [.cells [.nilptr] 22] ∧ v = .int .i64 (-1) := by
    refine ACalls.gc ?_
    refine ACalls.of_wpE Fns.ok42 (by simp [Fns.a42]) ?_
    simp [Fns.a42, PA.av, PA.cells]
    refine AWp.loop (fun e G => (∃ X, G = H1 ++ X) ∧ (∃ X, G = (H1 ++ [.cells [.nilptr] 22]) ++ X) ∧ e 7 = .int .i64 0 ∧ e 8 = .int .i64 0) (fun e _ => 0) ⟨⟨_, rfl⟩, ⟨[AO.cells [AV.int .i64 p.a, .int .i64 p.b, .int .i64 p.c] 25], by simp⟩, by simp, by simp⟩ ?_
    rintro e G ⟨⟨X, rfl⟩, hX, h7, h8⟩
    refine wpE_sound _ ?_
    simp [h7, h8, ren]
    obtain ⟨Y, hY⟩ := hX
    exact ⟨Y, by simpa using hY⟩
  simp only [PA.av, PA.cells] at hi
  refine hi.mono ?_
  rintro v G ⟨rfl, rfl⟩
  have hcell : (H1 ++ [AO.cells [.nilptr] 22])[H.length + 1]? = _ := hv3 _
  have hpre : H1 ++ [AO.cells [.nilptr] 22] = H ++ ([AO.cells [AV.int .i64 p.a, .int .i64 p.b, .int .i64 p.c] 25, .cells [.int .i64 0, .int .i64 0, .int .i64 0] 25] ++ [AO.cells [.nilptr] 22]) := by rw [hH1, List.append_assoc]
  generalize H1 ++ [AO.cells [.nilptr] 22] = G at hcell hpre
  have hself : ∀ o, (G.set (H.length + 1) o)[H.length + 1]? = some o := fun o => List.getElem?_set_self (List.getElem?_eq_some_iff.1 hcell).1
  have hset : ∀ o, ∃ X, G.set (H.length + 1) o = H ++ X := fun o => by rw [hpre, List.set_append, if_neg (by omega)]; exact ⟨_, rfl⟩
  simp [hcell, hself, AO.content, AO.withContent, writeN, splice, readN, fillA, ren, renL, hset]
end Go.Proofs.Ytffmpomidfickaa.Tr
