/- One entry put in. -/
import Derived.Test.YtkcddlpmekejkaaDoorAuHeap
namespace Go.Proofs.YtkcddlpmekejkaaDoor.Au
open Go Go.RowKit Am Latt
set_option maxRecDepth 100000
set_option linter.unusedSimpArgs false
set_option linter.unusedVariables false
attribute [-simp] Am.binEv Am.intBin Am.read1
attribute [local simp] binEv_lss binEv_leq binEv_gtr binEv_geq binEv_eql binEv_neq binEv_add binEv_sub binEv_mul binEv_shr58 read1_ro read1_mu
variable {R : Ro}
variable {H : AH} {g l k n : Nat} {rv : AV} {E : List Ent} {up dn : List Nat}
theorem labels_at (h : GAt H g l k rv n E) (hL : LatAt R H l up dn) {s : Nat} {L : List Int} (hs : H[s]? = some (.cells (L.map fun a => .int .i64 a) 3)) (hl : L.length ≤ 1000) :
    ACalls Tryd.prog R 30 [.ptr (.mu g) 0, .slice (.mu s) 0 L.length (.known L.length)] H fun v H' => v = .bool (L.all fun a => bel up a a) ∧ H' = H := by
  have hb := h.box
  refine ACalls.of_wpE Fns.ok30 (by simp [Fns.a30]) ?_
  simp [Fns.a30]
  refine AWp.loop (fun e H1 => H1 = H ∧ e 0 = .ptr (.mu g) 0 ∧ e 7 = .slice (.mu s) 0 L.length (.known L.length) ∧ e 8 = .int .i64 L.length ∧ ∃ j : Nat, e 9 = .int .i64 j ∧ j ≤ L.length ∧ (L.take j).all (fun a => bel up a a) = true)
    (fun e _ => match e 9 with | .int _ i => ((L.length : Int) - i).toNat | _ => 0) ⟨rfl, rfl, rfl, rfl, 0, rfl, by omega, rfl⟩ ?_
  rintro e H1 ⟨rfl, h0, h7, h8, j, h9, hj, hall⟩
  refine wpE_sound _ ?_
  by_cases hjl : j < L.length
  · have hjl' : (j : Int) < (L.length : Int) := by omega
    have hw1 := i64_small ((j : Int) + 1) (by omega) (by omega)
    have hg : (L.map fun a => AV.int .i64 a)[j]? = some (.int .i64 L[j]) := by simp [hjl]
    have hsu : (L.take (j + 1)).all (fun a => bel up a a) = ((L.take j).all (fun a => bel up a a) && bel up L[j] L[j]) := by
      rw [List.take_add_one, List.getElem?_eq_getElem hjl, List.all_append]; simp
    simp [h0, h7, h8, h9, hjl, hjl', hs, hg, hb]
    refine (below_ok hL _ _).mono ?_
    rintro v H2 ⟨rfl, rfl⟩
    cases hbb : bel up L[j] L[j] with
    | true =>
      simp [h0, h7, h8, h9, hw1]
      exact ⟨⟨j + 1, by simp, by omega, by have h5 := hsu; rw [hall, hbb] at h5; simpa using h5⟩, by omega⟩
    | false =>
      simp [h0, h7, h8, h9]
      exact ⟨L[j], List.getElem_mem hjl, hbb⟩
  · obtain rfl : j = L.length := by omega
    rw [List.take_length] at hall
    simp [h0, h7, h8, h9]
    simpa using hall
def putF (up : List Nat) (n : Nat) (E : List Ent) (x : Ent) : Int :=
  if (bel up x.1 x.1 && (bel up x.2.1 x.2.1 && bel up x.2.2.1 x.2.2.1)) = true then
    if bel up x.2.1 x.1 = true then if bel up x.2.2.1 x.1 = true then if bel up x.2.1 x.2.2.1 = true then 7 else
      if 4096 < x.2.2.2.length then 3 else if roomF n E x.1 = 0 then 6 else 0 else 7 else 7
  else 1
theorem writeN_cells' {H : AH} {p : Nat} {c : List AV} {t : TypeId} (h : H[p]? = some (.cells c t)) {i : Nat} (hi : i < c.length) (v : AV) (hv : v.oneCell = true) : writeN H p i [v] = some (H.set p (.cells (c.set i v) t)) := by
  unfold writeN
  rw [h]
  have hsp : splice c i [v] = c.set i v := by
    unfold splice
    rw [List.set_eq_take_append_cons_drop, if_pos hi]
    simp
  simp only [AO.content, AO.withContent, hsp]
  have hi' : i + 1 ≤ c.length := hi
  simp [-Am.AV.oneCell, hv, hi']
theorem cntsV_put (E : List Ent) (x : Ent) {n a : Nat} (hx : x.1 = a) (ha : a < n) : (cntsV E n).set a (.int .i64 ((cntE E a : Int) + 1)) = cntsV (E ++ [x]) n := by
  apply List.ext_getElem?
  intro i
  rw [List.getElem?_set]
  have hl : ∀ E : List Ent, (cntsV E n).length = n := fun E => by simp [cntsV]
  by_cases hi : a = i
  · subst hi
    rw [if_pos rfl, if_pos (by rw [hl]; exact ha), cntsV_get _ ha, cntE_app, if_pos hx]
    simp
  · rw [if_neg hi]
    by_cases hin : i < n
    · rw [cntsV_get _ hin, cntsV_get _ hin, cntE_app, if_neg (by rw [hx]; omega)]
      simp
    · rw [List.getElem?_eq_none (by rw [hl]; omega), List.getElem?_eq_none (by rw [hl]; omega)]
set_option maxHeartbeats 4000000 in
theorem put_at (h : GAt H g l k rv n E) (hL : LatAt R H l up dn) (hn : up.length = n) (hE : E.length ≤ 1000) (hgk : g ≠ k) (x : Ent) :
    ACalls Tryd.prog R 12 [.ptr (.mu g) 0, .agg (cellsE x)] H fun v H' => v = .int .i64 (putF up n E x) ∧ ((putF up n E x ≠ 0 ∧ Keeps H H') ∨ (putF up n E x = 0 ∧ ∃ rv', GAt H' g l k rv' n (E ++ [x]) ∧ H.length ≤ H'.length ∧
      (∀ i, Own g k rv' i → Own g k rv i ∨ H.length ≤ i) ∧ ∀ i, i < H.length → ¬ Own g k rv i → H'[i]? = H[i]?)) := by
  have hb := h.box
  obtain ⟨by', fr, to, t⟩ := x
  have hgl := h.lt (.inl rfl)
  have hkl := h.lt (.inr (.inl rfl))
  obtain ⟨H2, hH2⟩ : ∃ X, X = H ++ [AO.cells (cellsE (by', fr, to, t)) 40, AO.cells [.int .i64 by', .int .i64 fr, .int .i64 to] 3] := ⟨_, rfl⟩
  have hk2 : Keeps H H2 := by rw [hH2]; exact Keeps.app _ _
  have h2 := h.keeps hk2
  have hL2 : LatAt R H2 l up dn := latK hL hk2
  have hb1 : (H ++ [AO.cells (cellsE (by', fr, to, t)) 40])[g]? = some (.cells [.ptr (.mu l) 0, rv, .slice (.mu k) 0 n (.known n)] 53) := by rw [List.getElem?_append_left hgl]; exact hb
  have hb2 := h2.box
  have hc2 := h2.cnt
  have hx2 : H2[H.length]? = some (.cells (cellsE (by', fr, to, t)) 40) := by rw [hH2]; simp
  have hs2 : H2[H.length + 1]? = some (.cells ([by', fr, to].map fun a => .int .i64 a) 3) := by rw [hH2]; simp
  have hlen2 : H2.length = H.length + 2 := by rw [hH2]; simp
  have hlab := labels_at (R := R) h2 hL2 (L := [by', fr, to]) hs2 (by simp)
  simp only [List.length_cons, List.length_nil, Nat.zero_add, Nat.reduceAdd] at hlab
  refine ACalls.of_wpE Fns.ok12 (by simp [Fns.a12]) ?_
  simp only [cellsE] at hb1 hH2 hx2 ⊢
  simp [Fns.a12, eqEv, hb1, fillA, splice, zerosEv, AV.oneCell]
  rw [← hH2]
  refine hlab.mono ?_
  rintro v H3 ⟨rfl, rfl⟩
  cases hok : ([by', fr, to].all fun a => bel up a a) with
  | false =>
    have hp : putF up n E (by', fr, to, t) = 1 := by
      unfold putF
      simp only [List.all_cons, List.all_nil, Bool.and_true] at hok
      rw [if_neg (by rw [hok]; simp)]
    simp [hp]
    exact hk2
  | true =>
    simp only [List.all_cons, List.all_nil, Bool.and_true] at hok
    have hisl : isL n by' = true := by
      unfold bel at hok
      rw [hn] at hok
      simp only [Bool.and_eq_true] at hok
      exact hok.1.1
    simp
    refine AWp.sched [0, 1, 2, 3, 4, 5, 6, 7, 8, 9, 10, 11, 12, 13, 14, 15, 16, 17, 18, 19, 20, 21, 22, 23, 24, 25, 26, 27, 28, 29, 30, 31, 32, 33] Fns.mixed (by decide +kernel) ?_
    simp [hb2, hx2, eqEv]
    refine (below_ok hL2 _ _).mono ?_
    rintro v H3 ⟨rfl, rfl⟩
    cases c1 : bel up fr by' with
    | false =>
      have hp : putF up n E (by', fr, to, t) = 7 := by unfold putF; simp [hok, c1]
      simp [hb2, hx2, eqEv, recheck, c1, hp]
      exact hk2
    | true =>
      simp [hb2, hx2, eqEv, recheck]
      refine (below_ok hL2 _ _).mono ?_
      rintro v H3 ⟨rfl, rfl⟩
      cases c2 : bel up to by' with
      | false =>
        have hp : putF up n E (by', fr, to, t) = 7 := by unfold putF; simp [hok, c1, c2]
        simp [hb2, hx2, eqEv, recheck, hp]
        exact hk2
      | true =>
        simp [hb2, hx2, eqEv, recheck]
        refine (below_ok hL2 _ _).mono ?_
        rintro v H3 ⟨rfl, rfl⟩
        cases c3 : bel up fr to with
        | true =>
          have hp : putF up n E (by', fr, to, t) = 7 := by unfold putF; simp [hok, c1, c2, c3]
          simp [hb2, hx2, eqEv, recheck, hp]
          exact hk2
        | false =>
          by_cases ht : 4096 < t.length
          · have ht' : (4096 : Int) < (t.length : Int) := by omega
            have hp : putF up n E (by', fr, to, t) = 3 := by unfold putF; simp [hok, c1, c2, c3, ht]
            simp [hb2, hx2, eqEv, recheck, ht, ht', hp]
            exact hk2
          have ht' : ¬ (4096 : Int) < (t.length : Int) := by omega
          simp [hb2, hx2, eqEv, recheck, ht, ht']
          refine (room_at h2 hE by').mono ?_
          rintro v H3 ⟨rfl, rfl⟩
          by_cases hr : roomF n E by' = 0
          · have hp : putF up n E (by', fr, to, t) = 6 := by unfold putF; simp [hok, c1, c2, c3, ht, hr]
            simp [hr, hp]
            exact hk2
          · have hp : putF up n E (by', fr, to, t) = 0 := by unfold putF; simp [hok, c1, c2, c3, ht, hr]
            obtain ⟨b, rfl⟩ : ∃ b : Nat, by' = b := ⟨by'.toNat, by unfold isL at hisl; simp at hisl; omega⟩
            have hbn : b < n := by unfold isL at hisl; simp at hisl; omega
            have hbn' : (b : Int) < (n : Int) := by omega
            have hcl := cntE_le E b
            have hw := i64_small ((cntE E b : Int) + 1) (by omega) (by omega)
            have hcg := cntsV_get E hbn
            have hwc := writeN_cells' hc2 (i := b) (by simp [cntsV]; exact hbn) (.int .i64 ((cntE E b : Int) + 1)) rfl
            rw [cntsV_put E ((b : Int), fr, to, t) rfl hbn] at hwc
            obtain ⟨H4, hH4⟩ : ∃ X, X = H3.set k (.cells (cntsV (E ++ [((b : Int), fr, to, t)]) n) 3) := ⟨_, rfl⟩
            rw [← hH4] at hwc
            have hl4 : H4.length = H.length + 2 := by rw [hH4, List.length_set]; exact hlen2
            have hb4 : H4[g]? = some (.cells [.ptr (.mu l) 0, rv, .slice (.mu k) 0 n (.known n)] 53) := by rw [hH4, List.getElem?_set, if_neg (Ne.symm hgk)]; exact hb2
            have hx4 : H4[H.length]? = some (.cells (cellsE ((b : Int), fr, to, t)) 40) := by rw [hH4, List.getElem?_set, if_neg (by omega)]; exact hx2
            have hrk : ∀ o ln c, rv ≠ .slice (.mu k) o ln c := fun o ln c e => by
              rcases h2.row with ⟨e', _⟩ | ⟨j, e', hj, _⟩
              · rw [e] at e'; cases e'
              · rw [e] at e'; cases e'; rw [hc2] at hj; cases hj
            have hrg : ∀ o ln c, rv ≠ .slice (.mu g) o ln c := fun o ln c e => by
              rcases h2.row with ⟨e', _⟩ | ⟨j, e', hj, _⟩
              · rw [e] at e'; cases e'
              · rw [e] at e'; cases e'; rw [hb2] at hj; cases hj
            obtain ⟨H5, hH5⟩ : ∃ X, X = H4 ++ [AO.cells (cellsE ((b : Int), fr, to, t)) 40] := ⟨_, rfl⟩
            have hl5 : H5.length = H.length + 3 := by rw [hH5]; simp [hl4]
            have hk5 : ∀ i, i < H.length → i ≠ k → H5[i]? = H[i]? := fun i hi hik => by
              rw [hH5, List.getElem?_append_left (by omega), hH4, List.getElem?_set, if_neg (Ne.symm hik)]
              exact hk2.2 i hi
            have hrow5 : RowAt H5 rv E.length 4 40 (flat E) := h.row.frame fun j hj => hk5 j (h.lt (.inr (.inr ⟨_, _, _, hj⟩))) (by rintro rfl; exact hrk _ _ _ hj)
            obtain ⟨G, hap, hGl, hGr, hGf⟩ := append_row (R := R) (by' := 40) hrow5 (src_cells (s := H4.length) (m := 1) (sz := 4) (c := cellsE ((b : Int), fr, to, t)) (t := 40) (cap := .known 1) (by rw [hH5]; simp) rfl) (by decide) (by decide) (by decide) (by omega) rfl rfl
            have hbG : G[g]? = some (.cells [.ptr (.mu l) 0, rv, .slice (.mu k) 0 n (.known n)] 53) := by
              rw [hGf g (by omega) hrg, hk5 g hgl hgk]; exact hb
            have hkG : G[k]? = some (.cells (cntsV (E ++ [((b : Int), fr, to, t)]) n) 3) := by
              rw [hGf k (by omega) hrk, hH5, List.getElem?_append_left (by omega), hH4, List.getElem?_set, if_pos rfl, if_pos (by omega)]
            have hwg := writeN_cells' hbG (i := 1) (by simp) (.slice (.mu H5.length) 0 (E.length + 1) (.opn 0)) rfl
            have hl6 : H5.length = H4.length + 1 := by rw [hH5]; simp
            rw [hl6] at hap hwg hGr
            rw [hH5] at hap
            have hb5 : (H4 ++ [AO.cells (cellsE ((b : Int), fr, to, t)) 40])[g]? = some (.cells [.ptr (.mu l) 0, rv, .slice (.mu k) 0 n (.known n)] 53) := by rw [List.getElem?_append_left (by omega)]; exact hb4
            simp only [cellsE] at hx4 hap hb5
            simp only [List.set_cons_succ, List.set_cons_zero] at hwg
            simp [hr]
            refine AWp.sched [0, 1, 2, 3, 4, 5, 6, 7, 8, 9, 10] Fns.mixed (by decide +kernel) ?_
            simp [hb2, hx2, hc2, hbn, hbn', hcg, hw, hwc, eqEv]
            refine AWp.sched [0, 1, 2, 3, 4, 5, 6, 7, 8, 9, 10] Fns.mixed (by decide +kernel) ?_
            simp [hb4, hx4, hb5, fillA, splice, zerosEv, AV.oneCell, hap, hwg, recheck, hp]
            have hrow6 : RowAt (G.set g (.cells [.ptr (.mu l) 0, .slice (.mu (H4.length + 1)) 0 (E.length + 1) (.opn 0), .slice (.mu k) 0 n (.known n)] 53)) (.slice (.mu (H4.length + 1)) 0 (E.length + 1) (.opn 0)) (E ++ [((b : Int), fr, to, t)]).length 4 40 (flat (E ++ [((b : Int), fr, to, t)])) := by
              rw [flat_app, flat_one]
              simp only [List.length_append, List.length_cons, List.length_nil, Nat.zero_add]
              refine hGr.frame fun j hj => ?_
              cases hj
              rw [List.getElem?_set, if_neg (by omega)]
            refine ⟨_, ⟨?_, hrow6, ?_⟩, ?_, ?_, ?_⟩
            · rw [List.getElem?_set, if_pos rfl, if_pos (List.getElem?_eq_some_iff.1 hbG).1]
            · rw [List.getElem?_set, if_neg hgk]; exact hkG
            · omega
            · rintro i (rfl | rfl | ⟨o, ln, c, e⟩)
              · exact .inl (.inl rfl)
              · exact .inl (.inr (.inl rfl))
              · cases e; exact .inr (by omega)
            · intro i hi ho
              rw [List.getElem?_set, if_neg (fun e => ho (.inl e.symm)), hGf i (by omega) (fun o ln c e => ho (.inr (.inr ⟨_, _, _, e⟩)))]
              exact hk5 i hi fun e => ho (.inr (.inl e))
theorem new_at {H : AH} {l : Nat} (hL : LatAt R H l up dn) (hn : up.length = n) (hle : n ≤ 64) : ACalls Tryd.prog R 11 [.ptr (.mu l) 0] H fun v H' => Keeps H H' ∧ ∃ g k, v = .tuple [.ptr (.mu g) 0, .int .i64 0] ∧ GAt H' g l k .nilslice n [] ∧ H.length ≤ g ∧ H.length ≤ k ∧ g ≠ k := by
  have hpos := hL.pos
  have hz : ∀ m : Nat, zerosEv [AV.int .i64 0] m = cntsV [] m := fun m => by
    induction m with
    | zero => rfl
    | succ m ih => 
      rw [zerosEv, ih]
      unfold cntsV cntE
      simp [List.range_succ_eq_map, Function.comp_def]
  have hne : ¬ ((n : Int) = 0) := by omega
  have hne2 : ¬ n = 0 := by omega
  have h1 : 8 * (n : Int) ≤ 281474976710656 := by omega
  have h2 : (n : Int) ≤ 9223372036854775807 := by omega
  refine ACalls.of_wpE Fns.ok11 (by simp [Fns.a11]) ?_
  simp [Fns.a11]
  refine (len_ok hL).mono ?_
  rintro v H' ⟨rfl, rfl⟩
  rw [hn]
  simp [hne, hne2]
  refine (len_ok hL).mono ?_
  rintro v H' ⟨rfl, rfl⟩
  rw [hn]
  simp [hne, hne2, hz, h1, h2, fillA, splice, AV.oneCell]
  exact ⟨Keeps.app _ _, H'.length, ⟨by simp, .inl ⟨rfl, rfl, rfl⟩, by simp⟩, by omega, by omega⟩
end Go.Proofs.YtkcddlpmekejkaaDoor.Au
