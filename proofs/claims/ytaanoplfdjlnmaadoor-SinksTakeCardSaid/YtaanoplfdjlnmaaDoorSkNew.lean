/- Sinks out of what is asked for. -/
import Derived.Test.YtaanoplfdjlnmaaDoorSkPut
namespace Go.Proofs.YtaanoplfdjlnmaaDoor.Sk
open Go Go.RowKit Am Latt
set_option maxRecDepth 100000
set_option linter.unusedSimpArgs false
set_option linter.unusedVariables false
attribute [-simp] Am.binEv Am.intBin Am.read1
attribute [local simp] binEv_lss binEv_leq binEv_gtr binEv_geq binEv_eql binEv_neq binEv_add binEv_sub binEv_mul binEv_shr58 read1_ro read1_mu
variable {R : Ro}
def newK (p : Int × Int) : SK := ⟨p.1, p.2, [], fun _ => 0⟩
def mkS (P : List (Int × Int)) : List SK := P.map newK
theorem pairs_of : ∀ {L : List (List AV)}, (∀ x ∈ L, Shape [.int .i64, .int .i64] x) → ∃ P : List (Int × Int), L = P.map fun p => [.int .i64 p.1, .int .i64 p.2]
  | [], _ => ⟨[], rfl⟩
  | x :: L, h => by
    obtain ⟨P, rfl⟩ := pairs_of (fun y hy => h y (List.mem_cons_of_mem _ hy))
    obtain ⟨v, r, h1, ⟨z, rfl, _⟩, v2, r2, h2, ⟨z2, rfl, _⟩, h3⟩ := h x (List.mem_cons_self ..)
    cases (show r2 = [] from h3)
    subst h2 h1
    exact ⟨(z, z2) :: P, rfl⟩
theorem At.push {H G : AH} {s l : Nat} {rv rv' : AV} {C : List AV} {S : List SK} {cs : List AV} {ms : List Nat} (h : At H s l rv C S cs ms) (x : SK) (hx1 : x.content = []) (hx2 : x.came = fun _ => 0) {mi ck : Nat} (hmi : H.length ≤ mi)
    (hrow : RowAt G rv' (S.length + 1) 4 62 (C ++ [.int .i64 x.label, .int .i64 x.room, .nilslice, .map mi])) (hmap : G[mi]? = some (.map [] ck)) (hG : ∀ i, i < H.length → (∀ o n c, rv ≠ .slice (.mu i) o n c) → G[i]? = H[i]?)
    (hlow : ∀ i o n c, rv' = .slice (.mu i) o n c → H.length ≤ i) :
    At (G.set s (.cells [.ptr (.mu l) 0, rv'] 58)) s l rv' (C ++ [.int .i64 x.label, .int .i64 x.room, .nilslice, .map mi]) (S ++ [x]) (cs ++ [.nilslice]) (ms ++ [mi]) ∧
      ∀ i, Own s rv' (cs ++ [.nilslice]) (ms ++ [mi]) i → Own s rv cs ms i ∨ H.length ≤ i := by
  have hsl := (List.getElem?_eq_some_iff.1 h.box).1
  have hCl : C.length = S.length * 4 := by
    rcases h.row with ⟨_, e, e2⟩ | ⟨j', e, hj', hl'⟩
    · rw [e2, e]; rfl
    · exact hl'
  have hrvs : ∀ o n c, rv ≠ .slice (.mu s) o n c := fun o n c e => by
    rcases h.row with ⟨e', _⟩ | ⟨j', e', hj', _⟩
    · rw [e] at e'; cases e'
    · rw [e] at e'; cases e'; rw [h.box] at hj'; cases hj'
  have hGs : s < G.length := by
    have := hG s hsl hrvs
    rw [h.box] at this
    exact (List.getElem?_eq_some_iff.1 this).1
  have hne : ∀ i, i ≠ s → (G.set s (.cells [.ptr (.mu l) 0, rv'] 58))[i]? = G[i]? := fun i hi => by rw [List.getElem?_set, if_neg (Ne.symm hi)]
  have hrvi : ∀ (i : Nat) (u : AO), H[i]? = some u → (∀ D, u ≠ .row D 62 4) → ∀ o n c, rv ≠ .slice (.mu i) o n c := fun i u hu hd o n c e => by
    rcases h.row with ⟨e', _⟩ | ⟨j', e', hj', _⟩
    · rw [e] at e'; cases e'
    · rw [e] at e'; cases e'; rw [hj'] at hu; cases hu; exact hd _ rfl
  refine ⟨⟨by rw [List.getElem?_set, if_pos rfl, if_pos hGs], ?_, by simp [h.lc], by simp [h.lm], ?_, ?_, ?_⟩, ?_⟩
  · rw [List.length_append]
    refine hrow.frame fun j hj => hne j ?_
    have := hlow _ _ _ _ hj
    omega
  · intro i y c m hy hc hm
    by_cases hi : i < S.length
    · rw [List.getElem?_append_left hi] at hy
      rw [List.getElem?_append_left (by rw [h.lc]; exact hi)] at hc
      rw [List.getElem?_append_left (by rw [h.lm]; exact hi)] at hm
      have o := h.one i y c m hy hc hm
      obtain ⟨es, k, he, hme⟩ := o.map
      refine ⟨by rw [List.getElem?_append_left (by omega)]; exact o.c0, by rw [List.getElem?_append_left (by omega)]; exact o.c1, by rw [List.getElem?_append_left (by omega)]; exact o.c2, by rw [List.getElem?_append_left (by omega)]; exact o.c3, o.row.frame fun j hj => ?_, es, k, ?_, hme⟩
      · rcases o.row with ⟨e, _⟩ | ⟨j', e, hj', _⟩
        · rw [hj] at e; cases e
        · rw [hj] at e; cases e
          rw [hne j (by rintro rfl; rw [h.box] at hj'; cases hj')]
          exact hG j (List.getElem?_eq_some_iff.1 hj').1 (hrvi j _ hj' fun D e => by cases e)
      · rw [hne m (by rintro rfl; rw [h.box] at he; cases he), hG m (List.getElem?_eq_some_iff.1 he).1 (hrvi m _ he fun D e => by cases e)]
        exact he
    · have hiS : i = S.length := by
        have := (List.getElem?_eq_some_iff.1 hy).1
        simp at this
        omega
      subst hiS
      have e1 : y = x := by rw [List.getElem?_append_right (by omega), Nat.sub_self] at hy; simpa using hy.symm
      have e2 : c = .nilslice := by rw [List.getElem?_append_right (by rw [h.lc]; omega), h.lc, Nat.sub_self] at hc; simpa using hc.symm
      have e3 : m = mi := by rw [List.getElem?_append_right (by rw [h.lm]; omega), h.lm, Nat.sub_self] at hm; simpa using hm.symm
      subst e1 e2 e3
      refine ⟨?_, ?_, ?_, ?_, .inl ⟨rfl, by rw [hx1]; rfl, by rw [hx1]; rfl⟩, [], ck, ?_, by rw [hx2]; exact MapI.nil⟩
      · rw [List.getElem?_append_right (by omega), hCl, Nat.sub_self]; rfl
      · rw [List.getElem?_append_right (by omega), hCl, Nat.add_sub_cancel_left]; rfl
      · rw [List.getElem?_append_right (by omega), hCl, Nat.add_sub_cancel_left]; rfl
      · rw [List.getElem?_append_right (by omega), hCl, Nat.add_sub_cancel_left]; rfl
      · rw [hne m (by omega)]; exact hmap
  · rw [List.nodup_append]
    refine ⟨h.msn, by simp, fun a ha b hb => ?_⟩
    simp at hb
    subst hb
    have := h.lt (.inr (.inr (.inl ha)))
    omega
  · intro i i' a o n c o' n' c' h1 h2
    have hl : ∀ (k o n : Nat) (c : Cap), (cs ++ [AV.nilslice])[k]? = some (AV.slice (.mu a) o n c) → cs[k]? = some (AV.slice (.mu a) o n c) := fun k o n c hk => by
      by_cases hkl : k < cs.length
      · rwa [List.getElem?_append_left hkl] at hk
      · have := (List.getElem?_eq_some_iff.1 hk).1
        simp at this
        have hk2 : k = cs.length := by omega
        subst hk2
        simp at hk
    exact h.csd _ _ _ _ _ _ _ _ _ (hl _ _ _ _ h1) (hl _ _ _ _ h2)
  · intro i hi
    rcases hi with e | ⟨o, n, c, e⟩ | e | ⟨o, n, c, e⟩
    · exact .inl (.inl e)
    · exact .inr (hlow _ _ _ _ e)
    · rcases List.mem_append.1 e with e | e
      · exact .inl (.inr (.inr (.inl e)))
      · simp at e; exact .inr (by omega)
    · rcases List.mem_append.1 e with e | e
      · exact .inl (.inr (.inr (.inr ⟨_, _, _, e⟩)))
      · simp at e
theorem writeN_cells' {H : AH} {p : Nat} {c : List AV} {t : TypeId} (h : H[p]? = some (.cells c t)) {i : Nat} (hi : i < c.length) (v : AV) (hv : v.oneCell = true) : writeN H p i [v] = some (H.set p (.cells (c.set i v) t)) := by
  unfold writeN
  rw [h]
  have hsp : splice c i [v] = c.set i v := by
    unfold splice
    rw [List.set_eq_take_append_cons_drop, if_pos hi]
    simp
  simp only [AO.content, AO.withContent, hsp]
  have hi' : i + 1 ≤ c.length := hi
  simp [-Am.AV.oneCell, hv, hi']
def okP (n : Nat) (p : Int × Int) : Prop := (0 ≤ p.1 ∧ p.1 < n) ∧ 0 ≤ p.2 ∧ p.2 ≤ 65536
def okL (n : Nat) (P : List (Int × Int)) : Prop := P.length ≤ 8 ∧ ∀ p ∈ P, okP n p
def NInv (R : Ro) (H0 : AH) (s l : Nat) (a : AV) (n : Nat) (P : List (Int × Int)) (e : Env) (H : AH) : Prop :=
  ∃ (i : Nat) (rv : AV) (C : List AV) (cs : List AV) (ms : List Nat), e 0 = .ptr (.mu l) 0 ∧ e 6 = .ptr (.mu s) 0 ∧ e 17 = a ∧ e 18 = .int .i64 P.length ∧ e 19 = .int .i64 i ∧ i ≤ P.length ∧ At H s l rv C (mkS (P.take i)) cs ms ∧ Keeps H0 H ∧ (∀ j, Own s rv cs ms j → H0.length ≤ j) ∧ ∀ p ∈ P.take i, okP n p
set_option maxHeartbeats 4000000 in
theorem new_at {H : AH} {l : Nat} {up dn : List Nat} (hLall : ∀ H', Keeps H H' → LatAt R H' l up dn) {a : AV} {P : List (Int × Int)} (hs : Sl R 2 a (P.map fun p => [.int .i64 p.1, .int .i64 p.2])) :
    ACalls Tryd.prog R 11 [.ptr (.mu l) 0, a] H fun v H' => Keeps H H' ∧ ((okL up.length P ∧ ∃ s rv C cs ms, v = .tuple [.ptr (.mu s) 0, .int .i64 0] ∧ At H' s l rv C (mkS P) cs ms ∧ ∀ j, Own s rv cs ms j → H.length ≤ j) ∨
      (¬ okL up.length P ∧ v = .tuple [.nilptr, .int .i64 1])) := by
  have hlen : (a = .nilslice ∧ P.length = 0) ∨ ∃ b off cap, a = .slice (.ro b) off P.length (.known cap) := by
    rcases hs with ⟨h, hL⟩ | ⟨b, off, cap, h, _⟩
    · exact .inl ⟨h, by simpa using hL⟩
    · exact .inr ⟨b, off, cap, by simpa using h⟩
  refine ACalls.of_wpE Fns.ok11 (by simp [Fns.a11]) ?_
  simp [Fns.a11, eqEv]
  by_cases hbig : 8 < P.length
  · have hbig' : (8 : Int) < (P.length : Int) := by omega
    rcases hlen with ⟨rfl, h0⟩ | ⟨b, off, cap, rfl⟩
    · omega
    · simp [hbig, hbig']
      exact ⟨Keeps.refl _, fun h => by have := h.1; omega⟩
  have hbig' : ¬ (8 : Int) < (P.length : Int) := by omega
  refine (?_ : _ → _) hlen
  rintro (⟨ha, hP0⟩ | ⟨b0, off0, cap0, ha⟩) <;>
  · simp [ha, hbig, hbig', fillA, splice, AV.oneCell]
    refine AWp.loop (fun e H' => NInv R H H.length l a up.length P e H') (fun e _ => match e 19 with | .int _ i => ((P.length : Int) - i).toNat | _ => 0)
      ⟨0, .nilslice, [], [], [], rfl, rfl, by rw [ha]; rfl, (by simp <;> omega), rfl, by omega, ⟨by simp, .inl ⟨rfl, rfl, rfl⟩, rfl, rfl, fun i x cv m hx => (by cases hx), by simp, fun i i' a' o n c o' n' c' hc => (by cases hc)⟩, Keeps.app _ _, fun j hj => ?_, by simp⟩ ?_
    · rcases hj with e | ⟨_, _, _, e⟩ | e | ⟨_, _, _, e⟩
      · omega
      · cases e
      · cases e
      · cases e
    rintro e H1 ⟨i, rv, C, cs, ms, h0, h6, h17, h18, h19, hiP, hA, hk, hown, hok⟩
    refine wpE_sound _ ?_
    by_cases hlt : i < P.length
    · obtain ⟨b, off, cap, ha', hcell⟩ := hs.at (show i < (P.map fun p : Int × Int => [AV.int .i64 p.1, AV.int .i64 p.2]).length by simpa using hlt)
      have hlt' : (i : Int) < (P.length : Int) := by omega
      have hw1 := i64_small ((i : Int) + 1) (by omega) (by omega)
      obtain ⟨z, y, hp⟩ : ∃ z y, P[i] = (z, y) := ⟨_, _, rfl⟩
      have hR0 : R b (off + i * 2) = some (.int .i64 z) := hcell 0 _ (by simp [hp])
      have hR1 : R b (off + i * 2 + 1) = some (.int .i64 y) := hcell 1 _ (by simp [hp])
      have hR2 : (List.range 2).mapM (fun k => R b (off + i * 2 + k)) = some [.int .i64 z, .int .i64 y] := by
        show [0, 1].mapM (fun k => R b (off + i * 2 + k)) = _
        simp [hR0, hR1]
      rw [ha'] at h17
      have hbox := hA.box
      have hsl := (List.getElem?_eq_some_iff.1 hbox).1
      have hwb : writeN (H1 ++ [.cells [.int .i64 0, .int .i64 0] 34]) H1.length 0 [.int .i64 z, .int .i64 y] = some (H1 ++ [.cells [.int .i64 z, .int .i64 y] 34]) := by
        simp [writeN, AO.content, AO.withContent, splice, AV.oneCell]
      simp [h0, h6, h17, h18, h19, hlt, hlt', hR2, hwb]
      have hH2 : Keeps H (H1 ++ [.cells [.int .i64 z, .int .i64 y] 34]) := hk.trans (Keeps.app _ _)
      have hlc := len_ok (R := R) (hLall _ hH2)
      refine AWp.sched [0, 1, 2, 3, 4, 5, 6, 7, 8, 9, 10, 11, 12, 13, 14, 15, 16, 17, 18, 19] Fns.mixed (by decide +kernel) ?_
      have hno : ¬ okP up.length (z, y) → ¬ okL up.length P := fun hn hh => hn (by rw [← hp]; exact hh.2 _ (List.getElem_mem hlt))
      by_cases hz : z < 0
      · simp [h0, h6, h17, h18, h19, hz]
        exact ⟨hH2, hno fun hh => by have := hh.1.1; simp at this; omega⟩
      simp [h0, h6, h17, h18, h19, hz]
      refine hlc.mono ?_
      rintro v H2 ⟨rfl, rfl⟩
      by_cases hz2 : (up.length : Int) ≤ z
      · simp [h0, h6, h17, h18, h19, hz, hz2, recheck]
        exact ⟨hH2, hno fun hh => by have := hh.1.2; simp at this; omega⟩
      by_cases hy : y < 0
      · simp [h0, h6, h17, h18, h19, hz, hz2, hy, recheck]
        exact ⟨hH2, hno fun hh => by have := hh.2.1; simp at this; omega⟩
      by_cases hy2 : 65536 < y
      · simp [h0, h6, h17, h18, h19, hz, hz2, hy, hy2, recheck]
        exact ⟨hH2, hno fun hh => by have := hh.2.2; simp at this; omega⟩
      simp [h0, h6, h17, h18, h19, hz, hz2, hy, hy2, recheck]
      have hSl : (mkS (P.take i)).length = i := by simp [mkS]; omega
      have hbx : ∀ X : AH, (H1 ++ X)[H.length]? = some (.cells [.ptr (.mu l) 0, rv] 58) := fun X => by rw [List.getElem?_append_left hsl]; exact hbox
      obtain ⟨Hb, hHb⟩ : ∃ Hb, Hb = H1 ++ [AO.cells [.int .i64 z, .int .i64 y] 34, AO.map [] 0, AO.cells [.int .i64 z, .int .i64 y, .nilslice, .map (H1.length + 1)] 62] := ⟨_, rfl⟩
      have hHbl : Hb.length = H1.length + 3 := by rw [hHb]; simp
      have hHbk : Keeps H1 Hb := by rw [hHb]; exact Keeps.app _ _
      have hrow : RowAt Hb rv i 4 62 C := by
        have := hA.row
        rw [hSl] at this
        exact this.frame fun j hj => hHbk.2 j (hA.lt (.inr (.inl ⟨_, _, _, hj⟩)))
      obtain ⟨G, hap, hGl, hGr, hGf⟩ := append_row (R := R) (by' := 48) hrow (src_cells (s := H1.length + 2) (m := 1) (sz := 4) (c := [.int .i64 z, .int .i64 y, .nilslice, .map (H1.length + 1)]) (t := 62) (cap := .known 1) (by rw [hHb]; simp) rfl) (by decide) (by decide) (by decide) (by omega) rfl rfl
      have hrvs : ∀ o n c, rv ≠ .slice (.mu H.length) o n c := fun o n c e => by
        rcases hA.row with ⟨e', _⟩ | ⟨j', e', hj', _⟩
        · rw [e] at e'; cases e'
        · rw [e] at e'; cases e'; rw [hbox] at hj'; cases hj'
      have hGs : G[H.length]? = some (.cells [.ptr (.mu l) 0, rv] 58) := by rw [hGf H.length (by omega) hrvs, hHb]; exact hbx _
      have hG34 : G[H1.length]? = some (.cells [.int .i64 z, .int .i64 y] 34) := by
        rw [hGf H1.length (by omega) (fun o n c e => by have := hA.lt (.inr (.inl ⟨_, _, _, e⟩)); omega), hHb]; simp
      have hwG : writeN G H.length 1 [.slice (.mu Hb.length) 0 (i + 1) (.opn 0)] = some (G.set H.length (.cells [.ptr (.mu l) 0, .slice (.mu Hb.length) 0 (i + 1) (.opn 0)] 58)) := by
        have := writeN_cells' hGs (i := 1) (by simp) (.slice (.mu Hb.length) 0 (i + 1) (.opn 0)) rfl
        simpa using this
      rw [hHbl] at hap hwG hGr
      rw [hHb] at hap
      refine AWp.sched [0, 1, 2, 3, 4, 5, 6, 7, 8, 9, 10, 11, 12] Fns.mixed (by decide +kernel) ?_
      simp [h0, h6, h17, h18, h19, hbx, recheck, fillA, splice, zerosEv, AV.oneCell, List.range_succ, hap, hGs, hG34, hwG, hw1]
      have hrlt : ∀ i' o n c, rv = .slice (.mu i') o n c → i' < H1.length := fun i' o n c e => hA.lt (.inr (.inl ⟨_, _, _, e⟩))
      have hmapG : G[H1.length + 1]? = some (.map [] 0) := by
        rw [hGf (H1.length + 1) (by omega) (fun o n c e => by have := hrlt _ _ _ _ e; omega), hHb]
        simp
      obtain ⟨hN1, hN2⟩ := hA.push (G := G) (rv' := .slice (.mu (H1.length + 3)) 0 (i + 1) (.opn 0)) (newK (z, y)) rfl rfl (mi := H1.length + 1) (ck := 0) (by omega) (by rw [hSl]; exact hGr) hmapG
        (fun i' hi' hne => by rw [hGf i' (by omega) hne]; exact hHbk.2 i' hi') (fun i' o n c e => by cases e; omega)
      have htk : mkS (P.take (i + 1)) = mkS (P.take i) ++ [newK (z, y)] := by
        rw [List.take_add_one, List.getElem?_eq_getElem hlt, hp]
        simp [mkS]
      rw [← htk] at hN1
      refine ⟨⟨i + 1, _, _, _, _, by simp [h0], by simp [h6], by simp [h17, ha'], by simp [h18], by simp, by omega, hN1, ⟨?_, fun i' hi' => ?_⟩, fun j hj => ?_, fun p hp' => ?_⟩, by omega⟩
      · rw [List.length_set]; have := hk.1; omega
      · have := hk.1
        rw [List.getElem?_set, if_neg (by omega), hGf i' (by omega) (fun o n c e => by have := hown i' (.inr (.inl ⟨_, _, _, e⟩)); omega), hHbk.2 i' (by omega)]
        exact hk.2 i' hi'
      · rcases hN2 j hj with h | h
        · exact hown j h
        · have := hk.1; omega
      · rw [List.take_add_one, List.getElem?_eq_getElem hlt, hp] at hp'
        rcases List.mem_append.1 hp' with h | h
        · exact hok p h
        · simp at h
          subst h
          exact ⟨⟨by simpa using hz, by simpa using hz2⟩, by simpa using hy, by simpa using hy2⟩
    · obtain rfl : i = P.length := by omega
      have hnl : ¬ (P.length : Int) < (P.length : Int) := by omega
      simp [h0, h6, h17, h18, h19]
      refine ⟨hk, ⟨⟨by omega, fun p hp => hok p (by simpa using hp)⟩, rv, C, cs, ms, by simpa using hA, hown⟩⟩
end Go.Proofs.YtaanoplfdjlnmaaDoor.Sk
