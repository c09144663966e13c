/- One sink's state anew. -/
import Derived.Test.YtaanoplfdjlnmaaDoorSkWrite
namespace Go.Proofs.YtaanoplfdjlnmaaDoor.Sk
open Go Go.RowKit Am Latt
set_option maxRecDepth 100000
set_option linter.unusedSimpArgs false
set_option linter.unusedVariables false
variable {R : Ro}
theorem writeN_row {H : AH} {p : Nat} {c : List AV} {t : TypeId} {z : Nat} (h : H[p]? = some (.row c t z)) {i : Nat} (hi : i < c.length) (v : AV) (hv : v.oneCell = true) : writeN H p i [v] = some (H.set p (.row (c.set i v) t z)) := by
  unfold writeN
  rw [h]
  have hsp : splice c i [v] = c.set i v := by
    unfold splice
    rw [List.set_eq_take_append_cons_drop, if_pos hi]
    simp
  simp only [AO.content, AO.withContent, hsp]
  have hi' : i + 1 ≤ c.length := hi
  simp [-Am.AV.oneCell, hv, hi']
theorem At.take {H G : AH} {s l : Nat} {rv : AV} {C : List AV} {S : List SK} {cs : List AV} {ms : List Nat} (h : At H s l rv C S cs ms) {an : Nat} (han : an < S.length) {j : Nat} {cv : AV} {m : Nat}
    (hrv : rv = .slice (.mu j) 0 S.length (.opn 0)) (hj : H[j]? = some (.row C 62 4)) (hc : cs[an]? = some cv) (hm : ms[an]? = some m) (o : One H C an S[an] cv m)
    {v' : AV} {x' : SK} (hl : x'.label = S[an].label) (hro : x'.room = S[an].room) (hr : RowAt G v' x'.content.length 1 5 (bytesV x'.content))
    (ha : (v' = cv ∧ G = H) ∨ (v' = .slice (.mu H.length) 0 x'.content.length (.opn 0) ∧ G.length = H.length + 1 ∧ ∀ i, i < H.length → (∀ o l c, cv ≠ .slice (.mu i) o l c) → G[i]? = H[i]?))
    {es' : List AEntry} {ck' : Nat} (hmap : MapI es' x'.came) :
    let H3 := (G.set j (.row (C.set (an * 4 + 2) v') 62 4)).set m (.map es' ck')
    At H3 s l rv (C.set (an * 4 + 2) v') (S.set an x') (cs.set an v') ms ∧ H.length ≤ H3.length ∧ (∀ i, Own s rv (cs.set an v') ms i → Own s rv cs ms i ∨ H.length ≤ i) ∧ ∀ i, i < H.length → ¬ Own s rv cs ms i → H3[i]? = H[i]? := by
  intro H3
  obtain ⟨es, ck, hes, _⟩ := o.map
  have hCl : C.length = S.length * 4 := by
    rcases h.row with ⟨e, _⟩ | ⟨j', e, hj', hl'⟩
    · rw [hrv] at e; cases e
    · exact hl'
  have hjl := (List.getElem?_eq_some_iff.1 hj).1
  have hml := (List.getElem?_eq_some_iff.1 hes).1
  have hGl : H.length ≤ G.length := by rcases ha with ⟨_, rfl⟩ | ⟨_, e, _⟩ <;> omega
  have hlen3 : H3.length = G.length := by simp [H3]
  -- what the appending leaves
  have hG : ∀ (i : Nat) (u : AO), H[i]? = some u → (∀ o l c, cv ≠ .slice (.mu i) o l c) → G[i]? = some u := fun i u hu hne => by
    rcases ha with ⟨_, rfl⟩ | ⟨_, _, hf⟩
    · exact hu
    · rw [hf i (List.getElem?_eq_some_iff.1 hu).1 hne]; exact hu
  have hcvrow : ∀ (i oo n : Nat) (c : Cap), cv = .slice (.mu i) oo n c → ∃ D, H[i]? = some (AO.row D 5 1) := fun i oo n c e => by
    rcases o.row with ⟨e', _⟩ | ⟨q, e', hq, _⟩
    · rw [e] at e'; cases e'
    · rw [e] at e'; cases e'; exact ⟨_, hq⟩
  have hGj : G[j]? = some (.row C 62 4) := hG j _ hj fun oo n c e => by obtain ⟨D, hD⟩ := hcvrow _ _ _ _ e; rw [hj] at hD; cases hD
  have hGm : ∀ (i : Nat) (es : List AEntry) (ck : Nat), H[i]? = some (AO.map es ck) → G[i]? = some (AO.map es ck) := fun i es ck hi => hG i _ hi fun oo n c e => by obtain ⟨D, hD⟩ := hcvrow _ _ _ _ e; rw [hi] at hD; cases hD
  have hGs : G[s]? = some (.cells [.ptr (.mu l) 0, rv] 58) := hG s _ h.box fun oo n c e => by obtain ⟨D, hD⟩ := hcvrow _ _ _ _ e; rw [h.box] at hD; cases hD
  have hmj : m ≠ j := by rintro rfl; rw [hes] at hj; cases hj
  have hsj : s ≠ j := by rintro rfl; rw [h.box] at hj; cases hj
  have hsm : s ≠ m := by rintro rfl; rw [h.box] at hes; cases hes
  have h3 : ∀ i, i ≠ j → i ≠ m → H3[i]? = G[i]? := fun i h1 h2 => by
    show (List.set _ _ _)[i]? = _
    rw [List.getElem?_set, if_neg (Ne.symm h2), List.getElem?_set, if_neg (Ne.symm h1)]
  have h3j : H3[j]? = some (.row (C.set (an * 4 + 2) v') 62 4) := by
    show (List.set _ _ _)[j]? = _
    rw [List.getElem?_set, if_neg hmj, List.getElem?_set, if_pos rfl, if_pos (by omega)]
  have h3m : H3[m]? = some (.map es' ck') := by
    show (List.set _ _ _)[m]? = _
    rw [List.getElem?_set, if_pos rfl, if_pos (by rw [List.length_set]; omega)]
  have hanl : an * 4 + 2 < C.length := by omega
  have hacs : an < cs.length := by rw [h.lc]; exact han
  -- the new content's row
  have hv3 : RowAt H3 v' x'.content.length 1 5 (bytesV x'.content) := hr.frame fun q hq => by
    rcases hr with ⟨e, _⟩ | ⟨q', e, hq', _⟩
    · rw [hq] at e; cases e
    · rw [hq] at e; cases e
      refine h3 q ?_ ?_
      · rintro rfl; rw [hGj] at hq'; cases hq'
      · rintro rfl; rw [hGm _ _ _ hes] at hq'; cases hq'
  refine ⟨⟨by rw [h3 s hsj hsm]; exact hGs, ?_, by simp [h.lc], by simp [h.lm], ?_, h.msn, ?_⟩, by omega, ?_, ?_⟩
  · rw [List.length_set]
    exact .inr ⟨j, hrv, h3j, by rw [List.length_set]; exact hCl⟩
  · intro i x c mi hx hci hmi
    by_cases hia : i = an
    · subst hia
      rw [hm] at hmi; cases hmi
      rw [List.getElem?_set, if_pos rfl, if_pos han] at hx
      cases hx
      rw [List.getElem?_set, if_pos rfl, if_pos hacs] at hci
      cases hci
      refine ⟨?_, ?_, ?_, ?_, hv3, _, _, h3m, hmap⟩
      · rw [List.getElem?_set, if_neg (by omega), hl]; exact o.c0
      · rw [List.getElem?_set, if_neg (by omega), hro]; exact o.c1
      · rw [List.getElem?_set, if_pos rfl, if_pos hanl]
      · rw [List.getElem?_set, if_neg (by omega)]; exact o.c3
    · rw [List.getElem?_set, if_neg (Ne.symm hia)] at hx hci
      have oi := h.one i x c mi hx hci hmi
      obtain ⟨esi, cki, hesi, hmapi⟩ := oi.map
      have hmm : mi ≠ m := by
        rintro rfl
        obtain ⟨hil, hie⟩ := List.getElem?_eq_some_iff.1 hmi
        exact hia ((List.getElem?_inj hil h.msn).1 (by rw [hmi, hm]))
      have hmij : mi ≠ j := by rintro rfl; rw [hesi] at hj; cases hj
      refine ⟨?_, ?_, ?_, ?_, oi.row.frame fun q hq => ?_, esi, cki, ?_, hmapi⟩
      · rw [List.getElem?_set, if_neg (by omega)]; exact oi.c0
      · rw [List.getElem?_set, if_neg (by omega)]; exact oi.c1
      · rw [List.getElem?_set, if_neg (by omega)]; exact oi.c2
      · rw [List.getElem?_set, if_neg (by omega)]; exact oi.c3
      · rcases oi.row with ⟨e, _⟩ | ⟨q', e, hq', _⟩
        · rw [hq] at e; cases e
        · rw [hq] at e; cases e
          rw [h3 q (by rintro rfl; rw [hj] at hq'; cases hq') (by rintro rfl; rw [hes] at hq'; cases hq'), hq']
          refine hG q _ hq' fun oo n cc e => hia ?_
          rw [hq] at hci
          rw [e] at hc
          exact h.csd _ _ _ _ _ _ _ _ _ hci hc
      · rw [h3 mi hmij hmm]; exact hGm _ _ _ hesi
  · intro i i' a oo n c o' n' c' h1 h2
    by_cases hi : an = i
    · by_cases hi' : an = i'
      · omega
      · subst hi
        rw [List.getElem?_set, if_neg hi'] at h2
        rw [List.getElem?_set, if_pos rfl, if_pos hacs] at h1
        rcases ha with ⟨e, _⟩ | ⟨e, _, _⟩
        · rw [e, ← hc] at h1
          exact h.csd _ _ _ _ _ _ _ _ _ h1 h2
        · rw [e] at h1
          cases h1
          have := h.lt (.inr (.inr (.inr ⟨_, _, _, List.mem_of_getElem? h2⟩)))
          omega
    · rw [List.getElem?_set, if_neg hi] at h1
      by_cases hi' : an = i'
      · subst hi'
        rw [List.getElem?_set, if_pos rfl, if_pos hacs] at h2
        rcases ha with ⟨e, _⟩ | ⟨e, _, _⟩
        · rw [e, ← hc] at h2
          exact h.csd _ _ _ _ _ _ _ _ _ h1 h2
        · rw [e] at h2
          cases h2
          have := h.lt (.inr (.inr (.inr ⟨_, _, _, List.mem_of_getElem? h1⟩)))
          omega
      · rw [List.getElem?_set, if_neg hi'] at h2
        exact h.csd _ _ _ _ _ _ _ _ _ h1 h2
  · intro i hi
    rcases hi with e | e | e | ⟨oo, n, c, e⟩
    · exact .inl (.inl e)
    · exact .inl (.inr (.inl e))
    · exact .inl (.inr (.inr (.inl e)))
    · rcases List.mem_or_eq_of_mem_set e with e | e
      · exact .inl (.inr (.inr (.inr ⟨_, _, _, e⟩)))
      · rcases ha with ⟨e', _⟩ | ⟨e', _, _⟩
        · rw [e'] at e
          exact .inl (.inr (.inr (.inr ⟨_, _, _, by rw [e]; exact List.mem_of_getElem? hc⟩)))
        · rw [e'] at e
          cases e
          exact .inr (Nat.le_refl _)
  · intro i hi hno
    have hij : i ≠ j := by rintro rfl; exact hno (.inr (.inl ⟨_, _, _, hrv⟩))
    have him : i ≠ m := by rintro rfl; exact hno (.inr (.inr (.inl (List.mem_of_getElem? hm))))
    rw [h3 i hij him]
    rcases ha with ⟨_, rfl⟩ | ⟨_, _, hf⟩
    · rfl
    · exact hf i hi fun oo n c e => hno (.inr (.inr (.inr ⟨_, _, _, by rw [← e]; exact List.mem_of_getElem? hc⟩)))
end Go.Proofs.YtaanoplfdjlnmaaDoor.Sk
