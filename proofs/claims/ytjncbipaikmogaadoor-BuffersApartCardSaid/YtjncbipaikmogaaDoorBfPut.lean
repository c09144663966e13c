/- What puts in, and what takes out. -/
import Derived.Test.YtjncbipaikmogaaDoorBfHeap
namespace Go.Proofs.YtjncbipaikmogaaDoor.Bf
open Go Go.RowKit Am Latt
set_option maxRecDepth 100000
set_option linter.unusedSimpArgs false
set_option linter.unusedVariables false
attribute [-simp] Am.binEv Am.intBin Am.read1
attribute [local simp] binEv_lss binEv_leq binEv_gtr binEv_geq binEv_eql binEv_neq binEv_add binEv_sub binEv_mul binEv_shr58 read1_ro read1_mu
variable {R : Ro}
/-- What has become of the heap. -/
def Moved (H H' : AH) (b r : Nat) (cs cs' : List AV) : Prop := H.length ≤ H'.length ∧ (∀ i, i < H.length → ¬ Own b r cs i → H'[i]? = H[i]?) ∧ ∀ i, Own b r cs' i → Own b r cs i ∨ H.length ≤ i
theorem Moved.refl (H : AH) (b r : Nat) (cs : List AV) : Moved H H b r cs cs := ⟨Nat.le_refl _, fun _ _ _ => rfl, fun _ h => .inl h⟩
theorem At.upd {H Hf : AH} {b l r : Nat} {C C2 : List AV} {S : List LB} {cs : List AV} (h : At H b l r C S cs) {an : Nat} (ha : an < S.length) {y : LB} {q : Nat} (hl : H.length ≤ Hf.length) (hr : Hf[r]? = some (.cells C2 87)) (hC : C2.length = C.length)
    (h0 : C2[an * 2]? = some (.slice (.mu q) 0 y.l.length (.opn 0))) (h1 : C2[an * 2 + 1]? = some (.int .i64 y.given)) (h2 : ∀ k, k ≠ an * 2 → k ≠ an * 2 + 1 → C2[k]? = C[k]?)
    (hf : ∀ i, i < H.length → i ≠ r → (∀ o n c, cs[an]? ≠ some (.slice (.mu i) o n c)) → Hf[i]? = H[i]?) (hq : H.length ≤ q) (hrow : Hf[q]? = some (.row (txt y.l) 90 2)) :
    At Hf b l r C2 (S.set an y) (cs.set an (.slice (.mu q) 0 y.l.length (.opn 0))) ∧ Moved H Hf b r cs (cs.set an (.slice (.mu q) 0 y.l.length (.opn 0))) := by
  have hbl := h.lt (.inl rfl)
  have hrl := h.lt (.inr (.inl rfl))
  have hbr : b ≠ r := fun e => by have h3 := h.box; rw [e, h.row] at h3; simp at h3
  have hac : an < cs.length := by rw [h.lc]; exact ha
  have nrow : ∀ i (o : Nat) n c, cs[an]? = some (.slice (.mu i) o n c) → ∃ d, H[i]? = some (.row d 90 2) := fun i o n c hc => by
    obtain ⟨cv, e, _, _, hrr⟩ := h.get ha
    rw [hc] at e; cases e
    rcases hrr with ⟨e, _⟩ | ⟨j, e, hj, _⟩
    · cases e
    · cases e; exact ⟨_, hj⟩
  refine ⟨⟨?_, hr, by rw [hC, h.cl]; simp, by simp [h.lc], ?_, ?_⟩, hl, ?_, ?_⟩
  · rw [hf b hbl hbr fun o n c hc => by obtain ⟨d, hd⟩ := nrow b o n c hc; rw [h.box] at hd; cases hd]
    rw [List.length_set]; exact h.box
  · intro i x cv hx hc
    rw [List.getElem?_set] at hx hc
    by_cases hi : an = i
    · subst hi
      rw [if_pos rfl, if_pos ha] at hx
      rw [if_pos rfl, if_pos hac] at hc
      cases hx; cases hc
      exact ⟨h0, h1, .inr ⟨q, rfl, hrow, txt_len _⟩⟩
    · rw [if_neg hi] at hx hc
      obtain ⟨o1, o2, o3⟩ := h.one i x cv hx hc
      refine ⟨by rw [h2 _ (by omega) (by omega)]; exact o1, by rw [h2 _ (by omega) (by omega)]; exact o2, o3.frame fun j hj => ?_⟩
      subst hj
      have hjo : ∃ d, H[j]? = some (.row d 90 2) := by
        rcases o3 with ⟨e, _⟩ | ⟨j', e, hj', _⟩
        · cases e
        · cases e; exact ⟨_, hj'⟩
      obtain ⟨d, hd⟩ := hjo
      exact hf j (List.getElem?_eq_some_iff.1 hd).1 (fun e => by subst e; rw [h.row] at hd; cases hd) fun o n c hc' => hi (h.csd an i j _ _ _ _ _ _ hc' hc)
  · intro i i' a o n c o' n' c' hi hi'
    rw [List.getElem?_set] at hi hi'
    have old : ∀ (k o : Nat) n c, cs[k]? = some (AV.slice (.mu a) o n c) → a < H.length := fun k o n c hk => h.lt (.inr (.inr ⟨o, n, c, List.mem_of_getElem? hk⟩))
    by_cases e1 : an = i
    · by_cases e2 : an = i'
      · omega
      · rw [if_neg e2] at hi'
        rw [if_pos e1, if_pos hac] at hi
        cases hi
        have := old _ _ _ _ hi'
        omega
    · rw [if_neg e1] at hi
      by_cases e2 : an = i'
      · rw [if_pos e2, if_pos hac] at hi'
        cases hi'
        have := old _ _ _ _ hi
        omega
      · rw [if_neg e2] at hi'
        exact h.csd i i' a _ _ _ _ _ _ hi hi'
  · intro i hi hno
    exact hf i hi (fun e => hno (.inr (.inl e))) fun o n c hc => hno (.inr (.inr ⟨o, n, c, List.mem_of_getElem? hc⟩))
  · rintro i (rfl | rfl | ⟨o, n, c, hc⟩)
    · exact .inl (.inl rfl)
    · exact .inl (.inr (.inl rfl))
    · rcases List.mem_or_eq_of_mem_set hc with hc | hc
      · exact .inl (.inr (.inr ⟨o, n, c, hc⟩))
      · cases hc; exact .inr hq
/-- slices.Insert at the head. -/
theorem ins_any {H : AH} {cv : AV} {l : List TX} {jv : Nat} {g : Int} {s : List UInt8} (hr : RowAt H cv l.length 2 90 (txt l)) (hv : H[jv]? = some (.cells [.int .i64 g, .str s] 90)) (hl : l.length ≤ 1000) :
    ACalls Tryd.prog R 29 [cv, .int .i64 0, .slice (.mu jv) 0 1 (.known 1)] H fun v G => v = .slice (.mu H.length) 0 (l.length + 1) (.opn 0) ∧ G.length = H.length + 1 ∧ G[H.length]? = some (.row (txt ((g, s) :: l)) 90 2) ∧ ∀ i, i < H.length → (∀ o n c, cv ≠ .slice (.mu i) o n c) → G[i]? = H[i]? := by
  rcases hr with ⟨rfl, h0, _⟩ | ⟨j, rfl, hj, hC⟩
  · have : l = [] := List.eq_nil_of_length_eq_zero h0
    subst this
    refine (ins_nilE Fns.ins_ok hv rfl (by decide) (by decide) (by decide) (by decide) rfl).mono ?_
    rintro v G ⟨rfl, rfl⟩
    exact ⟨rfl, by simp, by simp [txt], fun i hi _ => by rw [List.getElem?_append_left hi]⟩
  · have hjl := (List.getElem?_eq_some_iff.1 hj).1
    have fr : ∀ (X : AO) i, i < H.length → (∀ o n c, AV.slice (.mu j) 0 l.length (.opn 0) ≠ .slice (.mu i) o n c) → (H.set j .dead ++ [X])[i]? = H[i]? := fun X i hi hne => by
      rw [List.getElem?_append_left (by simpa using hi), List.getElem?_set]
      by_cases e : j = i
      · subst e; exact absurd rfl (hne _ _ _)
      · rw [if_neg e]
    cases l with
    | nil =>
      refine (ins_zeroE Fns.ins_ok hj hv rfl (by decide) (by decide) (by decide) (by decide) rfl).mono ?_
      rintro v G ⟨rfl, rfl⟩
      exact ⟨rfl, by simp, by simp [txt], fr _⟩
    | cons p l =>
      refine (ins_row (i := 0) Fns.mixed Fns.ins_ok rfl hj hv hC rfl (by simp) (by decide) (by decide) (by decide) (by simp at hl ⊢; omega) rfl (txt_one _) rfl).mono ?_
      rintro v G ⟨rfl, rfl⟩
      exact ⟨rfl, by simp, by simp [txt], fr _⟩
def putS (S : List LB) (a : Int) (s : List UInt8) : (Int × Int) × List LB :=
  if isL S.length a then match S[a.toNat]? with
    | some x => if 4096 < s.length then ((0, 3), S) else if x.l.length = 8 then ((0, 6), S) else ((x.given, 0), S.set a.toNat ⟨(x.given, s) :: x.l, x.given + 1⟩)
    | none => ((0, 1), S)
  else ((0, 1), S)
set_option maxHeartbeats 2000000 in
theorem put_ok {H : AH} {b l r : Nat} {C : List AV} {S : List LB} {cs : List AV} (h : At H b l r C S cs) (a : Int) (s : List UInt8) (hsm : ∀ x ∈ S, x.l.length ≤ 8) (hg : ∀ x ∈ S, 0 ≤ x.given ∧ x.given ≤ 1000000) :
    ACalls Tryd.prog R 11 [.ptr (.mu b) 0, .int .i64 a, .str s] H fun v H' => ∃ C' cs', v = .tuple [.int .i64 (putS S a s).1.1, .int .i64 (putS S a s).1.2] ∧ At H' b l r C' (putS S a s).2 cs' ∧ Moved H H' b r cs cs' := by
  refine ACalls.of_wpE Fns.ok11 (by simp [Fns.a11]) ?_
  simp [Fns.a11]
  refine (at_ok h a).mono ?_
  rintro v H ⟨rfl, rfl⟩
  cases ha : isL S.length a with
  | false =>
    have e : putS S a s = ((0, 1), S) := by simp [putS, ha]
    rw [e]
    simp [atV, ha, eqEv, h.box]
    exact ⟨_, _, h, Moved.refl ..⟩
  | true =>
    have ha2 := ha
    simp only [isL, Bool.and_eq_true, decide_eq_true_eq] at ha2
    obtain ⟨an, rfl⟩ : ∃ k : Nat, a = k := ⟨a.toNat, by omega⟩
    have han : an < S.length := by omega
    obtain ⟨cv, hcv, c0, c1, hrow⟩ := h.get han
    have hS : S[an]? = some S[an] := List.getElem?_eq_getElem han
    have h8 := hsm _ (List.getElem_mem han)
    have hgv := hg _ (List.getElem_mem han)
    have hlen : ∃ L, L = cv ∧ ((cv = .nilslice ∧ S[an].l.length = 0) ∨ ∃ j, cv = .slice (.mu j) 0 S[an].l.length (.opn 0)) := ⟨_, rfl, by
      rcases hrow with ⟨e, e2, _⟩ | ⟨j, e, _⟩
      · exact .inl ⟨e, e2⟩
      · exact .inr ⟨j, e⟩⟩
    have hwr := i64_small (S[an].given + 1) (by omega) (by omega)
    by_cases h4 : 4096 < s.length
    · have h4' : (4096 : Int) < (s.length : Int) := by omega
      have e : putS S (an : Int) s = ((0, 3), S) := by simp [putS, ha, hS, h4]
      rw [e]
      simp [atV, ha, eqEv, h.box, h.row, c0, h4, h4']
      exact ⟨_, _, h, Moved.refl ..⟩
    have h4' : ¬ (4096 : Int) < (s.length : Int) := by omega
    by_cases hf8 : S[an].l.length = 8
    · have e : putS S (an : Int) s = ((0, 6), S) := by simp [putS, ha, hS, h4, hf8]
      rw [e]
      obtain ⟨_, rfl, ⟨rfl, h0⟩ | ⟨j, rfl⟩⟩ := hlen
      · omega
      · simp [atV, ha, eqEv, h.box, h.row, c0, h4, h4', hf8]
        exact ⟨_, _, h, Moved.refl ..⟩
    have hf8' : ¬ (S[an].l.length : Int) = 8 := by omega
    have e : putS S (an : Int) s = ((S[an].given, 0), S.set an ⟨(S[an].given, s) :: S[an].l, S[an].given + 1⟩) := by simp [putS, ha, hS, h4, hf8]
    rw [e]
    have hrl := h.lt (.inr (.inl rfl))
    have hr1 : (H ++ [AO.cells [AV.int .i64 S[an].given, AV.str s] 90])[r]? = some (.cells C 87) := by rw [List.getElem?_append_left hrl]; exact h.row
    have hrow1 : RowAt (H ++ [AO.cells [AV.int .i64 S[an].given, AV.str s] 90]) cv S[an].l.length 2 90 (txt S[an].l) := hrow.frame fun j hj => by
      rcases hrow with ⟨e, _⟩ | ⟨j', e, hj', _⟩
      · rw [hj] at e; cases e
      · rw [hj] at e; cases e
        rw [List.getElem?_append_left (List.getElem?_eq_some_iff.1 hj').1]
    have hins := ins_any (R := R) (g := S[an].given) (s := s) (jv := H.length) hrow1 (by simp) (by omega)
    simp only [List.length_append, List.length_cons, List.length_nil, Nat.zero_add] at hins
    have fin : ∀ (G : AH), G.length = H.length + 1 + 1 → G[H.length + 1]? = some (.row (txt ((S[an].given, s) :: S[an].l)) 90 2) → (∀ i, i < H.length + 1 → (∀ o n c, cv ≠ .slice (.mu i) o n c) → G[i]? = (H ++ [AO.cells [AV.int .i64 S[an].given, AV.str s] 90])[i]?) →
        G[r]? = some (.cells C 87) ∧ ∃ cs', At (G.set r (.cells ((C.set (an * 2) (.slice (.mu (H.length + 1)) 0 (S[an].l.length + 1) (.opn 0))).set (an * 2 + 1) (.int .i64 (S[an].given + 1))) 87)) b l r ((C.set (an * 2) (.slice (.mu (H.length + 1)) 0 (S[an].l.length + 1) (.opn 0))).set (an * 2 + 1) (.int .i64 (S[an].given + 1))) (S.set an ⟨(S[an].given, s) :: S[an].l, S[an].given + 1⟩) cs' ∧ Moved H (G.set r (.cells ((C.set (an * 2) (.slice (.mu (H.length + 1)) 0 (S[an].l.length + 1) (.opn 0))).set (an * 2 + 1) (.int .i64 (S[an].given + 1))) 87)) b r cs cs' := by
      intro G hl hq hk
      have hcr : ∀ (o : Nat) n c, cv ≠ .slice (.mu r) o n c := fun o n c e => by
        rcases hrow with ⟨e2, _⟩ | ⟨j', e2, hj', _⟩
        · rw [e2] at e; cases e
        · rw [e2] at e; cases e
          rw [h.row] at hj'; cases hj'
      have hGr : G[r]? = some (.cells C 87) := by rw [hk r (by omega) hcr]; exact hr1
      have h2an : an * 2 < C.length := by rw [h.cl]; omega
      have h2an1 : an * 2 + 1 < C.length := by rw [h.cl]; omega
      refine ⟨hGr, _, h.upd han (y := ⟨(S[an].given, s) :: S[an].l, S[an].given + 1⟩) (q := H.length + 1) (by rw [List.length_set, hl]; omega) (by rw [List.getElem?_set_self (by rw [hl]; omega)]) (by simp) ?_ ?_ ?_ ?_ (by omega) ?_⟩
      · rw [List.getElem?_set_ne (by omega), List.getElem?_set_self (by simpa using h2an)]; simp
      · rw [List.getElem?_set_self (by simpa using h2an1)]
      · intro k k1 k2
        rw [List.getElem?_set_ne (by omega), List.getElem?_set_ne (by omega)]
      · intro i hi hir hno
        rw [List.getElem?_set_ne (Ne.symm hir), hk i (by omega) fun o n c e => hno o n c (by rw [hcv, e]), List.getElem?_append_left hi]
      · rw [List.getElem?_set_ne (by omega)]; exact hq
    have hsp : ∀ (D : List AV) (k : Nat) (v : AV), k < D.length → splice D k [v] = D.set k v := fun D k v hk => splice_one hk
    have h2an : an * 2 < C.length := by rw [h.cl]; omega
    have h2an1 : an * 2 + 1 < C.length := by rw [h.cl]; omega
    have tail : ∀ {cvv : AV}, cv = cvv → True := fun _ => trivial
    obtain ⟨_, rfl, hcase⟩ := hlen
    rcases hcase with ⟨rfl, h0⟩ | ⟨j, rfl⟩
    all_goals
      simp [atV, ha, eqEv, h.box, h.row, c0, c1, h4, h4', hf8, hf8', hr1]
      refine hins.mono ?_
      rintro v G ⟨rfl, hl, hq, hk⟩
      obtain ⟨hGr, cs', hA, hM⟩ := fin G hl hq hk
      have hrG : r < G.length := by rw [hl]; omega
      have hset : ∀ o, (G.set r o)[r]? = some o := fun o => List.getElem?_set_self hrG
      have hC0 : ∀ v : AV, (C.set (an * 2) v)[an * 2 + 1]? = some (.int .i64 S[an].given) := fun v => by rw [List.getElem?_set_ne (by omega)]; exact c1
      have hle1 : an * 2 + 1 ≤ C.length := by omega
      have hle2 : an * 2 + 1 + 1 ≤ C.length := by omega
      have hsp1 : ∀ v, splice C (an * 2) [v] = C.set (an * 2) v := fun v => hsp _ _ _ h2an
      have hsp2 : ∀ v w, splice (C.set (an * 2) v) (an * 2 + 1) [w] = (C.set (an * 2) v).set (an * 2 + 1) w := fun v w => hsp _ _ _ (by simpa using h2an1)
      simp [hGr, writeN, AO.content, AO.withContent, hsp1, hsp2, hle1, hle2, hset, hC0, hwr]
      exact ⟨_, _, hA, hM⟩
end Go.Proofs.YtjncbipaikmogaaDoor.Bf
