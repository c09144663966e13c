/- The document's log: what is asked of it, and what is put in. -/
import Derived.Test.YtkcddlpmekejkaaDoorAuGreat
import Derived.Test.YtkcddlpmekejkaaDoorAuSeen
import Derived.Test.YtkcddlpmekejkaaDoorLatRNew
import Derived.Test.YtkcddlpmekejkaaDoorLatPure
namespace Go.Proofs.YtkcddlpmekejkaaDoor.Au
open Go Go.RowKit Am Latt
set_option maxRecDepth 100000
set_option linter.unusedSimpArgs false
set_option linter.unusedVariables false
attribute [-simp] Am.binEv Am.intBin Am.read1
attribute [local simp] binEv_lss binEv_leq binEv_gtr binEv_geq binEv_eql binEv_neq binEv_add binEv_sub binEv_mul binEv_shr58 read1_ro read1_mu
variable {R : Ro}
theorem tbI_bel (T : List (List Bool)) (a b : Int) : tbI T a b = bel (upT T) a b := by
  unfold tbI bel
  rw [upT_len]
  cases h1 : isL T.length a with
  | false => rfl
  | true =>
    cases h2 : isL T.length b with
    | false => rfl
    | true =>
      simp only [isL, Bool.and_eq_true, decide_eq_true_eq] at h1 h2
      rw [upT_tb (by omega) (by omega)]
theorem bel_self {T : List (List Bool)} (g : GoodT T) (a : Int) : bel (upT T) a a = isL T.length a := by
  unfold bel
  rw [upT_len]
  cases h1 : isL T.length a with
  | false => rfl
  | true =>
    simp only [isL, Bool.and_eq_true, decide_eq_true_eq] at h1
    have := (g.ord a.toNat (by omega)).1
    simpa using this
structure WAt (H : AH) (w : Nat) (tv rv : AV) (E : List Ent) : Prop where
  box : H[w]? = some (.cells [tv, rv] 37)
  row : RowAt H rv E.length 4 42 (flat E)
def OwnW (w : Nat) (rv : AV) (i : Nat) : Prop := i = w ∨ ∃ o n c, rv = .slice (.mu i) o n c
variable {H : AH} {w : Nat} {tv rv : AV} {E : List Ent} {T : List (List Bool)}
theorem WAt.frame {H' : AH} (h : WAt H w tv rv E) (hf : ∀ i, OwnW w rv i → H'[i]? = H[i]?) : WAt H' w tv rv E :=
  ⟨by rw [hf w (.inl rfl)]; exact h.box, h.row.frame fun j hj => hf j (.inr ⟨_, _, _, hj⟩)⟩
theorem WAt.lt (h : WAt H w tv rv E) {i : Nat} (hi : OwnW w rv i) : i < H.length := by
  rcases hi with rfl | ⟨o, ln, c, e⟩
  · exact (List.getElem?_eq_some_iff.1 h.box).1
  · rcases h.row with ⟨e', _⟩ | ⟨j, e', hj, _⟩
    · rw [e] at e'; cases e'
    · rw [e] at e'; cases e'; exact (List.getElem?_eq_some_iff.1 hj).1
theorem WAt.keeps {H' : AH} (h : WAt H w tv rv E) (hk : Keeps H H') : WAt H' w tv rv E := h.frame fun i hi => hk.2 i (h.lt hi)
theorem WAt.rowc (h : WAt H w tv rv E) : (rv = .nilslice ∧ E = []) ∨ ∃ j, rv = .slice (.mu j) 0 E.length (.opn 0) ∧ H[j]? = some (.row (flat E) 42 4) := by
  rcases h.row with ⟨e, e2, _⟩ | ⟨j, e, hj, _⟩
  · exact .inl ⟨e, List.length_eq_zero_iff.1 e2⟩
  · exact .inr ⟨j, e, hj⟩
theorem label_at (h : WAt H w tv rv E) (ht : TabIn R H tv T) (a : Int) : ACalls Tryd.prog R 31 [.ptr (.mu w) 0, .int .i64 a] H fun v H' => v = .bool (isL T.length a) ∧ H' = H := by
  have hb := h.box
  refine ACalls.of_wpE Fns.ok31 (by simp [Fns.a31]) ?_
  by_cases h0 : 0 ≤ a
  · rcases ht.lenEv with ⟨rfl, hT⟩ | ⟨l, off, cap, rfl⟩
    · have : ¬ a < 0 := by omega
      simp [Fns.a31, hb, eqEv, h0, isL, hT, this]
    · simp [Fns.a31, hb, eqEv, h0, isL]
  · simp [Fns.a31, hb, eqEv, h0, isL]
set_option maxHeartbeats 4000000 in
theorem rroom_at (h : WAt H w tv rv E) (ht : TabIn R H tv T) (hE : E.length ≤ 1000) (a : Int) : ACalls Tryd.prog R 15 [.ptr (.mu w) 0, .int .i64 a] H fun v H' => v = .int .i64 (roomF T.length E a) ∧ H' = H := by
  have hb := h.box
  refine ACalls.of_wpE Fns.ok15 (by simp [Fns.a15]) ?_
  simp [Fns.a15]
  refine (label_at h ht a).mono ?_
  rintro v H' ⟨rfl, rfl⟩
  cases hl : isL T.length a with
  | false => simp [roomF, hl]
  | true =>
    simp
    refine AWp.loop (fun e H1 => H1 = H' ∧ e 0 = .ptr (.mu w) 0 ∧ e 1 = .int .i64 a ∧ ∃ j : Nat, e 6 = .int .i64 j ∧ e 5 = .int .i64 (16 - cntE (E.take j) a) ∧ j ≤ E.length) (fun e _ => match e 6 with | .int _ i => ((E.length : Int) - i).toNat | _ => 0) ⟨rfl, rfl, rfl, 0, rfl, rfl, by omega⟩ ?_
    rintro e H1 ⟨rfl, h0, h1, j, h6, h5, hj⟩
    refine wpE_sound _ ?_
    by_cases hjl : j < E.length
    · have hjl' : (j : Int) < (E.length : Int) := by omega
      have hw1 := i64_small ((j : Int) + 1) (by omega) (by omega)
      obtain ⟨x, hx⟩ : ∃ x, E[j]? = some x := ⟨_, List.getElem?_eq_getElem hjl⟩
      obtain ⟨q, hrv, hq⟩ : ∃ q, rv = .slice (.mu q) 0 E.length (.opn 0) ∧ H1[q]? = some (.row (flat E) 42 4) := by
        rcases h.rowc with ⟨_, e2⟩ | ⟨q, e1, e2⟩
        · rw [e2] at hjl; simp at hjl
        · exact ⟨q, e1, e2⟩
      have hb2 := hb
      rw [hrv] at hb2
      have hf0 : (flat E)[j * 4]? = some (.int .i64 x.1) := by have h5 := flat_get hx (r := 0) (by omega); rw [Nat.add_zero] at h5; rw [h5]; rfl
      have hca : cntE (E.take (j + 1)) a = cntE (E.take j) a + if x.1 = a then 1 else 0 := by
        rw [List.take_add_one, hx]
        exact cntE_app _ _ _
      have hcl := cntE_le (E.take j) a
      have hcl2 : (E.take j).length ≤ j := by rw [List.length_take]; omega
      by_cases hxa : x.1 = a
      · rw [if_pos hxa] at hca
        have hw2 := i64_small (16 - (cntE (E.take j) a : Int) - 1) (by omega) (by omega)
        simp [h0, h1, h6, h5, hjl, hjl', hb2, eqEv, hq, hf0, hxa, hw1, hw2]
        exact ⟨⟨j + 1, by simp, by rw [hca]; simp; omega, by omega⟩, by omega⟩
      · rw [if_neg hxa] at hca
        simp [h0, h1, h6, h5, hjl, hjl', hb2, eqEv, hq, hf0, hxa, hw1]
        exact ⟨⟨j + 1, by simp, by rw [hca]; simp, by omega⟩, by omega⟩
    · obtain rfl : j = E.length := by omega
      rw [List.take_length] at h5
      have hnl : ¬ (E.length : Int) < 0 := by omega
      rcases h.rowc with ⟨rfl, rfl⟩ | ⟨q, rfl, hq⟩
      · simp at h6 h5
        simp [h0, h1, h6, h5, hb, eqEv, roomF, hl]
      · simp [h0, h1, h6, h5, hb, eqEv, roomF, hl]
set_option maxHeartbeats 4000000 in
theorem rseen_at (h : WAt H w tv rv E) (ht : ∀ H, TabIn R H tv T) (hsq : SqT T) (hE : E.length ≤ 1000) (a : Int) :
    ACalls Tryd.prog R 20 [.ptr (.mu w) 0, .int .i64 a] H fun v H' => RowOwn H H' v (seenF (upT T) E a).length 4 42 (flat (seenF (upT T) E a)) := by
  refine ACalls.of_wpE Fns.ok20 (by simp [Fns.a20]) ?_
  simp [Fns.a20]
  refine AWp.loop (fun e H1 => e 0 = .ptr (.mu w) 0 ∧ e 1 = .int .i64 a ∧ ∃ j : Nat, e 6 = .int .i64 j ∧ j ≤ E.length ∧ RowOwn H H1 (e 5) (seenF (upT T) (E.take j) a).length 4 42 (flat (seenF (upT T) (E.take j) a)))
    (fun e _ => match e 6 with | .int _ i => ((E.length : Int) - i).toNat | _ => 0) ⟨rfl, rfl, 0, rfl, by omega, by simpa [seenF, flat] using RowOwn.nil H 4 42⟩ ?_
  rintro e H1 ⟨h0, h1, j, h9, hj, hrow⟩
  refine wpE_sound _ ?_
  have hG1 := h.keeps hrow.keeps
  by_cases hjl : j < E.length
  · have hjl' : (j : Int) < (E.length : Int) := by omega
    have hw1 := i64_small ((j : Int) + 1) (by omega) (by omega)
    obtain ⟨x, hx⟩ : ∃ x, E[j]? = some x := ⟨_, List.getElem?_eq_getElem hjl⟩
    have hb := hG1.box
    have hsu := seenF_succ (upT T) a hx
    have hfl := flat_len E
    have hf0 : (flat E)[j * 4]? = some (.int .i64 x.1) := by have h5 := flat_get hx (r := 0) (by omega); rw [Nat.add_zero] at h5; rw [h5]; rfl
    have hf := flat_at hx
    have hsl := seenF_le (upT T) (E.take j) a
    have htl : (E.take j).length ≤ j := by rw [List.length_take]; omega
    obtain ⟨q, hrv, hq⟩ : ∃ q, rv = .slice (.mu q) 0 E.length (.opn 0) ∧ H1[q]? = some (.row (flat E) 42 4) := by
      rcases hG1.rowc with ⟨_, e2⟩ | ⟨q, e1, e2⟩
      · rw [e2] at hjl; simp at hjl
      · exact ⟨q, e1, e2⟩
    rw [hrv] at hb
    simp [h0, h1, h9, hjl, hjl', hb]
    refine AWp.sched [0, 1, 2, 3, 4, 5, 6, 7, 8, 9, 10, 11, 12, 13] Fns.mixed (by decide +kernel) ?_
    simp [h0, h1, h9, hjl, hjl', hb, hq, hf0]
    refine (rbelow_ok (ht _) hsq _ _).mono ?_
    rintro v H2 ⟨rfl, rfl⟩
    rw [tbI_bel]
    cases hbb : bel (upT T) x.1 a with
    | false =>
      rw [hbb] at hsu
      simp at hsu
      simp [h0, h1, h9, hw1, recheck]
      exact ⟨⟨j + 1, by simp, by omega, by rw [hsu]; exact hrow⟩, by omega⟩
    | true =>
      rw [hbb] at hsu
      simp at hsu
      obtain ⟨G, hG, hrow2, _, _⟩ := hrow.push (R := R) (by' := 40) (t' := 42) (new := cellsE x) (by omega) (by omega) (by omega) (by simp [cellsE, AV.oneCell]) rfl (.known 1)
      have hf4 : (List.take 4 (List.drop (j * 4) (flat E))) = cellsE x := hf
      simp only [cellsE] at hG hf4
      have hfi : j * 4 + 4 ≤ E.length * 4 := by omega
      simp [h0, h1, h9, hw1, hjl, hjl', hb, hq, hf4, hfl, hfi, fillA, splice, zerosEv, AV.oneCell, hG, recheck]
      exact ⟨⟨j + 1, by simp, by omega, by rw [hsu, flat_app, flat_one]; simpa using hrow2⟩, by omega⟩
  · obtain rfl : j = E.length := by omega
    rw [List.take_length] at hrow
    have hb := hG1.box
    rcases hG1.rowc with ⟨e1, e2⟩ | ⟨q, e1, hq⟩
    · rw [e1] at hb
      have hE0 : E.length = 0 := by rw [e2]; rfl
      rw [hE0] at h9
      simp [h0, h1, h9, hb]
      exact hrow
    · rw [e1] at hb
      simp [h0, h1, h9, hb]
      exact hrow
end Go.Proofs.YtkcddlpmekejkaaDoor.Au
