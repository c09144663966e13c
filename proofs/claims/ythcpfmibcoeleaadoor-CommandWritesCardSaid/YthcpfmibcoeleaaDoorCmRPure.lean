/- The document's words of a line: what its code computes. -/
import Derived.Test.YthcpfmibcoeleaaDoorCmDots
import Derived.Test.YthcpfmibcoeleaaDoorCmTakes
namespace Go.Proofs.YthcpfmibcoeleaaDoor.Cm
open Go Go.RowKit Am Go.Proofs.YthcpfmibcoeleaaDoor.Id
set_option maxRecDepth 100000
set_option linter.unusedSimpArgs false
set_option linter.unusedVariables false
attribute [-simp] Am.binEv Am.intBin Am.read1
attribute [local simp] binEv_lss binEv_leq binEv_gtr binEv_geq binEv_eql binEv_neq binEv_add binEv_sub binEv_mul binEv_shr58 read1_ro read1_mu binEv_seql binEv_sneq
variable {R : Ro}
def strV (l : List (List UInt8)) : List AV := l.map .str
/-- How many cuts there may be. -/
def cutsOf (most : Int) (s : List UInt8) : Nat := if most < 1 then s.length + 1 else (most - 1).toNat
theorem blank_drop {s : List UInt8} {a i : Nat} (h : ∀ j, a ≤ j → j < i → s[j]? ≠ some 32) (hai : a ≤ i) (hi : i < s.length) (hb : s[i]? = some 32) : s.drop a = (s.take i).drop a ++ 32 :: s.drop (i + 1) ∧ ∀ b ∈ (s.take i).drop a, b ≠ 32 := by
  constructor
  · have h1 : s = s.take i ++ 32 :: s.drop (i + 1) := by
      obtain ⟨h, e⟩ := List.getElem?_eq_some_iff.1 hb
      rw [← e, ← List.drop_eq_getElem_cons h, List.take_append_drop]
    conv => lhs; rw [h1]
    rw [List.drop_append_of_le_length (by rw [List.length_take]; omega)]
  · intro b hb2 e
    obtain ⟨k, hk⟩ := List.mem_iff_getElem?.1 hb2
    rw [List.getElem?_drop] at hk
    have hlt := (List.getElem?_eq_some_iff.1 hk).1
    rw [List.length_take] at hlt
    rw [List.getElem?_take_of_lt (by omega)] at hk
    exact h (a + k) (by omega) (by omega) (by rw [hk, e])
theorem blank_none {s : List UInt8} {a : Nat} (h : ∀ j, a ≤ j → j < s.length → s[j]? ≠ some 32) : ∀ b ∈ s.drop a, b ≠ 32 := by
  intro b hb e
  obtain ⟨k, hk⟩ := List.mem_iff_getElem?.1 hb
  rw [List.getElem?_drop] at hk
  exact h (a + k) (by omega) (List.getElem?_eq_some_iff.1 hk).1 (by rw [hk, e])
set_option maxHeartbeats 4000000 in
theorem rwords (s : List UInt8) (hs : s.length ≤ 2000) (most : Int) (hm : 0 ≤ most ∧ most ≤ 100) (H : AH) : ACalls Tryd.prog R 25 [.str s, .int .i64 most] H fun v H' =>
    RowOwn H H' v (wW (cutsOf most s) s).length 1 9 (strV (wW (cutsOf most s) s)) := by
  refine ACalls.of_wpE Fns.ok25 (by simp [Fns.a25]) ?_
  simp [Fns.a25]
  obtain ⟨K, hK⟩ : ∃ K, cutsOf most s = K := ⟨_, rfl⟩
  rw [hK]
  obtain ⟨W, hW⟩ : ∃ W, wW K s = W := ⟨_, rfl⟩
  rw [hW]
  refine AWp.loop (fun e H1 => e 0 = .str s ∧ e 1 = .int .i64 most ∧ ∃ (i a : Nat) (O : List (List UInt8)), e 7 = .int .i64 i ∧ e 6 = .int .i64 a ∧ i ≤ s.length ∧ a ≤ i ∧ O.length ≤ a ∧ RowOwn H H1 (e 5) O.length 1 9 (strV O) ∧
      O.length ≤ K ∧ W = O ++ wW (K - O.length) (s.drop a) ∧ (O.length < K → ∀ j, a ≤ j → j < i → s[j]? ≠ some 32))
    (fun e _ => match e 7 with | .int _ i => ((s.length : Int) - i).toNat | _ => 0)
    ⟨by simp, by simp, 0, 0, [], by simp, by simp, by omega, by omega, by simp, by simpa [strV] using RowOwn.nil H 1 9, by simp, by simp [hW], fun _ j h1 h2 => by omega⟩ ?_
  rintro e H1 ⟨h0, h1, i, a, O, h7, h6, hi, hai, hOa, hrow, hOK, hWO, hnb⟩
  refine wpE_sound _ ?_
  have hrv : ∃ v5, e 5 = v5 := ⟨_, rfl⟩
  obtain ⟨v5, h5⟩ := hrv
  rw [h5] at hrow
  by_cases hl : i < s.length
  · have hl' : (i : Int) < (s.length : Int) := by omega
    have hw1 : IntKind.i64.wrap ((i : Int) + 1) = (i : Int) + 1 := i64_ok _ (by omega) (by omega)
    have hw2 : IntKind.i64.wrap (most - 1) = most - 1 := i64_ok _ (by omega) (by omega)
    obtain ⟨b, hb⟩ : ∃ b, s[i]? = some b := ⟨_, List.getElem?_eq_getElem hl⟩
    have hb' : ∀ h, s[i]'h = b := fun h => by rw [List.getElem?_eq_getElem h] at hb; exact Option.some.inj hb
    by_cases h32 : b = 32
    · have hbi : (b.toNat : Int) = 32 := by rw [h32]; rfl
      have hcut : ∀ (v : AV) (H2 : AH), O.length < K → RowOwn H H2 v (O.length + 1) 1 9 (strV O ++ [.str ((s.take i).drop a)]) →
          ∃ (O' : List (List UInt8)), O'.length ≤ i + 1 ∧ RowOwn H H2 v O'.length 1 9 (strV O') ∧ O'.length ≤ K ∧ W = O' ++ wW (K - O'.length) (s.drop (i + 1)) := by
        intro v H2 hOK2 hr
        obtain ⟨g1, g2⟩ := blank_drop (hnb hOK2) hai hl (by rw [hb, h32])
        refine ⟨O ++ [(s.take i).drop a], by simp; omega, ?_, by simp; omega, ?_⟩
        · rw [show (O ++ [(s.take i).drop a]).length = O.length + 1 by simp, show strV (O ++ [(s.take i).drop a]) = strV O ++ [.str ((s.take i).drop a)] by simp [strV]]
          exact hr
        · rw [hWO, g1]
          obtain ⟨k, hk⟩ : ∃ k, K - O.length = k + 1 := ⟨K - O.length - 1, by omega⟩
          rw [hk, wW_hit g2, show K - (O ++ [(s.take i).drop a]).length = k by simp; omega]
          simp
      obtain ⟨G, hG, hrow2, _, _⟩ := hrow.push (R := R) (by' := 16) (t' := 9) (new := [.str ((s.take i).drop a)]) (by omega) (by omega) (by omega) (by simp [AV.oneCell]) rfl (.known 1)
      have b1 : (i : Int) ≤ (s.length : Int) := by omega
      have b2 : (a : Int) ≤ (i : Int) := by omega
      have hmeas : ((s.length : Int) - ((i : Int) + 1)).toNat < ((s.length : Int) - i).toNat := by omega
      by_cases hm1 : most < 1
      · have hlt : O.length < K := by rw [← hK]; unfold cutsOf; rw [if_pos hm1]; omega
        simp [h0, h1, h5, h6, h7, hl, hl', hb', hbi, hw1, hw2, hm1, boundEv, b1, b2, fillA, splice, zerosEv, AV.oneCell, hG]
        obtain ⟨O', c1, c2, c3, c4⟩ := hcut _ _ hlt hrow2
        exact ⟨⟨i + 1, by omega, i + 1, by omega, by omega, by omega, O', c1, c2, c3, c4, fun _ j h1 h2 => by omega⟩, by omega⟩
      · by_cases hlt : O.length < K
        · have hlt' : (O.length : Int) < most - 1 := by rw [← hK] at hlt; unfold cutsOf at hlt; rw [if_neg hm1] at hlt; omega
          rcases hrow.row with ⟨e5, hO0, _⟩ | ⟨j5, e5, _, _⟩
          · have hlt0 : (1 : Int) < most := by omega
            subst e5
            simp [h0, h1, h5, h6, h7, hl, hl', hb', hbi, hw1, hw2, hm1, hlt0, boundEv, b1, b2, fillA, splice, zerosEv, AV.oneCell, hG]
            obtain ⟨O', c1, c2, c3, c4⟩ := hcut _ _ hlt hrow2
            exact ⟨⟨i + 1, by omega, i + 1, by omega, by omega, by omega, O', c1, c2, c3, c4, fun _ j h1 h2 => by omega⟩, by omega⟩
          · subst e5
            simp [h0, h1, h5, h6, h7, hl, hl', hb', hbi, hw1, hw2, hm1, hlt', boundEv, b1, b2, fillA, splice, zerosEv, AV.oneCell, hG]
            obtain ⟨O', c1, c2, c3, c4⟩ := hcut _ _ hlt hrow2
            exact ⟨⟨i + 1, by omega, i + 1, by omega, by omega, by omega, O', c1, c2, c3, c4, fun _ j h1 h2 => by omega⟩, by omega⟩
        · have hlt' : ¬ (O.length : Int) < most - 1 := by rw [← hK] at hlt; unfold cutsOf at hlt; rw [if_neg hm1] at hlt; omega
          rcases hrow.row with ⟨e5, hO0, _⟩ | ⟨j5, e5, _, _⟩
          · have hlt0 : ¬ (1 : Int) < most := by omega
            simp [h0, h1, h5, e5, h6, h7, hl, hl', hb', hbi, hw1, hw2, hm1, hlt0]
            have hrow' := hrow
            rw [e5] at hrow'
            exact ⟨⟨i + 1, by omega, a, rfl, by omega, by omega, O, hOa, hrow', hOK, hWO, fun h j _ _ => absurd h hlt⟩, by omega⟩
          · simp [h0, h1, h5, e5, h6, h7, hl, hl', hb', hbi, hw1, hw2, hm1, hlt']
            have hrow' := hrow
            rw [e5] at hrow'
            exact ⟨⟨i + 1, by omega, a, rfl, by omega, by omega, O, hOa, hrow', hOK, hWO, fun h j _ _ => absurd h hlt⟩, by omega⟩
    · have hbi : ¬ (b.toNat : Int) = 32 := fun e => h32 (by
        have e2 : b.toNat = 32 := by omega
        rw [← UInt8.ofNat_toNat (x := b), e2]; rfl)
      simp [h0, h1, h5, h6, h7, hl, hl', hb', hbi, hw1]
      refine ⟨⟨i + 1, by omega, a, rfl, by omega, by omega, O, hOa, hrow, hOK, hWO, fun h j h1 h2 => ?_⟩, by omega⟩
      by_cases hj : j = i
      · rw [hj, hb]; intro e; exact h32 (Option.some.inj e)
      · exact hnb h j h1 (by omega)
  · obtain rfl : i = s.length := by omega
    have hlast : W = O ++ [s.drop a] := by
      rw [hWO]
      by_cases hlt : O.length < K
      · rw [wW_none (blank_none (hnb hlt))]
      · rw [show K - O.length = 0 by omega]; rfl
    obtain ⟨G, hG, hrow2, _, _⟩ := hrow.push (R := R) (by' := 16) (t' := 9) (new := [.str (s.drop a)]) (by omega) (by omega) (by omega) (by simp [AV.oneCell]) rfl (.known 1)
    have b2 : (a : Int) ≤ (s.length : Int) := by omega
    simp [h0, h1, h5, h6, h7, boundEv, b2, fillA, splice, zerosEv, AV.oneCell, hG]
    rw [hlast, show (O ++ [s.drop a]).length = O.length + 1 by simp, show strV (O ++ [s.drop a]) = strV O ++ [.str (s.drop a)] by simp [strV]]
    exact hrow2
end Go.Proofs.YthcpfmibcoeleaaDoor.Cm
namespace Go.Proofs.YthcpfmibcoeleaaDoor.Cm
open Go Go.RowKit Am Go.Proofs.YthcpfmibcoeleaaDoor.Id
set_option linter.unusedSimpArgs false
set_option linter.unusedVariables false
theorem form_text {s form : List UInt8} (h : formOf s = some form) : ∀ b ∈ form.dropLast, b ≠ 116 := by
  have key : ∀ tb : Table, (tb.all fun p => p.2.dropLast.all fun b => !decide (b = 116)) = true → lookP s tb = some form → form.dropLast.all (fun b => !decide (b = 116)) = true := by
    intro tb
    induction tb with
    | nil => intro _ h; cases h
    | cons p tb ih =>
      intro ha h
      rw [List.all_cons, Bool.and_eq_true] at ha
      unfold lookP at h
      split at h
      · cases h; exact ha.1
      · exact ih ha.2 h
  have h2 := key Fns.table (by decide +kernel) h
  intro b hb
  have := List.all_eq_true.1 h2 b hb
  simpa using this
/-- How many words there may be. -/
def mostOf (form : List UInt8) : Int := if form.getLast? = some 116 then form.length + 1 else 0
theorem parse_words {line form : List UInt8} (hf : ∀ b ∈ form.dropLast, b ≠ 116) : ∃ ws, wW (cutsOf (mostOf form) line) line = (cutB line).1 :: ws ∧
    loopF form (named (cutB line).1) (cutB line).2.1 (cutB line).2.2 = stepsF form ws (named (cutB line).1) := by
  have hK : ∃ k, cutsOf (mostOf form) line = k + 1 := by
    unfold cutsOf mostOf
    by_cases h : form.getLast? = some 116
    · rw [if_pos h]
      have : form ≠ [] := by rintro rfl; simp at h
      have hl : 1 ≤ form.length := by cases form with | nil => exact absurd rfl this | cons a b => simp
      rw [if_neg (by omega)]
      exact ⟨form.length - 1, by omega⟩
    · rw [if_neg h, if_pos (by omega)]
      exact ⟨_, rfl⟩
  obtain ⟨k, hk⟩ := hK
  rw [hk]
  rcases blank_cases line with h | ⟨x, r, rfl, h⟩
  · rw [wW_none h, cutB_miss h]
    refine ⟨[], rfl, ?_⟩
    cases form with
    | nil => rfl
    | cons f fs => rfl
  · rw [wW_hit h, cutB_hit h]
    refine ⟨wW k r, rfl, ?_⟩
    dsimp only
    by_cases hg : form.getLast? = some 116
    · have hne : form ≠ [] := by rintro rfl; simp at hg
      have hd : form = form.dropLast ++ [116] := by
        have h1 := List.dropLast_concat_getLast hne
        rw [List.getLast?_eq_some_getLast hne] at hg
        rw [Option.some.inj hg] at h1
        exact h1.symm
      have hkl : k = form.dropLast.length := by
        unfold cutsOf mostOf at hk
        rw [if_pos hg] at hk
        have hl : 1 ≤ form.length := by cases form with | nil => exact absurd rfl hne | cons a b => simp
        rw [if_neg (by omega)] at hk
        rw [List.length_dropLast]
        omega
      rw [hkl]
      conv => lhs; rw [hd]
      conv => rhs; rw [hd]
      have := loop_text form.dropLast (named x) r hf
      simpa using this
    · have hall : ∀ b ∈ form, b ≠ 116 := by
        intro b hb e
        cases hfm : form with
        | nil => rw [hfm] at hb; cases hb
        | cons f fs =>
          have hne : form ≠ [] := by rw [hfm]; simp
          have h1 := List.dropLast_concat_getLast hne
          rw [← h1] at hb
          rcases List.mem_append.1 hb with hb | hb
          · exact hf b hb e
          · simp at hb
            exact hg (by rw [List.getLast?_eq_some_getLast hne, ← hb, e])
      have hkl : r.length ≤ k := by
        unfold cutsOf mostOf at hk
        rw [if_neg hg, if_pos (by omega)] at hk
        simp at hk
        omega
      rw [loop_plain form (named x) r k hall hkl]
      cases form with
      | nil =>
        cases hw : wW k r with
        | nil => exact absurd hw (wW_ne k r)
        | cons y ys => rfl
      | cons f fs => rfl
/-- The document's step is the program's. -/
theorem step_num (w : List UInt8) (c : Cmd) : stepF 110 w c = (match numR w with
    | some n => if -9999 ≤ n ∧ n ≤ 9999 then some { c with nums := c.nums ++ [n] } else none
    | none => none) := by
  have hi := numF_iff w
  unfold stepF
  rw [if_neg (by decide), if_pos rfl]
  cases hn : numR w with
  | none =>
    cases hF : numF w with
    | none => rfl
    | some n => have := (hi n).1 hF; rw [hn] at this; cases this.1
  | some n =>
    dsimp only
    by_cases hb : -9999 ≤ n ∧ n ≤ 9999
    · rw [if_pos hb, (hi n).2 ⟨hn, hb⟩]
    · rw [if_neg hb]
      cases hF : numF w with
      | none => rfl
      | some m =>
        have := (hi m).1 hF
        rw [hn] at this
        obtain ⟨e, h1⟩ := this
        cases e
        exact absurd h1 hb
theorem step_label (w : List UInt8) (c : Cmd) : stepF 108 w c = (match numR w with
    | some n => if 0 ≤ n ∧ n ≤ 63 then some { c with nums := c.nums ++ [n] } else none
    | none => none) := by
  have hi := numF_iff w
  unfold stepF
  rw [if_pos rfl]
  cases hn : numR w with
  | none =>
    cases hF : numF w with
    | none => rfl
    | some n => have := (hi n).1 hF; rw [hn] at this; cases this.1
  | some n =>
    dsimp only
    by_cases hb : 0 ≤ n ∧ n ≤ 63
    · rw [if_pos hb, (hi n).2 ⟨hn, by omega, by omega⟩]
      dsimp only
      rw [if_pos (by omega)]
    · rw [if_neg hb]
      cases hF : numF w with
      | none => rfl
      | some m =>
        have := (hi m).1 hF
        rw [hn] at this
        obtain ⟨e, h1⟩ := this
        cases e
        dsimp only
        rw [if_neg (by omega)]
theorem step_pane (w : List UInt8) (c : Cmd) : stepF 112 w c = (match paneR w with
    | some p => some { c with pane := p }
    | none => none) := by
  unfold stepF
  rw [if_neg (by decide), if_neg (by decide), if_pos rfl, pane_eq]
  cases paneR w <;> rfl
theorem step_text (w : List UInt8) (c : Cmd) : stepF 116 w c = if fineF w then some { c with text := w } else none := by
  unfold stepF
  rw [if_neg (by decide), if_neg (by decide), if_neg (by decide)]
end Go.Proofs.YthcpfmibcoeleaaDoor.Cm
