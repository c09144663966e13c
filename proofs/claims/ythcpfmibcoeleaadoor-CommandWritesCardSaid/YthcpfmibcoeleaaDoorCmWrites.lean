/- Whether a command may be, its line, whether two are alike, and a name's form, is the document's: what the law's code computes. -/
import Derived.Test.YthcpfmibcoeleaaDoorCmRLine
import Derived.Test.YthcpfmibcoeleaaDoorCmRLine
import Derived.Test.YthcpfmibcoeleaaDoorCmBack
namespace Go.Proofs.YthcpfmibcoeleaaDoor.Cm
open Go Go.RowKit Am Go.Proofs.YthcpfmibcoeleaaDoor.Id
set_option maxRecDepth 100000
set_option linter.unusedSimpArgs false
set_option linter.unusedVariables false
attribute [-simp] Am.binEv Am.intBin Am.read1
attribute [local simp] binEv_lss binEv_leq binEv_gtr binEv_geq binEv_eql binEv_neq binEv_add binEv_sub binEv_mul binEv_shr58 read1_mu binEv_seql binEv_sneq
variable {R : Ro}
theorem rform (s : List UInt8) (H : AH) : ACalls Tryd.prog R 19 [.str s] H fun v H' => H' = H ∧ v = lookV Fns.table s := by
  unfold lookV
  cases h : lookP s Fns.table with
  | none => exact rform_none h H
  | some f => exact rform_some h H
def wC : AC := Fns.a4.body.snd.fst
def wG : AC := Fns.a4.body.snd.snd.fst
def wRt : AC := Fns.a4.body.snd.snd.snd.fst
def wL : AC := Fns.a4.body.snd.snd.snd.snd.fst
def wK : AC := Fns.a4.body.snd.snd.snd.snd.snd.fst
def wR : AC := Fns.a4.body.snd.snd.snd.snd.snd.snd
theorem body4 : Fns.a4.body = .seq Fns.a4.body.fst (.seq wC (.seq wG (.seq wRt (.seq wL (.seq wK wR))))) := rfl
/-- Where the two commands lie, and the first as the document's. -/
structure WAt (H : AH) (c d : Cmd) (nv mv : AV) : Prop where
  a : H[0]? = some (.cells (cellsC c nv) 27)
  b : H[1]? = some (.cells (cellsC d mv) 27)
theorem WAt.keep {H H' : AH} {c d : Cmd} {nv mv : AV} (h : WAt H c d nv mv) (hk : Keeps H H') : WAt H' c d nv mv :=
  ⟨by rw [hk.2 0 (List.getElem?_eq_some_iff.1 h.a).1]; exact h.a, by rw [hk.2 1 (List.getElem?_eq_some_iff.1 h.b).1]; exact h.b⟩
set_option maxHeartbeats 16000000 in
theorem law_writes (L : Lc R) (haw : ∀ H, ACalls Tryd.prog R 9 [] H fun v H' => H' = H ∧ v = .bool true) {c d : Cmd} {nv mv : AV} (hr : RdS R [] nv c.nums) (hb : ∀ n ∈ c.nums, -9223372036854775808 ≤ n ∧ n ≤ 9223372036854775807) (hr2 : RdS R [] mv d.nums) :
    ACalls Tryd.prog R 4 [.agg (cellsC c nv), .agg (cellsC d mv)] [] fun v _ => v = .bool true := by
  refine ACalls.of_body Fns.ok4 (by simp [Fns.a4]) ?_
  have oc := one_cells (c := c) hr.rd.one
  have oc' : ∀ x ∈ cellsC c nv, x.oneCell = true := List.all_eq_true.1 oc
  have od := one_cells (c := d) hr2.rd.one
  have od' : ∀ x ∈ cellsC d mv, x.oneCell = true := List.all_eq_true.1 od
  have hlen6 : ∀ c nv, (cellsC c nv).length = 6 := fun _ _ => rfl
  have ht6 : ∀ c nv, (cellsC c nv).take 6 = cellsC c nv := fun _ _ => rfl
  rw [body4]
  refine AWp.seq (wpE_sound _ ?_)
  simp [Fns.a4, AC.fst, AC.snd, oc, oc', od, od']
  refine AWp.seq (AWp.mono (Q := fun ex e H1 => (ex = .ret ∧ e 4 = .bool true) ∨ (ex = .normal ∧ WAt H1 c d nv mv ∧ e 2 = .ptr (.mu 0) 0 ∧ e 3 = .ptr (.mu 1) 0 ∧ c.nums.length ≤ 20 ∧ d.nums.length ≤ 20 ∧ c.text.length ≤ 300 ∧ c.name.length ≤ 300)) (wpE_sound _ ?_) ?_)
  · have hW : WAt [.cells (cellsC c nv) 27, .cells (cellsC d mv) 27] c d nv mv := ⟨rfl, rfl⟩
    have hnl : (nv = .nilslice ∧ c.nums = []) ∨ ∃ j off cp, nv = .slice j off c.nums.length cp := by
      rcases hr.rd with h | ⟨j, off, cp, h, _⟩
      · exact .inl h
      · exact .inr ⟨_, _, _, h⟩
    have hml : (mv = .nilslice ∧ d.nums = []) ∨ ∃ j off cp, mv = .slice j off d.nums.length cp := by
      rcases hr2.rd with h | ⟨j, off, cp, h, _⟩
      · exact .inl h
      · exact .inr ⟨_, _, _, h⟩
    simp only [cellsC] at hW ⊢
    by_cases k1 : c.nums.length ≤ 20
    · have k1' : ¬ (20 : Int) < (c.nums.length : Int) := by omega
      by_cases k2 : d.nums.length ≤ 20
      · have k2' : ¬ (20 : Int) < (d.nums.length : Int) := by omega
        by_cases k3 : c.text.length ≤ 300
        · have k3' : ¬ (300 : Int) < (c.text.length : Int) := by omega
          by_cases k4 : c.name.length ≤ 300
          · have k4' : ¬ (300 : Int) < (c.name.length : Int) := by omega
            rcases hnl with ⟨rfl, hn0⟩ | ⟨j, off, cp, rfl⟩ <;> rcases hml with ⟨rfl, hm0⟩ | ⟨j2, off2, cp2, rfl⟩ <;> simp [wC, Fns.a4, AC.fst, AC.snd, k1', k2', k3', k4', k1, k2, k3, k4, hW]
          · have k4' : (300 : Int) < (c.name.length : Int) := by omega
            rcases hnl with ⟨rfl, hn0⟩ | ⟨j, off, cp, rfl⟩ <;> rcases hml with ⟨rfl, hm0⟩ | ⟨j2, off2, cp2, rfl⟩ <;> (simp [wC, Fns.a4, AC.fst, AC.snd, k1', k2', k3', k4']; refine (haw _).mono ?_; rintro v H2 ⟨rfl, rfl⟩; simp)
        · have k3' : (300 : Int) < (c.text.length : Int) := by omega
          rcases hnl with ⟨rfl, hn0⟩ | ⟨j, off, cp, rfl⟩ <;> rcases hml with ⟨rfl, hm0⟩ | ⟨j2, off2, cp2, rfl⟩ <;> (simp [wC, Fns.a4, AC.fst, AC.snd, k1', k2', k3']; refine (haw _).mono ?_; rintro v H2 ⟨rfl, rfl⟩; simp)
      · have k2' : (20 : Int) < (d.nums.length : Int) := by omega
        rcases hml with ⟨rfl, hm0⟩ | ⟨j2, off2, cp2, rfl⟩
        · rw [hm0] at k2; simp at k2
        · rcases hnl with ⟨rfl, hn0⟩ | ⟨j, off, cp, rfl⟩ <;> (simp [wC, Fns.a4, AC.fst, AC.snd, k1', k2']; refine (haw _).mono ?_; rintro v H2 ⟨rfl, rfl⟩; simp)
    · have k1' : (20 : Int) < (c.nums.length : Int) := by omega
      rcases hnl with ⟨rfl, hn0⟩ | ⟨j, off, cp, rfl⟩
      · rw [hn0] at k1; simp at k1
      · simp [wC, Fns.a4, AC.fst, AC.snd, k1']
        refine (haw _).mono ?_
        rintro v H2 ⟨rfl, rfl⟩
        simp
  · rintro ex e H1 (⟨rfl, h4⟩ | ⟨rfl, hW, h2, h3, k1, k2, k3, k4⟩)
    · simp [h4]
    · have k0 : ∀ G : AH, Keeps [] G := fun G => ⟨by simp, fun i hi => by simp at hi⟩
      have rs : ∀ G : AH, RdS R G nv c.nums := fun G => hr.keep (k0 G)
      have rs2 : ∀ G : AH, RdS R G mv d.nums := fun G => hr2.keep (k0 G)
      refine AWp.seq (wpE_sound _ ?_)
      simp [wG, Fns.a4, AC.fst, AC.snd, h2, hW.a, hlen6, ht6]
      refine (given (hlen6 c nv) oc _).mono ?_
      rintro v H2 ⟨rfl, E, hE⟩
      have kk2 : Keeps H1 H2 := by rw [hE]; exact Keeps.app _ _
      have hwl := writeN_last0 H2 (old := zeros6) (new := cellsC c nv) 31 rfl oc
      simp only [zeros6] at hwl
      obtain ⟨H3, hH3⟩ : ∃ H3, H3 = H2 ++ [AO.cells (cellsC c nv) 31] := ⟨_, rfl⟩
      have kk3 : Keeps H2 H3 := by rw [hH3]; exact Keeps.app _ _
      have W3 : WAt H3 c d nv mv := (hW.keep kk2).keep kk3
      have x3 : H3[H2.length]? = some (.cells (cellsC c nv) 31) := by rw [hH3]; simp
      have xk : ∀ G : AH, Keeps H3 G → G[H2.length]? = some (.cells (cellsC c nv) 31) := fun G hk => by rw [hk.2 _ (List.getElem?_eq_some_iff.1 x3).1]; exact x3
      simp [AV.oneCell, hlen6, hwl, ← hH3]
      refine AWp.seq (wpE_sound _ ?_)
      simp [wRt, Fns.a4, AC.fst, AC.snd, x3, hlen6, ht6]
      refine (rright (rs H3).rd (by omega) (by omega)).mono ?_
      rintro v H4 ⟨kk4, rfl⟩
      have W4 := W3.keep kk4
      simp
      refine AWp.seq (wpE_sound _ ?_)
      simp [wL, Fns.a4, AC.fst, AC.snd, h2, W4.a, hlen6, ht6]
      refine (line L (rs H4) k4 k3 (by omega) hb).mono ?_
      rintro v H5 ⟨kk5, hv5⟩
      obtain ⟨s, ok, rfl⟩ := line_shape hv5
      have W5 := W4.keep kk5
      have K5 : Keeps H3 H5 := kk4.trans kk5
      simp
      refine AWp.seq (AWp.mono (Q := fun ex e H6 => ex = .normal ∧ Keeps H3 H6 ∧ e 2 = .ptr (.mu 0) 0 ∧ e 3 = .ptr (.mu 1) 0 ∧ e 5 = .ptr (.mu H2.length) 0) (wpE_sound _ ?_) ?_)
      · cases hrt : rightF c with
        | true =>
          obtain ⟨s0, hs0⟩ := right_line c hrt
          have hv5' : s = s0 ∧ ok = true := by
            rcases hv5 with ⟨s', h, e⟩ | ⟨h, _⟩
            · cases e; exact ⟨line_one h hs0, rfl⟩
            · exact absurd hs0 (h s0)
          obtain ⟨rfl, rfl⟩ := hv5'
          simp [wK, Fns.a4, AC.fst, AC.snd, h2, W5.a, hlen6, ht6]
          refine (right L (rs H5) k4 k3 (by omega) hb).mono ?_
          rintro v H6 ⟨kk6, s', ok', hl', rfl⟩
          have hok : ok' = true := by
            rcases hl' with ⟨_, _, e⟩ | ⟨h, _⟩
            · cases e; rfl
            · exact absurd hs0 (h s)
          subst hok
          have x6 := xk H6 (K5.trans kk6)
          simp [eqEv, x6, hlen6, ht6, hrt]
          refine (rline hs0 (rs H6).rd (by omega) k4 k3).mono ?_
          rintro v H7 ⟨kk7, rfl⟩
          simp [h2, h3]
          exact (K5.trans kk6).trans kk7
        | false =>
          have hno : ∀ s, ¬ lineOk c s := fun s h => by rw [line_right c s h] at hrt; cases hrt
          have hv5' : s = [] ∧ ok = false := by
            rcases hv5 with ⟨s', h, e⟩ | ⟨_, e⟩
            · exact absurd h (hno s')
            · cases e; exact ⟨rfl, rfl⟩
          obtain ⟨rfl, rfl⟩ := hv5'
          simp [wK, Fns.a4, AC.fst, AC.snd, h2, W5.a, hlen6, ht6]
          refine (right L (rs H5) k4 k3 (by omega) hb).mono ?_
          rintro v H6 ⟨kk6, s', ok', hl', rfl⟩
          have hok : ok' = false := by
            rcases hl' with ⟨s'', h, e⟩ | ⟨_, e⟩
            · exact absurd h (hno s'')
            · cases e; rfl
          subst hok
          simp [eqEv, hrt, h2, h3]
          exact K5.trans kk6
      · rintro ex e2 H6 ⟨rfl, K6, h2, h3, h5⟩
        have W6 := W3.keep K6
        have x6 := xk H6 K6
        refine wpE_sound _ ?_
        have look : ∀ G : AH, Keeps H6 G → G[0]? = some (.cells [.str c.name, nv, .int .i64 c.pane.1, .int .i64 c.pane.2.1, .int .i64 c.pane.2.2, .str c.text] 27) ∧
            G[1]? = some (.cells [.str d.name, mv, .int .i64 d.pane.1, .int .i64 d.pane.2.1, .int .i64 d.pane.2.2, .str d.text] 27) ∧
            G[H2.length]? = some (.cells [.str c.name, nv, .int .i64 c.pane.1, .int .i64 c.pane.2.1, .int .i64 c.pane.2.2, .str c.text] 31) := fun G hk => ⟨(W6.keep hk).a, (W6.keep hk).b, xk G (K6.trans hk)⟩
        obtain ⟨f, b, hlv⟩ : ∃ f b, lookV Fns.table c.name = .tuple [.str f, .bool b] := by
          unfold lookV
          split <;> exact ⟨_, _, rfl⟩
        obtain ⟨a6, b6, c6⟩ := look H6 (Keeps.refl _)
        simp [wR, Fns.a4, AC.fst, AC.snd, h2, a6]
        refine (Fns.form_acalls R c.name _).mono ?_
        rintro v H6 ⟨rfl, rfl⟩
        rw [hlv]
        simp [h2, a6]
        refine (rform c.name _).mono ?_
        rintro v H6 ⟨rfl, rfl⟩
        rw [hlv]
        simp
        refine AWp.sched [0, 1, 2, 3, 4, 5, 6, 7, 8, 9, 10, 12, 13, 11, 14, 15, 16, 17, 18, 19, 20, 21, 22, 23, 24, 25, 26] Fns.mixed (by decide +kernel) ?_
        simp [h2, h3, h5, a6, b6, c6, eqEv]
        refine (same (c := c) (d := d) (rs _).rd (rs2 _).rd (by omega) (by omega)).mono ?_
        rintro v H8 ⟨⟨E8, hE8⟩, rfl⟩
        have k8 : Keeps H6 H8 := by
          rw [hE8]; exact Keeps.app _ _
        obtain ⟨a8, b8, c8⟩ := look H8 k8
        simp [recheck, h2, h3, h5, a8, b8, c8]
        refine (given (hlen6 d mv) od _).mono ?_
        rintro v H9 ⟨rfl, E9, hE9⟩
        have k9 : Keeps H6 H9 := k8.trans (by rw [hE9]; exact Keeps.app _ _)
        obtain ⟨a9, b9, c9⟩ := look H9 k9
        simp [recheck, h2, h3, h5, a9, b9, c9, cellsC]
        refine (rsame (c := c) (d := d) (rs _).rd (rs2 _).rd (by omega) (by omega)).mono ?_
        rintro v H10 ⟨⟨E10, hE10⟩, rfl⟩
        have k10 : Keeps H6 H10 := k9.trans (by rw [hE10]; exact Keeps.app _ _)
        obtain ⟨a10, b10, c10⟩ := look H10 k10
        simp [recheck, h2, h3, h5, a10, b10, c10, eqEv]
        refine (same (c := c) (d := c) (rs _).rd (rs _).rd (by omega) (by omega)).mono ?_
        rintro v H11 ⟨⟨E11, hE11⟩, rfl⟩
        have k11 : Keeps H6 H11 := k10.trans (by rw [hE11]; exact Keeps.app _ _)
        obtain ⟨a11, b11, c11⟩ := look H11 k11
        rw [same_self]
        simp [recheck, h2, h3, h5, a11, b11, c11]
        refine (haw _).mono ?_
        rintro v H12 ⟨rfl, rfl⟩
        simp [recheck, h2, h3, h5, a11, b11, c11]
end Go.Proofs.YthcpfmibcoeleaaDoor.Cm
