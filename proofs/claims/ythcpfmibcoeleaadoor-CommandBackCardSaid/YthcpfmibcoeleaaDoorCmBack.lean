/- Parse of Line is the command, Line of Parse the line: what the law's code computes. -/
import Derived.Test.YthcpfmibcoeleaaDoorCmLine
namespace Go.Proofs.YthcpfmibcoeleaaDoor.Cm
open Go Go.RowKit Am Go.Proofs.YthcpfmibcoeleaaDoor.Id
set_option maxRecDepth 100000
set_option linter.unusedSimpArgs false
set_option linter.unusedVariables false
attribute [-simp] Am.binEv Am.intBin Am.read1
attribute [local simp] binEv_lss binEv_leq binEv_gtr binEv_geq binEv_eql binEv_neq binEv_add binEv_sub binEv_mul binEv_shr58 read1_mu binEv_seql binEv_sneq
variable {R : Ro}
theorem step_len {f : UInt8} {w : List UInt8} {c d : Cmd} (h : stepF f w c = some d) (hc : c.text.length ≤ 300) : d.text.length ≤ 300 := by
  unfold stepF at h
  split at h
  · split at h
    · split at h
      · cases h; exact hc
      · cases h
    · cases h
  · split at h
    · split at h
      · cases h; exact hc
      · cases h
    · split at h
      · split at h
        · cases h; exact hc
        · cases h
      · split at h
        · rename_i hf
          cases h
          unfold fineF at hf
          simp at hf
          show w.length ≤ 300
          omega
        · cases h
theorem loop_len : ∀ (form : List UInt8) (c d : Cmd) (rest : List UInt8) (more : Bool), loopF form c rest more = some d → c.text.length ≤ 300 → d.text.length ≤ 300
  | [], c, d, rest, more, h, hc => by
    unfold loopF at h
    split at h
    · cases h
    · cases h; exact hc
  | f :: fs, c, d, rest, more, h, hc => by
    unfold loopF at h
    split at h
    · split at h
      · split at h
        · rename_i x hx
          exact loop_len fs x d _ _ h (step_len hx hc)
        · cases h
      · split at h
        · rename_i x hx
          exact loop_len fs x d _ _ h (step_len hx hc)
        · cases h
    · cases h
theorem parse_text {line : List UInt8} {d : Cmd} (h : parseF line = .ok d) : d.text.length ≤ 300 := by
  unfold parseF at h
  split at h
  · cases h
  · cases hf : formOf (cutB line).1 with
    | none => rw [hf] at h; cases h
    | some form =>
      rw [hf] at h
      dsimp only at h
      cases hl : loopF form (named (cutB line).1) (cutB line).2.1 (cutB line).2.2 with
      | none => rw [hl] at h; cases h
      | some d' =>
        rw [hl] at h
        cases h
        exact loop_len _ _ _ _ _ hl (by simp [named])
theorem parse_rdS {H H' : AH} {line : List UInt8} {v : AV} (h : ParseP H line v H') : ∃ nv, v = .tuple [.agg (cellsC (cOf (parseF line)) nv), .int .i64 (codeR (parseF line))] ∧ RdS R H' nv (cOf (parseF line)).nums := by
  obtain ⟨_, h⟩ := h
  cases hp : parseF line with
  | ok c =>
    rw [hp] at h
    obtain ⟨nv, rfl, hr, _⟩ := h
    exact ⟨nv, rfl, RdS.of_row hr⟩
  | _ =>
    rw [hp] at h
    exact ⟨.nilslice, h, .inl ⟨rfl, rfl⟩⟩
theorem line_shape {c : Cmd} {v : AV} (h : LineP c v) : ∃ s ok, v = .tuple [.str s, .bool ok] := by
  rcases h with ⟨s, _, rfl⟩ | ⟨_, rfl⟩
  · exact ⟨_, _, rfl⟩
  · exact ⟨_, _, rfl⟩
theorem right (L : Lc R) {c : Cmd} {nv : AV} {H : AH} (hr : RdS R H nv c.nums) (hn : c.name.length ≤ 300) (ht : c.text.length ≤ 300) (hnl : c.nums.length ≤ 1000) (hb : ∀ n ∈ c.nums, -9223372036854775808 ≤ n ∧ n ≤ 9223372036854775807) :
    ACalls Tryd.prog R 16 [.agg (cellsC c nv)] H fun v H' => Keeps H H' ∧ ∃ s ok, LineP c (.tuple [.str s, .bool ok]) ∧ v = .bool ok := by
  refine ACalls.of_wpE Fns.ok16 (by simp [Fns.a16]) ?_
  have oc := one_cells (c := c) hr.rd.one
  have oc' : ∀ x ∈ cellsC c nv, x.oneCell = true := List.all_eq_true.1 oc
  have hlen6 : (cellsC c nv).length = 6 := rfl
  have ht6 : (cellsC c nv).take 6 = cellsC c nv := rfl
  simp [Fns.a16, oc, oc', hlen6, ht6]
  refine (line L (hr.keep (Keeps.app H _)) hn ht hnl hb).mono ?_
  rintro v H2 ⟨hk, hv⟩
  obtain ⟨s, ok, rfl⟩ := line_shape hv
  simp
  refine ⟨(Keeps.app H _).trans hk, s, ?_⟩
  cases ok
  · exact .inl ⟨hv, rfl⟩
  · exact .inr ⟨hv, rfl⟩
def bC : AC := Fns.a5.body.snd.fst
def bL : AC := Fns.a5.body.snd.snd.fst
def bK : AC := Fns.a5.body.snd.snd.snd.fst
def bR : AC := Fns.a5.body.snd.snd.snd.snd
theorem body5 : Fns.a5.body = .seq Fns.a5.body.fst (.seq bC (.seq bL (.seq bK bR))) := rfl
set_option maxHeartbeats 8000000 in
theorem law_back (L : Lc R) (haw : ∀ H, ACalls Tryd.prog R 9 [] H fun v H' => H' = H ∧ v = .bool true) {c : Cmd} {nv : AV} (hr : RdS R [] nv c.nums) (hb : ∀ n ∈ c.nums, -9223372036854775808 ≤ n ∧ n ≤ 9223372036854775807) (ln : List UInt8) :
    ACalls Tryd.prog R 5 [.agg (cellsC c nv), .str ln] [] fun v _ => v = .bool true := by
  refine ACalls.of_body Fns.ok5 (by simp [Fns.a5]) ?_
  have oc := one_cells (c := c) hr.rd.one
  have oc' : ∀ x ∈ cellsC c nv, x.oneCell = true := List.all_eq_true.1 oc
  have hlen6 : ∀ c nv, (cellsC c nv).length = 6 := fun _ _ => rfl
  have ht6 : ∀ c nv, (cellsC c nv).take 6 = cellsC c nv := fun _ _ => rfl
  rw [body5]
  refine AWp.seq (wpE_sound _ ?_)
  simp [Fns.a5, AC.fst, AC.snd, oc, oc']
  refine AWp.seq (AWp.mono (Q := fun ex e H1 => (ex = .ret ∧ e 4 = .bool true) ∨ (ex = .normal ∧ H1 = [.cells (cellsC c nv) 27] ∧ e 1 = .str ln ∧ e 2 = .ptr (.mu 0) 0 ∧ c.nums.length ≤ 20 ∧ c.text.length ≤ 300 ∧ c.name.length ≤ 300 ∧ ln.length ≤ 1000)) (wpE_sound _ ?_) ?_)
  · have hnl : (nv = .nilslice ∧ c.nums = []) ∨ ∃ j off cp, nv = .slice j off c.nums.length cp := by
      rcases hr.rd with h | ⟨j, off, cp, h, _⟩
      · exact .inl h
      · exact .inr ⟨_, _, _, h⟩
    by_cases k1 : c.nums.length ≤ 20
    · have k1' : ¬ (20 : Int) < (c.nums.length : Int) := by omega
      by_cases k2 : c.text.length ≤ 300
      · have k2' : ¬ (300 : Int) < (c.text.length : Int) := by omega
        by_cases k3 : c.name.length ≤ 300
        · have k3' : ¬ (300 : Int) < (c.name.length : Int) := by omega
          by_cases k4 : ln.length ≤ 1000
          · have k4' : ¬ (1000 : Int) < (ln.length : Int) := by omega
            rcases hnl with ⟨rfl, hn0⟩ | ⟨j, off, cp, rfl⟩ <;> simp [bC, Fns.a5, AC.fst, AC.snd, cellsC, k1', k2', k3', k4', k1, k2, k3, k4]
          · have k4' : (1000 : Int) < (ln.length : Int) := by omega
            rcases hnl with ⟨rfl, hn0⟩ | ⟨j, off, cp, rfl⟩ <;> (simp [bC, Fns.a5, AC.fst, AC.snd, cellsC, k1', k2', k3', k4']; refine (haw _).mono ?_; rintro v H2 ⟨rfl, rfl⟩; simp)
        · have k3' : (300 : Int) < (c.name.length : Int) := by omega
          rcases hnl with ⟨rfl, hn0⟩ | ⟨j, off, cp, rfl⟩ <;> (simp [bC, Fns.a5, AC.fst, AC.snd, cellsC, k1', k2', k3']; refine (haw _).mono ?_; rintro v H2 ⟨rfl, rfl⟩; simp)
      · have k2' : (300 : Int) < (c.text.length : Int) := by omega
        rcases hnl with ⟨rfl, hn0⟩ | ⟨j, off, cp, rfl⟩ <;> (simp [bC, Fns.a5, AC.fst, AC.snd, cellsC, k1', k2']; refine (haw _).mono ?_; rintro v H2 ⟨rfl, rfl⟩; simp)
    · have k1' : (20 : Int) < (c.nums.length : Int) := by omega
      rcases hnl with ⟨rfl, hn0⟩ | ⟨j, off, cp, rfl⟩
      · rw [hn0] at k1; simp at k1
      · simp [bC, Fns.a5, AC.fst, AC.snd, cellsC, k1']
        refine (haw _).mono ?_
        rintro v H2 ⟨rfl, rfl⟩
        simp
  · rintro ex e H1 (⟨rfl, h4⟩ | ⟨rfl, rfl, h1, h2, k1, k2, k3, k4⟩)
    · simp [h4]
    · refine AWp.seq (wpE_sound _ ?_)
      simp [bL, Fns.a5, AC.fst, AC.snd, h2, hlen6, ht6]
      refine (line L (hr.keep ⟨by simp, fun i hi => by simp at hi⟩) k3 k2 (by omega) hb).mono ?_
      rintro v H2 ⟨hk2, hv⟩
      obtain ⟨s, ok, rfl⟩ := line_shape hv
      simp
      refine AWp.seq (AWp.mono (Q := fun ex e _ => ex = .normal ∧ e 1 = .str ln) (wpE_sound _ ?_) ?_)
      · cases ok with
        | false => simp [bK, Fns.a5, AC.fst, AC.snd, h1]
        | true =>
          have hok : lineOk c s := by
            rcases hv with ⟨s', h, e⟩ | ⟨_, e⟩
            · cases e; exact h
            · cases e
          obtain ⟨_, _, _, hp⟩ := hok
          obtain ⟨_, _, _, hsl⟩ := parse_line hp
          simp [bK, Fns.a5, AC.fst, AC.snd]
          refine (parse L s (by omega) _).mono ?_
          rintro v H3 hv3
          have hk3 := hv3.1
          obtain ⟨dv, rfl, hrd⟩ := parse_rd (R := R) hv3
          rw [hp] at hrd
          simp only [cOf] at hrd
          have ho := one_cells (c := c) hrd.one
          have hw1 := writeN_last0 H3 (old := zeros6) (new := cellsC c dv) 27 rfl ho
          simp only [zeros6] at hw1
          obtain ⟨H4, hH4⟩ : ∃ H4, H4 = H3 ++ [AO.cells (cellsC c dv) 27] := ⟨_, rfl⟩
          have k34 : Keeps H3 H4 := by rw [hH4]; exact Keeps.app _ _
          have g0 : H4[0]? = some (.cells (cellsC c nv) 27) := by
            have k : Keeps [AO.cells (cellsC c nv) 27] H4 := (hk2.trans hk3).trans k34
            rw [k.2 0 (by simp)]
            rfl
          have g7 : H4[H3.length]? = some (.cells (cellsC c dv) 27) := by rw [hH4]; simp
          have hsl' : ¬ (256 : Int) < (s.length : Int) := by omega
          rw [hp]
          simp [cOf, codeR, AV.oneCell, hlen6, ht6, hw1, ← hH4, g0, g7, h2]
          have rn : RdI R H4 nv c.nums := hr.rd.keep ⟨by simp, fun i hi => by simp at hi⟩
          refine (same rn (hrd.keep k34) (by omega) (by omega)).mono ?_
          rintro v H5 ⟨_, rfl⟩
          rw [same_self]
          simp [hsl', h1]
      · rintro ex e H3 ⟨rfl, h1⟩
        refine wpE_sound _ ?_
        simp [bR, Fns.a5, AC.fst, AC.snd, h1]
        refine (parse L ln (by omega) _).mono ?_
        rintro v H4 hv4
        obtain ⟨dv, rfl, hrd⟩ := parse_rdS (R := R) hv4
        have ho := one_cells (c := cOf (parseF ln)) hrd.rd.one
        have hw1 := writeN_last0 H4 (old := zeros6) (new := cellsC (cOf (parseF ln)) dv) 27 rfl ho
        simp only [zeros6] at hw1
        obtain ⟨H5, hH5⟩ : ∃ H5, H5 = H4 ++ [AO.cells (cellsC (cOf (parseF ln)) dv) 27] := ⟨_, rfl⟩
        have g9 : H5[H4.length]? = some (.cells (cellsC (cOf (parseF ln)) dv) 27) := by rw [hH5]; simp
        have k45 : Keeps H4 H5 := by rw [hH5]; exact Keeps.app _ _
        have hrd5 := hrd.keep k45
        simp [AV.oneCell, hlen6, hw1, ← hH5]
        cases hp : parseF ln with
        | ok d =>
          rw [hp] at g9 hrd5
          simp only [cOf] at g9 hrd5
          obtain ⟨hlo, hdn, hdb, _⟩ := parse_line hp
          have hdt := parse_text hp
          have hdl := parse_nums ln
          rw [hp] at hdl
          simp only [cOf] at hdl
          have hdb' : ∀ n ∈ d.nums, -9223372036854775808 ≤ n ∧ n ≤ 9223372036854775807 := fun n hn => by have := hdb n hn; omega
          simp [codeR, g9, hlen6, ht6]
          refine (line L hrd5 (by omega) hdt hdl hdb').mono ?_
          rintro v H6 ⟨k56, hv6⟩
          have hv6' : v = .tuple [.str ln, .bool true] := by
            rcases hv6 with ⟨s', h, e⟩ | ⟨h, _⟩
            · rw [line_one hlo h, e]
            · exact absurd hlo (h ln)
          subst hv6'
          have g96 : H6[H4.length]? = some (.cells (cellsC d dv) 27) := by rw [k56.2 _ (List.getElem?_eq_some_iff.1 g9).1]; exact g9
          simp [h1, g96, hlen6, ht6]
          refine (right L (hrd5.keep k56) (by omega) hdt hdl hdb').mono ?_
          rintro v H7 ⟨_, s', ok', hl', rfl⟩
          have hok : ok' = true := by
            rcases hl' with ⟨_, _, e⟩ | ⟨h, _⟩
            · cases e; rfl
            · exact absurd hlo (h ln)
          subst hok
          simp
          refine (haw _).mono ?_
          rintro v H8 ⟨rfl, rfl⟩
          simp
        | _ =>
          rw [hp] at g9 hrd5
          simp only [cOf] at g9 hrd5
          simp [codeR, g9, hlen6, ht6, fill60]
          refine (same (d := named []) (mv := .nilslice) hrd5.rd (.inl ⟨rfl, rfl⟩) (by simp [named]) (by simp [named])).mono ?_
          rintro v H6 ⟨_, rfl⟩
          rw [same_self]
          simp
          refine (haw _).mono ?_
          rintro v H8 ⟨rfl, rfl⟩
          simp
end Go.Proofs.YthcpfmibcoeleaaDoor.Cm
