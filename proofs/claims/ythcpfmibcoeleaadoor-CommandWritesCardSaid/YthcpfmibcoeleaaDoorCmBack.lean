/- Two commands are alike: what the program's code computes. -/
import Derived.Test.YthcpfmibcoeleaaDoorCmRight
import Derived.Test.YthcpfmibcoeleaaDoorCmRParse
namespace Go.Proofs.YthcpfmibcoeleaaDoor.Cm
open Go Go.RowKit Am Go.Proofs.YthcpfmibcoeleaaDoor.Id
set_option maxRecDepth 100000
set_option linter.unusedSimpArgs false
set_option linter.unusedVariables false
attribute [-simp] Am.binEv Am.intBin Am.read1
attribute [local simp] binEv_lss binEv_leq binEv_gtr binEv_geq binEv_eql binEv_neq binEv_add binEv_sub binEv_mul binEv_shr58 read1_ro read1_mu binEv_seql binEv_sneq
variable {R : Ro}
set_option maxHeartbeats 4000000 in
theorem equal {a b : AV} {L M : List Int} {H : AH} (ha : RdI R H a L) (hb : RdI R H b M) (hL : L.length ≤ 1000) (hM : M.length ≤ 1000) : ACalls Tryd.prog R 33 [a, b] H fun v H' => H' = H ∧ v = .bool (decide (L = M)) := by
  refine ACalls.of_wpE Fns.ok33 (by simp [Fns.a33]) ?_
  by_cases hlen : L.length = M.length
  · have hlen' : (L.length : Int) = (M.length : Int) := by omega
    by_cases hnil : L = []
    · have hnil' : M = [] := by rw [hnil] at hlen; exact List.length_eq_zero_iff.1 hlen.symm
      rcases ha with ⟨rfl, ha0⟩ | ⟨j, o, cp, rfl, har⟩ <;> rcases hb with ⟨rfl, hb0⟩ | ⟨j2, o2, cp2, rfl, hbr⟩
      all_goals
        simp [Fns.a33, hnil, hnil']
        refine AWp.loop_once (wpE_sound _ ?_)
        simp
    · rcases ha with ⟨_, ha0⟩ | ⟨j, o, cp, rfl, har⟩
      · exact absurd ha0 hnil
      · rcases hb with ⟨_, hb0⟩ | ⟨j2, o2, cp2, rfl, hbr⟩
        · rw [hb0] at hlen; exact absurd (List.length_eq_zero_iff.1 hlen) hnil
        · simp [Fns.a33, hlen']
          refine AWp.loop (fun e H2 => H2 = H ∧ e 0 = .slice j o L.length cp ∧ e 1 = .slice j2 o2 M.length cp2 ∧ e 12 = .int .i64 (M.length : Int) ∧ ∃ i : Nat, e 13 = .int .i64 i ∧ i ≤ L.length ∧ L.take i = M.take i)
            (fun e _ => match e 13 with | .int _ i => ((L.length : Int) - i).toNat | _ => 0) ⟨rfl, by simp, by simp, by simp, 0, by simp, by omega, by simp⟩ ?_
          rintro e H2 ⟨rfl, h0, h1, h12, i, h13, hi, htk⟩
          refine wpE_sound _ ?_
          by_cases hl : i < L.length
          · have hl' : (i : Int) < (L.length : Int) := by omega
            have hl2 : (i : Int) < (M.length : Int) := by omega
            have hl3 : i < M.length := by omega
            have hw1 : IntKind.i64.wrap ((i : Int) + 1) = (i : Int) + 1 := i64_ok _ (by omega) (by omega)
            obtain ⟨x, hx⟩ : ∃ x, L[i]? = some x := ⟨_, List.getElem?_eq_getElem hl⟩
            obtain ⟨y, hy⟩ : ∃ y, M[i]? = some y := ⟨_, List.getElem?_eq_getElem (by omega)⟩
            have fx := har i x hx
            have fy := hbr i y hy
            simp [h0, h1, h12, h13, hl2, hl3]
            refine AWp.sched [0, 1, 2, 3, 4, 5, 6, 7, 8] Fns.mixed (by decide +kernel) ?_
            by_cases hxy : x = y
            · simp [h0, h1, h12, h13, hl, hl', hl2, hl3, fx, fy, hxy, hw1]
              refine ⟨⟨i + 1, by omega, by omega, ?_⟩, by omega⟩
              rw [List.take_add_one, List.take_add_one, htk, hx, hy, hxy]
            · have hne : ¬ L = M := fun e => hxy (by rw [e, hy] at hx; exact (Option.some.inj hx).symm)
              simp [h0, h1, h12, h13, hl, hl', hl2, hl3, fx, fy, hxy, hw1, hne]
          · obtain rfl : i = L.length := by omega
            rw [List.take_length, hlen, List.take_length] at htk
            have hge : ¬ L.length < M.length := by omega
            simp [h0, h1, h12, h13, htk, hge]
  · have hlen' : ¬ (L.length : Int) = (M.length : Int) := by omega
    have hne : ¬ L = M := fun e => hlen (by rw [e])
    rcases ha with ⟨rfl, ha0⟩ | ⟨j, o, cp, rfl, har⟩ <;> rcases hb with ⟨rfl, hb0⟩ | ⟨j2, o2, cp2, rfl, hbr⟩
    · exact absurd (ha0.trans hb0.symm) hne
    · have hz : ¬ (0 : Int) = (M.length : Int) := by rw [ha0] at hlen'; simpa using hlen'
      simp [Fns.a33, hz, hne]
    · have hz : ¬ (L.length : Int) = (0 : Int) := by rw [hb0] at hlen'; simpa using hlen'
      have hz' : ¬ L = [] := fun e => hz (by rw [e]; rfl)
      simp [Fns.a33, hz, hz', hne]
    · simp [Fns.a33, hlen', hlen, hne]
set_option maxHeartbeats 4000000 in
theorem same {c d : Cmd} {nv mv : AV} {H : AH} (hc : RdI R H nv c.nums) (hd : RdI R H mv d.nums) (hcl : c.nums.length ≤ 1000) (hdl : d.nums.length ≤ 1000) : ACalls Tryd.prog R 20 [.agg (cellsC c nv), .agg (cellsC d mv)] H fun v H' => (∃ E, H' = H ++ E) ∧ v = .bool (sameF c d) := by
  refine ACalls.of_wpE Fns.ok20 (by simp [Fns.a20]) ?_
  have oc := one_cells (c := c) hc.one
  have od := one_cells (c := d) hd.one
  have hpe := eqP c.pane.1 c.pane.2.1 c.pane.2.2 d.pane.1 d.pane.2.1 d.pane.2.2
  have hpq : (c.pane.1 = d.pane.1 ∧ c.pane.2.1 = d.pane.2.1 ∧ c.pane.2.2 = d.pane.2.2) ↔ c.pane = d.pane := by
    constructor
    · rintro ⟨h1, h2, h3⟩
      exact Prod.ext h1 (Prod.ext h2 h3)
    · intro h; rw [h]; exact ⟨rfl, rfl, rfl⟩
  simp only [fieldsP, hpq] at hpe
  simp only [eqEv] at hpe
  simp only [cellsC] at oc od
  have cnv : nv = .nilslice ∨ ∃ j o n cp, nv = .slice j o n cp := by
    rcases hc with ⟨h, _⟩ | ⟨j, o, cp, h, _⟩
    · exact .inl h
    · exact .inr ⟨_, _, _, _, h⟩
  have dnv : mv = .nilslice ∨ ∃ j o n cp, mv = .slice j o n cp := by
    rcases hd with ⟨h, _⟩ | ⟨j, o, cp, h, _⟩
    · exact .inl h
    · exact .inr ⟨_, _, _, _, h⟩
  by_cases hname : c.name = d.name
  · rcases cnv with rfl | ⟨j, o, n, cp, rfl⟩ <;> rcases dnv with rfl | ⟨j2, o2, n2, cp2, rfl⟩
    all_goals
      simp [Fns.a20, cellsC, AV.oneCell, oc, od, hname]
      refine (equal (hc.keep (Keeps.app _ _)) (hd.keep (Keeps.app _ _)) hcl hdl).mono ?_
      rintro v H2 ⟨rfl, rfl⟩
      by_cases hnums : c.nums = d.nums
      · by_cases hpane : c.pane = d.pane
        · rw [decide_eq_true hpane] at hpe
          by_cases htext : c.text = d.text
          · simp [hnums, hpe, htext]
            simp [sameF, hnums, hname, hpane, htext]
          · simp [hnums, hpe, htext]
            simp [sameF, hnums, hname, hpane, htext]
        · rw [decide_eq_false hpane] at hpe
          simp [hnums, hpe, sameF, hname, hpane]
      · simp [hnums, sameF, hname]
  · rcases cnv with rfl | ⟨j, o, n, cp, rfl⟩ <;> rcases dnv with rfl | ⟨j2, o2, n2, cp2, rfl⟩ <;> simp [Fns.a20, cellsC, AV.oneCell, oc, od, hname, sameF]
end Go.Proofs.YthcpfmibcoeleaaDoor.Cm
namespace Go.Proofs.YthcpfmibcoeleaaDoor.Cm
open Go Go.RowKit Am Go.Proofs.YthcpfmibcoeleaaDoor.Id
set_option maxRecDepth 100000
set_option linter.unusedSimpArgs false
set_option linter.unusedVariables false
attribute [-simp] Am.binEv Am.intBin Am.read1
attribute [local simp] binEv_lss binEv_leq binEv_gtr binEv_geq binEv_eql binEv_neq binEv_add binEv_sub binEv_mul binEv_shr58 read1_ro read1_mu binEv_seql binEv_sneq
variable {R : Ro}
theorem loop_nums : ∀ (form : List UInt8) (c d : Cmd) (rest : List UInt8) (more : Bool), loopF form c rest more = some d → d.nums.length ≤ c.nums.length + form.length
  | [], c, d, rest, more, h => by
    unfold loopF at h
    split at h
    · cases h
    · cases h; simp
  | f :: fs, c, d, rest, more, h => by
    unfold loopF at h
    split at h
    · split at h
      · split at h
        · rename_i x hx
          have := loop_nums fs x d _ _ h
          have := step_nums hx
          simp; omega
        · cases h
      · split at h
        · rename_i x hx
          have := loop_nums fs x d _ _ h
          have := step_nums hx
          simp; omega
        · cases h
    · cases h
theorem parse_nums (line : List UInt8) : (cOf (parseF line)).nums.length ≤ 1000 := by
  cases hp : parseF line with
  | ok c =>
    unfold parseF at hp
    split at hp
    · cases hp
    · cases hf : formOf (cutB line).1 with
      | none => rw [hf] at hp; cases hp
      | some form =>
        rw [hf] at hp
        dsimp only at hp
        cases hl : loopF form (named (cutB line).1) (cutB line).2.1 (cutB line).2.2 with
        | none => rw [hl] at hp; cases hp
        | some d =>
          rw [hl] at hp
          cases hp
          have := loop_nums _ _ _ _ _ hl
          have := (form_fine hf).1
          show c.nums.length ≤ 1000
          simp [named] at *
          omega
  | _ => simp [cOf, named]
set_option maxHeartbeats 4000000 in
theorem law_reads (L : Lc R) (haw : ∀ H, ACalls Tryd.prog R 9 [] H fun v H' => H' = H ∧ v = .bool true) (line : List UInt8) :
    ACalls Tryd.prog R 3 [.str line] [] fun v _ => v = .bool true := by
  refine ACalls.of_wpE Fns.ok3 (by simp [Fns.a3]) ?_
  by_cases hl : line.length ≤ 1000
  · have hl1 : ¬ (1000 : Int) < (line.length : Int) := by omega
    simp [Fns.a3, hl1]
    refine (parse L line (by omega) _).mono ?_
    rintro v H1 hv
    obtain ⟨nv, rfl, hr⟩ := parse_rd (R := R) hv
    have ho := one_cells (c := cOf (parseF line)) hr.one
    have hw1 := writeN_last0 H1 (old := zeros6) (new := cellsC (cOf (parseF line)) nv) 27 rfl ho
    simp only [zeros6] at hw1
    have hlen6 : ∀ c nv, (cellsC c nv).length = 6 := fun _ _ => rfl
    simp [AV.oneCell, hlen6, hw1]
    refine (rparse line (by omega) _).mono ?_
    rintro v H2 hv2
    have hk2 := hv2.1
    obtain ⟨mv, rfl, hr2⟩ := parse_rd (R := R) hv2
    have ho2 := one_cells (c := cOf (parseF line)) hr2.one
    have hw2 := writeN_last0 H2 (old := zeros6) (new := cellsC (cOf (parseF line)) mv) 31 rfl ho2
    simp only [zeros6] at hw2
    simp [AV.oneCell, hlen6, hw2]
    have g3 : (H2 ++ [AO.cells (cellsC (cOf (parseF line)) mv) 31])[H1.length]? = some (.cells (cellsC (cOf (parseF line)) nv) 27) := by
      have hlt : H1.length < H2.length := by have := hk2.1; simp at this; omega
      rw [List.getElem?_append_left hlt, hk2.2 _ (by simp)]
      simp
    refine AWp.sched [0, 1, 2, 3, 4, 6, 5, 7, 8, 9, 10, 11, 12] Fns.mixed (by decide +kernel) ?_
    have ht6 : ∀ c nv, (cellsC c nv).take 6 = cellsC c nv := fun _ _ => rfl
    obtain ⟨H3, hH3⟩ : ∃ H3, H3 = H2 ++ [AO.cells (cellsC (cOf (parseF line)) mv) 31] := ⟨_, rfl⟩
    have g5 : H3[H2.length]? = some (.cells (cellsC (cOf (parseF line)) mv) 31) := by rw [hH3]; simp
    rw [← hH3] at g3 ⊢
    have k1 : Keeps H1 H3 := by rw [hH3]; exact ((Keeps.app H1 _).trans hk2).trans (Keeps.app _ _)
    have k2 : Keeps H2 H3 := by rw [hH3]; exact Keeps.app _ _
    have q1 := hr.keep k1
    have q2 := hr2.keep k2
    have hn := parse_nums line
    simp [g3, g5, hlen6, ht6, recheck]
    refine (given (hlen6 _ _) ho _).mono ?_
    rintro v H4 ⟨rfl, E, hE⟩
    have k4 : Keeps H3 H4 := by rw [hE]; exact Keeps.app _ _
    have g3a : H4[H1.length]? = some (.cells (cellsC (cOf (parseF line)) nv) 27) := by rw [k4.2 _ (List.getElem?_eq_some_iff.1 g3).1]; exact g3
    have g5a : H4[H2.length]? = some (.cells (cellsC (cOf (parseF line)) mv) 31) := by rw [k4.2 _ (List.getElem?_eq_some_iff.1 g5).1]; exact g5
    simp [recheck, g3a, g5a, hlen6, ht6]
    refine (rsame (q1.keep k4) (q2.keep k4) hn hn).mono ?_
    rintro v H5 ⟨⟨E2, hE2⟩, rfl⟩
    rw [same_self]
    have k5 : Keeps H4 H5 := by rw [hE2]; exact Keeps.app _ _
    have g3b : H5[H1.length]? = some (.cells (cellsC (cOf (parseF line)) nv) 27) := by rw [k5.2 _ (List.getElem?_eq_some_iff.1 g3a).1]; exact g3a
    have g5b : H5[H2.length]? = some (.cells (cellsC (cOf (parseF line)) mv) 31) := by rw [k5.2 _ (List.getElem?_eq_some_iff.1 g5a).1]; exact g5a
    simp [recheck, g3b, g5b, hlen6, ht6]
    refine (haw _).mono ?_
    rintro v H6 ⟨rfl, rfl⟩
    simp [recheck, g3b, g5b, hlen6, ht6]
  · have hl1 : (1000 : Int) < (line.length : Int) := by omega
    simp [Fns.a3, hl1]
    refine (haw _).mono ?_
    rintro v H2 ⟨rfl, rfl⟩
    simp
end Go.Proofs.YthcpfmibcoeleaaDoor.Cm
namespace Go.Proofs.YthcpfmibcoeleaaDoor.Cm
open Go Go.RowKit Am Go.Proofs.YthcpfmibcoeleaaDoor.Id
set_option maxRecDepth 100000
set_option linter.unusedSimpArgs false
set_option linter.unusedVariables false
attribute [-simp] Am.binEv Am.intBin Am.read1
attribute [local simp] binEv_lss binEv_leq binEv_gtr binEv_geq binEv_eql binEv_neq binEv_add binEv_sub binEv_mul binEv_shr58 read1_mu binEv_seql binEv_sneq
variable {R : Ro}
/-- A slice of whole numbers that may be read and cut. -/
def RdS (R : Ro) (H : AH) (v : AV) (L : List Int) : Prop := (v = .nilslice ∧ L = []) ∨
  (∃ j off c, v = .slice j off L.length (.known c) ∧ L.length ≤ c ∧ ∀ (i : Nat) x, L[i]? = some x → read1 R H j (off + i) = some (.int .i64 x)) ∨
  (∃ j off C, v = .slice (.mu j) off L.length (.opn off) ∧ H[j]? = some (.row C 3 1) ∧ off + L.length ≤ C.length ∧ ∀ (i : Nat) x, L[i]? = some x → C[off + i]? = some (.int .i64 x)) ∨
  (L = [] ∧ ∃ j, v = .slice (.mu j) 0 0 (.opn 0))
theorem read1_keep {H H' : AH} (hk : Keeps H H') {j : Am.Loc} {o : Nat} {v : AV} (h : read1 R H j o = some v) : read1 R H' j o = some v := by
  cases j with
  | ro b => exact h
  | mu j =>
    rw [read1_mu] at h ⊢
    cases hj : H[j]? with
    | none => rw [hj] at h; simp at h
    | some ob =>
      rw [hk.2 j (List.getElem?_eq_some_iff.1 hj).1, hj]
      rw [hj] at h
      exact h
theorem RdS.keep {H H' : AH} {v : AV} {L : List Int} (h : RdS R H v L) (hk : Keeps H H') : RdS R H' v L := by
  rcases h with h | ⟨j, off, c, h1, h2, h3⟩ | ⟨j, off, C, h1, h2, h3, h4⟩ | h
  · exact .inl h
  · exact .inr (.inl ⟨j, off, c, h1, h2, fun i x hx => read1_keep hk (h3 i x hx)⟩)
  · exact .inr (.inr (.inl ⟨j, off, C, h1, by rw [hk.2 j (List.getElem?_eq_some_iff.1 h2).1]; exact h2, h3, h4⟩))
  · exact .inr (.inr (.inr h))
theorem RdS.rd {H : AH} {v : AV} {L : List Int} (h : RdS R H v L) : RdI R H v L := by
  rcases h with h | ⟨j, off, c, h1, h2, h3⟩ | ⟨j, off, C, h1, h2, h3, h4⟩ | ⟨h1, j, h2⟩
  · exact .inl h
  · exact .inr ⟨j, off, _, h1, h3⟩
  · refine .inr ⟨_, off, _, h1, fun i x hx => ?_⟩
    rw [read1_mu, h2]
    exact h4 i x hx
  · subst h1
    exact .inr ⟨_, 0, _, h2, fun i x hx => by simp at hx⟩
theorem RdS.of_row {H : AH} {v : AV} {L : List Int} (h : RowAt H v L.length 1 3 (intsV L)) : RdS R H v L := by
  rcases h with ⟨h1, h2, _⟩ | ⟨j, h1, h2, _⟩
  · exact .inl ⟨h1, List.length_eq_zero_iff.1 h2⟩
  · exact .inr (.inr (.inl ⟨j, 0, _, h1, h2, by simp [intsV], fun i x hx => by simp [intsV, hx]⟩))
theorem RdS.empty {H : AH} {v : AV} (h : RdS R H v []) : v = .nilslice ∨ ∃ j off cp, v = .slice j off 0 cp := by
  rcases h with ⟨h, _⟩ | ⟨j, off, c, h1, _⟩ | ⟨j, off, C, h1, _⟩ | ⟨_, j, h⟩
  · exact .inl h
  · exact .inr ⟨_, _, _, h1⟩
  · exact .inr ⟨_, _, _, h1⟩
  · exact .inr ⟨_, _, _, h⟩
theorem RdS.head {H : AH} {v : AV} {n : Int} {N : List Int} (h : RdS R H v (n :: N)) : ∃ j off cp, v = .slice j off (N.length + 1) cp ∧ read1 R H j off = some (.int .i64 n) := by
  rcases h with ⟨_, h⟩ | ⟨j, off, c, h1, h2, h3⟩ | ⟨j, off, C, h1, h2, h3, h4⟩ | ⟨h, _⟩
  · cases h
  · exact ⟨j, off, _, h1, by simpa using h3 0 n rfl⟩
  · refine ⟨.mu j, off, _, h1, ?_⟩
    rw [read1_mu, h2]
    simpa [AO.content] using h4 0 n rfl
  · cases h
theorem bound1 (k : Nat) : boundEv 0 (k + 1) (some (.int .i64 1)) = some 1 := by
  unfold boundEv
  dsimp only
  rw [if_pos ⟨by omega, by omega⟩]
  rfl
theorem RdS.tail {H0 H : AH} {v : AV} {n : Int} {N : List Int} (h : RdS R H0 v (n :: N)) (hk : Keeps H0 H) : ∃ v' E, sliceEv H 1 v (some (.int .i64 1)) none none = some (v', H ++ E) ∧ RdS R H0 v' N := by
  rcases h with ⟨_, h⟩ | ⟨j, off, c, rfl, h2, h3⟩ | ⟨j, off, C, rfl, h2, h3, h4⟩ | ⟨h, _⟩
  · cases h
  · simp only [List.length_cons] at h2
    refine ⟨.slice j (if c = 1 then off else off + 1 * 1) N.length (.known (c - 1)), [], ?_, ?_⟩
    rw [List.append_nil]
    · show (match boundEv 0 (N.length + 1) (some (AV.int .i64 1)) with | some lw => some (AV.slice j (if c = lw then off else off + lw * 1) (N.length + 1 - lw) (.known (c - lw)), H) | none => none) = _
      rw [bound1]
      rfl
    · refine .inr (.inl ⟨j, if c = 1 then off else off + 1 * 1, c - 1, rfl, by omega, fun i x hx => ?_⟩)
      have hlt := (List.getElem?_eq_some_iff.1 hx).1
      rw [if_neg (by omega)]
      have := h3 (i + 1) x (by simpa using hx)
      rw [show off + 1 * 1 + i = off + (i + 1) by omega]
      exact this
  · simp only [List.length_cons] at h3
    have h2' : H[j]? = some (.row C 3 1) := by rw [hk.2 j (List.getElem?_eq_some_iff.1 h2).1]; exact h2
    have hE : sliceEv H 1 (.slice (.mu j) off (n :: N).length (.opn off)) (some (.int .i64 1)) none none = if 1 < N.length + 1 then some (.slice (.mu j) (off + 1 * 1) (N.length + 1 - 1) (.opn (off + 1)), H) else some (.slice (.mu H.length) 0 0 (.opn 0), H ++ [.dead]) := by
      unfold sliceEv
      dsimp only
      rw [h2']
      dsimp only
      rw [if_pos ⟨rfl, by omega, by omega, by omega⟩]
      show (if (n :: N).length ≤ (C.length - off) / 1 then _ else _) = _
      rw [if_pos (by rw [Nat.div_one]; simp only [List.length_cons]; omega)]
      rw [show (n :: N).length = N.length + 1 from rfl, bound1]
      dsimp only
      rw [if_neg (by omega)]
    rw [hE]
    by_cases hN : 1 < N.length + 1
    · rw [if_pos hN]
      refine ⟨.slice (.mu j) (off + 1 * 1) N.length (.opn (off + 1)), [], by rw [List.append_nil]; rfl, .inr (.inr (.inl ⟨j, off + 1, C, rfl, h2, by omega, fun i x hx => ?_⟩))⟩
      have := h4 (i + 1) x (by simpa using hx)
      rw [show off + 1 + i = off + (i + 1) by omega]
      exact this
    · rw [if_neg hN]
      have hN0 : N = [] := List.length_eq_zero_iff.1 (by omega)
      exact ⟨_, [.dead], rfl, .inr (.inr (.inr ⟨hN0, _, rfl⟩))⟩
  · cases h
theorem CmAt.setS {H0 H : AH} {p q : Nat} {c : Cmd} {nv : AV} {s : List UInt8} {i : Nat} (h : CmAt H0 H p c nv) (hq : H[q]? = some (.siter s i)) (hlow : H0.length ≤ q) (k : Nat) : CmAt H0 (H.set q (.siter s k)) p c nv := by
  have hpq : ¬ q = p := by rintro rfl; have := h.cell; rw [hq] at this; cases this
  refine ⟨h.keeps.set hlow _, h.low, by rw [List.getElem?_set, if_neg hpq]; exact h.cell, h.row.frame fun j hj => ?_, h.apart⟩
  rw [List.getElem?_set, if_neg]
  rintro rfl
  rcases h.row with ⟨g, _⟩ | ⟨j', g, g2, _⟩
  · rw [g] at hj; cases hj
  · rw [g] at hj
    simp only [AV.slice.injEq, Am.Loc.mu.injEq] at hj
    rw [hj.1, hq] at g2
    cases g2
theorem itoa_len64 {n : Int} (h1 : -9223372036854775808 ≤ n) (h2 : n ≤ 9223372036854775807) : (Lib.itoa n).length ≤ 30 := by
  by_cases hn : n < 0
  · rw [itoa_neg hn]
    have := dec_len2 19 n.natAbs (by omega)
    simp
    omega
  · rw [itoa_pos (by omega)]
    have := dec_len2 19 n.toNat (by omega)
    omega
set_option maxHeartbeats 16000000 in
theorem line (L : Lc R) {c : Cmd} {nv : AV} {H : AH} (hr : RdS R H nv c.nums) (hn : c.name.length ≤ 300) (ht : c.text.length ≤ 300) (hnl : c.nums.length ≤ 1000) (hb : ∀ n ∈ c.nums, -9223372036854775808 ≤ n ∧ n ≤ 9223372036854775807) :
    ACalls Tryd.prog R 15 [.agg (cellsC c nv)] H fun v H' => Keeps H H' ∧ LineP c v := by
  refine ACalls.of_wpE Fns.ok15 (by simp [Fns.a15]) ?_
  have oc := one_cells (c := c) hr.rd.one
  have oc' : ∀ x ∈ cellsC c nv, x.oneCell = true := List.all_eq_true.1 oc
  obtain ⟨cs, hcs⟩ : ∃ cs, cs = cellsC c nv := ⟨_, rfl⟩
  rw [← hcs] at oc oc' ⊢
  have hc0 : cs[0]? = some (.str c.name) := by rw [hcs]; rfl
  have hc0' : ∀ h, cs[0]'h = .str c.name := fun h => by rw [List.getElem?_eq_getElem h] at hc0; exact Option.some.inj hc0
  simp [Fns.a15, oc, oc', hc0, hc0']
  have hbx : ∀ G : AH, Keeps (H ++ [.cells cs 27]) G → G[H.length]? = some (.cells [.str c.name, nv, .int .i64 c.pane.1, .int .i64 c.pane.2.1, .int .i64 c.pane.2.2, .str c.text] 27) := fun G hk => by
    rw [hk.2 _ (by simp), hcs]
    simp [cellsC]
  obtain ⟨Hb, hHb⟩ : ∃ Hb, Hb = H ++ [AO.cells cs 27] := ⟨_, rfl⟩
  have hb0 := hbx Hb (by rw [hHb]; exact Keeps.refl _)
  have hbl : Hb.length = H.length + 1 := by rw [hHb]; simp
  have hkb : Keeps H Hb := by rw [hHb]; exact Keeps.app _ _
  rw [← hHb] at hbx ⊢
  refine (Fns.form_acalls R c.name _).mono ?_
  rintro v Hb ⟨rfl, rfl⟩
  cases hform : lookP c.name Fns.table with
  | none =>
    have hform' : formOf c.name = none := hform
    simp [lookV, hform]
    exact ⟨hkb, .inr ⟨fun s ⟨f, h1, _⟩ => (by rw [hform'] at h1; cases h1), rfl⟩⟩
  | some form =>
    have hform' : formOf c.name = some form := hform
    obtain ⟨hf3, hfl⟩ := form_fine hform'
    simp [lookV, hform]
    refine AWp.sched [0, 1, 2, 3, 4, 5, 6, 7] Fns.mixed (by decide +kernel) ?_
    have hwl := writeN_last0 Hb (old := zeros6) (new := cellsC (named c.name) .nilslice) 27 rfl rfl
    simp only [zeros6, cellsC, named] at hwl
    have hb1 : ∀ o : AO, (Hb ++ [o])[H.length]? = some (.cells [.str c.name, nv, .int .i64 c.pane.1, .int .i64 c.pane.2.1, .int .i64 c.pane.2.2, .str c.text] 27) := fun o => by rw [List.getElem?_append_left (by omega)]; exact hb0
    simp [hb0, hb1, fill6, AV.oneCell, hwl]
    refine ⟨⟨by simp [recheck, fill6], by rintro a b (⟨rfl, rfl⟩ | ⟨rfl, rfl⟩) <;> simp [recheck, hb1]⟩, ?_⟩
    obtain ⟨D, hD⟩ : ∃ D, buildF form c.nums c c.name (named c.name) = D := ⟨_, rfl⟩
    have hrb : RdS R Hb nv c.nums := hr.keep hkb
    have hnone : D = none → ∀ s, ¬ lineOk c s := by
      rintro hd s ⟨f, h1, h2, _⟩
      rw [hform'] at h1
      cases h1
      rw [hD, hd] at h2
      cases h2
    refine AWp.loop (fun e H1 => e 1 = .ptr (.mu H.length) 0 ∧ e 7 = .ptr (.mu Hb.length) 0 ∧ e 31 = .ptr (.mu (Hb.length + 1)) 0 ∧ ∃ (i : Nat) (s : List UInt8) (u : Cmd) (uv : AV) (N : List Int), e 6 = .str s ∧ RdS R Hb (e 8) N ∧ i ≤ form.length ∧
        H1[Hb.length + 1]? = some (.siter form i) ∧ CmAt Hb H1 Hb.length u uv ∧ u.nums.length ≤ i ∧ s.length ≤ 300 + i * 310 ∧ D = buildF (form.drop i) N c s u ∧ (∀ n ∈ N, -9223372036854775808 ≤ n ∧ n ≤ 9223372036854775807))
      (fun _ H1 => match H1[Hb.length + 1]? with | some (.siter _ i) => form.length - i | _ => 0)
      ⟨by simp, by simp, by simp, 0, c.name, named c.name, .nilslice, c.nums, by simp, by simpa using hrb, by omega, by simp, ⟨by simpa using Keeps.app Hb _, by omega, by simp [cellsC, named], by simpa [named, intsV] using RowAt.nil _ 1 3, fun i o l cp e => by cases e⟩, by simp [named], by omega, by rw [← hD]; simp, hb⟩ ?_
    rintro e H1 ⟨h1, h7, h31, i, s, u, uv, N, h6, h8, hi, hsi, hC, hul, hsl, hDi, hNb⟩
    refine wpE_sound _ ?_
    have hkH : Keeps H H1 := hkb.trans hC.keeps
    by_cases hil : i < form.length
    · obtain ⟨b, hbg⟩ : ∃ b, form[i]? = some b := ⟨_, List.getElem?_eq_getElem hil⟩
      have hlet := hfl b (List.mem_of_getElem? hbg)
      have hb128 : b.toNat < 128 := by rcases hlet with rfl | rfl | rfl | rfl <;> decide
      have hdec := dec_low hbg hb128
      have hdrop : form.drop i = b :: form.drop (i + 1) := by
        obtain ⟨h, e⟩ := List.getElem?_eq_some_iff.1 hbg
        rw [List.drop_eq_getElem_cons h, e]
      rw [hdrop] at hDi
      obtain ⟨H2, hH2⟩ : ∃ H2, H2 = H1.set (Hb.length + 1) (.siter form (i + 1)) := ⟨_, rfl⟩
      have hlt := (List.getElem?_eq_some_iff.1 hsi).1
      have hsi2 : H2[Hb.length + 1]? = some (.siter form (i + 1)) := by rw [hH2, List.getElem?_set, if_pos rfl, if_pos hlt]
      have hC2 : CmAt Hb H2 Hb.length u uv := by rw [hH2]; exact hC.setS hsi (by omega) _
      have hsp := binEv_sadd (x := s) (y := [32]) (by simp; omega)
      obtain ⟨v8, hv8⟩ : ∃ v8, e 8 = v8 := ⟨_, rfl⟩
      rw [hv8] at h8
      have hbox2 := hbx H2 hC2.keeps
      have hcell2 := hC2.cell
      simp only [cellsC] at hcell2
      have hkH2 : Keeps H H2 := hkb.trans hC2.keeps
      rcases hlet with rfl | rfl | rfl | rfl
      · cases N with
        | nil =>
          have hDn : D = none := by rw [hDi]; rfl
          rcases h8.empty with rfl | ⟨j, off, cp, rfl⟩
          · simp [h1, h7, h31, h6, hv8, hsi, hil, hdec, ← hH2, hsp]
            exact ⟨hkH2, .inr ⟨hnone hDn, rfl⟩⟩
          · simp [h1, h7, h31, h6, hv8, hsi, hil, hdec, ← hH2, hsp]
            exact ⟨hkH2, .inr ⟨hnone hDn, rfl⟩⟩
        | cons n N =>
          obtain ⟨j, off, cp, hv, hrd0⟩ := h8.head
          have hrd := read1_keep hC2.keeps hrd0
          obtain ⟨hn1, hn2⟩ := hNb n (by simp)
          have hil2 := itoa_len64 hn1 hn2
          have hs2 := binEv_sadd (x := s ++ [32]) (y := Lib.itoa n) (by simp; omega)
          have hlz : ¬ ((N.length : Int) + 1 = 0) := by omega
          have hlt0 : (0 : Int) < (N.length : Int) + 1 := by omega
          obtain ⟨G, hG, hwr, hC6, hS6⟩ := hC2.push (R := R) n (by omega)
          obtain ⟨v', E, hsl', h8'⟩ := h8.tail hC6.keeps
          rw [hv] at hv8 hsl'
          simp only [cellsC] at hwr
          simp [h1, h7, h31, h6, hv8, hsi, hil, hdec, ← hH2, hsp, hlz, hlt0, hrd]
          refine (L.itoa n _ hn1 hn2).mono ?_
          rintro v H3 ⟨rfl, rfl⟩
          have hDi2 : D = buildF (form.drop (i + 1)) N c (s ++ 32 :: Lib.itoa n) { u with nums := u.nums ++ [n] } := hDi.trans (by
            conv => lhs; unfold buildF
            rw [if_pos (by decide)])
          simp [h1, h7, h31, h6, hv8, hs2]
          refine AWp.sched [0, 1, 2, 3, 4, 5, 6, 7, 8] Fns.mixed (by decide +kernel) ?_
          have hca : ∀ o : AO, (H3 ++ [o])[Hb.length]? = some (.cells [.str u.name, uv, .int .i64 u.pane.1, .int .i64 u.pane.2.1, .int .i64 u.pane.2.2, .str u.text] 27) := fun o => by rw [List.getElem?_append_left (List.getElem?_eq_some_iff.1 hcell2).1]; exact hcell2
          have hsi6 := (hS6.trans (SI.app _ E)) _ _ _ hsi2
          have hslE := hsl'
          simp only [cellsC] at hsi6 hslE
          cases j with
          | ro bk =>
            simp [h1, h7, h31, h6, hv8, hcell2, hlt0, hrd, fillA, splice, zerosEv, AV.oneCell, hG, hwr]
            refine ⟨by simp [recheck, hca, h1, h7, h31, h6, hv8], ?_⟩
            simp [h1, h7, h31, h6, hv8, hslE, hsi6]
            exact ⟨⟨i + 1, { u with nums := u.nums ++ [n] }, _, N, h8', by omega, rfl, hC6.app E, by simp; omega, by omega, hDi2, fun m hm => hNb m (by simp [hm])⟩, by omega⟩
          | mu jj =>
            simp [h1, h7, h31, h6, hv8, hcell2, hlt0, hrd, fillA, splice, zerosEv, AV.oneCell, hG, hwr]
            refine ⟨by simp [recheck, hca, h1, h7, h31, h6, hv8], ?_⟩
            simp [h1, h7, h31, h6, hv8, hslE, hsi6]
            exact ⟨⟨i + 1, { u with nums := u.nums ++ [n] }, _, N, h8', by omega, rfl, hC6.app E, by simp; omega, by omega, hDi2, fun m hm => hNb m (by simp [hm])⟩, by omega⟩
      · cases N with
        | nil =>
          have hDn : D = none := by rw [hDi]; rfl
          rcases h8.empty with rfl | ⟨j, off, cp, rfl⟩
          · simp [h1, h7, h31, h6, hv8, hsi, hil, hdec, ← hH2, hsp]
            exact ⟨hkH2, .inr ⟨hnone hDn, rfl⟩⟩
          · simp [h1, h7, h31, h6, hv8, hsi, hil, hdec, ← hH2, hsp]
            exact ⟨hkH2, .inr ⟨hnone hDn, rfl⟩⟩
        | cons n N =>
          obtain ⟨j, off, cp, hv, hrd0⟩ := h8.head
          have hrd := read1_keep hC2.keeps hrd0
          obtain ⟨hn1, hn2⟩ := hNb n (by simp)
          have hil2 := itoa_len64 hn1 hn2
          have hs2 := binEv_sadd (x := s ++ [32]) (y := Lib.itoa n) (by simp; omega)
          have hlz : ¬ ((N.length : Int) + 1 = 0) := by omega
          have hlt0 : (0 : Int) < (N.length : Int) + 1 := by omega
          obtain ⟨G, hG, hwr, hC6, hS6⟩ := hC2.push (R := R) n (by omega)
          obtain ⟨v', E, hsl', h8'⟩ := h8.tail hC6.keeps
          rw [hv] at hv8 hsl'
          simp only [cellsC] at hwr
          simp [h1, h7, h31, h6, hv8, hsi, hil, hdec, ← hH2, hsp, hlz, hlt0, hrd]
          refine (L.itoa n _ hn1 hn2).mono ?_
          rintro v H3 ⟨rfl, rfl⟩
          have hDi2 : D = buildF (form.drop (i + 1)) N c (s ++ 32 :: Lib.itoa n) { u with nums := u.nums ++ [n] } := hDi.trans (by
            conv => lhs; unfold buildF
            rw [if_pos (by decide)])
          simp [h1, h7, h31, h6, hv8, hs2]
          refine AWp.sched [0, 1, 2, 3, 4, 5, 6, 7, 8] Fns.mixed (by decide +kernel) ?_
          have hca : ∀ o : AO, (H3 ++ [o])[Hb.length]? = some (.cells [.str u.name, uv, .int .i64 u.pane.1, .int .i64 u.pane.2.1, .int .i64 u.pane.2.2, .str u.text] 27) := fun o => by rw [List.getElem?_append_left (List.getElem?_eq_some_iff.1 hcell2).1]; exact hcell2
          have hsi6 := (hS6.trans (SI.app _ E)) _ _ _ hsi2
          have hslE := hsl'
          simp only [cellsC] at hsi6 hslE
          cases j with
          | ro bk =>
            simp [h1, h7, h31, h6, hv8, hcell2, hlt0, hrd, fillA, splice, zerosEv, AV.oneCell, hG, hwr]
            refine ⟨by simp [recheck, hca, h1, h7, h31, h6, hv8], ?_⟩
            simp [h1, h7, h31, h6, hv8, hslE, hsi6]
            exact ⟨⟨i + 1, { u with nums := u.nums ++ [n] }, _, N, h8', by omega, rfl, hC6.app E, by simp; omega, by omega, hDi2, fun m hm => hNb m (by simp [hm])⟩, by omega⟩
          | mu jj =>
            simp [h1, h7, h31, h6, hv8, hcell2, hlt0, hrd, fillA, splice, zerosEv, AV.oneCell, hG, hwr]
            refine ⟨by simp [recheck, hca, h1, h7, h31, h6, hv8], ?_⟩
            simp [h1, h7, h31, h6, hv8, hslE, hsi6]
            exact ⟨⟨i + 1, { u with nums := u.nums ++ [n] }, _, N, h8', by omega, rfl, hC6.app E, by simp; omega, by omega, hDi2, fun m hm => hNb m (by simp [hm])⟩, by omega⟩
      · simp [h1, h7, h31, h6, hv8, hsi, hil, hdec, ← hH2, hsp, hbox2]
        refine (Id.words L.toLb c.pane.1 c.pane.2.1 c.pane.2.2 _).mono ?_
        rintro v H3 ⟨hw, E, hE⟩
        have hC3 : CmAt Hb H3 Hb.length u uv := by rw [hE]; exact hC2.app E
        have hbox3 := hbx H3 hC3.keeps
        have hsi3 : H3[Hb.length + 1]? = some (.siter form (i + 1)) := by rw [hE]; exact SI.app H2 E _ _ _ hsi2
        rcases hw with ⟨m1, m2, m3, rfl⟩ | ⟨hnm, rfl⟩
        · have hmay : mayP c.pane := ⟨m1, m2, m3⟩
          have hDi2 : D = buildF (form.drop (i + 1)) N c (s ++ 32 :: wordsP3 c.pane) { u with pane := c.pane } := hDi.trans (by
            conv => lhs; unfold buildF
            rw [if_neg (by decide), if_pos rfl, if_pos hmay])
          have hwl3 : (wordsF c.pane.1 c.pane.2.1 c.pane.2.2).length ≤ 100 := by
            have g1 := itoa_len m1
            have g2 := itoa_len m2
            have g3 := itoa_len m3
            simp [wordsF]
            omega
          have hs2 := binEv_sadd (x := s ++ [32]) (y := wordsF c.pane.1 c.pane.2.1 c.pane.2.2) (by simp; omega)
          have hwr := writeN_at hC3.cell (off := 2) (vs := [.int .i64 c.pane.1, .int .i64 c.pane.2.1, .int .i64 c.pane.2.2]) (by simp [cellsC]) rfl
          have hset : splice (cellsC u uv) 2 [.int .i64 c.pane.1, .int .i64 c.pane.2.1, .int .i64 c.pane.2.2] = cellsC { u with pane := c.pane } uv := rfl
          rw [hset] at hwr
          have hC7 := hC3.put (d := { u with pane := c.pane }) rfl
          have hsi7 := SI.set hC3.cell (.cells (cellsC { u with pane := c.pane } uv) 27) _ _ _ hsi3
          have hw3 : wordsP3 c.pane = wordsF c.pane.1 c.pane.2.1 c.pane.2.2 := rfl
          rw [hw3] at hDi2
          simp only [cellsC] at hwr hsi7
          simp [h1, h7, h31, h6, hv8, hbox3, hs2, hwr, hsi7]
          exact ⟨⟨i + 1, { u with pane := c.pane }, uv, N, h8, by omega, rfl, hC7, by show u.nums.length ≤ i + 1; omega, by omega, hDi2, hNb⟩, by omega⟩
        · have hDn : D = none := by
            rw [hDi]
            unfold buildF
            rw [if_neg (by decide), if_pos rfl, if_neg (show ¬ mayP c.pane from hnm)]
          simp [h1, h7, h31, h6, hv8]
          exact ⟨hkb.trans hC3.keeps, .inr ⟨hnone hDn, rfl⟩⟩
      · have hDi2 : D = buildF (form.drop (i + 1)) N c (s ++ 32 :: c.text) { u with text := c.text } := hDi.trans (by
          conv => lhs; unfold buildF
          rw [if_neg (by decide), if_neg (by decide)])
        have hwr := writeN_cell hC2.cell (i := 5) (by simp [cellsC]) (.str c.text) rfl
        have hset : (cellsC u uv).set 5 (.str c.text) = cellsC { u with text := c.text } uv := rfl
        rw [hset] at hwr
        have hC7 := hC2.put (d := { u with text := c.text }) rfl
        have hsi7 := SI.set hC2.cell (.cells (cellsC { u with text := c.text } uv) 27) _ _ _ hsi2
        have hs2 := binEv_sadd (x := s ++ [32]) (y := c.text) (by simp; omega)
        simp only [cellsC] at hwr hsi7
        simp [h1, h7, h31, h6, hv8, hsi, hil, hdec, ← hH2, hsp, hbox2, hs2, hwr, hsi2]
        exact ⟨⟨i + 1, { u with text := c.text }, uv, N, h8, by omega, rfl, hC7, by show u.nums.length ≤ i + 1; omega, by omega, hDi2, hNb⟩, by omega⟩
    · obtain rfl : i = form.length := by omega
      rw [List.drop_length] at hDi
      have hDs : D = some (s, u) := hDi
      have hbuild : buildF form c.nums c c.name (named c.name) = some (s, u) := hD.trans hDs
      have hone : ∀ t, lineOk c t → t = s ∧ u = c := by
        rintro t ⟨f, k1, k2, _⟩
        rw [hform'] at k1
        cases k1
        rw [hbuild] at k2
        cases k2
        exact ⟨rfl, rfl⟩
      simp [h1, h7, h31, h6, hsi]
      refine (parse L s (by omega) _).mono ?_
      rintro v H2 hv
      have hk2 := hv.1
      obtain ⟨dv, rfl, hrd⟩ := parse_rd (R := R) hv
      have ho := one_cells (c := cOf (parseF s)) hrd.one
      have hlen6 : ∀ c nv, (cellsC c nv).length = 6 := fun _ _ => rfl
      have ht6 : ∀ c nv, (cellsC c nv).take 6 = cellsC c nv := fun _ _ => rfl
      have hw1 := writeN_last0 H2 (old := zeros6) (new := cellsC (cOf (parseF s)) dv) 27 rfl ho
      simp only [zeros6] at hw1
      obtain ⟨H3, hH3⟩ : ∃ H3, H3 = H2 ++ [AO.cells (cellsC (cOf (parseF s)) dv) 27] := ⟨_, rfl⟩
      have k13 : Keeps H1 H3 := by rw [hH3]; exact hk2.trans (Keeps.app _ _)
      have gu : H3[Hb.length]? = some (.cells (cellsC u uv) 27) := by rw [k13.2 _ (List.getElem?_eq_some_iff.1 hC.cell).1]; exact hC.cell
      have gc : H3[H.length]? = some (.cells (cellsC c nv) 27) := by
        have := hbx H3 (hC.keeps.trans k13)
        simpa [cellsC] using this
      have gd : H3[H2.length]? = some (.cells (cellsC (cOf (parseF s)) dv) 27) := by rw [hH3]; simp
      have ru : RdI R H3 uv u.nums := (RdI.of_row hC.row).keep k13
      have rc : RdI R H3 nv c.nums := hr.rd.keep (hkH.trans k13)
      have rd : RdI R H3 dv (cOf (parseF s)).nums := hrd.keep (by rw [hH3]; exact Keeps.app _ _)
      have hun : u.nums.length ≤ 1000 := by omega
      have hdn := parse_nums s
      simp [AV.oneCell, hlen6, hw1, ← hH3, gu, gc, gd, ht6, h1, h7]
      refine (same ru rc hun hnl).mono ?_
      rintro v H4 ⟨⟨E4, hE4⟩, rfl⟩
      have k34 : Keeps H3 H4 := by rw [hE4]; exact Keeps.app _ _
      have gc4 : H4[H.length]? = some (.cells (cellsC c nv) 27) := by rw [k34.2 _ (List.getElem?_eq_some_iff.1 gc).1]; exact gc
      have gd4 : H4[H2.length]? = some (.cells (cellsC (cOf (parseF s)) dv) 27) := by rw [k34.2 _ (List.getElem?_eq_some_iff.1 gd).1]; exact gd
      have kH4 : Keeps H H4 := (hkH.trans k13).trans k34
      cases hsu : sameF u c with
      | false =>
        simp
        refine ⟨kH4, .inr ⟨fun t ht => ?_, rfl⟩⟩
        rw [(hone t ht).2, same_self] at hsu
        cases hsu
      | true =>
        have huc := same_eq hsu
        cases hp : parseF s with
        | ok d =>
          rw [hp] at rd gd4 hdn
          simp only [cOf] at rd gd4 hdn
          simp [codeR, cOf, hlen6, ht6, gc4, gd4, h1, h7]
          refine (same (rc.keep k34) (rd.keep k34) hnl hdn).mono ?_
          rintro v H5 ⟨⟨E5, hE5⟩, rfl⟩
          have k45 : Keeps H4 H5 := by rw [hE5]; exact Keeps.app _ _
          cases hcd : sameF c d with
          | false =>
            simp
            refine ⟨kH4.trans k45, .inr ⟨fun t ht => ?_, rfl⟩⟩
            obtain ⟨e1, _⟩ := hone t ht
            obtain ⟨_, _, _, k3⟩ := ht
            rw [e1, hp] at k3
            cases k3
            rw [same_self] at hcd
            cases hcd
          | true =>
            have hdc := same_eq hcd
            simp [h6]
            exact ⟨kH4.trans k45, .inl ⟨s, ⟨form, hform', by rw [hbuild, huc], by rw [hp, ← hdc]⟩, rfl⟩⟩
        | _ =>
          simp [codeR]
          refine ⟨kH4, .inr ⟨fun t ht => ?_, rfl⟩⟩
          obtain ⟨e1, _⟩ := hone t ht
          obtain ⟨_, _, _, k3⟩ := ht
          rw [e1, hp] at k3
          cases k3
end Go.Proofs.YthcpfmibcoeleaaDoor.Cm
namespace Go.Proofs.YthcpfmibcoeleaaDoor.Cm
open Go Go.RowKit Am Go.Proofs.YthcpfmibcoeleaaDoor.Id
set_option maxRecDepth 100000
set_option linter.unusedSimpArgs false
set_option linter.unusedVariables false
attribute [-simp] Am.binEv Am.intBin Am.read1
attribute [local simp] binEv_lss binEv_leq binEv_gtr binEv_geq binEv_eql binEv_neq binEv_add binEv_sub binEv_mul binEv_shr58 read1_mu binEv_seql binEv_sneq
variable {R : Ro}
theorem step_len {f : UInt8} {w : List UInt8} {c d : Cmd} (h : stepF f w c = some d) (hc : c.text.length ≤ 300) : d.text.length ≤ 300 := by
  unfold stepF at h
  split at h
  · split at h
    · split at h
      · cases h; exact hc
      · cases h
    · cases h
  · split at h
    · split at h
      · cases h; exact hc
      · cases h
    · split at h
      · split at h
        · cases h; exact hc
        · cases h
      · split at h
        · rename_i hf
          cases h
          unfold fineF at hf
          simp at hf
          show w.length ≤ 300
          omega
        · cases h
theorem loop_len : ∀ (form : List UInt8) (c d : Cmd) (rest : List UInt8) (more : Bool), loopF form c rest more = some d → c.text.length ≤ 300 → d.text.length ≤ 300
  | [], c, d, rest, more, h, hc => by
    unfold loopF at h
    split at h
    · cases h
    · cases h; exact hc
  | f :: fs, c, d, rest, more, h, hc => by
    unfold loopF at h
    split at h
    · split at h
      · split at h
        · rename_i x hx
          exact loop_len fs x d _ _ h (step_len hx hc)
        · cases h
      · split at h
        · rename_i x hx
          exact loop_len fs x d _ _ h (step_len hx hc)
        · cases h
    · cases h
theorem parse_text {line : List UInt8} {d : Cmd} (h : parseF line = .ok d) : d.text.length ≤ 300 := by
  unfold parseF at h
  split at h
  · cases h
  · cases hf : formOf (cutB line).1 with
    | none => rw [hf] at h; cases h
    | some form =>
      rw [hf] at h
      dsimp only at h
      cases hl : loopF form (named (cutB line).1) (cutB line).2.1 (cutB line).2.2 with
      | none => rw [hl] at h; cases h
      | some d' =>
        rw [hl] at h
        cases h
        exact loop_len _ _ _ _ _ hl (by simp [named])
theorem parse_rdS {H H' : AH} {line : List UInt8} {v : AV} (h : ParseP H line v H') : ∃ nv, v = .tuple [.agg (cellsC (cOf (parseF line)) nv), .int .i64 (codeR (parseF line))] ∧ RdS R H' nv (cOf (parseF line)).nums := by
  obtain ⟨_, h⟩ := h
  cases hp : parseF line with
  | ok c =>
    rw [hp] at h
    obtain ⟨nv, rfl, hr, _⟩ := h
    exact ⟨nv, rfl, RdS.of_row hr⟩
  | _ =>
    rw [hp] at h
    exact ⟨.nilslice, h, .inl ⟨rfl, rfl⟩⟩
theorem line_shape {c : Cmd} {v : AV} (h : LineP c v) : ∃ s ok, v = .tuple [.str s, .bool ok] := by
  rcases h with ⟨s, _, rfl⟩ | ⟨_, rfl⟩
  · exact ⟨_, _, rfl⟩
  · exact ⟨_, _, rfl⟩
theorem right (L : Lc R) {c : Cmd} {nv : AV} {H : AH} (hr : RdS R H nv c.nums) (hn : c.name.length ≤ 300) (ht : c.text.length ≤ 300) (hnl : c.nums.length ≤ 1000) (hb : ∀ n ∈ c.nums, -9223372036854775808 ≤ n ∧ n ≤ 9223372036854775807) :
    ACalls Tryd.prog R 16 [.agg (cellsC c nv)] H fun v H' => Keeps H H' ∧ ∃ s ok, LineP c (.tuple [.str s, .bool ok]) ∧ v = .bool ok := by
  refine ACalls.of_wpE Fns.ok16 (by simp [Fns.a16]) ?_
  have oc := one_cells (c := c) hr.rd.one
  have oc' : ∀ x ∈ cellsC c nv, x.oneCell = true := List.all_eq_true.1 oc
  have hlen6 : (cellsC c nv).length = 6 := rfl
  have ht6 : (cellsC c nv).take 6 = cellsC c nv := rfl
  simp [Fns.a16, oc, oc', hlen6, ht6]
  refine (line L (hr.keep (Keeps.app H _)) hn ht hnl hb).mono ?_
  rintro v H2 ⟨hk, hv⟩
  obtain ⟨s, ok, rfl⟩ := line_shape hv
  simp
  refine ⟨(Keeps.app H _).trans hk, s, ?_⟩
  cases ok
  · exact .inl ⟨hv, rfl⟩
  · exact .inr ⟨hv, rfl⟩
def bC : AC := Fns.a5.body.snd.fst
def bL : AC := Fns.a5.body.snd.snd.fst
def bK : AC := Fns.a5.body.snd.snd.snd.fst
def bR : AC := Fns.a5.body.snd.snd.snd.snd
theorem body5 : Fns.a5.body = .seq Fns.a5.body.fst (.seq bC (.seq bL (.seq bK bR))) := rfl
set_option maxHeartbeats 8000000 in
theorem law_back (L : Lc R) (haw : ∀ H, ACalls Tryd.prog R 9 [] H fun v H' => H' = H ∧ v = .bool true) {c : Cmd} {nv : AV} (hr : RdS R [] nv c.nums) (hb : ∀ n ∈ c.nums, -9223372036854775808 ≤ n ∧ n ≤ 9223372036854775807) (ln : List UInt8) :
    ACalls Tryd.prog R 5 [.agg (cellsC c nv), .str ln] [] fun v _ => v = .bool true := by
  refine ACalls.of_body Fns.ok5 (by simp [Fns.a5]) ?_
  have oc := one_cells (c := c) hr.rd.one
  have oc' : ∀ x ∈ cellsC c nv, x.oneCell = true := List.all_eq_true.1 oc
  have hlen6 : ∀ c nv, (cellsC c nv).length = 6 := fun _ _ => rfl
  have ht6 : ∀ c nv, (cellsC c nv).take 6 = cellsC c nv := fun _ _ => rfl
  rw [body5]
  refine AWp.seq (wpE_sound _ ?_)
  simp [Fns.a5, AC.fst, AC.snd, oc, oc']
  refine AWp.seq (AWp.mono (Q := fun ex e H1 => (ex = .ret ∧ e 4 = .bool true) ∨ (ex = .normal ∧ H1 = [.cells (cellsC c nv) 27] ∧ e 1 = .str ln ∧ e 2 = .ptr (.mu 0) 0 ∧ c.nums.length ≤ 20 ∧ c.text.length ≤ 300 ∧ c.name.length ≤ 300 ∧ ln.length ≤ 1000)) (wpE_sound _ ?_) ?_)
  · have hnl : (nv = .nilslice ∧ c.nums = []) ∨ ∃ j off cp, nv = .slice j off c.nums.length cp := by
      rcases hr.rd with h | ⟨j, off, cp, h, _⟩
      · exact .inl h
      · exact .inr ⟨_, _, _, h⟩
    by_cases k1 : c.nums.length ≤ 20
    · have k1' : ¬ (20 : Int) < (c.nums.length : Int) := by omega
      by_cases k2 : c.text.length ≤ 300
      · have k2' : ¬ (300 : Int) < (c.text.length : Int) := by omega
        by_cases k3 : c.name.length ≤ 300
        · have k3' : ¬ (300 : Int) < (c.name.length : Int) := by omega
          by_cases k4 : ln.length ≤ 1000
          · have k4' : ¬ (1000 : Int) < (ln.length : Int) := by omega
            rcases hnl with ⟨rfl, hn0⟩ | ⟨j, off, cp, rfl⟩ <;> simp [bC, Fns.a5, AC.fst, AC.snd, cellsC, k1', k2', k3', k4', k1, k2, k3, k4]
          · have k4' : (1000 : Int) < (ln.length : Int) := by omega
            rcases hnl with ⟨rfl, hn0⟩ | ⟨j, off, cp, rfl⟩ <;> (simp [bC, Fns.a5, AC.fst, AC.snd, cellsC, k1', k2', k3', k4']; refine (haw _).mono ?_; rintro v H2 ⟨rfl, rfl⟩; simp)
        · have k3' : (300 : Int) < (c.name.length : Int) := by omega
          rcases hnl with ⟨rfl, hn0⟩ | ⟨j, off, cp, rfl⟩ <;> (simp [bC, Fns.a5, AC.fst, AC.snd, cellsC, k1', k2', k3']; refine (haw _).mono ?_; rintro v H2 ⟨rfl, rfl⟩; simp)
      · have k2' : (300 : Int) < (c.text.length : Int) := by omega
        rcases hnl with ⟨rfl, hn0⟩ | ⟨j, off, cp, rfl⟩ <;> (simp [bC, Fns.a5, AC.fst, AC.snd, cellsC, k1', k2']; refine (haw _).mono ?_; rintro v H2 ⟨rfl, rfl⟩; simp)
    · have k1' : (20 : Int) < (c.nums.length : Int) := by omega
      rcases hnl with ⟨rfl, hn0⟩ | ⟨j, off, cp, rfl⟩
      · rw [hn0] at k1; simp at k1
      · simp [bC, Fns.a5, AC.fst, AC.snd, cellsC, k1']
        refine (haw _).mono ?_
        rintro v H2 ⟨rfl, rfl⟩
        simp
  · rintro ex e H1 (⟨rfl, h4⟩ | ⟨rfl, rfl, h1, h2, k1, k2, k3, k4⟩)
    · simp [h4]
    · refine AWp.seq (wpE_sound _ ?_)
      simp [bL, Fns.a5, AC.fst, AC.snd, h2, hlen6, ht6]
      refine (line L (hr.keep ⟨by simp, fun i hi => by simp at hi⟩) k3 k2 (by omega) hb).mono ?_
      rintro v H2 ⟨hk2, hv⟩
      obtain ⟨s, ok, rfl⟩ := line_shape hv
      simp
      refine AWp.seq (AWp.mono (Q := fun ex e _ => ex = .normal ∧ e 1 = .str ln) (wpE_sound _ ?_) ?_)
      · cases ok with
        | false => simp [bK, Fns.a5, AC.fst, AC.snd, h1]
        | true =>
          have hok : lineOk c s := by
            rcases hv with ⟨s', h, e⟩ | ⟨_, e⟩
            · cases e; exact h
            · cases e
          obtain ⟨_, _, _, hp⟩ := hok
          obtain ⟨_, _, _, hsl⟩ := parse_line hp
          simp [bK, Fns.a5, AC.fst, AC.snd]
          refine (parse L s (by omega) _).mono ?_
          rintro v H3 hv3
          have hk3 := hv3.1
          obtain ⟨dv, rfl, hrd⟩ := parse_rd (R := R) hv3
          rw [hp] at hrd
          simp only [cOf] at hrd
          have ho := one_cells (c := c) hrd.one
          have hw1 := writeN_last0 H3 (old := zeros6) (new := cellsC c dv) 27 rfl ho
          simp only [zeros6] at hw1
          obtain ⟨H4, hH4⟩ : ∃ H4, H4 = H3 ++ [AO.cells (cellsC c dv) 27] := ⟨_, rfl⟩
          have k34 : Keeps H3 H4 := by rw [hH4]; exact Keeps.app _ _
          have g0 : H4[0]? = some (.cells (cellsC c nv) 27) := by
            have k : Keeps [AO.cells (cellsC c nv) 27] H4 := (hk2.trans hk3).trans k34
            rw [k.2 0 (by simp)]
            rfl
          have g7 : H4[H3.length]? = some (.cells (cellsC c dv) 27) := by rw [hH4]; simp
          have hsl' : ¬ (256 : Int) < (s.length : Int) := by omega
          rw [hp]
          simp [cOf, codeR, AV.oneCell, hlen6, ht6, hw1, ← hH4, g0, g7, h2]
          have rn : RdI R H4 nv c.nums := hr.rd.keep ⟨by simp, fun i hi => by simp at hi⟩
          refine (same rn (hrd.keep k34) (by omega) (by omega)).mono ?_
          rintro v H5 ⟨_, rfl⟩
          rw [same_self]
          simp [hsl', h1]
      · rintro ex e H3 ⟨rfl, h1⟩
        refine wpE_sound _ ?_
        simp [bR, Fns.a5, AC.fst, AC.snd, h1]
        refine (parse L ln (by omega) _).mono ?_
        rintro v H4 hv4
        obtain ⟨dv, rfl, hrd⟩ := parse_rdS (R := R) hv4
        have ho := one_cells (c := cOf (parseF ln)) hrd.rd.one
        have hw1 := writeN_last0 H4 (old := zeros6) (new := cellsC (cOf (parseF ln)) dv) 27 rfl ho
        simp only [zeros6] at hw1
        obtain ⟨H5, hH5⟩ : ∃ H5, H5 = H4 ++ [AO.cells (cellsC (cOf (parseF ln)) dv) 27] := ⟨_, rfl⟩
        have g9 : H5[H4.length]? = some (.cells (cellsC (cOf (parseF ln)) dv) 27) := by rw [hH5]; simp
        have k45 : Keeps H4 H5 := by rw [hH5]; exact Keeps.app _ _
        have hrd5 := hrd.keep k45
        simp [AV.oneCell, hlen6, hw1, ← hH5]
        cases hp : parseF ln with
        | ok d =>
          rw [hp] at g9 hrd5
          simp only [cOf] at g9 hrd5
          obtain ⟨hlo, hdn, hdb, _⟩ := parse_line hp
          have hdt := parse_text hp
          have hdl := parse_nums ln
          rw [hp] at hdl
          simp only [cOf] at hdl
          have hdb' : ∀ n ∈ d.nums, -9223372036854775808 ≤ n ∧ n ≤ 9223372036854775807 := fun n hn => by have := hdb n hn; omega
          simp [codeR, g9, hlen6, ht6]
          refine (line L hrd5 (by omega) hdt hdl hdb').mono ?_
          rintro v H6 ⟨k56, hv6⟩
          have hv6' : v = .tuple [.str ln, .bool true] := by
            rcases hv6 with ⟨s', h, e⟩ | ⟨h, _⟩
            · rw [line_one hlo h, e]
            · exact absurd hlo (h ln)
          subst hv6'
          have g96 : H6[H4.length]? = some (.cells (cellsC d dv) 27) := by rw [k56.2 _ (List.getElem?_eq_some_iff.1 g9).1]; exact g9
          simp [h1, g96, hlen6, ht6]
          refine (right L (hrd5.keep k56) (by omega) hdt hdl hdb').mono ?_
          rintro v H7 ⟨_, s', ok', hl', rfl⟩
          have hok : ok' = true := by
            rcases hl' with ⟨_, _, e⟩ | ⟨h, _⟩
            · cases e; rfl
            · exact absurd hlo (h ln)
          subst hok
          simp
          refine (haw _).mono ?_
          rintro v H8 ⟨rfl, rfl⟩
          simp
        | _ =>
          rw [hp] at g9 hrd5
          simp only [cOf] at g9 hrd5
          simp [codeR, g9, hlen6, ht6, fill60]
          refine (same (d := named []) (mv := .nilslice) hrd5.rd (.inl ⟨rfl, rfl⟩) (by simp [named]) (by simp [named])).mono ?_
          rintro v H6 ⟨_, rfl⟩
          rw [same_self]
          simp
          refine (haw _).mono ?_
          rintro v H8 ⟨rfl, rfl⟩
          simp
end Go.Proofs.YthcpfmibcoeleaaDoor.Cm
