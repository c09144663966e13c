/- Two commands are alike: what the program's code computes. -/
import Derived.Test.YthcpfmibcoeleaaDoorCmRSame
namespace Go.Proofs.YthcpfmibcoeleaaDoor.Cm
open Go Go.RowKit Am Go.Proofs.YthcpfmibcoeleaaDoor.Id
set_option maxRecDepth 100000
set_option linter.unusedSimpArgs false
set_option linter.unusedVariables false
attribute [-simp] Am.binEv Am.intBin Am.read1
attribute [local simp] binEv_lss binEv_leq binEv_gtr binEv_geq binEv_eql binEv_neq binEv_add binEv_sub binEv_mul binEv_shr58 read1_ro read1_mu binEv_seql binEv_sneq
variable {R : Ro}
set_option maxHeartbeats 4000000 in
theorem equal {a b : AV} {L M : List Int} {H : AH} (ha : RdI R H a L) (hb : RdI R H b M) (hL : L.length ≤ 1000) (hM : M.length ≤ 1000) : ACalls Tryd.prog R 33 [a, b] H fun v H' => H' = H ∧ v = .bool (decide (L = M)) := by
  refine ACalls.of_wpE Fns.ok33 (by simp [Fns.a33]) ?_
  by_cases hlen : L.length = M.length
  · have hlen' : (L.length : Int) = (M.length : Int) := by omega
    by_cases hnil : L = []
    · have hnil' : M = [] := by rw [hnil] at hlen; exact List.length_eq_zero_iff.1 hlen.symm
      rcases ha with ⟨rfl, ha0⟩ | ⟨j, o, cp, rfl, har⟩ <;> rcases hb with ⟨rfl, hb0⟩ | ⟨j2, o2, cp2, rfl, hbr⟩
      all_goals
        simp [Fns.a33, hnil, hnil']
        refine AWp.loop_once (wpE_sound _ ?_)
        simp
    · rcases ha with ⟨_, ha0⟩ | ⟨j, o, cp, rfl, har⟩
      · exact absurd ha0 hnil
      · rcases hb with ⟨_, hb0⟩ | ⟨j2, o2, cp2, rfl, hbr⟩
        · rw [hb0] at hlen; exact absurd (List.length_eq_zero_iff.1 hlen) hnil
        · simp [Fns.a33, hlen']
          refine AWp.loop (fun e H2 => H2 = H ∧ e 0 = .slice j o L.length cp ∧ e 1 = .slice j2 o2 M.length cp2 ∧ e 12 = .int .i64 (M.length : Int) ∧ ∃ i : Nat, e 13 = .int .i64 i ∧ i ≤ L.length ∧ L.take i = M.take i)
            (fun e _ => match e 13 with | .int _ i => ((L.length : Int) - i).toNat | _ => 0) ⟨rfl, by simp, by simp, by simp, 0, by simp, by omega, by simp⟩ ?_
          rintro e H2 ⟨rfl, h0, h1, h12, i, h13, hi, htk⟩
          refine wpE_sound _ ?_
          by_cases hl : i < L.length
          · have hl' : (i : Int) < (L.length : Int) := by omega
            have hl2 : (i : Int) < (M.length : Int) := by omega
            have hl3 : i < M.length := by omega
            have hw1 : IntKind.i64.wrap ((i : Int) + 1) = (i : Int) + 1 := i64_ok _ (by omega) (by omega)
            obtain ⟨x, hx⟩ : ∃ x, L[i]? = some x := ⟨_, List.getElem?_eq_getElem hl⟩
            obtain ⟨y, hy⟩ : ∃ y, M[i]? = some y := ⟨_, List.getElem?_eq_getElem (by omega)⟩
            have fx := har i x hx
            have fy := hbr i y hy
            simp [h0, h1, h12, h13, hl2, hl3]
            refine AWp.sched [0, 1, 2, 3, 4, 5, 6, 7, 8] Fns.mixed (by decide +kernel) ?_
            by_cases hxy : x = y
            · simp [h0, h1, h12, h13, hl, hl', hl2, hl3, fx, fy, hxy, hw1]
              refine ⟨⟨i + 1, by omega, by omega, ?_⟩, by omega⟩
              rw [List.take_add_one, List.take_add_one, htk, hx, hy, hxy]
            · have hne : ¬ L = M := fun e => hxy (by rw [e, hy] at hx; exact (Option.some.inj hx).symm)
              simp [h0, h1, h12, h13, hl, hl', hl2, hl3, fx, fy, hxy, hw1, hne]
          · obtain rfl : i = L.length := by omega
            rw [List.take_length, hlen, List.take_length] at htk
            have hge : ¬ L.length < M.length := by omega
            simp [h0, h1, h12, h13, htk, hge]
  · have hlen' : ¬ (L.length : Int) = (M.length : Int) := by omega
    have hne : ¬ L = M := fun e => hlen (by rw [e])
    rcases ha with ⟨rfl, ha0⟩ | ⟨j, o, cp, rfl, har⟩ <;> rcases hb with ⟨rfl, hb0⟩ | ⟨j2, o2, cp2, rfl, hbr⟩
    · exact absurd (ha0.trans hb0.symm) hne
    · have hz : ¬ (0 : Int) = (M.length : Int) := by rw [ha0] at hlen'; simpa using hlen'
      simp [Fns.a33, hz, hne]
    · have hz : ¬ (L.length : Int) = (0 : Int) := by rw [hb0] at hlen'; simpa using hlen'
      have hz' : ¬ L = [] := fun e => hz (by rw [e]; rfl)
      simp [Fns.a33, hz, hz', hne]
    · simp [Fns.a33, hlen', hlen, hne]
set_option maxHeartbeats 4000000 in
theorem same {c d : Cmd} {nv mv : AV} {H : AH} (hc : RdI R H nv c.nums) (hd : RdI R H mv d.nums) (hcl : c.nums.length ≤ 1000) (hdl : d.nums.length ≤ 1000) : ACalls Tryd.prog R 20 [.agg (cellsC c nv), .agg (cellsC d mv)] H fun v H' => (∃ E, H' = H ++ E) ∧ v = .bool (sameF c d) := by
  refine ACalls.of_wpE Fns.ok20 (by simp [Fns.a20]) ?_
  have oc := one_cells (c := c) hc.one
  have od := one_cells (c := d) hd.one
  have hpe := eqP c.pane.1 c.pane.2.1 c.pane.2.2 d.pane.1 d.pane.2.1 d.pane.2.2
  have hpq : (c.pane.1 = d.pane.1 ∧ c.pane.2.1 = d.pane.2.1 ∧ c.pane.2.2 = d.pane.2.2) ↔ c.pane = d.pane := by
    constructor
    · rintro ⟨h1, h2, h3⟩
      exact Prod.ext h1 (Prod.ext h2 h3)
    · intro h; rw [h]; exact ⟨rfl, rfl, rfl⟩
  simp only [fieldsP, hpq] at hpe
  simp only [eqEv] at hpe
  simp only [cellsC] at oc od
  have cnv : nv = .nilslice ∨ ∃ j o n cp, nv = .slice j o n cp := by
    rcases hc with ⟨h, _⟩ | ⟨j, o, cp, h, _⟩
    · exact .inl h
    · exact .inr ⟨_, _, _, _, h⟩
  have dnv : mv = .nilslice ∨ ∃ j o n cp, mv = .slice j o n cp := by
    rcases hd with ⟨h, _⟩ | ⟨j, o, cp, h, _⟩
    · exact .inl h
    · exact .inr ⟨_, _, _, _, h⟩
  by_cases hname : c.name = d.name
  · rcases cnv with rfl | ⟨j, o, n, cp, rfl⟩ <;> rcases dnv with rfl | ⟨j2, o2, n2, cp2, rfl⟩
    all_goals
      simp [Fns.a20, cellsC, AV.oneCell, oc, od, hname]
      refine (equal (hc.keep (Keeps.app _ _)) (hd.keep (Keeps.app _ _)) hcl hdl).mono ?_
      rintro v H2 ⟨rfl, rfl⟩
      by_cases hnums : c.nums = d.nums
      · by_cases hpane : c.pane = d.pane
        · rw [decide_eq_true hpane] at hpe
          by_cases htext : c.text = d.text
          · simp [hnums, hpe, htext]
            simp [sameF, hnums, hname, hpane, htext]
          · simp [hnums, hpe, htext]
            simp [sameF, hnums, hname, hpane, htext]
        · rw [decide_eq_false hpane] at hpe
          simp [hnums, hpe, sameF, hname, hpane]
      · simp [hnums, sameF, hname]
  · rcases cnv with rfl | ⟨j, o, n, cp, rfl⟩ <;> rcases dnv with rfl | ⟨j2, o2, n2, cp2, rfl⟩ <;> simp [Fns.a20, cellsC, AV.oneCell, oc, od, hname, sameF]
end Go.Proofs.YthcpfmibcoeleaaDoor.Cm
