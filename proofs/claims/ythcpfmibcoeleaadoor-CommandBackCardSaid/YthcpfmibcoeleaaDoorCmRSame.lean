/- Two commands are alike: what the document's code computes. -/
import Derived.Test.YthcpfmibcoeleaaDoorCmParse
import Derived.Test.YthcpfmibcoeleaaDoorIdEq
namespace Go.Proofs.YthcpfmibcoeleaaDoor.Cm
open Go Go.RowKit Am Go.Proofs.YthcpfmibcoeleaaDoor.Id
set_option maxRecDepth 100000
set_option linter.unusedSimpArgs false
set_option linter.unusedVariables false
attribute [-simp] Am.binEv Am.intBin Am.read1
attribute [local simp] binEv_lss binEv_leq binEv_gtr binEv_geq binEv_eql binEv_neq binEv_add binEv_sub binEv_mul binEv_shr58 read1_ro read1_mu binEv_seql binEv_sneq
variable {R : Ro}
/-- A slice of whole numbers that may be read. -/
def RdI (R : Ro) (H : AH) (v : AV) (L : List Int) : Prop := (v = .nilslice ∧ L = []) ∨ ∃ j off cp, v = .slice j off L.length cp ∧ ∀ i x, L[i]? = some x → read1 R H j (off + i) = some (.int .i64 x)
theorem RdI.one {H : AH} {v : AV} {L : List Int} (h : RdI R H v L) : v.oneCell = true := by
  rcases h with ⟨rfl, _⟩ | ⟨j, off, cp, rfl, _⟩ <;> rfl
theorem RdI.of_row {H : AH} {v : AV} {L : List Int} (h : RowAt H v L.length 1 3 (intsV L)) : RdI R H v L := by
  rcases h with ⟨h1, h2, _⟩ | ⟨j, h1, h2, _⟩
  · exact .inl ⟨h1, List.length_eq_zero_iff.1 h2⟩
  · refine .inr ⟨_, _, _, h1, fun i x hx => ?_⟩
    rw [read1_mu, h2]
    simp [AO.content, intsV, hx]
theorem RdI.keep {H H' : AH} {v : AV} {L : List Int} (h : RdI R H v L) (hk : Keeps H H') : RdI R H' v L := by
  rcases h with h | ⟨j, off, cp, h1, h2⟩
  · exact .inl h
  · refine .inr ⟨j, off, cp, h1, fun i x hx => ?_⟩
    have := h2 i x hx
    cases j with
    | ro b => exact this
    | mu j =>
      rw [read1_mu] at this ⊢
      cases hj : H[j]? with
      | none => rw [hj] at this; simp at this
      | some o =>
        rw [hk.2 j (List.getElem?_eq_some_iff.1 hj).1, hj]
        rw [hj] at this
        exact this
def sameF (c d : Cmd) : Bool := decide (c.name = d.name) && decide (c.pane = d.pane) && decide (c.text = d.text) && decide (c.nums = d.nums)
theorem same_self (c : Cmd) : sameF c c = true := by simp [sameF]
def cOf : Res → Cmd
  | .ok c => c
  | _ => named []
theorem parse_rd {H H' : AH} {line : List UInt8} {v : AV} (h : ParseP H line v H') : ∃ nv, v = .tuple [.agg (cellsC (cOf (parseF line)) nv), .int .i64 (codeR (parseF line))] ∧ RdI R H' nv (cOf (parseF line)).nums := by
  obtain ⟨_, h⟩ := h
  cases hp : parseF line with
  | ok c =>
    rw [hp] at h
    obtain ⟨nv, rfl, hr, _⟩ := h
    exact ⟨nv, rfl, RdI.of_row hr⟩
  | _ =>
    rw [hp] at h
    exact ⟨.nilslice, h, .inl ⟨rfl, rfl⟩⟩
theorem given {cs : List AV} (hl : cs.length = 6) (h1 : cs.all AV.oneCell = true) (H : AH) : ACalls Tryd.prog R 13 [.agg cs] H fun v H' => v = .agg cs ∧ ∃ E, H' = H ++ E := by
  refine ACalls.of_wpE Fns.ok13 (by simp [Fns.a13]) ?_
  have h2 : ∀ x ∈ cs, x.oneCell = true := List.all_eq_true.1 h1
  have ht : cs.take 6 = cs := List.take_of_length_le (by omega)
  have hwl := writeN_last0 (H ++ [.cells cs 27]) (old := zeros6) (new := cs) 31 (by rw [hl]; rfl) h1
  simp only [zeros6] at hwl
  simp at hwl
  simp [Fns.a13, h1, h2, hl, ht, AV.oneCell, hwl]
set_option maxHeartbeats 8000000 in
theorem rsame {c d : Cmd} {nv mv : AV} {H : AH} (hc : RdI R H nv c.nums) (hd : RdI R H mv d.nums) (hcl : c.nums.length ≤ 1000) (hdl : d.nums.length ≤ 1000) : ACalls Tryd.prog R 12 [.agg (cellsC c nv), .agg (cellsC d mv)] H fun v H' => (∃ E, H' = H ++ E) ∧ v = .bool (sameF c d) := by
  refine ACalls.of_wpE Fns.ok12 (by simp [Fns.a12]) ?_
  have oc := one_cells (c := c) hc.one
  have od := one_cells (c := d) hd.one
  simp only [cellsC] at oc od
  have hpe := eqP c.pane.1 c.pane.2.1 c.pane.2.2 d.pane.1 d.pane.2.1 d.pane.2.2
  have hpq : (c.pane.1 = d.pane.1 ∧ c.pane.2.1 = d.pane.2.1 ∧ c.pane.2.2 = d.pane.2.2) ↔ c.pane = d.pane := by
    constructor
    · rintro ⟨h1, h2, h3⟩
      exact Prod.ext h1 (Prod.ext h2 h3)
    · intro h; rw [h]; exact ⟨rfl, rfl, rfl⟩
  simp only [fieldsP, hpq] at hpe
  simp only [eqEv] at hpe
  have hc1 := hc.one
  have hd1 := hd.one
  by_cases hname : c.name = d.name
  · by_cases hpane : c.pane = d.pane
    · rw [decide_eq_true hpane] at hpe
      by_cases htext : c.text = d.text
      · by_cases hlen : c.nums.length = d.nums.length
        · have hlen' : (c.nums.length : Int) = (d.nums.length : Int) := by omega
          by_cases hnil : c.nums = []
          · have hnil' : d.nums = [] := by rw [hnil] at hlen; exact List.length_eq_zero_iff.1 hlen.symm
            rcases hc with ⟨rfl, hc0⟩ | ⟨j, o, cp, rfl, hcr⟩
            · rcases hd with ⟨rfl, hd0⟩ | ⟨j2, o2, cp2, rfl, hdr⟩
              · simp [Fns.a12, cellsC, AV.oneCell, oc, od, hname, hpe, htext]
                refine AWp.loop_once (wpE_sound _ ?_)
                simp [sameF, hname, hpane, htext, hnil, hnil']
              · simp [Fns.a12, cellsC, AV.oneCell, oc, od, hname, hpe, htext, hnil']
                refine AWp.loop_once (wpE_sound _ ?_)
                simp [sameF, hname, hpane, htext, hnil, hnil']
            · rcases hd with ⟨rfl, hd0⟩ | ⟨j2, o2, cp2, rfl, hdr⟩
              · simp [Fns.a12, cellsC, AV.oneCell, oc, od, hname, hpe, htext, hnil]
                refine AWp.loop_once (wpE_sound _ ?_)
                simp [sameF, hname, hpane, htext, hnil, hnil']
              · simp [Fns.a12, cellsC, AV.oneCell, oc, od, hname, hpe, htext, hnil, hnil']
                refine AWp.loop_once (wpE_sound _ ?_)
                simp [sameF, hname, hpane, htext, hnil, hnil']
          · rcases hc with ⟨_, hc0⟩ | ⟨j, o, cp, rfl, hcr⟩
            · exact absurd hc0 hnil
            · rcases hd with ⟨_, hd0⟩ | ⟨j2, o2, cp2, rfl, hdr⟩
              · rw [hd0] at hlen; exact absurd (List.length_eq_zero_iff.1 hlen) hnil
              · simp [Fns.a12, cellsC, AV.oneCell, oc, od, hname, hpe, htext, hlen']
                obtain ⟨H1, hH1⟩ : ∃ H1 : AH, H1 = H ++ [AO.cells (cellsC c (.slice j o c.nums.length cp)) 31, AO.cells (cellsC d (.slice j2 o2 d.nums.length cp2)) 31] := ⟨_, rfl⟩
                have hk : Keeps H H1 := by rw [hH1]; exact Keeps.app _ _
                have rc := RdI.keep (R := R) (.inr ⟨j, o, cp, rfl, hcr⟩ : RdI R H (.slice j o c.nums.length cp) c.nums) hk
                have rd := RdI.keep (R := R) (.inr ⟨j2, o2, cp2, rfl, hdr⟩ : RdI R H (.slice j2 o2 d.nums.length cp2) d.nums) hk
                have hp1 : H1[H.length]? = some (.cells [.str c.name, .slice j o c.nums.length cp, .int .i64 c.pane.1, .int .i64 c.pane.2.1, .int .i64 c.pane.2.2, .str c.text] 31) := by rw [hH1]; simp [cellsC]
                have hp2 : H1[H.length + 1]? = some (.cells [.str d.name, .slice j2 o2 d.nums.length cp2, .int .i64 d.pane.1, .int .i64 d.pane.2.1, .int .i64 d.pane.2.2, .str d.text] 31) := by rw [hH1]; simp [cellsC]
                refine AWp.loop (fun e H2 => H2 = H1 ∧ e 2 = .ptr (.mu H.length) 0 ∧ e 3 = .ptr (.mu (H.length + 1)) 0 ∧ ∃ i : Nat, e 5 = .int .i64 i ∧ i ≤ c.nums.length ∧ c.nums.take i = d.nums.take i)
                  (fun e _ => match e 5 with | .int _ i => ((c.nums.length : Int) - i).toNat | _ => 0) ⟨by rw [hH1]; simp [cellsC, hname, htext, hpane], by simp, by simp, 0, by simp, by omega, by simp⟩ ?_
                rintro e H2 ⟨rfl, h2, h3, i, h5, hi, htk⟩
                refine wpE_sound _ ?_
                have hE : ∃ E, H2 = H ++ E := ⟨_, hH1⟩
                by_cases hl : i < c.nums.length
                · have hl' : (i : Int) < (c.nums.length : Int) := by omega
                  have hl2 : (i : Int) < (d.nums.length : Int) := by omega
                  have hw1 : IntKind.i64.wrap ((i : Int) + 1) = (i : Int) + 1 := i64_ok _ (by omega) (by omega)
                  obtain ⟨x, hx⟩ : ∃ x, c.nums[i]? = some x := ⟨_, List.getElem?_eq_getElem hl⟩
                  obtain ⟨y, hy⟩ : ∃ y, d.nums[i]? = some y := ⟨_, List.getElem?_eq_getElem (by omega)⟩
                  have fx : read1 R H2 j (o + i) = some (.int .i64 x) := by
                    rcases rc with ⟨h, _⟩ | ⟨j', o', cp', h, hr⟩
                    · cases h
                    · cases h; exact hr i x hx
                  have fy : read1 R H2 j2 (o2 + i) = some (.int .i64 y) := by
                    rcases rd with ⟨h, _⟩ | ⟨j', o', cp', h, hr⟩
                    · cases h
                    · cases h; exact hr i y hy
                  simp [h2, h3, h5, hp1, hp2, hl, hl', hl2]
                  refine AWp.sched [0, 1, 2, 3, 4, 5, 6, 7, 8, 9, 10] Fns.mixed (by decide +kernel) ?_
                  by_cases hxy : x = y
                  · simp [h2, h3, h5, hp1, hp2, hl, hl', hl2, fx, fy, hxy, hw1]
                    refine ⟨⟨i + 1, by omega, by omega, ?_⟩, by omega⟩
                    rw [List.take_add_one, List.take_add_one, htk, hx, hy, hxy]
                  · have hne : ¬ c.nums = d.nums := fun e => hxy (by rw [e, hy] at hx; exact (Option.some.inj hx).symm)
                    simp [h2, h3, h5, hp1, hp2, hl, hl', hl2, fx, fy, hxy, hw1]
                    exact ⟨hE, by simp [sameF, hne]⟩
                · obtain rfl : i = c.nums.length := by omega
                  rw [List.take_length, hlen, List.take_length] at htk
                  simp [h2, h3, h5, hp1]
                  exact ⟨hE, by simp [sameF, hname, hpane, htext, htk]⟩
        · have hlen' : ¬ (c.nums.length : Int) = (d.nums.length : Int) := by omega
          have hne : ¬ c.nums = d.nums := fun e => hlen (by rw [e])
          rcases hc with ⟨rfl, hc0⟩ | ⟨j, o, cp, rfl, hcr⟩
          · rcases hd with ⟨rfl, hd0⟩ | ⟨j2, o2, cp2, rfl, hdr⟩
            · exact absurd (hc0.trans hd0.symm) hne
            · have hz : ¬ (0 : Int) = (d.nums.length : Int) := by rw [hc0] at hlen'; simpa using hlen'
              simp [Fns.a12, cellsC, AV.oneCell, oc, od, hname, hpe, htext, hz, sameF, hne]
          · rcases hd with ⟨rfl, hd0⟩ | ⟨j2, o2, cp2, rfl, hdr⟩
            · have hz : ¬ (c.nums.length : Int) = (0 : Int) := by rw [hd0] at hlen'; simpa using hlen'
              have hz' : ¬ c.nums = [] := fun e => hz (by rw [e]; rfl)
              simp [Fns.a12, cellsC, AV.oneCell, oc, od, hname, hpe, htext, hz, hz', sameF, hne]
            · simp [Fns.a12, cellsC, AV.oneCell, oc, od, hname, hpe, htext, hlen, hlen', sameF, hne]
      · rcases hc with ⟨rfl, _⟩ | ⟨j, o, cp, rfl, _⟩ <;> rcases hd with ⟨rfl, _⟩ | ⟨j2, o2, cp2, rfl, _⟩ <;> simp [Fns.a12, cellsC, AV.oneCell, oc, od, hname, hpe, htext, sameF]
    · rw [decide_eq_false hpane] at hpe
      rcases hc with ⟨rfl, _⟩ | ⟨j, o, cp, rfl, _⟩ <;> rcases hd with ⟨rfl, _⟩ | ⟨j2, o2, cp2, rfl, _⟩ <;> simp [Fns.a12, cellsC, AV.oneCell, oc, od, hname, hpe, sameF, hpane]
  · rcases hc with ⟨rfl, _⟩ | ⟨j, o, cp, rfl, _⟩ <;> rcases hd with ⟨rfl, _⟩ | ⟨j2, o2, cp2, rfl, _⟩ <;> simp [Fns.a12, cellsC, AV.oneCell, oc, od, hname, sameF]
end Go.Proofs.YthcpfmibcoeleaaDoor.Cm
