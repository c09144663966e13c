/- A line's command, or what is wrong, is the document's: what the law's code computes. -/
import Derived.Test.YthcpfmibcoeleaaDoorCmRSame
import Derived.Test.YthcpfmibcoeleaaDoorCmRParse
namespace Go.Proofs.YthcpfmibcoeleaaDoor.Cm
open Go Go.RowKit Am Go.Proofs.YthcpfmibcoeleaaDoor.Id
set_option maxRecDepth 100000
set_option linter.unusedSimpArgs false
set_option linter.unusedVariables false
attribute [-simp] Am.binEv Am.intBin Am.read1
attribute [local simp] binEv_lss binEv_leq binEv_gtr binEv_geq binEv_eql binEv_neq binEv_add binEv_sub binEv_mul binEv_shr58 read1_ro read1_mu binEv_seql binEv_sneq
variable {R : Ro}
theorem loop_nums : ∀ (form : List UInt8) (c d : Cmd) (rest : List UInt8) (more : Bool), loopF form c rest more = some d → d.nums.length ≤ c.nums.length + form.length
  | [], c, d, rest, more, h => by
    unfold loopF at h
    split at h
    · cases h
    · cases h; simp
  | f :: fs, c, d, rest, more, h => by
    unfold loopF at h
    split at h
    · split at h
      · split at h
        · rename_i x hx
          have := loop_nums fs x d _ _ h
          have := step_nums hx
          simp; omega
        · cases h
      · split at h
        · rename_i x hx
          have := loop_nums fs x d _ _ h
          have := step_nums hx
          simp; omega
        · cases h
    · cases h
theorem parse_nums (line : List UInt8) : (cOf (parseF line)).nums.length ≤ 1000 := by
  cases hp : parseF line with
  | ok c =>
    unfold parseF at hp
    split at hp
    · cases hp
    · cases hf : formOf (cutB line).1 with
      | none => rw [hf] at hp; cases hp
      | some form =>
        rw [hf] at hp
        dsimp only at hp
        cases hl : loopF form (named (cutB line).1) (cutB line).2.1 (cutB line).2.2 with
        | none => rw [hl] at hp; cases hp
        | some d =>
          rw [hl] at hp
          cases hp
          have := loop_nums _ _ _ _ _ hl
          have := (form_fine hf).1
          show c.nums.length ≤ 1000
          simp [named] at *
          omega
  | _ => simp [cOf, named]
set_option maxHeartbeats 4000000 in
theorem law_reads (L : Lc R) (haw : ∀ H, ACalls Tryd.prog R 9 [] H fun v H' => H' = H ∧ v = .bool true) (line : List UInt8) :
    ACalls Tryd.prog R 3 [.str line] [] fun v _ => v = .bool true := by
  refine ACalls.of_wpE Fns.ok3 (by simp [Fns.a3]) ?_
  by_cases hl : line.length ≤ 1000
  · have hl1 : ¬ (1000 : Int) < (line.length : Int) := by omega
    simp [Fns.a3, hl1]
    refine (parse L line (by omega) _).mono ?_
    rintro v H1 hv
    obtain ⟨nv, rfl, hr⟩ := parse_rd (R := R) hv
    have ho := one_cells (c := cOf (parseF line)) hr.one
    have hw1 := writeN_last0 H1 (old := zeros6) (new := cellsC (cOf (parseF line)) nv) 27 rfl ho
    simp only [zeros6] at hw1
    have hlen6 : ∀ c nv, (cellsC c nv).length = 6 := fun _ _ => rfl
    simp [AV.oneCell, hlen6, hw1]
    refine (rparse line (by omega) _).mono ?_
    rintro v H2 hv2
    have hk2 := hv2.1
    obtain ⟨mv, rfl, hr2⟩ := parse_rd (R := R) hv2
    have ho2 := one_cells (c := cOf (parseF line)) hr2.one
    have hw2 := writeN_last0 H2 (old := zeros6) (new := cellsC (cOf (parseF line)) mv) 31 rfl ho2
    simp only [zeros6] at hw2
    simp [AV.oneCell, hlen6, hw2]
    have g3 : (H2 ++ [AO.cells (cellsC (cOf (parseF line)) mv) 31])[H1.length]? = some (.cells (cellsC (cOf (parseF line)) nv) 27) := by
      have hlt : H1.length < H2.length := by have := hk2.1; simp at this; omega
      rw [List.getElem?_append_left hlt, hk2.2 _ (by simp)]
      simp
    refine AWp.sched [0, 1, 2, 3, 4, 6, 5, 7, 8, 9, 10, 11, 12] Fns.mixed (by decide +kernel) ?_
    have ht6 : ∀ c nv, (cellsC c nv).take 6 = cellsC c nv := fun _ _ => rfl
    obtain ⟨H3, hH3⟩ : ∃ H3, H3 = H2 ++ [AO.cells (cellsC (cOf (parseF line)) mv) 31] := ⟨_, rfl⟩
    have g5 : H3[H2.length]? = some (.cells (cellsC (cOf (parseF line)) mv) 31) := by rw [hH3]; simp
    rw [← hH3] at g3 ⊢
    have k1 : Keeps H1 H3 := by rw [hH3]; exact ((Keeps.app H1 _).trans hk2).trans (Keeps.app _ _)
    have k2 : Keeps H2 H3 := by rw [hH3]; exact Keeps.app _ _
    have q1 := hr.keep k1
    have q2 := hr2.keep k2
    have hn := parse_nums line
    simp [g3, g5, hlen6, ht6, recheck]
    refine (given (hlen6 _ _) ho _).mono ?_
    rintro v H4 ⟨rfl, E, hE⟩
    have k4 : Keeps H3 H4 := by rw [hE]; exact Keeps.app _ _
    have g3a : H4[H1.length]? = some (.cells (cellsC (cOf (parseF line)) nv) 27) := by rw [k4.2 _ (List.getElem?_eq_some_iff.1 g3).1]; exact g3
    have g5a : H4[H2.length]? = some (.cells (cellsC (cOf (parseF line)) mv) 31) := by rw [k4.2 _ (List.getElem?_eq_some_iff.1 g5).1]; exact g5
    simp [recheck, g3a, g5a, hlen6, ht6]
    refine (rsame (q1.keep k4) (q2.keep k4) hn hn).mono ?_
    rintro v H5 ⟨⟨E2, hE2⟩, rfl⟩
    rw [same_self]
    have k5 : Keeps H4 H5 := by rw [hE2]; exact Keeps.app _ _
    have g3b : H5[H1.length]? = some (.cells (cellsC (cOf (parseF line)) nv) 27) := by rw [k5.2 _ (List.getElem?_eq_some_iff.1 g3a).1]; exact g3a
    have g5b : H5[H2.length]? = some (.cells (cellsC (cOf (parseF line)) mv) 31) := by rw [k5.2 _ (List.getElem?_eq_some_iff.1 g5a).1]; exact g5a
    simp [recheck, g3b, g5b, hlen6, ht6]
    refine (haw _).mono ?_
    rintro v H6 ⟨rfl, rfl⟩
    simp [recheck, g3b, g5b, hlen6, ht6]
  · have hl1 : (1000 : Int) < (line.length : Int) := by omega
    simp [Fns.a3, hl1]
    refine (haw _).mono ?_
    rintro v H2 ⟨rfl, rfl⟩
    simp
end Go.Proofs.YthcpfmibcoeleaaDoor.Cm
